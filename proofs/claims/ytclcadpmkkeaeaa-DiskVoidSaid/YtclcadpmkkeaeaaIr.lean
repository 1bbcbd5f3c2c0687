/- Written by wip/vm/irtab.py: the functions in the machine's form, each checked, and their table. -/
import Derived.Test.YtclcadpmkkeaeaaVmBits
import Derived.Test.YtclcadpmkkeaeaaProg
set_option linter.unusedSectionVars false
set_option linter.unusedSimpArgs false
set_option linter.unusedVariables false
namespace Go.Vm.Ytclcadpmkkeaeaa
open Go.Proofs
/-- muniment/munimentlaw11.DiskVoid -/
def ir5 : IFun := ⟨2, 121, [(.tmp 4)], (.seq (.reg false [⟨(some 3), none, (.box 8 (.t 1)), [], [], 256⟩,
  ⟨(some 4), none, (.mov (.c (.bool false))), [], [], 320⟩]) (.seq (.reg false [⟨(some 5), none, (.mov (.c .nilp)), [], [], 384⟩]) (.seq (.reg false [⟨(some 14), none, (.mov (.t 5)), [], [], 960⟩,
  ⟨(some 15), none, (.fad 4 (.t 3)), [], [], 1024⟩,
  ⟨(some 16), none, (.ld false 1 (.t 15)), [], [], 1088⟩,
  ⟨(some 17), none, (.call 18 [(.t 14), (.t 16)]), [], [], 1152⟩]) (.seq (.reg false [⟨(some 18), none, (.mov (.t 5)), [], [], 1216⟩,
  ⟨(some 19), none, (.fad 5 (.t 3)), [], [], 1280⟩,
  ⟨(some 20), none, (.ld true 3 (.t 19)), [], [], 1344⟩,
  ⟨(some 21), none, (.mksl 3 1 [(.int .i64 0), (.int .i64 0), (.int .i64 0)] [(0, (3, (.t 20)))]), [], [], 1408⟩,
  ⟨(some 22), none, (.call 19 [(.t 18), (.t 21)]), [], [], 1472⟩]) (.seq (.reg false [⟨(some 23), none, (.mov (.t 5)), [], [], 1536⟩,
  ⟨(some 24), none, (.fad 4 (.t 3)), [], [], 1600⟩,
  ⟨(some 25), none, (.ld false 1 (.t 24)), [], [], 1664⟩,
  ⟨(some 26), none, (.fad 4 (.t 3)), [], [], 1728⟩,
  ⟨(some 27), none, (.ld false 1 (.t 26)), [], [], 1792⟩,
  ⟨(some 28), none, (.call 11 [(.t 23), (.t 25), (.t 27)]), [], [], 1856⟩]) (.seq (.reg false [⟨(some 30), none, (.mov (.t 5)), [], [], 1984⟩,
  ⟨(some 31), none, (.mov (.t 0)), [], [], 2048⟩,
  ⟨(some 32), none, (.call 13 [(.t 30), (.t 31)]), [], [], 2112⟩,
  ⟨(some 29), none, (.mov (.t 32)), [], [], 1920⟩,
  ⟨(some 33), none, (.ext 0 (.t 29)), [], [], 2176⟩,
  ⟨(some 34), none, (.ext 1 (.t 29)), [], [], 2240⟩,
  ⟨(some 6), none, (.mov (.t 33)), [], [], 448⟩,
  ⟨(some 7), none, (.mov (.t 34)), [], [], 512⟩]) (.seq (.reg false [⟨(some 35), none, (.call 20 []), [], [], 2304⟩,
  ⟨(some 8), none, (.mov (.t 35)), [], [], 576⟩]) (.seq (.reg false [⟨(some 36), none, (.mov (.t 8)), [], [], 2368⟩,
  ⟨(some 37), none, (.call 21 [(.t 36), (.c (.str [97])), (.c (.str [49]))]), [], [], 2432⟩,
  ⟨(some 9), none, (.mov (.t 37)), [], [], 640⟩]) (.seq (.reg false [⟨(some 38), none, (.mov (.t 8)), [], [], 2496⟩,
  ⟨(some 39), none, (.call 22 [(.t 38)]), [], [], 2560⟩,
  ⟨(some 10), none, (.mov (.t 39)), [], [], 704⟩]) (.seq (.reg false [⟨(some 40), none, (.mov (.t 10)), [], [], 2624⟩,
  ⟨(some 41), none, (.call 21 [(.t 40), (.c (.str [97])), (.c (.str [50]))]), [], [], 2688⟩,
  ⟨(some 11), none, (.mov (.t 41)), [], [], 768⟩]) (.seq (.reg false [⟨(some 43), none, (.mov (.t 8)), [], [], 2816⟩,
  ⟨(some 44), none, (.call 13 [(.t 43), (.c (.str [97]))]), [], [], 2880⟩,
  ⟨(some 42), none, (.mov (.t 44)), [], [], 2752⟩,
  ⟨(some 45), none, (.ext 0 (.t 42)), [], [], 2944⟩,
  ⟨(some 46), none, (.ext 1 (.t 42)), [], [], 3008⟩,
  ⟨(some 12), none, (.mov (.t 45)), [], [], 832⟩,
  ⟨(some 13), none, (.mov (.t 46)), [], [], 896⟩]) (.seq (.reg false [⟨(some 47), none, (.call 15 []), [], [], 3072⟩,
  ⟨(some 48), none, (.mov (.t 47)), [], [], 3136⟩,
  ⟨(some 49), (some (48, true)), (.mov (.t 0)), [], [], 3200⟩,
  ⟨(some 50), (some (48, true)), (.call 23 [(.t 49)]), [], [], 3264⟩,
  ⟨(some 51), (some (48, true)), (.mov (.t 0)), [], [], 3328⟩,
  ⟨(some 52), (some (48, true)), (.call 24 [(.t 51)]), [], [], 3392⟩,
  ⟨(some 53), (some (48, true)), (.eqn false .bool (.t 50) (.t 52)), [], [], 3456⟩,
  ⟨(some 54), none, (.pick (.t 48) (.t 53) (.c (.bool false))), [], [], 3520⟩,
  ⟨(some 55), none, (.mov (.t 54)), [], [], 3584⟩,
  ⟨(some 56), (some (55, true)), (.mov (.t 5)), [], [], 3648⟩,
  ⟨(some 57), (some (55, true)), (.call 25 [(.t 56)]), [], [], 3712⟩,
  ⟨(some 58), none, (.pick (.t 55) (.t 57) (.c (.bool false))), [], [], 3776⟩,
  ⟨(some 59), none, (.mov (.t 58)), [], [], 3840⟩,
  ⟨(some 60), (some (59, true)), (.mov (.t 5)), [], [], 3904⟩,
  ⟨(some 61), (some (59, true)), (.call 12 [(.t 60)]), [], [], 3968⟩,
  ⟨(some 62), (some (59, true)), (.un .not (.t 61)), [], [], 4032⟩,
  ⟨(some 63), none, (.pick (.t 59) (.t 62) (.c (.bool false))), [], [], 4096⟩,
  ⟨(some 64), none, (.mov (.t 63)), [], [], 4160⟩,
  ⟨(some 65), (some (64, true)), (.mov (.t 7)), [], [], 4224⟩,
  ⟨(some 66), (some (64, true)), (.bin .eql (.t 65) (.c (.int .i64 7))), [], [], 4288⟩,
  ⟨(some 67), none, (.pick (.t 64) (.t 66) (.c (.bool false))), [], [], 4352⟩,
  ⟨(some 68), none, (.mov (.t 67)), [], [], 4416⟩,
  ⟨(some 69), (some (68, true)), (.mov (.t 5)), [], [], 4480⟩,
  ⟨(some 70), (some (68, true)), (.call 8 [(.t 69)]), [], [], 4544⟩,
  ⟨(some 71), (some (68, true)), (.bin .eql (.t 70) (.c (.int .i64 7))), [], [], 4608⟩,
  ⟨(some 72), none, (.pick (.t 68) (.t 71) (.c (.bool false))), [], [], 4672⟩,
  ⟨(some 73), none, (.mov (.t 72)), [], [], 4736⟩,
  ⟨(some 74), (some (73, true)), (.mov (.t 5)), [], [], 4800⟩,
  ⟨(some 75), (some (73, true)), (.ld true 8 (.t 3)), [], [], 4864⟩,
  ⟨(some 76), (some (73, true)), (.call 26 [(.t 74), (.t 75)]), [], [], 4928⟩,
  ⟨(some 77), (some (73, true)), (.bin .eql (.t 76) (.c (.int .i64 7))), [], [], 4992⟩,
  ⟨(some 78), none, (.pick (.t 73) (.t 77) (.c (.bool false))), [], [], 5056⟩,
  ⟨(some 79), none, (.mov (.t 78)), [], [], 5120⟩,
  ⟨(some 80), (some (79, true)), (.mov (.t 5)), [], [], 5184⟩,
  ⟨(some 81), (some (79, true)), (.call 27 [(.t 80)]), [], [], 5248⟩,
  ⟨(some 82), (some (79, true)), (.len false (.t 81)), [], [], 5312⟩,
  ⟨(some 83), (some (79, true)), (.bin .eql (.t 82) (.c (.int .i64 0))), [], [], 5376⟩,
  ⟨(some 84), none, (.pick (.t 79) (.t 83) (.c (.bool false))), [], [], 5440⟩,
  ⟨(some 85), none, (.mov (.t 84)), [], [], 5504⟩,
  ⟨(some 86), (some (85, true)), (.mov (.t 5)), [], [], 5568⟩,
  ⟨(some 87), (some (85, true)), (.call 17 [(.t 86)]), [], [], 5632⟩,
  ⟨(some 88), (some (85, true)), (.bin .eql (.t 87) (.c (.int .i64 0))), [], [], 5696⟩,
  ⟨(some 89), none, (.pick (.t 85) (.t 88) (.c (.bool false))), [], [], 5760⟩,
  ⟨(some 90), none, (.mov (.t 89)), [], [], 5824⟩,
  ⟨(some 91), (some (90, true)), (.mov (.t 5)), [], [], 5888⟩,
  ⟨(some 92), (some (90, true)), (.call 28 [(.t 91)]), [], [], 5952⟩,
  ⟨(some 93), (some (90, true)), (.bin .eql (.t 92) (.c (.int .i64 0))), [], [], 6016⟩,
  ⟨(some 94), none, (.pick (.t 90) (.t 93) (.c (.bool false))), [], [], 6080⟩,
  ⟨(some 95), none, (.mov (.t 94)), [], [], 6144⟩,
  ⟨(some 96), (some (95, true)), (.mov (.t 5)), [], [], 6208⟩,
  ⟨(some 97), (some (95, true)), (.call 29 [(.t 96)]), [], [], 6272⟩,
  ⟨(some 98), (some (95, true)), (.bin .eql (.t 97) (.c (.int .i64 0))), [], [], 6336⟩,
  ⟨(some 99), none, (.pick (.t 95) (.t 98) (.c (.bool false))), [], [], 6400⟩,
  ⟨(some 100), none, (.mov (.t 99)), [], [], 6464⟩,
  ⟨(some 101), (some (100, true)), (.mov (.t 5)), [], [], 6528⟩,
  ⟨(some 102), (some (100, true)), (.call 22 [(.t 101)]), [], [], 6592⟩,
  ⟨(some 103), (some (100, true)), (.eqn false .ptr (.t 102) (.c .nilp)), [], [], 6656⟩,
  ⟨(some 104), none, (.pick (.t 100) (.t 103) (.c (.bool false))), [], [], 6720⟩,
  ⟨(some 105), none, (.mov (.t 104)), [], [], 6784⟩,
  ⟨(some 106), (some (105, true)), (.mov (.t 9)), [], [], 6848⟩,
  ⟨(some 107), (some (105, true)), (.bin .eql (.t 106) (.c (.int .i64 0))), [], [], 6912⟩,
  ⟨(some 108), none, (.pick (.t 105) (.t 107) (.c (.bool false))), [], [], 6976⟩,
  ⟨(some 109), none, (.mov (.t 108)), [], [], 7040⟩,
  ⟨(some 110), (some (109, true)), (.mov (.t 11)), [], [], 7104⟩,
  ⟨(some 111), (some (109, true)), (.bin .eql (.t 110) (.c (.int .i64 0))), [], [], 7168⟩,
  ⟨(some 112), none, (.pick (.t 109) (.t 111) (.c (.bool false))), [], [], 7232⟩,
  ⟨(some 113), none, (.mov (.t 112)), [], [], 7296⟩,
  ⟨(some 114), (some (113, true)), (.mov (.t 13)), [], [], 7360⟩,
  ⟨(some 115), (some (113, true)), (.bin .eql (.t 114) (.c (.int .i64 0))), [], [], 7424⟩,
  ⟨(some 116), none, (.pick (.t 113) (.t 115) (.c (.bool false))), [], [], 7488⟩,
  ⟨(some 117), none, (.mov (.t 116)), [], [], 7552⟩,
  ⟨(some 118), (some (117, true)), (.mov (.t 12)), [], [], 7616⟩,
  ⟨(some 119), (some (117, true)), (.bin .eql (.t 118) (.c (.str [49]))), [], [], 7680⟩,
  ⟨(some 120), none, (.pick (.t 117) (.t 119) (.c (.bool false))), [], [], 7744⟩,
  ⟨(some 4), none, (.mov (.t 120)), [], [], 320⟩]) .ret))))))))))))⟩
theorem ok5 : FnOk Try.prog 5 ir5 := ⟨Try.f5, 0, Try.func5, by kernel_rfl, by kernel_rfl⟩
/-- (*muniment/disk.Disk).Sync -/
def lp8_0 : IC := (.seq (.reg false [⟨(some 12), none, (.bin .lss (.t 11) (.t 10)), [], [], 832⟩]) (.seq (.cond (.t 12) .skip (.exit 0)) (.seq (.block 1 (.seq (.reg false [⟨(some 13), none, (.mov (.t 11)), [], [], 896⟩,
  ⟨(some 3), none, (.mov (.t 13)), [], [], 256⟩]) (.reg true [⟨(some 14), none, (.mov (.t 0)), [], [], 960⟩,
  ⟨(some 15), none, (.chk (.t 14)), [0], [0], 1024⟩,
  ⟨(some 16), none, (.fad 0 (.t 15)), [1], [1, 0], 1088⟩,
  ⟨(some 17), none, (.ld false 1 (.t 16)), [2], [2, 1, 0], 1152⟩,
  ⟨(some 18), none, (.mov (.t 3)), [], [], 1216⟩,
  ⟨(some 19), none, (.mov (.t 0)), [], [], 1280⟩,
  ⟨(some 20), none, (.chk (.t 19)), [5], [5], 1344⟩,
  ⟨(some 21), none, (.fad 0 (.t 20)), [6], [6, 5], 1408⟩,
  ⟨(some 22), none, (.ld false 1 (.t 21)), [7], [7, 6, 5], 1472⟩,
  ⟨(some 23), none, (.mov (.t 3)), [], [], 1536⟩,
  ⟨(some 24), none, (.mov (.t 0)), [], [], 1600⟩,
  ⟨(some 25), none, (.chk (.t 24)), [10], [10], 1664⟩,
  ⟨(some 26), none, (.fad 0 (.t 25)), [11], [11, 10], 1728⟩,
  ⟨(some 27), none, (.ld false 1 (.t 26)), [12], [12, 11, 10], 1792⟩,
  ⟨(some 28), none, (.mov (.t 3)), [], [], 1856⟩,
  ⟨(some 29), none, (.iaL 6 (.t 27) (.t 28)), [13, 14], [13, 14, 12, 11, 10], 1920⟩,
  ⟨(some 30), none, (.fad 1 (.t 29)), [15], [15, 13, 14, 12, 11, 10], 1984⟩,
  ⟨(some 31), none, (.ld true 2 (.t 30)), [16], [16, 15, 13, 14, 12, 11, 10], 2048⟩,
  ⟨(some 32), none, (.iaL 6 (.t 17) (.t 18)), [3, 4, 0, 1, 2, 3, 4, 8, 10, 11, 12, 13, 14, 15, 16, 17], [3, 4, 0, 1, 2, 8, 10, 11, 12, 13, 14, 15, 16, 17, 7, 6, 5], 2112⟩,
  ⟨(some 33), none, (.fad 3 (.t 32)), [18, 0, 1, 2, 3, 4, 8, 10, 11, 12, 13, 14, 15, 16, 17], [18, 0, 1, 2, 3, 4, 8, 10, 11, 12, 13, 14, 15, 16, 17, 7, 6, 5], 2176⟩,
  ⟨none, none, (.st true 2 (.t 33) (.t 31)), [19, 17, 0, 1, 2, 3, 4, 8, 10, 11, 12, 13, 14, 15, 16, 17], [19, 17, 0, 1, 2, 3, 4, 8, 10, 11, 12, 13, 14, 15, 16, 18, 7, 6, 5], 64⟩,
  ⟨(some 34), none, (.iaL 6 (.t 22) (.t 23)), [8, 9, 0, 1, 2, 3, 4, 5, 6, 7, 8, 9, 10, 11, 12, 13, 14, 15, 16, 17, 18, 19, 20], [8, 9, 0, 1, 2, 3, 4, 5, 6, 7, 10, 11, 12, 13, 14, 15, 16, 17, 18, 19, 20], 2240⟩,
  ⟨(some 35), none, (.fad 5 (.t 34)), [21, 0, 1, 2, 3, 4, 5, 6, 7, 8, 9, 10, 11, 12, 13, 14, 15, 16, 17, 18, 19, 20], [21, 0, 1, 2, 3, 4, 5, 6, 7, 8, 9, 10, 11, 12, 13, 14, 15, 16, 17, 18, 19, 20], 2304⟩,
  ⟨none, none, (.st false 1 (.t 35) (.c (.int .i64 0))), [22, 20, 0, 1, 2, 3, 4, 5, 6, 7, 8, 9, 10, 11, 12, 13, 14, 15, 16, 17, 18, 19, 20], [22, 20, 0, 1, 2, 3, 4, 5, 6, 7, 8, 9, 10, 11, 12, 13, 14, 15, 16, 17, 18, 19, 21], 64⟩]))) (.reg false [⟨(some 36), none, (.bin .add (.t 11) (.c (.int .i64 1))), [], [], 2368⟩,
  ⟨(some 11), none, (.mov (.t 36)), [], [], 768⟩]))))
def ir8 : IFun := ⟨1, 39, [(.tmp 2)], (.seq (.reg false [⟨(some 2), none, (.mov (.c (.int .i64 0))), [], [], 192⟩]) (.seq (.seq (.reg false [⟨(some 4), none, (.mov (.t 0)), [], [], 320⟩,
  ⟨(some 5), none, (.call 25 [(.t 4)]), [], [], 384⟩]) (.cond (.t 5) (.seq (.reg false [⟨(some 2), none, (.mov (.c (.int .i64 7))), [], [], 192⟩]) .ret) .skip)) (.seq (.seq (.reg false [⟨(some 6), none, (.mov (.t 0)), [], [], 448⟩,
  ⟨(some 7), none, (.chk (.t 6)), [], [], 512⟩,
  ⟨(some 8), none, (.fad 0 (.t 7)), [], [], 576⟩,
  ⟨(some 9), none, (.ld false 1 (.t 8)), [], [], 640⟩,
  ⟨(some 10), none, (.len false (.t 9)), [], [], 704⟩,
  ⟨(some 11), none, (.mov (.c (.int .i64 0))), [], [], 768⟩]) (.block 0 (.loop lp8_0))) (.seq (.reg false [⟨(some 37), none, (.mov (.t 0)), [], [], 2432⟩,
  ⟨(some 38), none, (.call 33 [(.t 37)]), [], [], 2496⟩]) (.seq (.reg false [⟨(some 2), none, (.mov (.c (.int .i64 0))), [], [], 192⟩]) .ret)))))⟩
theorem ok8 : FnOk Try.prog 8 ir8 := ⟨Try.f8, 0, Try.func8, by kernel_rfl, by kernel_rfl⟩
/-- (*muniment/disk.Disk).Crash -/
def lp11_0 : IC := (.seq (.reg false [⟨(some 18), none, (.bin .lss (.t 17) (.t 16)), [], [], 1216⟩]) (.seq (.cond (.t 18) .skip (.exit 0)) (.seq (.block 1 (.seq (.reg false [⟨(some 19), none, (.mov (.t 17)), [], [], 1280⟩,
  ⟨(some 20), none, (.iaL 6 (.t 15) (.t 17)), [], [], 1344⟩,
  ⟨(some 21), none, (.ld true 6 (.t 20)), [], [], 1408⟩,
  ⟨(some 8), none, (.new [(.str []), (.bool false), (.str []), (.bool false), (.str []), (.int .i64 0)]), [], [], 576⟩,
  ⟨(some 7), none, (.mov (.t 19)), [], [], 512⟩,
  ⟨none, none, (.st true 6 (.t 8) (.t 21)), [], [], 64⟩]) (.seq (.seq (.reg false [⟨(some 22), none, (.fad 1 (.t 8)), [], [], 1472⟩,
  ⟨(some 23), none, (.ld true 2 (.t 22)), [], [], 1536⟩,
  ⟨(some 24), none, (.fad 3 (.t 8)), [], [], 1600⟩,
  ⟨(some 25), none, (.ld true 2 (.t 24)), [], [], 1664⟩,
  ⟨(some 26), none, (.eqS false [.b, .s] (.t 23) (.t 25)), [], [], 1728⟩]) (.cond (.t 26) (.exit 1) .skip)) (.seq (.reg true [⟨(some 27), none, (.ld true 6 (.t 8)), [], [], 1792⟩,
  ⟨(some 28), none, (.mov (.t 6)), [], [], 1856⟩,
  ⟨(some 29), none, (.bin .lss (.t 28) (.c (.int .i64 62))), [1], [1], 1920⟩,
  ⟨(some 30), none, (.mov (.t 29)), [2], [2, 1], 1984⟩,
  ⟨(some 31), (some (30, true)), (.mov (.t 1)), [3], [3, 2, 1], 2048⟩,
  ⟨(some 32), (some (30, true)), (.mov (.t 6)), [3], [3, 2, 1], 2112⟩,
  ⟨(some 33), (some (30, true)), (.bin .shr (.t 31) (.t 32)), [4, 5, 3], [4, 5, 3, 2, 1], 2176⟩,
  ⟨(some 34), (some (30, true)), (.bin .and (.t 33) (.c (.int .i64 1))), [6, 3], [6, 3, 4, 5, 2, 1], 2240⟩,
  ⟨(some 35), (some (30, true)), (.bin .eql (.t 34) (.c (.int .i64 1))), [7, 3], [7, 3, 6, 4, 5, 2, 1], 2304⟩,
  ⟨(some 36), none, (.pick (.t 30) (.t 35) (.c (.bool false))), [3, 8], [3, 8, 2, 1, 7, 6, 4, 5], 2368⟩,
  ⟨(some 37), none, (.call 35 [(.t 27), (.t 36), (.t 5)]), [0, 9, 3], [0, 9, 3, 8, 2, 1, 7, 6, 4, 5], 2432⟩,
  ⟨(some 9), none, (.new [(.bool false), (.str [])]), [], [], 640⟩,
  ⟨none, none, (.st true 2 (.t 9) (.t 37)), [11, 10, 10, 0, 1, 2, 3, 4, 5, 6, 7, 8, 9, 10, 11], [11, 10, 0, 1, 2, 3, 4, 5, 6, 7, 8, 9], 64⟩]) (.seq (.reg true [⟨(some 38), none, (.mov (.t 0)), [], [], 2496⟩,
  ⟨(some 39), none, (.chk (.t 38)), [0], [0], 2560⟩,
  ⟨(some 40), none, (.fad 0 (.t 39)), [1], [1, 0], 2624⟩,
  ⟨(some 41), none, (.ld false 1 (.t 40)), [2], [2, 1, 0], 2688⟩,
  ⟨(some 42), none, (.mov (.t 7)), [], [], 2752⟩,
  ⟨(some 43), none, (.fad 0 (.t 8)), [], [], 2816⟩,
  ⟨(some 44), none, (.ld false 1 (.t 43)), [5], [5], 2880⟩,
  ⟨(some 45), none, (.ld true 2 (.t 9)), [], [], 2944⟩,
  ⟨(some 46), none, (.ld true 2 (.t 9)), [], [], 3008⟩,
  ⟨(some 47), none, (.mk [(.str []), (.bool false), (.str []), (.bool false), (.str []), (.int .i64 0)] [(0, (1, (.t 44))), (1, (2, (.t 45))), (3, (2, (.t 46)))]), [6, 7, 8], [6, 7, 8, 5], 3072⟩,
  ⟨(some 48), none, (.iaL 6 (.t 41) (.t 42)), [3, 4, 0, 1, 2, 3, 4, 5, 6, 7, 8, 9], [3, 4, 0, 1, 2, 5, 6, 7, 8, 9], 3136⟩,
  ⟨none, none, (.st true 6 (.t 48) (.t 47)), [10, 9, 0, 1, 2, 3, 4, 5, 6, 7, 8, 9], [10, 9, 0, 1, 2, 3, 4, 5, 6, 7, 8], 64⟩]) (.reg false [⟨(some 49), none, (.mov (.t 6)), [], [], 3200⟩,
  ⟨(some 50), none, (.bin .add (.t 49) (.c (.int .i64 1))), [], [], 3264⟩,
  ⟨(some 6), none, (.mov (.t 50)), [], [], 448⟩])))))) (.reg false [⟨(some 51), none, (.bin .add (.t 17) (.c (.int .i64 1))), [], [], 3328⟩,
  ⟨(some 17), none, (.mov (.t 51)), [], [], 1152⟩]))))
def ir11 : IFun := ⟨3, 57, [], (.seq (.reg false [⟨(some 5), none, (.box 1 (.t 2)), [], [], 384⟩]) (.seq (.seq (.reg false [⟨(some 10), none, (.mov (.t 0)), [], [], 704⟩,
  ⟨(some 11), none, (.call 25 [(.t 10)]), [], [], 768⟩]) (.cond (.t 11) .ret .skip)) (.seq (.reg false [⟨(some 6), none, (.mov (.c (.int .i64 0))), [], [], 448⟩]) (.seq (.seq (.reg false [⟨(some 12), none, (.mov (.t 0)), [], [], 832⟩,
  ⟨(some 13), none, (.chk (.t 12)), [], [], 896⟩,
  ⟨(some 14), none, (.fad 0 (.t 13)), [], [], 960⟩,
  ⟨(some 15), none, (.ld false 1 (.t 14)), [], [], 1024⟩,
  ⟨(some 16), none, (.len false (.t 15)), [], [], 1088⟩,
  ⟨(some 17), none, (.mov (.c (.int .i64 0))), [], [], 1152⟩]) (.block 0 (.loop lp11_0))) (.seq (.reg false [⟨(some 52), none, (.mov (.t 0)), [], [], 3392⟩,
  ⟨(some 53), none, (.call 33 [(.t 52)]), [], [], 3456⟩]) (.reg false [⟨(some 54), none, (.mov (.t 0)), [], [], 3520⟩,
  ⟨(some 55), none, (.chk (.t 54)), [], [], 3584⟩,
  ⟨(some 56), none, (.fad 4 (.t 55)), [], [], 3648⟩,
  ⟨none, none, (.st false 1 (.t 56) (.c (.bool true))), [], [], 64⟩]))))))⟩
theorem ok11 : FnOk Try.prog 11 ir11 := ⟨Try.f11, 0, Try.func11, by kernel_rfl, by kernel_rfl⟩
/-- (*muniment/disk.Disk).Up -/
def ir12 : IFun := ⟨1, 15, [(.tmp 2)], (.seq (.reg false [⟨(some 2), none, (.mov (.c (.bool false))), [], [], 192⟩]) (.seq (.seq (.reg false [⟨(some 3), none, (.mov (.t 0)), [], [], 256⟩,
  ⟨(some 4), none, (.eqn false .ptr (.t 3) (.c .nilp)), [], [], 320⟩,
  ⟨(some 5), none, (.mov (.t 4)), [], [], 384⟩,
  ⟨(some 6), (some (5, false)), (.mov (.t 0)), [], [], 448⟩,
  ⟨(some 7), (some (5, false)), (.chk (.t 6)), [], [], 512⟩,
  ⟨(some 8), (some (5, false)), (.fad 4 (.t 7)), [], [], 576⟩,
  ⟨(some 9), (some (5, false)), (.ld false 1 (.t 8)), [], [], 640⟩,
  ⟨(some 10), (some (5, false)), (.un .not (.t 9)), [], [], 704⟩,
  ⟨(some 11), none, (.pick (.t 5) (.c (.bool true)) (.t 10)), [], [], 768⟩]) (.cond (.t 11) (.seq (.reg false [⟨(some 2), none, (.mov (.c (.bool false))), [], [], 192⟩]) .ret) .skip)) (.seq (.reg false [⟨(some 12), none, (.mov (.t 0)), [], [], 832⟩,
  ⟨(some 13), none, (.chk (.t 12)), [], [], 896⟩,
  ⟨(some 14), none, (.fad 4 (.t 13)), [], [], 960⟩,
  ⟨none, none, (.st false 1 (.t 14) (.c (.bool false))), [], [], 64⟩]) (.seq (.reg false [⟨(some 2), none, (.mov (.c (.bool true))), [], [], 192⟩]) .ret))))⟩
theorem ok12 : FnOk Try.prog 12 ir12 := ⟨Try.f12, 0, Try.func12, by kernel_rfl, by kernel_rfl⟩
/-- (*muniment/disk.Disk).Read -/
def ir13 : IFun := ⟨2, 17, [(.tmp 4), (.tmp 5)], (.seq (.reg false [⟨(some 4), none, (.mov (.c (.str []))), [], [], 320⟩,
  ⟨(some 5), none, (.mov (.c (.int .i64 0))), [], [], 384⟩]) (.seq (.reg false [⟨(some 9), none, (.mov (.t 0)), [], [], 640⟩,
  ⟨(some 10), none, (.mov (.t 1)), [], [], 704⟩,
  ⟨(some 11), none, (.call 36 [(.t 9), (.t 10), (.c (.bool true))]), [], [], 768⟩,
  ⟨(some 8), none, (.mov (.t 11)), [], [], 576⟩,
  ⟨(some 12), none, (.ext 0 (.t 8)), [], [], 832⟩,
  ⟨(some 13), none, (.ext 1 (.t 8)), [], [], 896⟩,
  ⟨(some 6), none, (.new [(.bool false), (.str [])]), [], [], 448⟩,
  ⟨none, none, (.st true 2 (.t 6) (.t 12)), [], [], 64⟩,
  ⟨(some 7), none, (.mov (.t 13)), [], [], 512⟩]) (.seq (.reg false [⟨(some 14), none, (.fad 1 (.t 6)), [], [], 960⟩,
  ⟨(some 15), none, (.ld false 1 (.t 14)), [], [], 1024⟩,
  ⟨(some 16), none, (.mov (.t 7)), [], [], 1088⟩,
  ⟨(some 4), none, (.mov (.t 15)), [], [], 320⟩,
  ⟨(some 5), none, (.mov (.t 16)), [], [], 384⟩]) .ret)))⟩
theorem ok13 : FnOk Try.prog 13 ir13 := ⟨Try.f13, 0, Try.func13, by kernel_rfl, by kernel_rfl⟩
/-- muniment/munimentlaw11.awake -/
def ir15 : IFun := ⟨0, 33, [(.tmp 0)], (.seq (.reg false [⟨(some 0), none, (.mov (.c (.bool false))), [], [], 64⟩]) (.seq (.reg false [⟨(some 5), none, (.call 20 []), [], [], 384⟩,
  ⟨(some 1), none, (.mov (.t 5)), [], [], 128⟩]) (.seq (.reg false [⟨(some 6), none, (.mov (.t 1)), [], [], 448⟩,
  ⟨(some 7), none, (.call 37 [(.t 6), (.c (.str [97])), (.c (.str [120]))]), [], [], 512⟩,
  ⟨(some 8), none, (.mov (.t 1)), [], [], 576⟩,
  ⟨(some 9), none, (.call 37 [(.t 8), (.c (.str [98])), (.c (.str [121]))]), [], [], 640⟩,
  ⟨(some 2), none, (.mov (.t 7)), [], [], 192⟩,
  ⟨(some 3), none, (.mov (.t 9)), [], [], 256⟩]) (.seq (.reg false [⟨(some 10), none, (.mov (.t 1)), [], [], 704⟩,
  ⟨(some 11), none, (.call 11 [(.t 10), (.c (.int .i64 2)), (.c (.int .i64 0))]), [], [], 768⟩]) (.seq (.reg false [⟨(some 12), none, (.mov (.t 1)), [], [], 832⟩,
  ⟨(some 13), none, (.call 12 [(.t 12)]), [], [], 896⟩]) (.seq (.reg false [⟨(some 14), none, (.mov (.t 1)), [], [], 960⟩,
  ⟨(some 15), none, (.call 27 [(.t 14)]), [], [], 1024⟩,
  ⟨(some 4), none, (.mov (.t 15)), [], [], 320⟩]) (.seq (.reg false [⟨(some 16), none, (.mov (.t 2)), [], [], 1088⟩,
  ⟨(some 17), none, (.bin .eql (.t 16) (.c (.int .i64 0))), [], [], 1152⟩,
  ⟨(some 18), none, (.mov (.t 17)), [], [], 1216⟩,
  ⟨(some 19), (some (18, true)), (.mov (.t 3)), [], [], 1280⟩,
  ⟨(some 20), (some (18, true)), (.bin .eql (.t 19) (.c (.int .i64 0))), [], [], 1344⟩,
  ⟨(some 21), none, (.pick (.t 18) (.t 20) (.c (.bool false))), [], [], 1408⟩,
  ⟨(some 22), none, (.mov (.t 21)), [], [], 1472⟩,
  ⟨(some 23), (some (22, true)), (.mov (.t 4)), [], [], 1536⟩,
  ⟨(some 24), (some (22, true)), (.len false (.t 23)), [], [], 1600⟩,
  ⟨(some 25), (some (22, true)), (.bin .eql (.t 24) (.c (.int .i64 1))), [], [], 1664⟩,
  ⟨(some 26), none, (.pick (.t 22) (.t 25) (.c (.bool false))), [], [], 1728⟩,
  ⟨(some 27), none, (.mov (.t 26)), [], [], 1792⟩,
  ⟨(some 28), (some (27, true)), (.mov (.t 4)), [], [], 1856⟩,
  ⟨(some 29), (some (27, true)), (.iaL 1 (.t 28) (.c (.int .i64 0))), [], [], 1920⟩,
  ⟨(some 30), (some (27, true)), (.ld false 1 (.t 29)), [], [], 1984⟩,
  ⟨(some 31), (some (27, true)), (.bin .eql (.t 30) (.c (.str [98]))), [], [], 2048⟩,
  ⟨(some 32), none, (.pick (.t 27) (.t 31) (.c (.bool false))), [], [], 2112⟩,
  ⟨(some 0), none, (.mov (.t 32)), [], [], 64⟩]) .ret)))))))⟩
theorem ok15 : FnOk Try.prog 15 ir15 := ⟨Try.f15, 0, Try.func15, by kernel_rfl, by kernel_rfl⟩
/-- (*muniment/disk.Disk).Used -/
def lp17_0 : IC := (.seq (.reg false [⟨(some 14), none, (.bin .lss (.t 13) (.t 12)), [], [], 960⟩]) (.seq (.cond (.t 14) .skip (.exit 0)) (.seq (.block 1 (.seq (.reg false [⟨(some 15), none, (.iaL 6 (.t 11) (.t 13)), [], [], 1024⟩,
  ⟨(some 16), none, (.ld true 6 (.t 15)), [], [], 1088⟩,
  ⟨(some 5), none, (.new [(.str []), (.bool false), (.str []), (.bool false), (.str []), (.int .i64 0)]), [], [], 384⟩,
  ⟨none, none, (.st true 6 (.t 5) (.t 16)), [], [], 64⟩]) (.reg false [⟨(some 17), none, (.mov (.t 3)), [], [], 1152⟩,
  ⟨(some 18), none, (.fad 1 (.t 5)), [], [], 1216⟩,
  ⟨(some 19), none, (.fad 1 (.t 18)), [], [], 1280⟩,
  ⟨(some 20), none, (.ld false 1 (.t 19)), [], [], 1344⟩,
  ⟨(some 21), none, (.len true (.t 20)), [], [], 1408⟩,
  ⟨(some 22), none, (.bin .add (.t 17) (.t 21)), [], [], 1472⟩,
  ⟨(some 3), none, (.mov (.t 22)), [], [], 256⟩]))) (.reg false [⟨(some 23), none, (.bin .add (.t 13) (.c (.int .i64 1))), [], [], 1536⟩,
  ⟨(some 13), none, (.mov (.t 23)), [], [], 896⟩]))))
def ir17 : IFun := ⟨1, 25, [(.tmp 2)], (.seq (.reg false [⟨(some 2), none, (.mov (.c (.int .i64 0))), [], [], 192⟩]) (.seq (.reg false [⟨(some 3), none, (.mov (.c (.int .i64 0))), [], [], 256⟩]) (.seq (.seq (.reg false [⟨(some 6), none, (.mov (.t 0)), [], [], 448⟩,
  ⟨(some 7), none, (.eqn true .ptr (.t 6) (.c .nilp)), [], [], 512⟩]) (.cond (.t 7) (.seq (.reg false [⟨(some 8), none, (.mov (.t 0)), [], [], 576⟩,
  ⟨(some 9), none, (.chk (.t 8)), [], [], 640⟩,
  ⟨(some 10), none, (.fad 0 (.t 9)), [], [], 704⟩,
  ⟨(some 11), none, (.ld false 1 (.t 10)), [], [], 768⟩,
  ⟨(some 12), none, (.len false (.t 11)), [], [], 832⟩,
  ⟨(some 13), none, (.mov (.c (.int .i64 0))), [], [], 896⟩]) (.block 0 (.loop lp17_0))) .skip)) (.seq (.reg false [⟨(some 24), none, (.mov (.t 3)), [], [], 1600⟩,
  ⟨(some 2), none, (.mov (.t 24)), [], [], 192⟩]) .ret))))⟩
theorem ok17 : FnOk Try.prog 17 ir17 := ⟨Try.f17, 0, Try.func17, by kernel_rfl, by kernel_rfl⟩
/-- (*muniment/disk.Disk).Room -/
def ir18 : IFun := ⟨2, 10, [], (.seq (.reg false [⟨(some 4), none, (.mov (.t 0)), [], [], 320⟩,
  ⟨(some 5), none, (.eqn true .ptr (.t 4) (.c .nilp)), [], [], 384⟩]) (.cond (.t 5) (.reg false [⟨(some 6), none, (.mov (.t 0)), [], [], 448⟩,
  ⟨(some 7), none, (.mov (.t 1)), [], [], 512⟩,
  ⟨(some 8), none, (.chk (.t 6)), [], [], 576⟩,
  ⟨(some 9), none, (.fad 1 (.t 8)), [], [], 640⟩,
  ⟨none, none, (.st false 1 (.t 9) (.t 7)), [], [], 64⟩]) .skip))⟩
theorem ok18 : FnOk Try.prog 18 ir18 := ⟨Try.f18, 0, Try.func18, by kernel_rfl, by kernel_rfl⟩
/-- (*muniment/disk.Disk).Plan -/
def ir19 : IFun := ⟨2, 11, [], (.seq (.reg false [⟨(some 4), none, (.mov (.t 0)), [], [], 320⟩,
  ⟨(some 5), none, (.eqn true .ptr (.t 4) (.c .nilp)), [], [], 384⟩]) (.cond (.t 5) (.reg false [⟨(some 6), none, (.mov (.t 0)), [], [], 448⟩,
  ⟨(some 7), none, (.mov (.t 1)), [], [], 512⟩,
  ⟨(some 8), none, (.call 39 [(.t 7)]), [], [], 576⟩,
  ⟨(some 9), none, (.chk (.t 6)), [], [], 640⟩,
  ⟨(some 10), none, (.fad 2 (.t 9)), [], [], 704⟩,
  ⟨none, none, (.st false 1 (.t 10) (.t 8)), [], [], 64⟩]) .skip))⟩
theorem ok19 : FnOk Try.prog 19 ir19 := ⟨Try.f19, 0, Try.func19, by kernel_rfl, by kernel_rfl⟩
/-- muniment/disk.New -/
def ir20 : IFun := ⟨0, 3, [(.tmp 0)], (.seq (.reg false [⟨(some 0), none, (.mov (.c .nilp)), [], [], 64⟩]) (.seq (.reg false [⟨(some 1), none, (.mk [(.sl .nil 0 []), (.int .i64 0), (.sl .nil 0 []), (.int .i64 0), (.bool false)] [(1, (1, (.c (.int .i64 (-1)))))]), [], [], 128⟩,
  ⟨(some 2), none, (.box 5 (.t 1)), [], [], 192⟩,
  ⟨(some 0), none, (.mov (.t 2)), [], [], 64⟩]) .ret))⟩
theorem ok20 : FnOk Try.prog 20 ir20 := ⟨Try.f20, 0, Try.func20, by kernel_rfl, by kernel_rfl⟩
/-- (*muniment/disk.Disk).Write -/
def ir21 : IFun := ⟨3, 23, [(.tmp 6)], (.seq (.reg false [⟨(some 6), none, (.mov (.c (.int .i64 0))), [], [], 448⟩]) (.seq (.reg false [⟨(some 10), none, (.mov (.t 0)), [], [], 704⟩,
  ⟨(some 11), none, (.mov (.t 1)), [], [], 768⟩,
  ⟨(some 12), none, (.call 36 [(.t 10), (.t 11), (.c (.bool false))]), [], [], 832⟩,
  ⟨(some 9), none, (.mov (.t 12)), [], [], 640⟩,
  ⟨(some 13), none, (.ext 0 (.t 9)), [], [], 896⟩,
  ⟨(some 14), none, (.ext 1 (.t 9)), [], [], 960⟩,
  ⟨(some 7), none, (.new [(.bool false), (.str [])]), [], [], 512⟩,
  ⟨none, none, (.st true 2 (.t 7) (.t 13)), [], [], 64⟩,
  ⟨(some 8), none, (.mov (.t 14)), [], [], 576⟩]) (.seq (.seq (.reg false [⟨(some 15), none, (.mov (.t 8)), [], [], 1024⟩,
  ⟨(some 16), none, (.bin .neq (.t 15) (.c (.int .i64 0))), [], [], 1088⟩]) (.cond (.t 16) (.seq (.reg false [⟨(some 17), none, (.mov (.t 8)), [], [], 1152⟩,
  ⟨(some 6), none, (.mov (.t 17)), [], [], 448⟩]) .ret) .skip)) (.seq (.reg false [⟨(some 18), none, (.mov (.t 0)), [], [], 1216⟩,
  ⟨(some 19), none, (.mov (.t 1)), [], [], 1280⟩,
  ⟨(some 20), none, (.ld true 2 (.t 7)), [], [], 1344⟩,
  ⟨(some 21), none, (.mov (.t 2)), [], [], 1408⟩,
  ⟨(some 22), none, (.call 40 [(.t 18), (.t 19), (.t 20), (.t 21)]), [], [], 1472⟩,
  ⟨(some 6), none, (.mov (.t 22)), [], [], 448⟩]) .ret))))⟩
theorem ok21 : FnOk Try.prog 21 ir21 := ⟨Try.f21, 0, Try.func21, by kernel_rfl, by kernel_rfl⟩
/-- (*muniment/disk.Disk).Clone -/
def ir22 : IFun := ⟨1, 21, [(.tmp 2)], (.seq (.reg false [⟨(some 2), none, (.mov (.c .nilp)), [], [], 192⟩]) (.seq (.seq (.reg false [⟨(some 4), none, (.mov (.t 0)), [], [], 320⟩,
  ⟨(some 5), none, (.eqn false .ptr (.t 4) (.c .nilp)), [], [], 384⟩]) (.cond (.t 5) (.seq (.reg false [⟨(some 2), none, (.mov (.c .nilp)), [], [], 192⟩]) .ret) .skip)) (.seq (.reg false [⟨(some 6), none, (.mov (.t 0)), [], [], 448⟩,
  ⟨(some 7), none, (.chk (.t 6)), [], [], 512⟩,
  ⟨(some 8), none, (.ld true 5 (.t 7)), [], [], 576⟩,
  ⟨(some 3), none, (.new [(.sl .nil 0 []), (.int .i64 0), (.sl .nil 0 []), (.int .i64 0), (.bool false)]), [], [], 256⟩,
  ⟨none, none, (.st true 5 (.t 3) (.t 8)), [], [], 64⟩]) (.seq (.reg true [⟨(some 9), none, (.mov (.t 0)), [], [], 640⟩,
  ⟨(some 10), none, (.chk (.t 9)), [0], [0], 704⟩,
  ⟨(some 11), none, (.fad 0 (.t 10)), [1], [1, 0], 768⟩,
  ⟨(some 12), none, (.ld false 1 (.t 11)), [2], [2, 1, 0], 832⟩,
  ⟨(some 13), none, (.call 41 [(.t 12)]), [3], [3, 2, 1, 0], 896⟩,
  ⟨(some 14), none, (.mov (.t 0)), [], [], 960⟩,
  ⟨(some 15), none, (.chk (.t 14)), [5], [5], 1024⟩,
  ⟨(some 16), none, (.fad 2 (.t 15)), [6], [6, 5], 1088⟩,
  ⟨(some 17), none, (.ld false 1 (.t 16)), [7], [7, 6, 5], 1152⟩,
  ⟨(some 18), none, (.call 39 [(.t 17)]), [8, 4], [8, 4, 7, 6, 5, 3, 2, 1, 0], 1216⟩,
  ⟨(some 19), none, (.fad 0 (.t 3)), [0, 1, 2, 3, 4, 8, 9], [0, 1, 2, 3, 4, 8, 9, 7, 6, 5], 1280⟩,
  ⟨none, none, (.st false 1 (.t 19) (.t 13)), [10, 4, 9, 0, 1, 2, 3, 4, 8, 9], [10, 4, 9, 0, 1, 2, 3, 8, 7, 6, 5], 64⟩,
  ⟨(some 20), none, (.fad 2 (.t 3)), [0, 1, 2, 3, 4, 5, 6, 7, 8, 9, 10, 11], [0, 1, 2, 3, 4, 5, 6, 7, 8, 9, 10, 11], 1344⟩,
  ⟨none, none, (.st false 1 (.t 20) (.t 18)), [12, 9, 11, 0, 1, 2, 3, 4, 5, 6, 7, 8, 9, 10, 11], [12, 9, 11, 0, 1, 2, 3, 4, 5, 6, 7, 8, 10], 64⟩]) (.seq (.reg false [⟨(some 2), none, (.mov (.t 3)), [], [], 192⟩]) .ret)))))⟩
theorem ok22 : FnOk Try.prog 22 ir22 := ⟨Try.f22, 0, Try.func22, by kernel_rfl, by kernel_rfl⟩
/-- muniment/disk.Name -/
def lp23_0 : IC := (.seq (.reg false [⟨(some 9), none, (.bin .lss (.t 8) (.t 7)), [], [], 640⟩]) (.seq (.cond (.t 9) .skip (.exit 0)) (.seq (.block 1 (.seq (.reg false [⟨(some 10), none, (.iaL 1 (.t 6) (.t 8)), [], [], 704⟩,
  ⟨(some 11), none, (.ld false 1 (.t 10)), [], [], 768⟩,
  ⟨(some 4), none, (.mov (.t 11)), [], [], 320⟩]) (.seq (.reg false [⟨(some 12), none, (.mov (.t 4)), [], [], 832⟩,
  ⟨(some 13), none, (.bin .geq (.t 12) (.c (.int .u8 97))), [], [], 896⟩,
  ⟨(some 14), none, (.mov (.t 13)), [], [], 960⟩,
  ⟨(some 15), (some (14, true)), (.mov (.t 4)), [], [], 1024⟩,
  ⟨(some 16), (some (14, true)), (.bin .leq (.t 15) (.c (.int .u8 122))), [], [], 1088⟩,
  ⟨(some 17), none, (.pick (.t 14) (.t 16) (.c (.bool false))), [], [], 1152⟩,
  ⟨(some 18), none, (.mov (.t 17)), [], [], 1216⟩,
  ⟨(some 19), (some (18, false)), (.mov (.t 4)), [], [], 1280⟩,
  ⟨(some 20), (some (18, false)), (.bin .geq (.t 19) (.c (.int .u8 48))), [], [], 1344⟩,
  ⟨(some 21), (some (18, false)), (.mov (.t 20)), [], [], 1408⟩,
  ⟨(some 22), (some (21, true)), (.mov (.t 4)), [], [], 1472⟩,
  ⟨(some 23), (some (21, true)), (.bin .leq (.t 22) (.c (.int .u8 57))), [], [], 1536⟩,
  ⟨(some 24), (some (18, false)), (.pick (.t 21) (.t 23) (.c (.bool false))), [], [], 1600⟩,
  ⟨(some 25), none, (.pick (.t 18) (.c (.bool true)) (.t 24)), [], [], 1664⟩,
  ⟨(some 26), none, (.mov (.t 25)), [], [], 1728⟩,
  ⟨(some 27), (some (26, false)), (.mov (.t 4)), [], [], 1792⟩,
  ⟨(some 28), (some (26, false)), (.bin .eql (.t 27) (.c (.int .u8 46))), [], [], 1856⟩,
  ⟨(some 29), none, (.pick (.t 26) (.c (.bool true)) (.t 28)), [], [], 1920⟩,
  ⟨(some 30), none, (.mov (.t 29)), [], [], 1984⟩,
  ⟨(some 31), (some (30, false)), (.mov (.t 4)), [], [], 2048⟩,
  ⟨(some 32), (some (30, false)), (.bin .eql (.t 31) (.c (.int .u8 45))), [], [], 2112⟩,
  ⟨(some 33), none, (.pick (.t 30) (.c (.bool true)) (.t 32)), [], [], 2176⟩,
  ⟨(some 34), none, (.un .not (.t 33)), [], [], 2240⟩]) (.cond (.t 34) (.seq (.reg false [⟨(some 2), none, (.mov (.c (.bool false))), [], [], 192⟩]) .ret) .skip)))) (.reg false [⟨(some 35), none, (.bin .add (.t 8) (.c (.int .i64 1))), [], [], 2304⟩,
  ⟨(some 8), none, (.mov (.t 35)), [], [], 576⟩]))))
def ir23 : IFun := ⟨1, 43, [(.tmp 2)], (.seq (.reg false [⟨(some 2), none, (.mov (.c (.bool false))), [], [], 192⟩]) (.seq (.seq (.reg false [⟨(some 5), none, (.mov (.t 0)), [], [], 384⟩,
  ⟨(some 6), none, (.toBytes (.t 5)), [], [], 448⟩,
  ⟨(some 7), none, (.len false (.t 6)), [], [], 512⟩,
  ⟨(some 8), none, (.mov (.c (.int .i64 0))), [], [], 576⟩]) (.block 0 (.loop lp23_0))) (.seq (.reg false [⟨(some 36), none, (.mov (.t 0)), [], [], 2368⟩,
  ⟨(some 37), none, (.bin .neq (.t 36) (.c (.str []))), [], [], 2432⟩,
  ⟨(some 38), none, (.mov (.t 37)), [], [], 2496⟩,
  ⟨(some 39), (some (38, true)), (.mov (.t 0)), [], [], 2560⟩,
  ⟨(some 40), (some (38, true)), (.len true (.t 39)), [], [], 2624⟩,
  ⟨(some 41), (some (38, true)), (.bin .leq (.t 40) (.c (.int .i64 32))), [], [], 2688⟩,
  ⟨(some 42), none, (.pick (.t 38) (.t 41) (.c (.bool false))), [], [], 2752⟩,
  ⟨(some 2), none, (.mov (.t 42)), [], [], 192⟩]) .ret)))⟩
theorem ok23 : FnOk Try.prog 23 ir23 := ⟨Try.f23, 0, Try.func23, by kernel_rfl, by kernel_rfl⟩
/-- muniment/munimentref11.Name -/
def lp24_0 : IC := (.seq (.seq (.reg false [⟨(some 7), none, (.mov (.t 3)), [], [], 512⟩,
  ⟨(some 8), none, (.mov (.t 0)), [], [], 576⟩,
  ⟨(some 9), none, (.len true (.t 8)), [], [], 640⟩,
  ⟨(some 10), none, (.bin .lss (.t 7) (.t 9)), [], [], 704⟩]) (.cond (.t 10) .skip (.exit 0))) (.seq (.block 1 (.seq (.reg false [⟨(some 13), none, (.mov (.t 0)), [], [], 896⟩,
  ⟨(some 14), none, (.mov (.t 3)), [], [], 960⟩,
  ⟨(some 15), none, (.ixS (.t 13) (.t 14)), [], [], 1024⟩,
  ⟨(some 4), none, (.mov (.t 15)), [], [], 320⟩]) (.seq (.reg false [⟨(some 16), none, (.mov (.t 4)), [], [], 1088⟩,
  ⟨(some 17), none, (.bin .geq (.t 16) (.c (.int .u8 97))), [], [], 1152⟩,
  ⟨(some 18), none, (.mov (.t 17)), [], [], 1216⟩,
  ⟨(some 19), (some (18, true)), (.mov (.t 4)), [], [], 1280⟩,
  ⟨(some 20), (some (18, true)), (.bin .leq (.t 19) (.c (.int .u8 122))), [], [], 1344⟩,
  ⟨(some 21), none, (.pick (.t 18) (.t 20) (.c (.bool false))), [], [], 1408⟩,
  ⟨(some 22), none, (.mov (.t 4)), [], [], 1472⟩,
  ⟨(some 23), none, (.bin .geq (.t 22) (.c (.int .u8 48))), [], [], 1536⟩,
  ⟨(some 24), none, (.mov (.t 23)), [], [], 1600⟩,
  ⟨(some 25), (some (24, true)), (.mov (.t 4)), [], [], 1664⟩,
  ⟨(some 26), (some (24, true)), (.bin .leq (.t 25) (.c (.int .u8 57))), [], [], 1728⟩,
  ⟨(some 27), none, (.pick (.t 24) (.t 26) (.c (.bool false))), [], [], 1792⟩,
  ⟨(some 5), none, (.mov (.t 21)), [], [], 384⟩,
  ⟨(some 6), none, (.mov (.t 27)), [], [], 448⟩]) (.seq (.reg false [⟨(some 28), none, (.mov (.t 5)), [], [], 1856⟩,
  ⟨(some 29), none, (.un .not (.t 28)), [], [], 1920⟩,
  ⟨(some 30), none, (.mov (.t 29)), [], [], 1984⟩,
  ⟨(some 31), (some (30, true)), (.mov (.t 6)), [], [], 2048⟩,
  ⟨(some 32), (some (30, true)), (.un .not (.t 31)), [], [], 2112⟩,
  ⟨(some 33), none, (.pick (.t 30) (.t 32) (.c (.bool false))), [], [], 2176⟩,
  ⟨(some 34), none, (.mov (.t 33)), [], [], 2240⟩,
  ⟨(some 35), (some (34, true)), (.mov (.t 4)), [], [], 2304⟩,
  ⟨(some 36), (some (34, true)), (.bin .neq (.t 35) (.c (.int .u8 46))), [], [], 2368⟩,
  ⟨(some 37), none, (.pick (.t 34) (.t 36) (.c (.bool false))), [], [], 2432⟩,
  ⟨(some 38), none, (.mov (.t 37)), [], [], 2496⟩,
  ⟨(some 39), (some (38, true)), (.mov (.t 4)), [], [], 2560⟩,
  ⟨(some 40), (some (38, true)), (.bin .neq (.t 39) (.c (.int .u8 45))), [], [], 2624⟩,
  ⟨(some 41), none, (.pick (.t 38) (.t 40) (.c (.bool false))), [], [], 2688⟩]) (.cond (.t 41) (.seq (.reg false [⟨(some 2), none, (.mov (.c (.bool false))), [], [], 192⟩]) .ret) .skip))))) (.reg false [⟨(some 11), none, (.mov (.t 3)), [], [], 768⟩,
  ⟨(some 12), none, (.bin .add (.t 11) (.c (.int .i64 1))), [], [], 832⟩,
  ⟨(some 3), none, (.mov (.t 12)), [], [], 256⟩])))
def ir24 : IFun := ⟨1, 50, [(.tmp 2)], (.seq (.reg false [⟨(some 2), none, (.mov (.c (.bool false))), [], [], 192⟩]) (.seq (.seq (.reg false [⟨(some 3), none, (.mov (.c (.int .i64 0))), [], [], 256⟩]) (.block 0 (.loop lp24_0))) (.seq (.reg false [⟨(some 42), none, (.mov (.t 0)), [], [], 2752⟩,
  ⟨(some 43), none, (.len true (.t 42)), [], [], 2816⟩,
  ⟨(some 44), none, (.bin .gtr (.t 43) (.c (.int .i64 0))), [], [], 2880⟩,
  ⟨(some 45), none, (.mov (.t 44)), [], [], 2944⟩,
  ⟨(some 46), (some (45, true)), (.mov (.t 0)), [], [], 3008⟩,
  ⟨(some 47), (some (45, true)), (.len true (.t 46)), [], [], 3072⟩,
  ⟨(some 48), (some (45, true)), (.bin .lss (.t 47) (.c (.int .i64 33))), [], [], 3136⟩,
  ⟨(some 49), none, (.pick (.t 45) (.t 48) (.c (.bool false))), [], [], 3200⟩,
  ⟨(some 2), none, (.mov (.t 49)), [], [], 192⟩]) .ret)))⟩
theorem ok24 : FnOk Try.prog 24 ir24 := ⟨Try.f24, 0, Try.func24, by kernel_rfl, by kernel_rfl⟩
/-- (*muniment/disk.Disk).Dead -/
def ir25 : IFun := ⟨1, 11, [(.tmp 2)], (.seq (.reg false [⟨(some 2), none, (.mov (.c (.bool false))), [], [], 192⟩]) (.seq (.reg false [⟨(some 3), none, (.mov (.t 0)), [], [], 256⟩,
  ⟨(some 4), none, (.eqn false .ptr (.t 3) (.c .nilp)), [], [], 320⟩,
  ⟨(some 5), none, (.mov (.t 4)), [], [], 384⟩,
  ⟨(some 6), (some (5, false)), (.mov (.t 0)), [], [], 448⟩,
  ⟨(some 7), (some (5, false)), (.chk (.t 6)), [], [], 512⟩,
  ⟨(some 8), (some (5, false)), (.fad 4 (.t 7)), [], [], 576⟩,
  ⟨(some 9), (some (5, false)), (.ld false 1 (.t 8)), [], [], 640⟩,
  ⟨(some 10), none, (.pick (.t 5) (.c (.bool true)) (.t 9)), [], [], 704⟩,
  ⟨(some 2), none, (.mov (.t 10)), [], [], 192⟩]) .ret))⟩
theorem ok25 : FnOk Try.prog 25 ir25 := ⟨Try.f25, 0, Try.func25, by kernel_rfl, by kernel_rfl⟩
/-- muniment/munimentlaw11.change -/
def ir26 : IFun := ⟨2, 45, [(.tmp 4)], (.seq (.reg false [⟨(some 3), none, (.box 8 (.t 1)), [], [], 256⟩,
  ⟨(some 4), none, (.mov (.c (.int .i64 0))), [], [], 320⟩]) (.seq (.seq (.reg false [⟨(some 5), none, (.fad 0 (.t 3)), [], [], 384⟩,
  ⟨(some 6), none, (.ld false 1 (.t 5)), [], [], 448⟩]) (.block 0 (.seq (.reg false [⟨(some 8), none, (.bin .eql (.t 6) (.c (.int .i64 1))), [], [], 576⟩,
  ⟨(some 7), none, (.mov (.t 8)), [], [], 512⟩]) (.cond (.t 7) (.seq (.reg true [⟨(some 9), none, (.mov (.t 0)), [], [], 640⟩,
  ⟨(some 10), none, (.fad 1 (.t 3)), [], [], 704⟩,
  ⟨(some 11), none, (.ld false 1 (.t 10)), [1], [1], 768⟩,
  ⟨(some 12), none, (.fad 3 (.t 3)), [], [], 832⟩,
  ⟨(some 13), none, (.ld false 1 (.t 12)), [3], [3], 896⟩,
  ⟨(some 14), none, (.call 31 [(.t 13)]), [4], [4, 3], 960⟩,
  ⟨(some 15), none, (.call 21 [(.t 9), (.t 11), (.t 14)]), [0, 2, 5, 5], [0, 2, 5, 1, 4, 3], 1024⟩,
  ⟨(some 4), none, (.mov (.t 15)), [6, 6, 0, 1, 2, 3, 4, 5, 6], [6, 0, 1, 2, 3, 4, 5], 320⟩]) .ret) (.seq (.reg false [⟨(some 17), none, (.bin .eql (.t 6) (.c (.int .i64 2))), [], [], 1152⟩,
  ⟨(some 16), none, (.mov (.t 17)), [], [], 1088⟩]) (.cond (.t 16) (.seq (.reg false [⟨(some 18), none, (.mov (.t 0)), [], [], 1216⟩,
  ⟨(some 19), none, (.fad 1 (.t 3)), [], [], 1280⟩,
  ⟨(some 20), none, (.ld false 1 (.t 19)), [], [], 1344⟩,
  ⟨(some 21), none, (.fad 2 (.t 3)), [], [], 1408⟩,
  ⟨(some 22), none, (.ld false 1 (.t 21)), [], [], 1472⟩,
  ⟨(some 23), none, (.call 42 [(.t 18), (.t 20), (.t 22)]), [], [], 1536⟩,
  ⟨(some 4), none, (.mov (.t 23)), [], [], 320⟩]) .ret) (.seq (.reg false [⟨(some 25), none, (.bin .eql (.t 6) (.c (.int .i64 3))), [], [], 1664⟩,
  ⟨(some 24), none, (.mov (.t 25)), [], [], 1600⟩]) (.cond (.t 24) (.seq (.reg false [⟨(some 26), none, (.mov (.t 0)), [], [], 1728⟩,
  ⟨(some 27), none, (.fad 1 (.t 3)), [], [], 1792⟩,
  ⟨(some 28), none, (.ld false 1 (.t 27)), [], [], 1856⟩,
  ⟨(some 29), none, (.call 43 [(.t 26), (.t 28)]), [], [], 1920⟩,
  ⟨(some 4), none, (.mov (.t 29)), [], [], 320⟩]) .ret) (.seq (.reg false [⟨(some 31), none, (.bin .eql (.t 6) (.c (.int .i64 4))), [], [], 2048⟩,
  ⟨(some 30), none, (.mov (.t 31)), [], [], 1984⟩]) (.cond (.t 30) (.seq (.reg false [⟨(some 32), none, (.mov (.t 0)), [], [], 2112⟩,
  ⟨(some 33), none, (.fad 1 (.t 3)), [], [], 2176⟩,
  ⟨(some 34), none, (.ld false 1 (.t 33)), [], [], 2240⟩,
  ⟨(some 35), none, (.fad 4 (.t 3)), [], [], 2304⟩,
  ⟨(some 36), none, (.ld false 1 (.t 35)), [], [], 2368⟩,
  ⟨(some 37), none, (.call 44 [(.t 32), (.t 34), (.t 36)]), [], [], 2432⟩,
  ⟨(some 4), none, (.mov (.t 37)), [], [], 320⟩]) .ret) .skip)))))))))) (.seq (.reg true [⟨(some 38), none, (.mov (.t 0)), [], [], 2496⟩,
  ⟨(some 39), none, (.fad 1 (.t 3)), [], [], 2560⟩,
  ⟨(some 40), none, (.ld false 1 (.t 39)), [1], [1], 2624⟩,
  ⟨(some 41), none, (.fad 3 (.t 3)), [], [], 2688⟩,
  ⟨(some 42), none, (.ld false 1 (.t 41)), [3], [3], 2752⟩,
  ⟨(some 43), none, (.call 31 [(.t 42)]), [4], [4, 3], 2816⟩,
  ⟨(some 44), none, (.call 37 [(.t 38), (.t 40), (.t 43)]), [0, 2, 5, 5], [0, 2, 5, 1, 4, 3], 2880⟩,
  ⟨(some 4), none, (.mov (.t 44)), [6, 6, 0, 1, 2, 3, 4, 5, 6], [6, 0, 1, 2, 3, 4, 5], 320⟩]) .ret)))⟩
theorem ok26 : FnOk Try.prog 26 ir26 := ⟨Try.f26, 0, Try.func26, by kernel_rfl, by kernel_rfl⟩
/-- (*muniment/disk.Disk).Names -/
def lp27_0 : IC := (.seq (.reg false [⟨(some 14), none, (.bin .lss (.t 13) (.t 12)), [], [], 960⟩]) (.seq (.cond (.t 14) .skip (.exit 0)) (.seq (.block 1 (.seq (.reg false [⟨(some 15), none, (.iaL 6 (.t 11) (.t 13)), [], [], 1024⟩,
  ⟨(some 16), none, (.ld true 6 (.t 15)), [], [], 1088⟩,
  ⟨(some 5), none, (.new [(.str []), (.bool false), (.str []), (.bool false), (.str []), (.int .i64 0)]), [], [], 384⟩,
  ⟨none, none, (.st true 6 (.t 5) (.t 16)), [], [], 64⟩]) (.seq (.reg false [⟨(some 17), none, (.fad 1 (.t 5)), [], [], 1152⟩,
  ⟨(some 18), none, (.fad 0 (.t 17)), [], [], 1216⟩,
  ⟨(some 19), none, (.ld false 1 (.t 18)), [], [], 1280⟩]) (.cond (.t 19) (.reg false [⟨(some 20), none, (.mov (.t 3)), [], [], 1344⟩,
  ⟨(some 21), none, (.fad 0 (.t 5)), [], [], 1408⟩,
  ⟨(some 22), none, (.ld false 1 (.t 21)), [], [], 1472⟩,
  ⟨(some 23), none, (.mksl 1 1 [(.str [])] [(0, (1, (.t 22)))]), [], [], 1536⟩,
  ⟨(some 24), none, (.app 1 16 (.t 20) (.t 23)), [], [], 1600⟩,
  ⟨(some 3), none, (.mov (.t 24)), [], [], 256⟩]) .skip)))) (.reg false [⟨(some 25), none, (.bin .add (.t 13) (.c (.int .i64 1))), [], [], 1664⟩,
  ⟨(some 13), none, (.mov (.t 25)), [], [], 896⟩]))))
def ir27 : IFun := ⟨1, 27, [(.tmp 2)], (.seq (.reg false [⟨(some 2), none, (.mov (.c (.sl .nil 0 []))), [], [], 192⟩]) (.seq (.reg false [⟨(some 3), none, (.mov (.c (.sl .nil 0 []))), [], [], 256⟩]) (.seq (.seq (.reg false [⟨(some 6), none, (.mov (.t 0)), [], [], 448⟩,
  ⟨(some 7), none, (.eqn true .ptr (.t 6) (.c .nilp)), [], [], 512⟩]) (.cond (.t 7) (.seq (.reg false [⟨(some 8), none, (.mov (.t 0)), [], [], 576⟩,
  ⟨(some 9), none, (.chk (.t 8)), [], [], 640⟩,
  ⟨(some 10), none, (.fad 0 (.t 9)), [], [], 704⟩,
  ⟨(some 11), none, (.ld false 1 (.t 10)), [], [], 768⟩,
  ⟨(some 12), none, (.len false (.t 11)), [], [], 832⟩,
  ⟨(some 13), none, (.mov (.c (.int .i64 0))), [], [], 896⟩]) (.block 0 (.loop lp27_0))) .skip)) (.seq (.reg false [⟨(some 26), none, (.mov (.t 3)), [], [], 1728⟩,
  ⟨(some 2), none, (.mov (.t 26)), [], [], 192⟩]) .ret))))⟩
theorem ok27 : FnOk Try.prog 27 ir27 := ⟨Try.f27, 0, Try.func27, by kernel_rfl, by kernel_rfl⟩
/-- (*muniment/disk.Disk).Changes -/
def ir28 : IFun := ⟨1, 9, [(.tmp 2)], (.seq (.reg false [⟨(some 2), none, (.mov (.c (.int .i64 0))), [], [], 192⟩]) (.seq (.seq (.reg false [⟨(some 3), none, (.mov (.t 0)), [], [], 256⟩,
  ⟨(some 4), none, (.eqn false .ptr (.t 3) (.c .nilp)), [], [], 320⟩]) (.cond (.t 4) (.seq (.reg false [⟨(some 2), none, (.mov (.c (.int .i64 0))), [], [], 192⟩]) .ret) .skip)) (.seq (.reg false [⟨(some 5), none, (.mov (.t 0)), [], [], 384⟩,
  ⟨(some 6), none, (.chk (.t 5)), [], [], 448⟩,
  ⟨(some 7), none, (.fad 3 (.t 6)), [], [], 512⟩,
  ⟨(some 8), none, (.ld false 1 (.t 7)), [], [], 576⟩,
  ⟨(some 2), none, (.mov (.t 8)), [], [], 192⟩]) .ret)))⟩
theorem ok28 : FnOk Try.prog 28 ir28 := ⟨Try.f28, 0, Try.func28, by kernel_rfl, by kernel_rfl⟩
/-- (*muniment/disk.Disk).Loose -/
def lp29_0 : IC := (.seq (.reg false [⟨(some 14), none, (.bin .lss (.t 13) (.t 12)), [], [], 960⟩]) (.seq (.cond (.t 14) .skip (.exit 0)) (.seq (.block 1 (.seq (.reg false [⟨(some 15), none, (.iaL 6 (.t 11) (.t 13)), [], [], 1024⟩,
  ⟨(some 16), none, (.ld true 6 (.t 15)), [], [], 1088⟩,
  ⟨(some 5), none, (.new [(.str []), (.bool false), (.str []), (.bool false), (.str []), (.int .i64 0)]), [], [], 384⟩,
  ⟨none, none, (.st true 6 (.t 5) (.t 16)), [], [], 64⟩]) (.seq (.reg false [⟨(some 17), none, (.fad 1 (.t 5)), [], [], 1152⟩,
  ⟨(some 18), none, (.ld true 2 (.t 17)), [], [], 1216⟩,
  ⟨(some 19), none, (.fad 3 (.t 5)), [], [], 1280⟩,
  ⟨(some 20), none, (.ld true 2 (.t 19)), [], [], 1344⟩,
  ⟨(some 21), none, (.eqS true [.b, .s] (.t 18) (.t 20)), [], [], 1408⟩]) (.cond (.t 21) (.reg false [⟨(some 22), none, (.mov (.t 3)), [], [], 1472⟩,
  ⟨(some 23), none, (.bin .add (.t 22) (.c (.int .i64 1))), [], [], 1536⟩,
  ⟨(some 3), none, (.mov (.t 23)), [], [], 256⟩]) .skip)))) (.reg false [⟨(some 24), none, (.bin .add (.t 13) (.c (.int .i64 1))), [], [], 1600⟩,
  ⟨(some 13), none, (.mov (.t 24)), [], [], 896⟩]))))
def ir29 : IFun := ⟨1, 26, [(.tmp 2)], (.seq (.reg false [⟨(some 2), none, (.mov (.c (.int .i64 0))), [], [], 192⟩]) (.seq (.reg false [⟨(some 3), none, (.mov (.c (.int .i64 0))), [], [], 256⟩]) (.seq (.seq (.reg false [⟨(some 6), none, (.mov (.t 0)), [], [], 448⟩,
  ⟨(some 7), none, (.eqn true .ptr (.t 6) (.c .nilp)), [], [], 512⟩]) (.cond (.t 7) (.seq (.reg false [⟨(some 8), none, (.mov (.t 0)), [], [], 576⟩,
  ⟨(some 9), none, (.chk (.t 8)), [], [], 640⟩,
  ⟨(some 10), none, (.fad 0 (.t 9)), [], [], 704⟩,
  ⟨(some 11), none, (.ld false 1 (.t 10)), [], [], 768⟩,
  ⟨(some 12), none, (.len false (.t 11)), [], [], 832⟩,
  ⟨(some 13), none, (.mov (.c (.int .i64 0))), [], [], 896⟩]) (.block 0 (.loop lp29_0))) .skip)) (.seq (.reg false [⟨(some 25), none, (.mov (.t 3)), [], [], 1664⟩,
  ⟨(some 2), none, (.mov (.t 25)), [], [], 192⟩]) .ret))))⟩
theorem ok29 : FnOk Try.prog 29 ir29 := ⟨Try.f29, 0, Try.func29, by kernel_rfl, by kernel_rfl⟩
/-- muniment/munimentlaw11.few -/
def ir31 : IFun := ⟨1, 9, [(.tmp 2)], (.seq (.reg false [⟨(some 2), none, (.mov (.c (.str []))), [], [], 192⟩]) (.seq (.seq (.reg false [⟨(some 3), none, (.mov (.t 0)), [], [], 256⟩,
  ⟨(some 4), none, (.len true (.t 3)), [], [], 320⟩,
  ⟨(some 5), none, (.bin .gtr (.t 4) (.c (.int .i64 50))), [], [], 384⟩]) (.cond (.t 5) (.seq (.reg false [⟨(some 6), none, (.mov (.t 0)), [], [], 448⟩,
  ⟨(some 7), none, (.slS (.t 6) none (some (.c (.int .i64 50)))), [], [], 512⟩,
  ⟨(some 2), none, (.mov (.t 7)), [], [], 192⟩]) .ret) .skip)) (.seq (.reg false [⟨(some 8), none, (.mov (.t 0)), [], [], 576⟩,
  ⟨(some 2), none, (.mov (.t 8)), [], [], 192⟩]) .ret)))⟩
theorem ok31 : FnOk Try.prog 31 ir31 := ⟨Try.f31, 0, Try.func31, by kernel_rfl, by kernel_rfl⟩
/-- (*muniment/disk.Disk).tidy -/
def ir33 : IFun := ⟨1, 10, [], (.reg false [⟨(some 2), none, (.mov (.t 0)), [], [], 192⟩,
  ⟨(some 3), none, (.mov (.t 0)), [], [], 256⟩,
  ⟨(some 4), none, (.chk (.t 3)), [], [], 320⟩,
  ⟨(some 5), none, (.fad 0 (.t 4)), [], [], 384⟩,
  ⟨(some 6), none, (.ld false 1 (.t 5)), [], [], 448⟩,
  ⟨(some 7), none, (.call 48 [(.t 6), (.c (.fn 49 []))]), [], [], 512⟩,
  ⟨(some 8), none, (.chk (.t 2)), [], [], 576⟩,
  ⟨(some 9), none, (.fad 0 (.t 8)), [], [], 640⟩,
  ⟨none, none, (.st false 1 (.t 9) (.t 7)), [], [], 64⟩])⟩
theorem ok33 : FnOk Try.prog 33 ir33 := ⟨Try.f33, 0, Try.func33, by kernel_rfl, by kernel_rfl⟩
/-- (muniment/disk.entry).left -/
def ir35 : IFun := ⟨3, 48, [(.cell 6 true 2)], (.seq (.reg false [⟨(some 3), none, (.box 6 (.t 0)), [], [], 256⟩,
  ⟨(some 6), none, (.new [(.bool false), (.str [])]), [], [], 448⟩]) (.seq (.seq (.reg false [⟨(some 8), none, (.mov (.t 1)), [], [], 576⟩]) (.cond (.t 8) (.seq (.reg false [⟨(some 9), none, (.fad 1 (.t 3)), [], [], 640⟩,
  ⟨(some 10), none, (.ld true 2 (.t 9)), [], [], 704⟩,
  ⟨none, none, (.st true 2 (.t 6) (.t 10)), [], [], 64⟩]) .ret) .skip)) (.seq (.reg true [⟨(some 11), none, (.mov (.t 2)), [], [], 768⟩,
  ⟨(some 12), none, (.chk (.t 11)), [0], [0], 832⟩,
  ⟨(some 13), none, (.ld false 1 (.t 12)), [1], [1, 0], 896⟩,
  ⟨(some 14), none, (.mm true (.t 13) (.c (.int .i64 0))), [2], [2, 1, 0], 960⟩,
  ⟨(some 15), none, (.fad 1 (.t 3)), [], [], 1024⟩,
  ⟨(some 16), none, (.fad 1 (.t 15)), [4], [4], 1088⟩,
  ⟨(some 17), none, (.ld false 1 (.t 16)), [5], [5, 4], 1152⟩,
  ⟨(some 18), none, (.len true (.t 17)), [6], [6, 5, 4], 1216⟩,
  ⟨(some 19), none, (.mm false (.t 14) (.t 18)), [3, 7], [3, 7, 2, 1, 0, 6, 5, 4], 1280⟩,
  ⟨(some 7), none, (.mov (.t 19)), [8, 0, 1, 2, 3, 4, 5, 6, 7, 8], [8, 0, 1, 2, 3, 4, 5, 6, 7], 512⟩]) (.seq (.reg false [⟨(some 20), none, (.mov (.t 2)), [], [], 1344⟩,
  ⟨(some 21), none, (.chk (.t 20)), [], [], 1408⟩,
  ⟨none, none, (.st false 1 (.t 21) (.c (.int .i64 0))), [], [], 64⟩]) (.seq (.seq (.reg false [⟨(some 22), none, (.fad 5 (.t 3)), [], [], 1472⟩,
  ⟨(some 23), none, (.ld false 1 (.t 22)), [], [], 1536⟩,
  ⟨(some 24), none, (.bin .neq (.t 23) (.c (.int .i64 1))), [], [], 1600⟩,
  ⟨(some 25), none, (.mov (.t 24)), [], [], 1664⟩,
  ⟨(some 26), (some (25, false)), (.mov (.t 7)), [], [], 1728⟩,
  ⟨(some 27), (some (25, false)), (.bin .eql (.t 26) (.c (.int .i64 0))), [], [], 1792⟩,
  ⟨(some 28), none, (.pick (.t 25) (.c (.bool true)) (.t 27)), [], [], 1856⟩]) (.cond (.t 28) (.seq (.reg false [⟨(some 29), none, (.fad 3 (.t 3)), [], [], 1920⟩,
  ⟨(some 30), none, (.ld true 2 (.t 29)), [], [], 1984⟩,
  ⟨none, none, (.st true 2 (.t 6) (.t 30)), [], [], 64⟩]) .ret) .skip)) (.seq (.reg true [⟨(some 31), none, (.fad 1 (.t 3)), [], [], 2048⟩,
  ⟨(some 32), none, (.fad 1 (.t 31)), [0], [0], 2112⟩,
  ⟨(some 33), none, (.ld false 1 (.t 32)), [1], [1, 0], 2176⟩,
  ⟨(some 34), none, (.mov (.t 7)), [], [], 2240⟩,
  ⟨(some 35), none, (.slS (.t 33) none (some (.t 34))), [2, 3], [2, 3, 1, 0], 2304⟩,
  ⟨(some 36), none, (.fad 3 (.t 3)), [], [], 2368⟩,
  ⟨(some 37), none, (.fad 1 (.t 36)), [5], [5], 2432⟩,
  ⟨(some 38), none, (.ld false 1 (.t 37)), [6], [6, 5], 2496⟩,
  ⟨(some 39), none, (.mov (.t 7)), [], [], 2560⟩,
  ⟨(some 40), none, (.fad 3 (.t 3)), [], [], 2624⟩,
  ⟨(some 41), none, (.fad 1 (.t 40)), [9], [9], 2688⟩,
  ⟨(some 42), none, (.ld false 1 (.t 41)), [10], [10, 9], 2752⟩,
  ⟨(some 43), none, (.len true (.t 42)), [11], [11, 10, 9], 2816⟩,
  ⟨(some 44), none, (.mm false (.t 39) (.t 43)), [8, 12], [8, 12, 11, 10, 9], 2880⟩,
  ⟨(some 45), none, (.slS (.t 38) (some (.t 44)) none), [7, 13], [7, 13, 6, 5, 8, 12, 11, 10, 9], 2944⟩,
  ⟨(some 46), none, (.bin .add (.t 35) (.t 45)), [4, 14], [4, 14, 2, 3, 1, 0, 7, 13, 6, 5, 8, 12, 11, 10, 9], 3008⟩,
  ⟨(some 47), none, (.mk [(.bool false), (.str [])] [(0, (1, (.c (.bool true)))), (1, (1, (.t 46)))]), [15], [15, 4, 14, 2, 3, 1, 0, 7, 13, 6, 5, 8, 12, 11, 10, 9], 3072⟩,
  ⟨none, none, (.st true 2 (.t 6) (.t 47)), [16, 0, 1, 2, 3, 4, 5, 6, 7, 8, 9, 10, 11, 12, 13, 14, 15, 16], [16, 0, 1, 2, 3, 4, 5, 6, 7, 8, 9, 10, 11, 12, 13, 14, 15], 64⟩]) .ret))))))⟩
theorem ok35 : FnOk Try.prog 35 ir35 := ⟨Try.f35, 0, Try.func35, by kernel_rfl, by kernel_rfl⟩
/-- (*muniment/disk.Disk).open -/
def ir36 : IFun := ⟨3, 27, [(.cell 6 true 2), (.tmp 7)], (.seq (.reg false [⟨(some 6), none, (.new [(.bool false), (.str [])]), [], [], 448⟩,
  ⟨(some 7), none, (.mov (.c (.int .i64 0))), [], [], 512⟩]) (.seq (.seq (.reg false [⟨(some 9), none, (.mov (.t 0)), [], [], 640⟩,
  ⟨(some 10), none, (.call 25 [(.t 9)]), [], [], 704⟩]) (.cond (.t 10) (.seq (.reg false [⟨(some 11), none, (.mk [(.bool false), (.str [])] []), [], [], 768⟩,
  ⟨none, none, (.st true 2 (.t 6) (.t 11)), [], [], 64⟩,
  ⟨(some 7), none, (.mov (.c (.int .i64 7))), [], [], 512⟩]) .ret) .skip)) (.seq (.seq (.reg false [⟨(some 12), none, (.mov (.t 1)), [], [], 832⟩,
  ⟨(some 13), none, (.call 23 [(.t 12)]), [], [], 896⟩,
  ⟨(some 14), none, (.un .not (.t 13)), [], [], 960⟩]) (.cond (.t 14) (.seq (.reg false [⟨(some 15), none, (.mk [(.bool false), (.str [])] []), [], [], 1024⟩,
  ⟨none, none, (.st true 2 (.t 6) (.t 15)), [], [], 64⟩,
  ⟨(some 7), none, (.mov (.c (.int .i64 110))), [], [], 512⟩]) .ret) .skip)) (.seq (.reg false [⟨(some 16), none, (.mov (.t 0)), [], [], 1088⟩,
  ⟨(some 17), none, (.mov (.t 1)), [], [], 1152⟩,
  ⟨(some 18), none, (.call 50 [(.t 16), (.t 17)]), [], [], 1216⟩,
  ⟨(some 8), none, (.new [(.bool false), (.str [])]), [], [], 576⟩,
  ⟨none, none, (.st true 2 (.t 8) (.t 18)), [], [], 64⟩]) (.seq (.seq (.reg false [⟨(some 19), none, (.mov (.t 2)), [], [], 1280⟩,
  ⟨(some 20), none, (.mov (.t 19)), [], [], 1344⟩,
  ⟨(some 21), (some (20, true)), (.fad 0 (.t 8)), [], [], 1408⟩,
  ⟨(some 22), (some (20, true)), (.ld false 1 (.t 21)), [], [], 1472⟩,
  ⟨(some 23), (some (20, true)), (.un .not (.t 22)), [], [], 1536⟩,
  ⟨(some 24), none, (.pick (.t 20) (.t 23) (.c (.bool false))), [], [], 1600⟩]) (.cond (.t 24) (.seq (.reg false [⟨(some 25), none, (.mk [(.bool false), (.str [])] []), [], [], 1664⟩,
  ⟨none, none, (.st true 2 (.t 6) (.t 25)), [], [], 64⟩,
  ⟨(some 7), none, (.mov (.c (.int .i64 2))), [], [], 512⟩]) .ret) .skip)) (.seq (.reg false [⟨(some 26), none, (.ld true 2 (.t 8)), [], [], 1728⟩,
  ⟨none, none, (.st true 2 (.t 6) (.t 26)), [], [], 64⟩,
  ⟨(some 7), none, (.mov (.c (.int .i64 0))), [], [], 512⟩]) .ret))))))⟩
theorem ok36 : FnOk Try.prog 36 ir36 := ⟨Try.f36, 0, Try.func36, by kernel_rfl, by kernel_rfl⟩
/-- (*muniment/disk.Disk).Append -/
def ir37 : IFun := ⟨3, 26, [(.tmp 6)], (.seq (.reg false [⟨(some 6), none, (.mov (.c (.int .i64 0))), [], [], 448⟩]) (.seq (.reg false [⟨(some 10), none, (.mov (.t 0)), [], [], 704⟩,
  ⟨(some 11), none, (.mov (.t 1)), [], [], 768⟩,
  ⟨(some 12), none, (.call 36 [(.t 10), (.t 11), (.c (.bool false))]), [], [], 832⟩,
  ⟨(some 9), none, (.mov (.t 12)), [], [], 640⟩,
  ⟨(some 13), none, (.ext 0 (.t 9)), [], [], 896⟩,
  ⟨(some 14), none, (.ext 1 (.t 9)), [], [], 960⟩,
  ⟨(some 7), none, (.new [(.bool false), (.str [])]), [], [], 512⟩,
  ⟨none, none, (.st true 2 (.t 7) (.t 13)), [], [], 64⟩,
  ⟨(some 8), none, (.mov (.t 14)), [], [], 576⟩]) (.seq (.seq (.reg false [⟨(some 15), none, (.mov (.t 8)), [], [], 1024⟩,
  ⟨(some 16), none, (.bin .neq (.t 15) (.c (.int .i64 0))), [], [], 1088⟩]) (.cond (.t 16) (.seq (.reg false [⟨(some 17), none, (.mov (.t 8)), [], [], 1152⟩,
  ⟨(some 6), none, (.mov (.t 17)), [], [], 448⟩]) .ret) .skip)) (.seq (.reg false [⟨(some 18), none, (.mov (.t 0)), [], [], 1216⟩,
  ⟨(some 19), none, (.mov (.t 1)), [], [], 1280⟩,
  ⟨(some 20), none, (.ld true 2 (.t 7)), [], [], 1344⟩,
  ⟨(some 21), none, (.fad 1 (.t 7)), [], [], 1408⟩,
  ⟨(some 22), none, (.ld false 1 (.t 21)), [], [], 1472⟩,
  ⟨(some 23), none, (.mov (.t 2)), [], [], 1536⟩,
  ⟨(some 24), none, (.bin .add (.t 22) (.t 23)), [], [], 1600⟩,
  ⟨(some 25), none, (.call 40 [(.t 18), (.t 19), (.t 20), (.t 24)]), [], [], 1664⟩,
  ⟨(some 6), none, (.mov (.t 25)), [], [], 448⟩]) .ret))))⟩
theorem ok37 : FnOk Try.prog 37 ir37 := ⟨Try.f37, 0, Try.func37, by kernel_rfl, by kernel_rfl⟩
/-- slices.Clone[[]muniment/api.Fall,muniment/api.Fall] -/
def ir39 : IFun := ⟨1, 8, [(.tmp 2)], (.seq (.reg false [⟨(some 2), none, (.mov (.c (.sl .nil 0 []))), [], [], 192⟩]) (.seq (.seq (.reg false [⟨(some 3), none, (.mov (.t 0)), [], [], 256⟩,
  ⟨(some 4), none, (.eqn false .sl (.t 3) (.c (.sl .nil 0 []))), [], [], 320⟩]) (.cond (.t 4) (.seq (.reg false [⟨(some 2), none, (.mov (.c (.sl .nil 0 []))), [], [], 192⟩]) .ret) .skip)) (.seq (.reg false [⟨(some 5), none, (.mksl 3 0 [] []), [], [], 384⟩,
  ⟨(some 6), none, (.mov (.t 0)), [], [], 448⟩,
  ⟨(some 7), none, (.app 3 24 (.t 5) (.t 6)), [], [], 512⟩,
  ⟨(some 2), none, (.mov (.t 7)), [], [], 192⟩]) .ret)))⟩
theorem ok39 : FnOk Try.prog 39 ir39 := ⟨Try.f39, 0, Try.func39, by kernel_rfl, by kernel_rfl⟩
/-- (*muniment/disk.Disk).grow -/
def ir40 : IFun := ⟨4, 44, [(.tmp 8)], (.seq (.reg false [⟨(some 6), none, (.box 2 (.t 2)), [], [], 448⟩,
  ⟨(some 8), none, (.mov (.c (.int .i64 0))), [], [], 576⟩]) (.seq (.seq (.reg false [⟨(some 10), none, (.mov (.t 3)), [], [], 704⟩,
  ⟨(some 11), none, (.len true (.t 10)), [], [], 768⟩,
  ⟨(some 12), none, (.fad 1 (.t 6)), [], [], 832⟩,
  ⟨(some 13), none, (.ld false 1 (.t 12)), [], [], 896⟩,
  ⟨(some 14), none, (.len true (.t 13)), [], [], 960⟩,
  ⟨(some 15), none, (.bin .sub (.t 11) (.t 14)), [], [], 1024⟩,
  ⟨(some 9), none, (.mov (.t 15)), [], [], 640⟩]) (.seq (.reg true [⟨(some 16), none, (.mov (.t 9)), [], [], 1088⟩,
  ⟨(some 17), none, (.bin .gtr (.t 16) (.c (.int .i64 0))), [0], [0], 1152⟩,
  ⟨(some 18), none, (.mov (.t 17)), [1], [1, 0], 1216⟩,
  ⟨(some 19), (some (18, true)), (.mov (.t 0)), [2], [2, 1, 0], 1280⟩,
  ⟨(some 20), (some (18, true)), (.chk (.t 19)), [3, 2], [3, 2, 1, 0], 1344⟩,
  ⟨(some 21), (some (18, true)), (.fad 1 (.t 20)), [4, 2], [4, 2, 3, 1, 0], 1408⟩,
  ⟨(some 22), (some (18, true)), (.ld false 1 (.t 21)), [5, 2], [5, 2, 4, 3, 1, 0], 1472⟩,
  ⟨(some 23), (some (18, true)), (.bin .geq (.t 22) (.c (.int .i64 0))), [6, 2], [6, 2, 5, 4, 3, 1, 0], 1536⟩,
  ⟨(some 24), none, (.pick (.t 18) (.t 23) (.c (.bool false))), [2, 7], [2, 7, 1, 0, 6, 5, 4, 3], 1600⟩,
  ⟨(some 25), none, (.mov (.t 24)), [8, 2], [8, 2, 7, 1, 0, 6, 5, 4, 3], 1664⟩,
  ⟨(some 26), (some (25, true)), (.mov (.t 9)), [9], [9, 8, 2, 7, 1, 0, 6, 5, 4, 3], 1728⟩,
  ⟨(some 27), (some (25, true)), (.mov (.t 0)), [9], [9, 8, 2, 7, 1, 0, 6, 5, 4, 3], 1792⟩,
  ⟨(some 28), (some (25, true)), (.chk (.t 27)), [11, 9], [11, 9, 8, 2, 7, 1, 0, 6, 5, 4, 3], 1856⟩,
  ⟨(some 29), (some (25, true)), (.fad 1 (.t 28)), [12, 9], [12, 9, 11, 8, 2, 7, 1, 0, 6, 5, 4, 3], 1920⟩,
  ⟨(some 30), (some (25, true)), (.ld false 1 (.t 29)), [13, 9], [13, 9, 12, 11, 8, 2, 7, 1, 0, 6, 5, 4, 3], 1984⟩,
  ⟨(some 31), (some (25, true)), (.mov (.t 0)), [9], [9, 8, 2, 7, 1, 0, 6, 5, 4, 3], 2048⟩,
  ⟨(some 32), (some (25, true)), (.call 17 [(.t 31)]), [15, 9, 9], [15, 9, 8, 2, 7, 1, 0, 6, 5, 4, 3], 2112⟩,
  ⟨(some 33), (some (25, true)), (.bin .sub (.t 30) (.t 32)), [14, 16, 9], [14, 16, 9, 13, 12, 11, 8, 2, 7, 1, 0, 6, 5, 4, 3, 15], 2176⟩,
  ⟨(some 34), (some (25, true)), (.bin .gtr (.t 26) (.t 33)), [10, 17, 9], [10, 17, 9, 8, 2, 7, 1, 0, 6, 5, 4, 3, 14, 16, 13, 12, 11, 15], 2240⟩,
  ⟨(some 35), none, (.pick (.t 25) (.t 34) (.c (.bool false))), [9, 18], [9, 18, 8, 2, 7, 1, 0, 6, 5, 4, 3, 10, 17, 14, 16, 13, 12, 11, 15], 2304⟩]) (.cond (.t 35) (.seq (.reg false [⟨(some 8), none, (.mov (.c (.int .i64 111))), [], [], 576⟩]) .ret) .skip))) (.seq (.seq (.reg false [⟨(some 36), none, (.mov (.t 0)), [], [], 2368⟩,
  ⟨(some 37), none, (.call 51 [(.t 36)]), [], [], 2432⟩,
  ⟨(some 38), none, (.un .not (.t 37)), [], [], 2496⟩]) (.cond (.t 38) (.seq (.reg false [⟨(some 8), none, (.mov (.c (.int .i64 7))), [], [], 576⟩]) .ret) .skip)) (.seq (.reg false [⟨(some 39), none, (.mov (.t 0)), [], [], 2560⟩,
  ⟨(some 40), none, (.mov (.t 1)), [], [], 2624⟩,
  ⟨(some 41), none, (.mov (.t 3)), [], [], 2688⟩,
  ⟨(some 42), none, (.mk [(.bool false), (.str [])] [(0, (1, (.c (.bool true)))), (1, (1, (.t 41)))]), [], [], 2752⟩,
  ⟨(some 43), none, (.call 52 [(.t 39), (.t 40), (.t 42), (.c (.int .i64 1))]), [], [], 2816⟩]) (.seq (.reg false [⟨(some 8), none, (.mov (.c (.int .i64 0))), [], [], 576⟩]) .ret)))))⟩
theorem ok40 : FnOk Try.prog 40 ir40 := ⟨Try.f40, 0, Try.func40, by kernel_rfl, by kernel_rfl⟩
/-- slices.Clone[[]muniment/disk.entry,muniment/disk.entry] -/
def ir41 : IFun := ⟨1, 8, [(.tmp 2)], (.seq (.reg false [⟨(some 2), none, (.mov (.c (.sl .nil 0 []))), [], [], 192⟩]) (.seq (.seq (.reg false [⟨(some 3), none, (.mov (.t 0)), [], [], 256⟩,
  ⟨(some 4), none, (.eqn false .sl (.t 3) (.c (.sl .nil 0 []))), [], [], 320⟩]) (.cond (.t 4) (.seq (.reg false [⟨(some 2), none, (.mov (.c (.sl .nil 0 []))), [], [], 192⟩]) .ret) .skip)) (.seq (.reg false [⟨(some 5), none, (.mksl 6 0 [] []), [], [], 384⟩,
  ⟨(some 6), none, (.mov (.t 0)), [], [], 448⟩,
  ⟨(some 7), none, (.app 6 72 (.t 5) (.t 6)), [], [], 512⟩,
  ⟨(some 2), none, (.mov (.t 7)), [], [], 192⟩]) .ret)))⟩
theorem ok41 : FnOk Try.prog 41 ir41 := ⟨Try.f41, 0, Try.func41, by kernel_rfl, by kernel_rfl⟩
/-- (*muniment/disk.Disk).Move -/
def ir42 : IFun := ⟨3, 39, [(.tmp 6)], (.seq (.reg false [⟨(some 6), none, (.mov (.c (.int .i64 0))), [], [], 448⟩]) (.seq (.reg false [⟨(some 10), none, (.mov (.t 0)), [], [], 704⟩,
  ⟨(some 11), none, (.mov (.t 1)), [], [], 768⟩,
  ⟨(some 12), none, (.call 36 [(.t 10), (.t 11), (.c (.bool true))]), [], [], 832⟩,
  ⟨(some 9), none, (.mov (.t 12)), [], [], 640⟩,
  ⟨(some 13), none, (.ext 0 (.t 9)), [], [], 896⟩,
  ⟨(some 14), none, (.ext 1 (.t 9)), [], [], 960⟩,
  ⟨(some 7), none, (.new [(.bool false), (.str [])]), [], [], 512⟩,
  ⟨none, none, (.st true 2 (.t 7) (.t 13)), [], [], 64⟩,
  ⟨(some 8), none, (.mov (.t 14)), [], [], 576⟩]) (.seq (.block 0 (.seq (.reg false [⟨(some 16), none, (.mov (.t 8)), [], [], 1088⟩,
  ⟨(some 17), none, (.bin .neq (.t 16) (.c (.int .i64 0))), [], [], 1152⟩,
  ⟨(some 15), none, (.mov (.t 17)), [], [], 1024⟩]) (.cond (.t 15) (.seq (.reg false [⟨(some 18), none, (.mov (.t 8)), [], [], 1216⟩,
  ⟨(some 6), none, (.mov (.t 18)), [], [], 448⟩]) .ret) (.seq (.reg false [⟨(some 20), none, (.mov (.t 2)), [], [], 1344⟩,
  ⟨(some 21), none, (.call 23 [(.t 20)]), [], [], 1408⟩,
  ⟨(some 22), none, (.un .not (.t 21)), [], [], 1472⟩,
  ⟨(some 19), none, (.mov (.t 22)), [], [], 1280⟩]) (.cond (.t 19) (.seq (.reg false [⟨(some 6), none, (.mov (.c (.int .i64 110))), [], [], 448⟩]) .ret) (.seq (.reg false [⟨(some 24), none, (.mov (.t 1)), [], [], 1600⟩,
  ⟨(some 25), none, (.mov (.t 2)), [], [], 1664⟩,
  ⟨(some 26), none, (.bin .eql (.t 24) (.t 25)), [], [], 1728⟩,
  ⟨(some 23), none, (.mov (.t 26)), [], [], 1536⟩]) (.cond (.t 23) (.seq (.reg false [⟨(some 6), none, (.mov (.c (.int .i64 1))), [], [], 448⟩]) .ret) (.seq (.reg false [⟨(some 28), none, (.mov (.t 0)), [], [], 1856⟩,
  ⟨(some 29), none, (.call 51 [(.t 28)]), [], [], 1920⟩,
  ⟨(some 30), none, (.un .not (.t 29)), [], [], 1984⟩,
  ⟨(some 27), none, (.mov (.t 30)), [], [], 1792⟩]) (.cond (.t 27) (.seq (.reg false [⟨(some 6), none, (.mov (.c (.int .i64 7))), [], [], 448⟩]) .ret) .skip))))))))) (.seq (.reg false [⟨(some 31), none, (.mov (.t 0)), [], [], 2048⟩,
  ⟨(some 32), none, (.mov (.t 2)), [], [], 2112⟩,
  ⟨(some 33), none, (.ld true 2 (.t 7)), [], [], 2176⟩,
  ⟨(some 34), none, (.call 52 [(.t 31), (.t 32), (.t 33), (.c (.int .i64 2))]), [], [], 2240⟩]) (.seq (.reg false [⟨(some 35), none, (.mov (.t 0)), [], [], 2304⟩,
  ⟨(some 36), none, (.mov (.t 1)), [], [], 2368⟩,
  ⟨(some 37), none, (.mk [(.bool false), (.str [])] []), [], [], 2432⟩,
  ⟨(some 38), none, (.call 52 [(.t 35), (.t 36), (.t 37), (.c (.int .i64 2))]), [], [], 2496⟩]) (.seq (.reg false [⟨(some 6), none, (.mov (.c (.int .i64 0))), [], [], 448⟩]) .ret))))))⟩
theorem ok42 : FnOk Try.prog 42 ir42 := ⟨Try.f42, 0, Try.func42, by kernel_rfl, by kernel_rfl⟩
/-- (*muniment/disk.Disk).Remove -/
def ir43 : IFun := ⟨2, 23, [(.tmp 4)], (.seq (.reg false [⟨(some 4), none, (.mov (.c (.int .i64 0))), [], [], 320⟩]) (.seq (.seq (.reg false [⟨(some 8), none, (.mov (.t 0)), [], [], 576⟩,
  ⟨(some 9), none, (.mov (.t 1)), [], [], 640⟩,
  ⟨(some 10), none, (.call 36 [(.t 8), (.t 9), (.c (.bool true))]), [], [], 704⟩,
  ⟨(some 7), none, (.mov (.t 10)), [], [], 512⟩,
  ⟨(some 11), none, (.ext 0 (.t 7)), [], [], 768⟩,
  ⟨(some 12), none, (.ext 1 (.t 7)), [], [], 832⟩,
  ⟨(some 5), none, (.new [(.bool false), (.str [])]), [], [], 384⟩,
  ⟨none, none, (.st true 2 (.t 5) (.t 11)), [], [], 64⟩,
  ⟨(some 6), none, (.mov (.t 12)), [], [], 448⟩]) (.seq (.reg false [⟨(some 13), none, (.mov (.t 6)), [], [], 896⟩,
  ⟨(some 14), none, (.bin .neq (.t 13) (.c (.int .i64 0))), [], [], 960⟩]) (.cond (.t 14) (.seq (.reg false [⟨(some 15), none, (.mov (.t 6)), [], [], 1024⟩,
  ⟨(some 4), none, (.mov (.t 15)), [], [], 320⟩]) .ret) .skip))) (.seq (.seq (.reg false [⟨(some 16), none, (.mov (.t 0)), [], [], 1088⟩,
  ⟨(some 17), none, (.call 51 [(.t 16)]), [], [], 1152⟩,
  ⟨(some 18), none, (.un .not (.t 17)), [], [], 1216⟩]) (.cond (.t 18) (.seq (.reg false [⟨(some 4), none, (.mov (.c (.int .i64 7))), [], [], 320⟩]) .ret) .skip)) (.seq (.reg false [⟨(some 19), none, (.mov (.t 0)), [], [], 1280⟩,
  ⟨(some 20), none, (.mov (.t 1)), [], [], 1344⟩,
  ⟨(some 21), none, (.mk [(.bool false), (.str [])] []), [], [], 1408⟩,
  ⟨(some 22), none, (.call 52 [(.t 19), (.t 20), (.t 21), (.c (.int .i64 2))]), [], [], 1472⟩]) (.seq (.reg false [⟨(some 4), none, (.mov (.c (.int .i64 0))), [], [], 320⟩]) .ret)))))⟩
theorem ok43 : FnOk Try.prog 43 ir43 := ⟨Try.f43, 0, Try.func43, by kernel_rfl, by kernel_rfl⟩
/-- (*muniment/disk.Disk).Truncate -/
def ir44 : IFun := ⟨3, 41, [(.tmp 6)], (.seq (.reg false [⟨(some 6), none, (.mov (.c (.int .i64 0))), [], [], 448⟩]) (.seq (.reg false [⟨(some 10), none, (.mov (.t 0)), [], [], 704⟩,
  ⟨(some 11), none, (.mov (.t 1)), [], [], 768⟩,
  ⟨(some 12), none, (.call 36 [(.t 10), (.t 11), (.c (.bool true))]), [], [], 832⟩,
  ⟨(some 9), none, (.mov (.t 12)), [], [], 640⟩,
  ⟨(some 13), none, (.ext 0 (.t 9)), [], [], 896⟩,
  ⟨(some 14), none, (.ext 1 (.t 9)), [], [], 960⟩,
  ⟨(some 7), none, (.new [(.bool false), (.str [])]), [], [], 512⟩,
  ⟨none, none, (.st true 2 (.t 7) (.t 13)), [], [], 64⟩,
  ⟨(some 8), none, (.mov (.t 14)), [], [], 576⟩]) (.seq (.block 0 (.seq (.reg false [⟨(some 16), none, (.mov (.t 8)), [], [], 1088⟩,
  ⟨(some 17), none, (.bin .neq (.t 16) (.c (.int .i64 0))), [], [], 1152⟩,
  ⟨(some 15), none, (.mov (.t 17)), [], [], 1024⟩]) (.cond (.t 15) (.seq (.reg false [⟨(some 18), none, (.mov (.t 8)), [], [], 1216⟩,
  ⟨(some 6), none, (.mov (.t 18)), [], [], 448⟩]) .ret) (.seq (.reg false [⟨(some 20), none, (.mov (.t 2)), [], [], 1344⟩,
  ⟨(some 21), none, (.bin .lss (.t 20) (.c (.int .i64 0))), [], [], 1408⟩,
  ⟨(some 22), none, (.mov (.t 21)), [], [], 1472⟩,
  ⟨(some 23), (some (22, false)), (.mov (.t 2)), [], [], 1536⟩,
  ⟨(some 24), (some (22, false)), (.fad 1 (.t 7)), [], [], 1600⟩,
  ⟨(some 25), (some (22, false)), (.ld false 1 (.t 24)), [], [], 1664⟩,
  ⟨(some 26), (some (22, false)), (.len true (.t 25)), [], [], 1728⟩,
  ⟨(some 27), (some (22, false)), (.bin .gtr (.t 23) (.t 26)), [], [], 1792⟩,
  ⟨(some 28), none, (.pick (.t 22) (.c (.bool true)) (.t 27)), [], [], 1856⟩,
  ⟨(some 19), none, (.mov (.t 28)), [], [], 1280⟩]) (.cond (.t 19) (.seq (.reg false [⟨(some 6), none, (.mov (.c (.int .i64 1))), [], [], 448⟩]) .ret) (.seq (.reg false [⟨(some 30), none, (.mov (.t 0)), [], [], 1984⟩,
  ⟨(some 31), none, (.call 51 [(.t 30)]), [], [], 2048⟩,
  ⟨(some 32), none, (.un .not (.t 31)), [], [], 2112⟩,
  ⟨(some 29), none, (.mov (.t 32)), [], [], 1920⟩]) (.cond (.t 29) (.seq (.reg false [⟨(some 6), none, (.mov (.c (.int .i64 7))), [], [], 448⟩]) .ret) .skip))))))) (.seq (.reg false [⟨(some 33), none, (.mov (.t 0)), [], [], 2176⟩,
  ⟨(some 34), none, (.mov (.t 1)), [], [], 2240⟩,
  ⟨(some 35), none, (.fad 1 (.t 7)), [], [], 2304⟩,
  ⟨(some 36), none, (.ld false 1 (.t 35)), [], [], 2368⟩,
  ⟨(some 37), none, (.mov (.t 2)), [], [], 2432⟩,
  ⟨(some 38), none, (.slS (.t 36) none (some (.t 37))), [], [], 2496⟩,
  ⟨(some 39), none, (.mk [(.bool false), (.str [])] [(0, (1, (.c (.bool true)))), (1, (1, (.t 38)))]), [], [], 2560⟩,
  ⟨(some 40), none, (.call 52 [(.t 33), (.t 34), (.t 39), (.c (.int .i64 2))]), [], [], 2624⟩]) (.seq (.reg false [⟨(some 6), none, (.mov (.c (.int .i64 0))), [], [], 448⟩]) .ret)))))⟩
theorem ok44 : FnOk Try.prog 44 ir44 := ⟨Try.f44, 0, Try.func44, by kernel_rfl, by kernel_rfl⟩
/-- slices.DeleteFunc[[]muniment/disk.entry,muniment/disk.entry] -/
def lp48_0 : IC := (.seq (.seq (.reg false [⟨(some 16), none, (.mov (.t 6)), [], [], 1088⟩,
  ⟨(some 17), none, (.mov (.t 0)), [], [], 1152⟩,
  ⟨(some 18), none, (.len false (.t 17)), [], [], 1216⟩,
  ⟨(some 19), none, (.bin .lss (.t 16) (.t 18)), [], [], 1280⟩]) (.cond (.t 19) .skip (.exit 0))) (.seq (.block 1 (.seq (.reg false [⟨(some 22), none, (.mov (.t 0)), [], [], 1472⟩,
  ⟨(some 23), none, (.mov (.t 6)), [], [], 1536⟩,
  ⟨(some 24), none, (.iaL 6 (.t 22) (.t 23)), [], [], 1600⟩,
  ⟨(some 25), none, (.ld true 6 (.t 24)), [], [], 1664⟩,
  ⟨(some 7), none, (.new [(.str []), (.bool false), (.str []), (.bool false), (.str []), (.int .i64 0)]), [], [], 512⟩,
  ⟨none, none, (.st true 6 (.t 7) (.t 25)), [], [], 64⟩]) (.seq (.reg false [⟨(some 26), none, (.mov (.t 1)), [], [], 1728⟩,
  ⟨(some 27), none, (.ld true 6 (.t 7)), [], [], 1792⟩,
  ⟨(some 28), none, (.callv (.t 26) [(.t 27)]), [], [], 1856⟩,
  ⟨(some 29), none, (.un .not (.t 28)), [], [], 1920⟩]) (.cond (.t 29) (.seq (.reg false [⟨(some 30), none, (.mov (.t 0)), [], [], 1984⟩,
  ⟨(some 31), none, (.mov (.t 5)), [], [], 2048⟩,
  ⟨(some 32), none, (.ld true 6 (.t 7)), [], [], 2112⟩,
  ⟨(some 33), none, (.iaL 6 (.t 30) (.t 31)), [], [], 2176⟩,
  ⟨none, none, (.st true 6 (.t 33) (.t 32)), [], [], 64⟩]) (.reg false [⟨(some 34), none, (.mov (.t 5)), [], [], 2240⟩,
  ⟨(some 35), none, (.bin .add (.t 34) (.c (.int .i64 1))), [], [], 2304⟩,
  ⟨(some 5), none, (.mov (.t 35)), [], [], 384⟩])) .skip)))) (.reg false [⟨(some 20), none, (.mov (.t 6)), [], [], 1344⟩,
  ⟨(some 21), none, (.bin .add (.t 20) (.c (.int .i64 1))), [], [], 1408⟩,
  ⟨(some 6), none, (.mov (.t 21)), [], [], 448⟩])))
def ir48 : IFun := ⟨2, 42, [(.tmp 4)], (.seq (.reg false [⟨(some 4), none, (.mov (.c (.sl .nil 0 []))), [], [], 320⟩]) (.seq (.reg false [⟨(some 8), none, (.mov (.t 0)), [], [], 576⟩,
  ⟨(some 9), none, (.mov (.t 1)), [], [], 640⟩,
  ⟨(some 10), none, (.call 53 [(.t 8), (.t 9)]), [], [], 704⟩,
  ⟨(some 5), none, (.mov (.t 10)), [], [], 384⟩]) (.seq (.seq (.reg false [⟨(some 11), none, (.mov (.t 5)), [], [], 768⟩,
  ⟨(some 12), none, (.bin .eql (.t 11) (.c (.int .i64 (-1)))), [], [], 832⟩]) (.cond (.t 12) (.seq (.reg false [⟨(some 13), none, (.mov (.t 0)), [], [], 896⟩,
  ⟨(some 4), none, (.mov (.t 13)), [], [], 320⟩]) .ret) .skip)) (.seq (.seq (.reg false [⟨(some 14), none, (.mov (.t 5)), [], [], 960⟩,
  ⟨(some 15), none, (.bin .add (.t 14) (.c (.int .i64 1))), [], [], 1024⟩,
  ⟨(some 6), none, (.mov (.t 15)), [], [], 448⟩]) (.block 0 (.loop lp48_0))) (.seq (.reg false [⟨(some 36), none, (.mov (.t 0)), [], [], 2368⟩,
  ⟨(some 37), none, (.mov (.t 5)), [], [], 2432⟩,
  ⟨(some 38), none, (.slL 6 (.t 36) (some (.t 37)) none none), [], [], 2496⟩,
  ⟨none, none, (.clr 6 [(.str []), (.bool false), (.str []), (.bool false), (.str []), (.int .i64 0)] (.t 38)), [], [], 64⟩]) (.seq (.reg false [⟨(some 39), none, (.mov (.t 0)), [], [], 2560⟩,
  ⟨(some 40), none, (.mov (.t 5)), [], [], 2624⟩,
  ⟨(some 41), none, (.slL 6 (.t 39) none (some (.t 40)) none), [], [], 2688⟩,
  ⟨(some 4), none, (.mov (.t 41)), [], [], 320⟩]) .ret))))))⟩
theorem ok48 : FnOk Try.prog 48 ir48 := ⟨Try.f48, 0, Try.func48, by kernel_rfl, by kernel_rfl⟩
/-- (*muniment/disk.Disk).tidy$1 -/
def ir49 : IFun := ⟨1, 13, [(.tmp 2)], (.seq (.reg false [⟨(some 1), none, (.box 6 (.t 0)), [], [], 128⟩,
  ⟨(some 2), none, (.mov (.c (.bool false))), [], [], 192⟩]) (.seq (.reg false [⟨(some 3), none, (.fad 1 (.t 1)), [], [], 256⟩,
  ⟨(some 4), none, (.fad 0 (.t 3)), [], [], 320⟩,
  ⟨(some 5), none, (.ld false 1 (.t 4)), [], [], 384⟩,
  ⟨(some 6), none, (.un .not (.t 5)), [], [], 448⟩,
  ⟨(some 7), none, (.mov (.t 6)), [], [], 512⟩,
  ⟨(some 8), (some (7, true)), (.fad 3 (.t 1)), [], [], 576⟩,
  ⟨(some 9), (some (7, true)), (.fad 0 (.t 8)), [], [], 640⟩,
  ⟨(some 10), (some (7, true)), (.ld false 1 (.t 9)), [], [], 704⟩,
  ⟨(some 11), (some (7, true)), (.un .not (.t 10)), [], [], 768⟩,
  ⟨(some 12), none, (.pick (.t 7) (.t 11) (.c (.bool false))), [], [], 832⟩,
  ⟨(some 2), none, (.mov (.t 12)), [], [], 192⟩]) .ret))⟩
theorem ok49 : FnOk Try.prog 49 ir49 := ⟨Try.f49, 0, Try.func49, by kernel_rfl, by kernel_rfl⟩
/-- (*muniment/disk.Disk).face -/
def ir50 : IFun := ⟨2, 23, [(.cell 4 true 2)], (.seq (.reg false [⟨(some 4), none, (.new [(.bool false), (.str [])]), [], [], 320⟩]) (.seq (.seq (.reg false [⟨(some 8), none, (.mov (.t 0)), [], [], 576⟩,
  ⟨(some 9), none, (.mov (.t 1)), [], [], 640⟩,
  ⟨(some 10), none, (.call 54 [(.t 8), (.t 9)]), [], [], 704⟩,
  ⟨(some 7), none, (.mov (.t 10)), [], [], 512⟩,
  ⟨(some 11), none, (.ext 0 (.t 7)), [], [], 768⟩,
  ⟨(some 12), none, (.ext 1 (.t 7)), [], [], 832⟩,
  ⟨(some 5), none, (.mov (.t 11)), [], [], 384⟩,
  ⟨(some 6), none, (.mov (.t 12)), [], [], 448⟩]) (.seq (.reg false [⟨(some 13), none, (.mov (.t 6)), [], [], 896⟩]) (.cond (.t 13) (.seq (.reg false [⟨(some 14), none, (.mov (.t 0)), [], [], 960⟩,
  ⟨(some 15), none, (.chk (.t 14)), [], [], 1024⟩,
  ⟨(some 16), none, (.fad 0 (.t 15)), [], [], 1088⟩,
  ⟨(some 17), none, (.ld false 1 (.t 16)), [], [], 1152⟩,
  ⟨(some 18), none, (.mov (.t 5)), [], [], 1216⟩,
  ⟨(some 19), none, (.iaL 6 (.t 17) (.t 18)), [], [], 1280⟩,
  ⟨(some 20), none, (.fad 1 (.t 19)), [], [], 1344⟩,
  ⟨(some 21), none, (.ld true 2 (.t 20)), [], [], 1408⟩,
  ⟨none, none, (.st true 2 (.t 4) (.t 21)), [], [], 64⟩]) .ret) .skip))) (.seq (.reg false [⟨(some 22), none, (.mk [(.bool false), (.str [])] []), [], [], 1472⟩,
  ⟨none, none, (.st true 2 (.t 4) (.t 22)), [], [], 64⟩]) .ret)))⟩
theorem ok50 : FnOk Try.prog 50 ir50 := ⟨Try.f50, 0, Try.func50, by kernel_rfl, by kernel_rfl⟩
/-- (*muniment/disk.Disk).goes -/
def lp51_0 : IC := (.seq (.reg false [⟨(some 11), none, (.bin .lss (.t 10) (.t 9)), [], [], 768⟩]) (.seq (.cond (.t 11) .skip (.exit 0)) (.seq (.block 1 (.seq (.reg false [⟨(some 12), none, (.mov (.t 10)), [], [], 832⟩,
  ⟨(some 13), none, (.iaL 3 (.t 8) (.t 10)), [], [], 896⟩,
  ⟨(some 14), none, (.ld true 3 (.t 13)), [], [], 960⟩,
  ⟨(some 4), none, (.new [(.int .i64 0), (.int .i64 0), (.int .i64 0)]), [], [], 320⟩,
  ⟨(some 3), none, (.mov (.t 12)), [], [], 256⟩,
  ⟨none, none, (.st true 3 (.t 4) (.t 14)), [], [], 64⟩]) (.seq (.seq (.reg true [⟨(some 15), none, (.fad 0 (.t 4)), [], [], 1024⟩,
  ⟨(some 16), none, (.ld false 1 (.t 15)), [0], [0], 1088⟩,
  ⟨(some 17), none, (.mov (.t 0)), [], [], 1152⟩,
  ⟨(some 18), none, (.chk (.t 17)), [2], [2], 1216⟩,
  ⟨(some 19), none, (.fad 3 (.t 18)), [3], [3, 2], 1280⟩,
  ⟨(some 20), none, (.ld false 1 (.t 19)), [4], [4, 3, 2], 1344⟩,
  ⟨(some 21), none, (.bin .neq (.t 16) (.t 20)), [1, 5], [1, 5, 0, 4, 3, 2], 1408⟩]) (.cond (.t 21) (.exit 1) .skip)) (.seq (.reg false [⟨(some 22), none, (.mov (.t 0)), [], [], 1472⟩,
  ⟨(some 23), none, (.mov (.t 0)), [], [], 1536⟩,
  ⟨(some 24), none, (.chk (.t 23)), [], [], 1600⟩,
  ⟨(some 25), none, (.fad 2 (.t 24)), [], [], 1664⟩,
  ⟨(some 26), none, (.ld false 1 (.t 25)), [], [], 1728⟩,
  ⟨(some 27), none, (.mov (.t 3)), [], [], 1792⟩,
  ⟨(some 28), none, (.mov (.t 3)), [], [], 1856⟩,
  ⟨(some 29), none, (.bin .add (.t 28) (.c (.int .i64 1))), [], [], 1920⟩,
  ⟨(some 30), none, (.call 55 [(.t 26), (.t 27), (.t 29)]), [], [], 1984⟩,
  ⟨(some 31), none, (.chk (.t 22)), [], [], 2048⟩,
  ⟨(some 32), none, (.fad 2 (.t 31)), [], [], 2112⟩,
  ⟨none, none, (.st false 1 (.t 32) (.t 30)), [], [], 64⟩]) (.seq (.reg false [⟨(some 33), none, (.mov (.t 0)), [], [], 2176⟩,
  ⟨(some 34), none, (.fad 1 (.t 4)), [], [], 2240⟩,
  ⟨(some 35), none, (.ld false 1 (.t 34)), [], [], 2304⟩,
  ⟨(some 36), none, (.fad 2 (.t 4)), [], [], 2368⟩,
  ⟨(some 37), none, (.ld false 1 (.t 36)), [], [], 2432⟩,
  ⟨(some 38), none, (.call 11 [(.t 33), (.t 35), (.t 37)]), [], [], 2496⟩]) (.seq (.reg false [⟨(some 2), none, (.mov (.c (.bool false))), [], [], 192⟩]) .ret)))))) (.reg false [⟨(some 39), none, (.bin .add (.t 10) (.c (.int .i64 1))), [], [], 2560⟩,
  ⟨(some 10), none, (.mov (.t 39)), [], [], 704⟩]))))
def ir51 : IFun := ⟨1, 47, [(.tmp 2)], (.seq (.reg false [⟨(some 2), none, (.mov (.c (.bool false))), [], [], 192⟩]) (.seq (.seq (.reg false [⟨(some 5), none, (.mov (.t 0)), [], [], 384⟩,
  ⟨(some 6), none, (.chk (.t 5)), [], [], 448⟩,
  ⟨(some 7), none, (.fad 2 (.t 6)), [], [], 512⟩,
  ⟨(some 8), none, (.ld false 1 (.t 7)), [], [], 576⟩,
  ⟨(some 9), none, (.len false (.t 8)), [], [], 640⟩,
  ⟨(some 10), none, (.mov (.c (.int .i64 0))), [], [], 704⟩]) (.block 0 (.loop lp51_0))) (.seq (.reg false [⟨(some 40), none, (.mov (.t 0)), [], [], 2624⟩,
  ⟨(some 41), none, (.chk (.t 40)), [], [], 2688⟩,
  ⟨(some 42), none, (.fad 3 (.t 41)), [], [], 2752⟩,
  ⟨(some 43), none, (.ld false 1 (.t 42)), [], [], 2816⟩,
  ⟨(some 44), none, (.bin .add (.t 43) (.c (.int .i64 1))), [], [], 2880⟩,
  ⟨(some 45), none, (.chk (.t 40)), [], [], 2944⟩,
  ⟨(some 46), none, (.fad 3 (.t 45)), [], [], 3008⟩,
  ⟨none, none, (.st false 1 (.t 46) (.t 44)), [], [], 64⟩]) (.seq (.reg false [⟨(some 2), none, (.mov (.c (.bool true))), [], [], 192⟩]) .ret))))⟩
theorem ok51 : FnOk Try.prog 51 ir51 := ⟨Try.f51, 0, Try.func51, by kernel_rfl, by kernel_rfl⟩
/-- (*muniment/disk.Disk).lay -/
def ir52 : IFun := ⟨4, 46, [], (.seq (.reg false [⟨(some 6), none, (.box 2 (.t 2)), [], [], 448⟩]) (.seq (.reg false [⟨(some 11), none, (.mov (.t 0)), [], [], 768⟩,
  ⟨(some 12), none, (.mov (.t 1)), [], [], 832⟩,
  ⟨(some 13), none, (.call 54 [(.t 11), (.t 12)]), [], [], 896⟩,
  ⟨(some 10), none, (.mov (.t 13)), [], [], 704⟩,
  ⟨(some 14), none, (.ext 0 (.t 10)), [], [], 960⟩,
  ⟨(some 15), none, (.ext 1 (.t 10)), [], [], 1024⟩,
  ⟨(some 8), none, (.mov (.t 14)), [], [], 576⟩,
  ⟨(some 9), none, (.mov (.t 15)), [], [], 640⟩]) (.seq (.seq (.reg false [⟨(some 16), none, (.mov (.t 9)), [], [], 1088⟩,
  ⟨(some 17), none, (.un .not (.t 16)), [], [], 1152⟩]) (.cond (.t 17) (.reg false [⟨(some 18), none, (.mov (.t 0)), [], [], 1216⟩,
  ⟨(some 19), none, (.mov (.t 0)), [], [], 1280⟩,
  ⟨(some 20), none, (.chk (.t 19)), [], [], 1344⟩,
  ⟨(some 21), none, (.fad 0 (.t 20)), [], [], 1408⟩,
  ⟨(some 22), none, (.ld false 1 (.t 21)), [], [], 1472⟩,
  ⟨(some 23), none, (.mov (.t 8)), [], [], 1536⟩,
  ⟨(some 24), none, (.mov (.t 1)), [], [], 1600⟩,
  ⟨(some 25), none, (.mk [(.str []), (.bool false), (.str []), (.bool false), (.str []), (.int .i64 0)] [(0, (1, (.t 24)))]), [], [], 1664⟩,
  ⟨(some 26), none, (.mksl 6 1 [(.str []), (.bool false), (.str []), (.bool false), (.str []), (.int .i64 0)] [(0, (6, (.t 25)))]), [], [], 1728⟩,
  ⟨(some 27), none, (.call 56 [(.t 22), (.t 23), (.t 26)]), [], [], 1792⟩,
  ⟨(some 28), none, (.chk (.t 18)), [], [], 1856⟩,
  ⟨(some 29), none, (.fad 0 (.t 28)), [], [], 1920⟩,
  ⟨none, none, (.st false 1 (.t 29) (.t 27)), [], [], 64⟩]) .skip)) (.reg true [⟨(some 30), none, (.mov (.t 0)), [], [], 1984⟩,
  ⟨(some 31), none, (.chk (.t 30)), [0], [0], 2048⟩,
  ⟨(some 32), none, (.fad 0 (.t 31)), [1], [1, 0], 2112⟩,
  ⟨(some 33), none, (.ld false 1 (.t 32)), [2], [2, 1, 0], 2176⟩,
  ⟨(some 34), none, (.mov (.t 8)), [], [], 2240⟩,
  ⟨(some 35), none, (.mov (.t 0)), [], [], 2304⟩,
  ⟨(some 36), none, (.chk (.t 35)), [5], [5], 2368⟩,
  ⟨(some 37), none, (.fad 0 (.t 36)), [6], [6, 5], 2432⟩,
  ⟨(some 38), none, (.ld false 1 (.t 37)), [7], [7, 6, 5], 2496⟩,
  ⟨(some 39), none, (.mov (.t 8)), [], [], 2560⟩,
  ⟨(some 40), none, (.ld true 2 (.t 6)), [], [], 2624⟩,
  ⟨(some 41), none, (.mov (.t 3)), [], [], 2688⟩,
  ⟨(some 42), none, (.iaL 6 (.t 33) (.t 34)), [3, 4, 0, 1, 2, 3, 4, 8, 10], [3, 4, 0, 1, 2, 8, 10, 7, 6, 5], 2752⟩,
  ⟨(some 43), none, (.fad 1 (.t 42)), [12, 0, 1, 2, 3, 4, 8, 10], [12, 0, 1, 2, 3, 4, 8, 10, 7, 6, 5], 2816⟩,
  ⟨none, none, (.st true 2 (.t 43) (.t 40)), [13, 10, 0, 1, 2, 3, 4, 8, 10], [13, 10, 0, 1, 2, 3, 4, 8, 12, 7, 6, 5], 64⟩,
  ⟨(some 44), none, (.iaL 6 (.t 38) (.t 39)), [8, 9, 0, 1, 2, 3, 4, 5, 6, 7, 8, 9, 10, 11, 12, 13, 14], [8, 9, 0, 1, 2, 3, 4, 5, 6, 7, 10, 11, 12, 13, 14], 2880⟩,
  ⟨(some 45), none, (.fad 5 (.t 44)), [15, 0, 1, 2, 3, 4, 5, 6, 7, 8, 9, 10, 11, 12, 13, 14], [15, 0, 1, 2, 3, 4, 5, 6, 7, 8, 9, 10, 11, 12, 13, 14], 2944⟩,
  ⟨none, none, (.st false 1 (.t 45) (.t 41)), [16, 11, 14, 0, 1, 2, 3, 4, 5, 6, 7, 8, 9, 10, 11, 12, 13, 14], [16, 11, 14, 0, 1, 2, 3, 4, 5, 6, 7, 8, 9, 10, 12, 13, 15], 64⟩]))))⟩
theorem ok52 : FnOk Try.prog 52 ir52 := ⟨Try.f52, 0, Try.func52, by kernel_rfl, by kernel_rfl⟩
/-- slices.IndexFunc[[]muniment/disk.entry,muniment/disk.entry] -/
def lp53_0 : IC := (.seq (.reg false [⟨(some 9), none, (.bin .lss (.t 8) (.t 7)), [], [], 640⟩]) (.seq (.cond (.t 9) .skip (.exit 0)) (.seq (.block 1 (.seq (.reg false [⟨(some 10), none, (.mov (.t 8)), [], [], 704⟩,
  ⟨(some 5), none, (.mov (.t 10)), [], [], 384⟩]) (.seq (.reg false [⟨(some 11), none, (.mov (.t 1)), [], [], 768⟩,
  ⟨(some 12), none, (.mov (.t 0)), [], [], 832⟩,
  ⟨(some 13), none, (.mov (.t 5)), [], [], 896⟩,
  ⟨(some 14), none, (.iaL 6 (.t 12) (.t 13)), [], [], 960⟩,
  ⟨(some 15), none, (.ld true 6 (.t 14)), [], [], 1024⟩,
  ⟨(some 16), none, (.callv (.t 11) [(.t 15)]), [], [], 1088⟩]) (.cond (.t 16) (.seq (.reg false [⟨(some 17), none, (.mov (.t 5)), [], [], 1152⟩,
  ⟨(some 4), none, (.mov (.t 17)), [], [], 320⟩]) .ret) .skip)))) (.reg false [⟨(some 18), none, (.bin .add (.t 8) (.c (.int .i64 1))), [], [], 1216⟩,
  ⟨(some 8), none, (.mov (.t 18)), [], [], 576⟩]))))
def ir53 : IFun := ⟨2, 19, [(.tmp 4)], (.seq (.reg false [⟨(some 4), none, (.mov (.c (.int .i64 0))), [], [], 320⟩]) (.seq (.seq (.reg false [⟨(some 6), none, (.mov (.t 0)), [], [], 448⟩,
  ⟨(some 7), none, (.len false (.t 6)), [], [], 512⟩,
  ⟨(some 8), none, (.mov (.c (.int .i64 0))), [], [], 576⟩]) (.block 0 (.loop lp53_0))) (.seq (.reg false [⟨(some 4), none, (.mov (.c (.int .i64 (-1)))), [], [], 320⟩]) .ret)))⟩
theorem ok53 : FnOk Try.prog 53 ir53 := ⟨Try.f53, 0, Try.func53, by kernel_rfl, by kernel_rfl⟩
/-- (*muniment/disk.Disk).place -/
def ir54 : IFun := ⟨2, 14, [(.tmp 4), (.tmp 5)], (.seq (.reg false [⟨(some 4), none, (.mov (.c (.int .i64 0))), [], [], 320⟩,
  ⟨(some 5), none, (.mov (.c (.bool false))), [], [], 384⟩]) (.seq (.reg false [⟨(some 6), none, (.mov (.t 0)), [], [], 448⟩,
  ⟨(some 7), none, (.chk (.t 6)), [], [], 512⟩,
  ⟨(some 8), none, (.fad 0 (.t 7)), [], [], 576⟩,
  ⟨(some 9), none, (.ld false 1 (.t 8)), [], [], 640⟩,
  ⟨(some 10), none, (.mov (.t 1)), [], [], 704⟩,
  ⟨(some 11), none, (.call 57 [(.t 9), (.t 10), (.c (.fn 58 []))]), [], [], 768⟩,
  ⟨(some 12), none, (.ext 0 (.t 11)), [], [], 832⟩,
  ⟨(some 13), none, (.ext 1 (.t 11)), [], [], 896⟩,
  ⟨(some 4), none, (.mov (.t 12)), [], [], 320⟩,
  ⟨(some 5), none, (.mov (.t 13)), [], [], 384⟩]) .ret))⟩
theorem ok54 : FnOk Try.prog 54 ir54 := ⟨Try.f54, 0, Try.func54, by kernel_rfl, by kernel_rfl⟩
/-- slices.Delete[[]muniment/api.Fall,muniment/api.Fall] -/
def ir55 : IFun := ⟨3, 33, [(.tmp 6)], (.seq (.reg false [⟨(some 6), none, (.mov (.c (.sl .nil 0 []))), [], [], 448⟩]) (.seq (.reg false [⟨(some 8), none, (.mov (.t 0)), [], [], 576⟩,
  ⟨(some 9), none, (.mov (.t 1)), [], [], 640⟩,
  ⟨(some 10), none, (.mov (.t 2)), [], [], 704⟩,
  ⟨(some 11), none, (.mov (.t 0)), [], [], 768⟩,
  ⟨(some 12), none, (.len false (.t 11)), [], [], 832⟩,
  ⟨(some 13), none, (.slL 3 (.t 8) (some (.t 9)) (some (.t 10)) (some (.t 12))), [], [], 896⟩]) (.seq (.seq (.reg false [⟨(some 14), none, (.mov (.t 1)), [], [], 960⟩,
  ⟨(some 15), none, (.mov (.t 2)), [], [], 1024⟩,
  ⟨(some 16), none, (.bin .eql (.t 14) (.t 15)), [], [], 1088⟩]) (.cond (.t 16) (.seq (.reg false [⟨(some 17), none, (.mov (.t 0)), [], [], 1152⟩,
  ⟨(some 6), none, (.mov (.t 17)), [], [], 448⟩]) .ret) .skip)) (.seq (.reg false [⟨(some 18), none, (.mov (.t 0)), [], [], 1216⟩,
  ⟨(some 19), none, (.len false (.t 18)), [], [], 1280⟩,
  ⟨(some 7), none, (.mov (.t 19)), [], [], 512⟩]) (.seq (.reg true [⟨(some 20), none, (.mov (.t 0)), [], [], 1344⟩,
  ⟨(some 21), none, (.mov (.t 1)), [], [], 1408⟩,
  ⟨(some 22), none, (.slL 3 (.t 20) none (some (.t 21)) none), [0, 1], [0, 1], 1472⟩,
  ⟨(some 23), none, (.mov (.t 0)), [], [], 1536⟩,
  ⟨(some 24), none, (.mov (.t 2)), [], [], 1600⟩,
  ⟨(some 25), none, (.slL 3 (.t 23) (some (.t 24)) none none), [3, 4], [3, 4], 1664⟩,
  ⟨(some 26), none, (.app 3 24 (.t 22) (.t 25)), [2, 5], [2, 5, 0, 1, 3, 4], 1728⟩,
  ⟨(some 0), none, (.mov (.t 26)), [6, 6, 0, 1, 2, 3, 4, 5, 6], [6, 0, 1, 2, 3, 4, 5], 64⟩]) (.seq (.reg false [⟨(some 27), none, (.mov (.t 0)), [], [], 1792⟩,
  ⟨(some 28), none, (.mov (.t 0)), [], [], 1856⟩,
  ⟨(some 29), none, (.len false (.t 28)), [], [], 1920⟩,
  ⟨(some 30), none, (.mov (.t 7)), [], [], 1984⟩,
  ⟨(some 31), none, (.slL 3 (.t 27) (some (.t 29)) (some (.t 30)) none), [], [], 2048⟩,
  ⟨none, none, (.clr 3 [(.int .i64 0), (.int .i64 0), (.int .i64 0)] (.t 31)), [], [], 64⟩]) (.seq (.reg false [⟨(some 32), none, (.mov (.t 0)), [], [], 2112⟩,
  ⟨(some 6), none, (.mov (.t 32)), [], [], 448⟩]) .ret)))))))⟩
theorem ok55 : FnOk Try.prog 55 ir55 := ⟨Try.f55, 0, Try.func55, by kernel_rfl, by kernel_rfl⟩
/-- slices.Insert[[]muniment/disk.entry,muniment/disk.entry] -/
def ir56 : IFun := ⟨3, 95, [(.tmp 6)], (.seq (.reg false [⟨(some 6), none, (.mov (.c (.sl .nil 0 []))), [], [], 448⟩]) (.seq (.reg false [⟨(some 10), none, (.mov (.t 0)), [], [], 704⟩,
  ⟨(some 11), none, (.mov (.t 1)), [], [], 768⟩,
  ⟨(some 12), none, (.slL 6 (.t 10) (some (.t 11)) none none), [], [], 832⟩]) (.seq (.reg false [⟨(some 13), none, (.mov (.t 2)), [], [], 896⟩,
  ⟨(some 14), none, (.len false (.t 13)), [], [], 960⟩,
  ⟨(some 7), none, (.mov (.t 14)), [], [], 512⟩]) (.seq (.seq (.reg false [⟨(some 15), none, (.mov (.t 7)), [], [], 1024⟩,
  ⟨(some 16), none, (.bin .eql (.t 15) (.c (.int .i64 0))), [], [], 1088⟩]) (.cond (.t 16) (.seq (.reg false [⟨(some 17), none, (.mov (.t 0)), [], [], 1152⟩,
  ⟨(some 6), none, (.mov (.t 17)), [], [], 448⟩]) .ret) .skip)) (.seq (.reg false [⟨(some 18), none, (.mov (.t 0)), [], [], 1216⟩,
  ⟨(some 19), none, (.len false (.t 18)), [], [], 1280⟩,
  ⟨(some 8), none, (.mov (.t 19)), [], [], 576⟩]) (.seq (.seq (.reg false [⟨(some 20), none, (.mov (.t 1)), [], [], 1344⟩,
  ⟨(some 21), none, (.mov (.t 8)), [], [], 1408⟩,
  ⟨(some 22), none, (.bin .eql (.t 20) (.t 21)), [], [], 1472⟩]) (.cond (.t 22) (.seq (.reg false [⟨(some 23), none, (.mov (.t 0)), [], [], 1536⟩,
  ⟨(some 24), none, (.mov (.t 2)), [], [], 1600⟩,
  ⟨(some 25), none, (.app 6 72 (.t 23) (.t 24)), [], [], 1664⟩,
  ⟨(some 6), none, (.mov (.t 25)), [], [], 448⟩]) .ret) .skip)) (.seq (.seq (.reg false [⟨(some 26), none, (.mov (.t 8)), [], [], 1728⟩,
  ⟨(some 27), none, (.mov (.t 7)), [], [], 1792⟩,
  ⟨(some 28), none, (.bin .add (.t 26) (.t 27)), [], [], 1856⟩,
  ⟨(some 29), none, (.mov (.t 0)), [], [], 1920⟩,
  ⟨(some 30), none, (.ent (.c .nilp)), [], [], 1984⟩,
  ⟨(some 31), none, (.bin .gtr (.t 28) (.t 30)), [], [], 2048⟩]) (.cond (.t 31) (.seq (.reg false [⟨(some 32), none, (.mov (.t 0)), [], [], 2112⟩,
  ⟨(some 33), none, (.mov (.t 1)), [], [], 2176⟩,
  ⟨(some 34), none, (.slL 6 (.t 32) none (some (.t 33)) none), [], [], 2240⟩,
  ⟨(some 35), none, (.mov (.t 8)), [], [], 2304⟩,
  ⟨(some 36), none, (.mov (.t 7)), [], [], 2368⟩,
  ⟨(some 37), none, (.bin .add (.t 35) (.t 36)), [], [], 2432⟩,
  ⟨(some 38), none, (.mov (.t 1)), [], [], 2496⟩,
  ⟨(some 39), none, (.bin .sub (.t 37) (.t 38)), [], [], 2560⟩,
  ⟨(some 40), none, (.ent (.c .nilp)), [], [], 2624⟩,
  ⟨(some 9), none, (.mov (.t 40)), [], [], 640⟩]) (.seq (.reg false [⟨(some 41), none, (.mov (.t 9)), [], [], 2688⟩,
  ⟨(some 42), none, (.mov (.t 1)), [], [], 2752⟩,
  ⟨(some 43), none, (.slL 6 (.t 41) (some (.t 42)) none none), [], [], 2816⟩,
  ⟨(some 44), none, (.mov (.t 2)), [], [], 2880⟩,
  ⟨(some 45), none, (.copy 6 (.t 43) (.t 44)), [], [], 2944⟩]) (.seq (.reg true [⟨(some 46), none, (.mov (.t 9)), [], [], 3008⟩,
  ⟨(some 47), none, (.mov (.t 1)), [], [], 3072⟩,
  ⟨(some 48), none, (.mov (.t 7)), [], [], 3136⟩,
  ⟨(some 49), none, (.bin .add (.t 47) (.t 48)), [1, 2], [1, 2], 3200⟩,
  ⟨(some 50), none, (.slL 6 (.t 46) (some (.t 49)) none none), [0, 3], [0, 3, 1, 2], 3264⟩,
  ⟨(some 51), none, (.mov (.t 0)), [], [], 3328⟩,
  ⟨(some 52), none, (.mov (.t 1)), [], [], 3392⟩,
  ⟨(some 53), none, (.slL 6 (.t 51) (some (.t 52)) none none), [5, 6], [5, 6], 3456⟩,
  ⟨(some 54), none, (.copy 6 (.t 50) (.t 53)), [4, 7], [4, 7, 0, 3, 1, 2, 5, 6], 3520⟩]) (.seq (.reg false [⟨(some 55), none, (.mov (.t 9)), [], [], 3584⟩,
  ⟨(some 6), none, (.mov (.t 55)), [], [], 448⟩]) .ret)))) .skip)) (.seq (.reg false [⟨(some 56), none, (.mov (.t 0)), [], [], 3648⟩,
  ⟨(some 57), none, (.mov (.t 8)), [], [], 3712⟩,
  ⟨(some 58), none, (.mov (.t 7)), [], [], 3776⟩,
  ⟨(some 59), none, (.bin .add (.t 57) (.t 58)), [], [], 3840⟩,
  ⟨(some 60), none, (.slL 6 (.t 56) none (some (.t 59)) none), [], [], 3904⟩,
  ⟨(some 0), none, (.mov (.t 60)), [], [], 64⟩]) (.seq (.seq (.reg false [⟨(some 61), none, (.mov (.t 2)), [], [], 3968⟩,
  ⟨(some 62), none, (.mov (.t 0)), [], [], 4032⟩,
  ⟨(some 63), none, (.mov (.t 1)), [], [], 4096⟩,
  ⟨(some 64), none, (.mov (.t 7)), [], [], 4160⟩,
  ⟨(some 65), none, (.bin .add (.t 63) (.t 64)), [], [], 4224⟩,
  ⟨(some 66), none, (.slL 6 (.t 62) (some (.t 65)) none none), [], [], 4288⟩,
  ⟨(some 67), none, (.call 60 [(.t 61), (.t 66)]), [], [], 4352⟩,
  ⟨(some 68), none, (.un .not (.t 67)), [], [], 4416⟩]) (.cond (.t 68) (.seq (.reg true [⟨(some 69), none, (.mov (.t 0)), [], [], 4480⟩,
  ⟨(some 70), none, (.mov (.t 1)), [], [], 4544⟩,
  ⟨(some 71), none, (.mov (.t 7)), [], [], 4608⟩,
  ⟨(some 72), none, (.bin .add (.t 70) (.t 71)), [1, 2], [1, 2], 4672⟩,
  ⟨(some 73), none, (.slL 6 (.t 69) (some (.t 72)) none none), [0, 3], [0, 3, 1, 2], 4736⟩,
  ⟨(some 74), none, (.mov (.t 0)), [], [], 4800⟩,
  ⟨(some 75), none, (.mov (.t 1)), [], [], 4864⟩,
  ⟨(some 76), none, (.slL 6 (.t 74) (some (.t 75)) none none), [5, 6], [5, 6], 4928⟩,
  ⟨(some 77), none, (.copy 6 (.t 73) (.t 76)), [4, 7], [4, 7, 0, 3, 1, 2, 5, 6], 4992⟩]) (.seq (.reg false [⟨(some 78), none, (.mov (.t 0)), [], [], 5056⟩,
  ⟨(some 79), none, (.mov (.t 1)), [], [], 5120⟩,
  ⟨(some 80), none, (.slL 6 (.t 78) (some (.t 79)) none none), [], [], 5184⟩,
  ⟨(some 81), none, (.mov (.t 2)), [], [], 5248⟩,
  ⟨(some 82), none, (.copy 6 (.t 80) (.t 81)), [], [], 5312⟩]) (.seq (.reg false [⟨(some 83), none, (.mov (.t 0)), [], [], 5376⟩,
  ⟨(some 6), none, (.mov (.t 83)), [], [], 448⟩]) .ret))) .skip)) (.seq (.reg false [⟨(some 84), none, (.mov (.t 0)), [], [], 5440⟩,
  ⟨(some 85), none, (.mov (.t 8)), [], [], 5504⟩,
  ⟨(some 86), none, (.slL 6 (.t 84) (some (.t 85)) none none), [], [], 5568⟩,
  ⟨(some 87), none, (.mov (.t 2)), [], [], 5632⟩,
  ⟨(some 88), none, (.copy 6 (.t 86) (.t 87)), [], [], 5696⟩]) (.seq (.reg false [⟨(some 89), none, (.mov (.t 0)), [], [], 5760⟩,
  ⟨(some 90), none, (.mov (.t 1)), [], [], 5824⟩,
  ⟨(some 91), none, (.slL 6 (.t 89) (some (.t 90)) none none), [], [], 5888⟩,
  ⟨(some 92), none, (.mov (.t 7)), [], [], 5952⟩,
  ⟨(some 93), none, (.call 61 [(.t 91), (.t 92)]), [], [], 6016⟩]) (.seq (.reg false [⟨(some 94), none, (.mov (.t 0)), [], [], 6080⟩,
  ⟨(some 6), none, (.mov (.t 94)), [], [], 448⟩]) .ret))))))))))))⟩
theorem ok56 : FnOk Try.prog 56 ir56 := ⟨Try.f56, 0, Try.func56, by kernel_rfl, by kernel_rfl⟩
/-- slices.BinarySearchFunc[[]muniment/disk.entry,muniment/disk.entry,string] -/
def lp57_0 : IC := (.seq (.seq (.reg false [⟨(some 15), none, (.mov (.t 9)), [], [], 1024⟩,
  ⟨(some 16), none, (.mov (.t 10)), [], [], 1088⟩,
  ⟨(some 17), none, (.bin .lss (.t 15) (.t 16)), [], [], 1152⟩]) (.cond (.t 17) .skip (.exit 0))) (.block 1 (.seq (.reg false [⟨(some 18), none, (.mov (.t 9)), [], [], 1216⟩,
  ⟨(some 19), none, (.mov (.t 10)), [], [], 1280⟩,
  ⟨(some 20), none, (.bin .add (.t 18) (.t 19)), [], [], 1344⟩,
  ⟨(some 21), none, (.toInt .u64 (.t 20)), [], [], 1408⟩,
  ⟨(some 22), none, (.bin .shr (.t 21) (.c (.int .u64 1))), [], [], 1472⟩,
  ⟨(some 23), none, (.toInt .i64 (.t 22)), [], [], 1536⟩,
  ⟨(some 11), none, (.mov (.t 23)), [], [], 768⟩]) (.seq (.reg false [⟨(some 24), none, (.mov (.t 2)), [], [], 1600⟩,
  ⟨(some 25), none, (.mov (.t 0)), [], [], 1664⟩,
  ⟨(some 26), none, (.mov (.t 11)), [], [], 1728⟩,
  ⟨(some 27), none, (.iaL 6 (.t 25) (.t 26)), [], [], 1792⟩,
  ⟨(some 28), none, (.ld true 6 (.t 27)), [], [], 1856⟩,
  ⟨(some 29), none, (.mov (.t 1)), [], [], 1920⟩,
  ⟨(some 30), none, (.callv (.t 24) [(.t 28), (.t 29)]), [], [], 1984⟩,
  ⟨(some 31), none, (.bin .lss (.t 30) (.c (.int .i64 0))), [], [], 2048⟩]) (.cond (.t 31) (.reg false [⟨(some 32), none, (.mov (.t 11)), [], [], 2112⟩,
  ⟨(some 33), none, (.bin .add (.t 32) (.c (.int .i64 1))), [], [], 2176⟩,
  ⟨(some 9), none, (.mov (.t 33)), [], [], 640⟩]) (.reg false [⟨(some 34), none, (.mov (.t 11)), [], [], 2240⟩,
  ⟨(some 10), none, (.mov (.t 34)), [], [], 704⟩]))))))
def ir57 : IFun := ⟨3, 49, [(.tmp 6), (.tmp 7)], (.seq (.reg false [⟨(some 6), none, (.mov (.c (.int .i64 0))), [], [], 448⟩,
  ⟨(some 7), none, (.mov (.c (.bool false))), [], [], 512⟩]) (.seq (.reg false [⟨(some 12), none, (.mov (.t 0)), [], [], 832⟩,
  ⟨(some 13), none, (.len false (.t 12)), [], [], 896⟩,
  ⟨(some 8), none, (.mov (.t 13)), [], [], 576⟩]) (.seq (.reg false [⟨(some 14), none, (.mov (.t 8)), [], [], 960⟩,
  ⟨(some 9), none, (.mov (.c (.int .i64 0))), [], [], 640⟩,
  ⟨(some 10), none, (.mov (.t 14)), [], [], 704⟩]) (.seq (.block 0 (.loop lp57_0)) (.seq (.reg false [⟨(some 35), none, (.mov (.t 9)), [], [], 2304⟩,
  ⟨(some 36), none, (.mov (.t 9)), [], [], 2368⟩,
  ⟨(some 37), none, (.mov (.t 8)), [], [], 2432⟩,
  ⟨(some 38), none, (.bin .lss (.t 36) (.t 37)), [], [], 2496⟩,
  ⟨(some 39), none, (.mov (.t 38)), [], [], 2560⟩,
  ⟨(some 40), (some (39, true)), (.mov (.t 2)), [], [], 2624⟩,
  ⟨(some 41), (some (39, true)), (.mov (.t 0)), [], [], 2688⟩,
  ⟨(some 42), (some (39, true)), (.mov (.t 9)), [], [], 2752⟩,
  ⟨(some 43), (some (39, true)), (.iaL 6 (.t 41) (.t 42)), [], [], 2816⟩,
  ⟨(some 44), (some (39, true)), (.ld true 6 (.t 43)), [], [], 2880⟩,
  ⟨(some 45), (some (39, true)), (.mov (.t 1)), [], [], 2944⟩,
  ⟨(some 46), (some (39, true)), (.callv (.t 40) [(.t 44), (.t 45)]), [], [], 3008⟩,
  ⟨(some 47), (some (39, true)), (.bin .eql (.t 46) (.c (.int .i64 0))), [], [], 3072⟩,
  ⟨(some 48), none, (.pick (.t 39) (.t 47) (.c (.bool false))), [], [], 3136⟩,
  ⟨(some 6), none, (.mov (.t 35)), [], [], 448⟩,
  ⟨(some 7), none, (.mov (.t 48)), [], [], 512⟩]) .ret)))))⟩
theorem ok57 : FnOk Try.prog 57 ir57 := ⟨Try.f57, 0, Try.func57, by kernel_rfl, by kernel_rfl⟩
/-- (*muniment/disk.Disk).place$1 -/
def ir58 : IFun := ⟨2, 9, [(.tmp 4)], (.seq (.reg false [⟨(some 2), none, (.box 6 (.t 0)), [], [], 192⟩,
  ⟨(some 4), none, (.mov (.c (.int .i64 0))), [], [], 320⟩]) (.seq (.reg false [⟨(some 5), none, (.fad 0 (.t 2)), [], [], 384⟩,
  ⟨(some 6), none, (.ld false 1 (.t 5)), [], [], 448⟩,
  ⟨(some 7), none, (.mov (.t 1)), [], [], 512⟩,
  ⟨(some 8), none, (.call 59 [(.t 6), (.t 7)]), [], [], 576⟩,
  ⟨(some 4), none, (.mov (.t 8)), [], [], 320⟩]) .ret))⟩
theorem ok58 : FnOk Try.prog 58 ir58 := ⟨Try.f58, 0, Try.func58, by kernel_rfl, by kernel_rfl⟩
/-- strings.Compare -/
def ir59 : IFun := ⟨2, 8, [(.tmp 4)], (.seq (.reg false [⟨(some 4), none, (.mov (.c (.int .i64 0))), [], [], 320⟩]) (.seq (.reg false [⟨(some 5), none, (.mov (.t 0)), [], [], 384⟩,
  ⟨(some 6), none, (.mov (.t 1)), [], [], 448⟩,
  ⟨(some 7), none, (.call 62 [(.t 5), (.t 6)]), [], [], 512⟩,
  ⟨(some 4), none, (.mov (.t 7)), [], [], 320⟩]) .ret))⟩
theorem ok59 : FnOk Try.prog 59 ir59 := ⟨Try.f59, 0, Try.func59, by kernel_rfl, by kernel_rfl⟩
/-- slices.rotateRight[muniment/disk.entry] -/
def ir61 : IFun := ⟨2, 10, [], (.reg false [⟨(some 4), none, (.mov (.t 0)), [], [], 320⟩,
  ⟨(some 5), none, (.mov (.t 0)), [], [], 384⟩,
  ⟨(some 6), none, (.len false (.t 5)), [], [], 448⟩,
  ⟨(some 7), none, (.mov (.t 1)), [], [], 512⟩,
  ⟨(some 8), none, (.bin .sub (.t 6) (.t 7)), [], [], 576⟩,
  ⟨(some 9), none, (.call 63 [(.t 4), (.t 8)]), [], [], 640⟩])⟩
theorem ok61 : FnOk Try.prog 61 ir61 := ⟨Try.f61, 0, Try.func61, by kernel_rfl, by kernel_rfl⟩
/-- internal/bytealg.CompareString -/
def ir62 : IFun := ⟨2, 8, [(.tmp 4)], (.seq (.reg false [⟨(some 4), none, (.mov (.c (.int .i64 0))), [], [], 320⟩]) (.seq (.reg false [⟨(some 5), none, (.mov (.t 0)), [], [], 384⟩,
  ⟨(some 6), none, (.mov (.t 1)), [], [], 448⟩,
  ⟨(some 7), none, (.cmp (.t 5) (.t 6)), [], [], 512⟩,
  ⟨(some 4), none, (.mov (.t 7)), [], [], 320⟩]) .ret))⟩
theorem ok62 : FnOk Try.prog 62 ir62 := ⟨Try.f62, 0, Try.func62, by kernel_rfl, by kernel_rfl⟩
/-- slices.rotateLeft[muniment/disk.entry] -/
def ir63 : IFun := ⟨2, 14, [], (.seq (.reg false [⟨(some 4), none, (.mov (.t 0)), [], [], 320⟩,
  ⟨(some 5), none, (.mov (.t 1)), [], [], 384⟩,
  ⟨(some 6), none, (.slL 6 (.t 4) none (some (.t 5)) none), [], [], 448⟩,
  ⟨(some 7), none, (.call 65 [(.t 6)]), [], [], 512⟩]) (.seq (.reg false [⟨(some 8), none, (.mov (.t 0)), [], [], 576⟩,
  ⟨(some 9), none, (.mov (.t 1)), [], [], 640⟩,
  ⟨(some 10), none, (.slL 6 (.t 8) (some (.t 9)) none none), [], [], 704⟩,
  ⟨(some 11), none, (.call 65 [(.t 10)]), [], [], 768⟩]) (.reg false [⟨(some 12), none, (.mov (.t 0)), [], [], 832⟩,
  ⟨(some 13), none, (.call 65 [(.t 12)]), [], [], 896⟩])))⟩
theorem ok63 : FnOk Try.prog 63 ir63 := ⟨Try.f63, 0, Try.func63, by kernel_rfl, by kernel_rfl⟩
/-- slices.Reverse[[]muniment/disk.entry,muniment/disk.entry] -/
def lp65_0 : IC := (.seq (.seq (.reg false [⟨(some 7), none, (.mov (.t 2)), [], [], 512⟩,
  ⟨(some 8), none, (.mov (.t 3)), [], [], 576⟩,
  ⟨(some 9), none, (.bin .lss (.t 7) (.t 8)), [], [], 640⟩]) (.cond (.t 9) .skip (.exit 0))) (.seq (.block 1 (.reg true [⟨(some 14), none, (.mov (.t 0)), [], [], 960⟩,
  ⟨(some 15), none, (.mov (.t 2)), [], [], 1024⟩,
  ⟨(some 16), none, (.mov (.t 0)), [], [], 1088⟩,
  ⟨(some 17), none, (.mov (.t 3)), [], [], 1152⟩,
  ⟨(some 18), none, (.mov (.t 0)), [], [], 1216⟩,
  ⟨(some 19), none, (.mov (.t 3)), [], [], 1280⟩,
  ⟨(some 20), none, (.iaL 6 (.t 18) (.t 19)), [4, 5], [4, 5], 1344⟩,
  ⟨(some 21), none, (.ld true 6 (.t 20)), [6], [6, 4, 5], 1408⟩,
  ⟨(some 22), none, (.mov (.t 0)), [], [], 1472⟩,
  ⟨(some 23), none, (.mov (.t 2)), [], [], 1536⟩,
  ⟨(some 24), none, (.iaL 6 (.t 22) (.t 23)), [8, 9], [8, 9], 1600⟩,
  ⟨(some 25), none, (.ld true 6 (.t 24)), [10], [10, 8, 9], 1664⟩,
  ⟨(some 26), none, (.iaL 6 (.t 14) (.t 15)), [0, 1, 0, 1, 4, 5, 6, 7, 11], [0, 1, 4, 5, 6, 7, 11, 10, 8, 9], 1728⟩,
  ⟨none, none, (.st true 6 (.t 26) (.t 21)), [12, 7, 0, 1, 4, 5, 6, 7, 11], [12, 7, 0, 1, 4, 5, 6, 11, 10, 8, 9], 64⟩,
  ⟨(some 27), none, (.iaL 6 (.t 16) (.t 17)), [2, 3, 0, 1, 2, 3, 4, 5, 6, 7, 8, 9, 10, 11, 12, 13], [2, 3, 0, 1, 4, 5, 6, 7, 8, 9, 10, 11, 12, 13], 1792⟩,
  ⟨none, none, (.st true 6 (.t 27) (.t 25)), [14, 11, 13, 0, 1, 2, 3, 4, 5, 6, 7, 8, 9, 10, 11, 12, 13], [14, 11, 13, 0, 1, 2, 3, 4, 5, 6, 7, 8, 9, 10, 12], 64⟩])) (.reg false [⟨(some 10), none, (.mov (.t 2)), [], [], 704⟩,
  ⟨(some 11), none, (.bin .add (.t 10) (.c (.int .i64 1))), [], [], 768⟩,
  ⟨(some 12), none, (.mov (.t 3)), [], [], 832⟩,
  ⟨(some 13), none, (.bin .sub (.t 12) (.c (.int .i64 1))), [], [], 896⟩,
  ⟨(some 2), none, (.mov (.t 11)), [], [], 192⟩,
  ⟨(some 3), none, (.mov (.t 13)), [], [], 256⟩])))
def ir65 : IFun := ⟨1, 28, [], (.seq (.reg false [⟨(some 4), none, (.mov (.t 0)), [], [], 320⟩,
  ⟨(some 5), none, (.len false (.t 4)), [], [], 384⟩,
  ⟨(some 6), none, (.bin .sub (.t 5) (.c (.int .i64 1))), [], [], 448⟩,
  ⟨(some 2), none, (.mov (.c (.int .i64 0))), [], [], 192⟩,
  ⟨(some 3), none, (.mov (.t 6)), [], [], 256⟩]) (.block 0 (.loop lp65_0)))⟩
theorem ok65 : FnOk Try.prog 65 ir65 := ⟨Try.f65, 0, Try.func65, by kernel_rfl, by kernel_rfl⟩
def fnsL : List (Nat × Option (List Mode) × IFun) := [(5, some [.bor, .bor], ir5),
  (8, some [.io], ir8),
  (11, some [.io, .bor, .bor], ir11),
  (12, some [.io], ir12),
  (13, some [.bor, .bor], ir13),
  (15, some [], ir15),
  (17, some [.bor], ir17),
  (18, some [.io, .bor], ir18),
  (19, some [.io, .bor], ir19),
  (20, some [], ir20),
  (21, some [.io, .bor, .bor], ir21),
  (22, some [.bor], ir22),
  (23, some [.bor], ir23),
  (24, some [.bor], ir24),
  (25, some [.bor], ir25),
  (26, some [.io, .bor], ir26),
  (27, some [.bor], ir27),
  (28, some [.bor], ir28),
  (29, some [.bor], ir29),
  (31, some [.bor], ir31),
  (33, some [.io], ir33),
  (35, some [.bor, .bor, .io], ir35),
  (36, some [.bor, .bor, .bor], ir36),
  (37, some [.io, .bor, .bor], ir37),
  (39, some [.bor], ir39),
  (40, some [.io, .bor, .bor, .bor], ir40),
  (41, some [.bor], ir41),
  (42, some [.io, .bor, .bor], ir42),
  (43, some [.io, .bor], ir43),
  (44, some [.io, .bor, .bor], ir44),
  (48, some [.mov, .bor], ir48),
  (49, some [.bor], ir49),
  (50, some [.bor, .bor], ir50),
  (51, some [.io], ir51),
  (52, some [.io, .bor, .bor, .bor], ir52),
  (53, some [.bor, .bor], ir53),
  (54, some [.bor, .bor], ir54),
  (55, some [.bor, .bor, .bor], ir55),
  (56, some [.mov, .bor, .bor], ir56),
  (57, some [.bor, .bor, .bor], ir57),
  (58, some [.bor, .bor], ir58),
  (59, some [.bor, .bor], ir59),
  (61, some [.bor, .bor], ir61),
  (62, some [.bor, .bor], ir62),
  (63, some [.bor, .bor], ir63),
  (65, some [.bor], ir65)]
def fns : Fns := fun f => (fnsL.find? fun q => q.1 == f).map (·.2)
theorem fnsL_ok : ∀ q ∈ fnsL, FnOk Try.prog q.1 q.2.2 := by
  unfold fnsL
  repeat rw [List.forall_mem_cons]
  exact ⟨ok5, ok8, ok11, ok12, ok13, ok15, ok17, ok18, ok19, ok20, ok21, ok22, ok23, ok24, ok25, ok26, ok27, ok28, ok29, ok31, ok33, ok35, ok36, ok37, ok39, ok40, ok41, ok42, ok43, ok44, ok48, ok49, ok50, ok51, ok52, ok53, ok54, ok55, ok56, ok57, ok58, ok59, ok61, ok62, ok63, ok65, by simp⟩
theorem fns_ok (f : Nat) (p : Option (List Mode) × IFun) (h : fns f = some p) : FnOk Try.prog f p.2 := by
  obtain ⟨q, h1, rfl⟩ := Option.map_eq_some_iff.1 h
  have h2 := List.find?_some h1
  rw [← beq_iff_eq.1 h2]
  exact fnsL_ok q (List.mem_of_find?_eq_some h1)
theorem mixed : Try.prog.follows .mixedOrders = true := by kernel_rfl
theorem laid : laidOutB Try.prog = true := by kernel_rfl
theorem T_ok : TblOk Try.prog (tabW fns) := tabW_ok mixed fns_ok
variable {σ : Store} {base : Nat}
theorem at5 : fns 5 = some (some [.bor, .bor], ir5) := rfl
@[go_sem] theorem call5 (vs : List V) : callV (tabW fns) σ base 5 vs = callP σ base [.bor, .bor] vs (Gf fns 5) (passV σ [.bor, .bor] vs) := callV_T at5 vs
@[go_sem] theorem callr5 (vs : List V) : callR (tabW fns) σ base 5 vs = outS σ (callP σ base [.bor, .bor] vs (Gf fns 5) (passV σ [.bor, .bor] vs)) := callR_T at5 vs
theorem at8 : fns 8 = some (some [.io], ir8) := rfl
theorem call8 (vs : List V) : callV (tabW fns) σ base 8 vs = callP σ base [.io] vs (Gf fns 8) (passV σ [.io] vs) := callV_T at8 vs
theorem callr8 (vs : List V) : callR (tabW fns) σ base 8 vs = outS σ (callP σ base [.io] vs (Gf fns 8) (passV σ [.io] vs)) := callR_T at8 vs
theorem at11 : fns 11 = some (some [.io, .bor, .bor], ir11) := rfl
theorem call11 (vs : List V) : callV (tabW fns) σ base 11 vs = callP σ base [.io, .bor, .bor] vs (Gf fns 11) (passV σ [.io, .bor, .bor] vs) := callV_T at11 vs
theorem callr11 (vs : List V) : callR (tabW fns) σ base 11 vs = outS σ (callP σ base [.io, .bor, .bor] vs (Gf fns 11) (passV σ [.io, .bor, .bor] vs)) := callR_T at11 vs
theorem at12 : fns 12 = some (some [.io], ir12) := rfl
theorem call12 (vs : List V) : callV (tabW fns) σ base 12 vs = callP σ base [.io] vs (Gf fns 12) (passV σ [.io] vs) := callV_T at12 vs
theorem callr12 (vs : List V) : callR (tabW fns) σ base 12 vs = outS σ (callP σ base [.io] vs (Gf fns 12) (passV σ [.io] vs)) := callR_T at12 vs
theorem at13 : fns 13 = some (some [.bor, .bor], ir13) := rfl
@[go_sem] theorem call13 (vs : List V) : callV (tabW fns) σ base 13 vs = callP σ base [.bor, .bor] vs (Gf fns 13) (passV σ [.bor, .bor] vs) := callV_T at13 vs
@[go_sem] theorem callr13 (vs : List V) : callR (tabW fns) σ base 13 vs = outS σ (callP σ base [.bor, .bor] vs (Gf fns 13) (passV σ [.bor, .bor] vs)) := callR_T at13 vs
theorem at15 : fns 15 = some (some [], ir15) := rfl
@[go_sem] theorem call15 (vs : List V) : callV (tabW fns) σ base 15 vs = callP σ base [] vs (Gf fns 15) (passV σ [] vs) := callV_T at15 vs
@[go_sem] theorem callr15 (vs : List V) : callR (tabW fns) σ base 15 vs = outS σ (callP σ base [] vs (Gf fns 15) (passV σ [] vs)) := callR_T at15 vs
theorem at17 : fns 17 = some (some [.bor], ir17) := rfl
@[go_sem] theorem call17 (vs : List V) : callV (tabW fns) σ base 17 vs = callP σ base [.bor] vs (Gf fns 17) (passV σ [.bor] vs) := callV_T at17 vs
@[go_sem] theorem callr17 (vs : List V) : callR (tabW fns) σ base 17 vs = outS σ (callP σ base [.bor] vs (Gf fns 17) (passV σ [.bor] vs)) := callR_T at17 vs
theorem at18 : fns 18 = some (some [.io, .bor], ir18) := rfl
theorem call18 (vs : List V) : callV (tabW fns) σ base 18 vs = callP σ base [.io, .bor] vs (Gf fns 18) (passV σ [.io, .bor] vs) := callV_T at18 vs
theorem callr18 (vs : List V) : callR (tabW fns) σ base 18 vs = outS σ (callP σ base [.io, .bor] vs (Gf fns 18) (passV σ [.io, .bor] vs)) := callR_T at18 vs
theorem at19 : fns 19 = some (some [.io, .bor], ir19) := rfl
theorem call19 (vs : List V) : callV (tabW fns) σ base 19 vs = callP σ base [.io, .bor] vs (Gf fns 19) (passV σ [.io, .bor] vs) := callV_T at19 vs
theorem callr19 (vs : List V) : callR (tabW fns) σ base 19 vs = outS σ (callP σ base [.io, .bor] vs (Gf fns 19) (passV σ [.io, .bor] vs)) := callR_T at19 vs
theorem at20 : fns 20 = some (some [], ir20) := rfl
@[go_sem] theorem call20 (vs : List V) : callV (tabW fns) σ base 20 vs = callP σ base [] vs (Gf fns 20) (passV σ [] vs) := callV_T at20 vs
@[go_sem] theorem callr20 (vs : List V) : callR (tabW fns) σ base 20 vs = outS σ (callP σ base [] vs (Gf fns 20) (passV σ [] vs)) := callR_T at20 vs
theorem at21 : fns 21 = some (some [.io, .bor, .bor], ir21) := rfl
theorem call21 (vs : List V) : callV (tabW fns) σ base 21 vs = callP σ base [.io, .bor, .bor] vs (Gf fns 21) (passV σ [.io, .bor, .bor] vs) := callV_T at21 vs
theorem callr21 (vs : List V) : callR (tabW fns) σ base 21 vs = outS σ (callP σ base [.io, .bor, .bor] vs (Gf fns 21) (passV σ [.io, .bor, .bor] vs)) := callR_T at21 vs
theorem at22 : fns 22 = some (some [.bor], ir22) := rfl
@[go_sem] theorem call22 (vs : List V) : callV (tabW fns) σ base 22 vs = callP σ base [.bor] vs (Gf fns 22) (passV σ [.bor] vs) := callV_T at22 vs
@[go_sem] theorem callr22 (vs : List V) : callR (tabW fns) σ base 22 vs = outS σ (callP σ base [.bor] vs (Gf fns 22) (passV σ [.bor] vs)) := callR_T at22 vs
theorem at23 : fns 23 = some (some [.bor], ir23) := rfl
@[go_sem] theorem call23 (vs : List V) : callV (tabW fns) σ base 23 vs = callP σ base [.bor] vs (Gf fns 23) (passV σ [.bor] vs) := callV_T at23 vs
@[go_sem] theorem callr23 (vs : List V) : callR (tabW fns) σ base 23 vs = outS σ (callP σ base [.bor] vs (Gf fns 23) (passV σ [.bor] vs)) := callR_T at23 vs
theorem at24 : fns 24 = some (some [.bor], ir24) := rfl
@[go_sem] theorem call24 (vs : List V) : callV (tabW fns) σ base 24 vs = callP σ base [.bor] vs (Gf fns 24) (passV σ [.bor] vs) := callV_T at24 vs
@[go_sem] theorem callr24 (vs : List V) : callR (tabW fns) σ base 24 vs = outS σ (callP σ base [.bor] vs (Gf fns 24) (passV σ [.bor] vs)) := callR_T at24 vs
theorem at25 : fns 25 = some (some [.bor], ir25) := rfl
@[go_sem] theorem call25 (vs : List V) : callV (tabW fns) σ base 25 vs = callP σ base [.bor] vs (Gf fns 25) (passV σ [.bor] vs) := callV_T at25 vs
@[go_sem] theorem callr25 (vs : List V) : callR (tabW fns) σ base 25 vs = outS σ (callP σ base [.bor] vs (Gf fns 25) (passV σ [.bor] vs)) := callR_T at25 vs
theorem at26 : fns 26 = some (some [.io, .bor], ir26) := rfl
theorem call26 (vs : List V) : callV (tabW fns) σ base 26 vs = callP σ base [.io, .bor] vs (Gf fns 26) (passV σ [.io, .bor] vs) := callV_T at26 vs
theorem callr26 (vs : List V) : callR (tabW fns) σ base 26 vs = outS σ (callP σ base [.io, .bor] vs (Gf fns 26) (passV σ [.io, .bor] vs)) := callR_T at26 vs
theorem at27 : fns 27 = some (some [.bor], ir27) := rfl
@[go_sem] theorem call27 (vs : List V) : callV (tabW fns) σ base 27 vs = callP σ base [.bor] vs (Gf fns 27) (passV σ [.bor] vs) := callV_T at27 vs
@[go_sem] theorem callr27 (vs : List V) : callR (tabW fns) σ base 27 vs = outS σ (callP σ base [.bor] vs (Gf fns 27) (passV σ [.bor] vs)) := callR_T at27 vs
theorem at28 : fns 28 = some (some [.bor], ir28) := rfl
@[go_sem] theorem call28 (vs : List V) : callV (tabW fns) σ base 28 vs = callP σ base [.bor] vs (Gf fns 28) (passV σ [.bor] vs) := callV_T at28 vs
@[go_sem] theorem callr28 (vs : List V) : callR (tabW fns) σ base 28 vs = outS σ (callP σ base [.bor] vs (Gf fns 28) (passV σ [.bor] vs)) := callR_T at28 vs
theorem at29 : fns 29 = some (some [.bor], ir29) := rfl
@[go_sem] theorem call29 (vs : List V) : callV (tabW fns) σ base 29 vs = callP σ base [.bor] vs (Gf fns 29) (passV σ [.bor] vs) := callV_T at29 vs
@[go_sem] theorem callr29 (vs : List V) : callR (tabW fns) σ base 29 vs = outS σ (callP σ base [.bor] vs (Gf fns 29) (passV σ [.bor] vs)) := callR_T at29 vs
theorem at31 : fns 31 = some (some [.bor], ir31) := rfl
@[go_sem] theorem call31 (vs : List V) : callV (tabW fns) σ base 31 vs = callP σ base [.bor] vs (Gf fns 31) (passV σ [.bor] vs) := callV_T at31 vs
@[go_sem] theorem callr31 (vs : List V) : callR (tabW fns) σ base 31 vs = outS σ (callP σ base [.bor] vs (Gf fns 31) (passV σ [.bor] vs)) := callR_T at31 vs
theorem at33 : fns 33 = some (some [.io], ir33) := rfl
theorem call33 (vs : List V) : callV (tabW fns) σ base 33 vs = callP σ base [.io] vs (Gf fns 33) (passV σ [.io] vs) := callV_T at33 vs
theorem callr33 (vs : List V) : callR (tabW fns) σ base 33 vs = outS σ (callP σ base [.io] vs (Gf fns 33) (passV σ [.io] vs)) := callR_T at33 vs
theorem at35 : fns 35 = some (some [.bor, .bor, .io], ir35) := rfl
theorem call35 (vs : List V) : callV (tabW fns) σ base 35 vs = callP σ base [.bor, .bor, .io] vs (Gf fns 35) (passV σ [.bor, .bor, .io] vs) := callV_T at35 vs
theorem callr35 (vs : List V) : callR (tabW fns) σ base 35 vs = outS σ (callP σ base [.bor, .bor, .io] vs (Gf fns 35) (passV σ [.bor, .bor, .io] vs)) := callR_T at35 vs
theorem at36 : fns 36 = some (some [.bor, .bor, .bor], ir36) := rfl
@[go_sem] theorem call36 (vs : List V) : callV (tabW fns) σ base 36 vs = callP σ base [.bor, .bor, .bor] vs (Gf fns 36) (passV σ [.bor, .bor, .bor] vs) := callV_T at36 vs
@[go_sem] theorem callr36 (vs : List V) : callR (tabW fns) σ base 36 vs = outS σ (callP σ base [.bor, .bor, .bor] vs (Gf fns 36) (passV σ [.bor, .bor, .bor] vs)) := callR_T at36 vs
theorem at37 : fns 37 = some (some [.io, .bor, .bor], ir37) := rfl
theorem call37 (vs : List V) : callV (tabW fns) σ base 37 vs = callP σ base [.io, .bor, .bor] vs (Gf fns 37) (passV σ [.io, .bor, .bor] vs) := callV_T at37 vs
theorem callr37 (vs : List V) : callR (tabW fns) σ base 37 vs = outS σ (callP σ base [.io, .bor, .bor] vs (Gf fns 37) (passV σ [.io, .bor, .bor] vs)) := callR_T at37 vs
theorem at39 : fns 39 = some (some [.bor], ir39) := rfl
@[go_sem] theorem call39 (vs : List V) : callV (tabW fns) σ base 39 vs = callP σ base [.bor] vs (Gf fns 39) (passV σ [.bor] vs) := callV_T at39 vs
@[go_sem] theorem callr39 (vs : List V) : callR (tabW fns) σ base 39 vs = outS σ (callP σ base [.bor] vs (Gf fns 39) (passV σ [.bor] vs)) := callR_T at39 vs
theorem at40 : fns 40 = some (some [.io, .bor, .bor, .bor], ir40) := rfl
theorem call40 (vs : List V) : callV (tabW fns) σ base 40 vs = callP σ base [.io, .bor, .bor, .bor] vs (Gf fns 40) (passV σ [.io, .bor, .bor, .bor] vs) := callV_T at40 vs
theorem callr40 (vs : List V) : callR (tabW fns) σ base 40 vs = outS σ (callP σ base [.io, .bor, .bor, .bor] vs (Gf fns 40) (passV σ [.io, .bor, .bor, .bor] vs)) := callR_T at40 vs
theorem at41 : fns 41 = some (some [.bor], ir41) := rfl
@[go_sem] theorem call41 (vs : List V) : callV (tabW fns) σ base 41 vs = callP σ base [.bor] vs (Gf fns 41) (passV σ [.bor] vs) := callV_T at41 vs
@[go_sem] theorem callr41 (vs : List V) : callR (tabW fns) σ base 41 vs = outS σ (callP σ base [.bor] vs (Gf fns 41) (passV σ [.bor] vs)) := callR_T at41 vs
theorem at42 : fns 42 = some (some [.io, .bor, .bor], ir42) := rfl
theorem call42 (vs : List V) : callV (tabW fns) σ base 42 vs = callP σ base [.io, .bor, .bor] vs (Gf fns 42) (passV σ [.io, .bor, .bor] vs) := callV_T at42 vs
theorem callr42 (vs : List V) : callR (tabW fns) σ base 42 vs = outS σ (callP σ base [.io, .bor, .bor] vs (Gf fns 42) (passV σ [.io, .bor, .bor] vs)) := callR_T at42 vs
theorem at43 : fns 43 = some (some [.io, .bor], ir43) := rfl
theorem call43 (vs : List V) : callV (tabW fns) σ base 43 vs = callP σ base [.io, .bor] vs (Gf fns 43) (passV σ [.io, .bor] vs) := callV_T at43 vs
theorem callr43 (vs : List V) : callR (tabW fns) σ base 43 vs = outS σ (callP σ base [.io, .bor] vs (Gf fns 43) (passV σ [.io, .bor] vs)) := callR_T at43 vs
theorem at44 : fns 44 = some (some [.io, .bor, .bor], ir44) := rfl
theorem call44 (vs : List V) : callV (tabW fns) σ base 44 vs = callP σ base [.io, .bor, .bor] vs (Gf fns 44) (passV σ [.io, .bor, .bor] vs) := callV_T at44 vs
theorem callr44 (vs : List V) : callR (tabW fns) σ base 44 vs = outS σ (callP σ base [.io, .bor, .bor] vs (Gf fns 44) (passV σ [.io, .bor, .bor] vs)) := callR_T at44 vs
theorem at48 : fns 48 = some (some [.mov, .bor], ir48) := rfl
@[go_sem] theorem call48 (vs : List V) : callV (tabW fns) σ base 48 vs = callP σ base [.mov, .bor] vs (Gf fns 48) (passV σ [.mov, .bor] vs) := callV_T at48 vs
@[go_sem] theorem callr48 (vs : List V) : callR (tabW fns) σ base 48 vs = outS σ (callP σ base [.mov, .bor] vs (Gf fns 48) (passV σ [.mov, .bor] vs)) := callR_T at48 vs
theorem at49 : fns 49 = some (some [.bor], ir49) := rfl
@[go_sem] theorem call49 (vs : List V) : callV (tabW fns) σ base 49 vs = callP σ base [.bor] vs (Gf fns 49) (passV σ [.bor] vs) := callV_T at49 vs
@[go_sem] theorem callr49 (vs : List V) : callR (tabW fns) σ base 49 vs = outS σ (callP σ base [.bor] vs (Gf fns 49) (passV σ [.bor] vs)) := callR_T at49 vs
theorem at50 : fns 50 = some (some [.bor, .bor], ir50) := rfl
@[go_sem] theorem call50 (vs : List V) : callV (tabW fns) σ base 50 vs = callP σ base [.bor, .bor] vs (Gf fns 50) (passV σ [.bor, .bor] vs) := callV_T at50 vs
@[go_sem] theorem callr50 (vs : List V) : callR (tabW fns) σ base 50 vs = outS σ (callP σ base [.bor, .bor] vs (Gf fns 50) (passV σ [.bor, .bor] vs)) := callR_T at50 vs
theorem at51 : fns 51 = some (some [.io], ir51) := rfl
theorem call51 (vs : List V) : callV (tabW fns) σ base 51 vs = callP σ base [.io] vs (Gf fns 51) (passV σ [.io] vs) := callV_T at51 vs
theorem callr51 (vs : List V) : callR (tabW fns) σ base 51 vs = outS σ (callP σ base [.io] vs (Gf fns 51) (passV σ [.io] vs)) := callR_T at51 vs
theorem at52 : fns 52 = some (some [.io, .bor, .bor, .bor], ir52) := rfl
theorem call52 (vs : List V) : callV (tabW fns) σ base 52 vs = callP σ base [.io, .bor, .bor, .bor] vs (Gf fns 52) (passV σ [.io, .bor, .bor, .bor] vs) := callV_T at52 vs
theorem callr52 (vs : List V) : callR (tabW fns) σ base 52 vs = outS σ (callP σ base [.io, .bor, .bor, .bor] vs (Gf fns 52) (passV σ [.io, .bor, .bor, .bor] vs)) := callR_T at52 vs
theorem at53 : fns 53 = some (some [.bor, .bor], ir53) := rfl
@[go_sem] theorem call53 (vs : List V) : callV (tabW fns) σ base 53 vs = callP σ base [.bor, .bor] vs (Gf fns 53) (passV σ [.bor, .bor] vs) := callV_T at53 vs
@[go_sem] theorem callr53 (vs : List V) : callR (tabW fns) σ base 53 vs = outS σ (callP σ base [.bor, .bor] vs (Gf fns 53) (passV σ [.bor, .bor] vs)) := callR_T at53 vs
theorem at54 : fns 54 = some (some [.bor, .bor], ir54) := rfl
@[go_sem] theorem call54 (vs : List V) : callV (tabW fns) σ base 54 vs = callP σ base [.bor, .bor] vs (Gf fns 54) (passV σ [.bor, .bor] vs) := callV_T at54 vs
@[go_sem] theorem callr54 (vs : List V) : callR (tabW fns) σ base 54 vs = outS σ (callP σ base [.bor, .bor] vs (Gf fns 54) (passV σ [.bor, .bor] vs)) := callR_T at54 vs
theorem at55 : fns 55 = some (some [.bor, .bor, .bor], ir55) := rfl
@[go_sem] theorem call55 (vs : List V) : callV (tabW fns) σ base 55 vs = callP σ base [.bor, .bor, .bor] vs (Gf fns 55) (passV σ [.bor, .bor, .bor] vs) := callV_T at55 vs
@[go_sem] theorem callr55 (vs : List V) : callR (tabW fns) σ base 55 vs = outS σ (callP σ base [.bor, .bor, .bor] vs (Gf fns 55) (passV σ [.bor, .bor, .bor] vs)) := callR_T at55 vs
theorem at56 : fns 56 = some (some [.mov, .bor, .bor], ir56) := rfl
@[go_sem] theorem call56 (vs : List V) : callV (tabW fns) σ base 56 vs = callP σ base [.mov, .bor, .bor] vs (Gf fns 56) (passV σ [.mov, .bor, .bor] vs) := callV_T at56 vs
@[go_sem] theorem callr56 (vs : List V) : callR (tabW fns) σ base 56 vs = outS σ (callP σ base [.mov, .bor, .bor] vs (Gf fns 56) (passV σ [.mov, .bor, .bor] vs)) := callR_T at56 vs
theorem at57 : fns 57 = some (some [.bor, .bor, .bor], ir57) := rfl
@[go_sem] theorem call57 (vs : List V) : callV (tabW fns) σ base 57 vs = callP σ base [.bor, .bor, .bor] vs (Gf fns 57) (passV σ [.bor, .bor, .bor] vs) := callV_T at57 vs
@[go_sem] theorem callr57 (vs : List V) : callR (tabW fns) σ base 57 vs = outS σ (callP σ base [.bor, .bor, .bor] vs (Gf fns 57) (passV σ [.bor, .bor, .bor] vs)) := callR_T at57 vs
theorem at58 : fns 58 = some (some [.bor, .bor], ir58) := rfl
@[go_sem] theorem call58 (vs : List V) : callV (tabW fns) σ base 58 vs = callP σ base [.bor, .bor] vs (Gf fns 58) (passV σ [.bor, .bor] vs) := callV_T at58 vs
@[go_sem] theorem callr58 (vs : List V) : callR (tabW fns) σ base 58 vs = outS σ (callP σ base [.bor, .bor] vs (Gf fns 58) (passV σ [.bor, .bor] vs)) := callR_T at58 vs
theorem at59 : fns 59 = some (some [.bor, .bor], ir59) := rfl
@[go_sem] theorem call59 (vs : List V) : callV (tabW fns) σ base 59 vs = callP σ base [.bor, .bor] vs (Gf fns 59) (passV σ [.bor, .bor] vs) := callV_T at59 vs
@[go_sem] theorem callr59 (vs : List V) : callR (tabW fns) σ base 59 vs = outS σ (callP σ base [.bor, .bor] vs (Gf fns 59) (passV σ [.bor, .bor] vs)) := callR_T at59 vs
theorem at61 : fns 61 = some (some [.bor, .bor], ir61) := rfl
@[go_sem] theorem call61 (vs : List V) : callV (tabW fns) σ base 61 vs = callP σ base [.bor, .bor] vs (Gf fns 61) (passV σ [.bor, .bor] vs) := callV_T at61 vs
@[go_sem] theorem callr61 (vs : List V) : callR (tabW fns) σ base 61 vs = outS σ (callP σ base [.bor, .bor] vs (Gf fns 61) (passV σ [.bor, .bor] vs)) := callR_T at61 vs
theorem at62 : fns 62 = some (some [.bor, .bor], ir62) := rfl
@[go_sem] theorem call62 (vs : List V) : callV (tabW fns) σ base 62 vs = callP σ base [.bor, .bor] vs (Gf fns 62) (passV σ [.bor, .bor] vs) := callV_T at62 vs
@[go_sem] theorem callr62 (vs : List V) : callR (tabW fns) σ base 62 vs = outS σ (callP σ base [.bor, .bor] vs (Gf fns 62) (passV σ [.bor, .bor] vs)) := callR_T at62 vs
theorem at63 : fns 63 = some (some [.bor, .bor], ir63) := rfl
@[go_sem] theorem call63 (vs : List V) : callV (tabW fns) σ base 63 vs = callP σ base [.bor, .bor] vs (Gf fns 63) (passV σ [.bor, .bor] vs) := callV_T at63 vs
@[go_sem] theorem callr63 (vs : List V) : callR (tabW fns) σ base 63 vs = outS σ (callP σ base [.bor, .bor] vs (Gf fns 63) (passV σ [.bor, .bor] vs)) := callR_T at63 vs
theorem at65 : fns 65 = some (some [.bor], ir65) := rfl
@[go_sem] theorem call65 (vs : List V) : callV (tabW fns) σ base 65 vs = callP σ base [.bor] vs (Gf fns 65) (passV σ [.bor] vs) := callV_T at65 vs
@[go_sem] theorem callr65 (vs : List V) : callR (tabW fns) σ base 65 vs = outS σ (callP σ base [.bor] vs (Gf fns 65) (passV σ [.bor] vs)) := callR_T at65 vs
end Go.Vm.Ytclcadpmkkeaeaa
