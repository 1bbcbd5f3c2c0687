/- Written by wip/vm/irtab.py: the functions in the machine's form, each checked, and their table. -/
import Derived.Test.YtcnnlnpebpakjaaVmBits
import Derived.Test.YtcnnlnpebpakjaaProg
set_option linter.unusedSectionVars false
set_option linter.unusedSimpArgs false
set_option linter.unusedVariables false
namespace Go.Vm.Ytcnnlnpebpakjaa
open Go.Proofs
/-- gosem.cut.init -/
def ir2 : IFun := ⟨0, 1, [], (.reg false [⟨(some 0), none, (.call 1 []), [], [], 64⟩]), none⟩
theorem ok2 : FnOk Try.prog 2 ir2 := .inl ⟨Try.f2, 0, Try.func2, by kernel_rfl, by kernel_rfl⟩
/-- muniment/munimentlaw22.NetOrders -/
def lp3_0 : IC := (.seq (.seq (.reg false [⟨(some 16), none, (.mov (.t 9)), [], [], 1088⟩,
  ⟨(some 17), none, (.mov (.t 1)), [], [], 1152⟩,
  ⟨(some 18), none, (.len false (.t 17)), [], [], 1216⟩,
  ⟨(some 19), none, (.bin .lss (.t 16) (.t 18)), [], [], 1280⟩,
  ⟨(some 20), none, (.mov (.t 19)), [], [], 1344⟩,
  ⟨(some 21), (some (20, true)), (.mov (.t 9)), [], [], 1408⟩,
  ⟨(some 22), (some (20, true)), (.bin .lss (.t 21) (.c (.int .i64 200))), [], [], 1472⟩,
  ⟨(some 23), none, (.pick (.t 20) (.t 22) (.c (.bool false))), [], [], 1536⟩]) (.cond (.t 23) .skip (.exit 0))) (.seq (.block 1 (.seq (.seq (.reg false [⟨(some 26), none, (.mov (.t 1)), [], [], 1728⟩,
  ⟨(some 27), none, (.mov (.t 9)), [], [], 1792⟩,
  ⟨(some 28), none, (.iaL 1 (.t 26) (.t 27)), [], [], 1856⟩,
  ⟨(some 29), none, (.ld false 1 (.t 28)), [], [], 1920⟩,
  ⟨(some 30), none, (.un .not (.t 29)), [], [], 1984⟩,
  ⟨(some 31), none, (.mov (.t 30)), [], [], 2048⟩,
  ⟨(some 32), (some (31, true)), (.mov (.t 6)), [], [], 2112⟩,
  ⟨(some 33), (some (31, true)), (.mov (.t 0)), [], [], 2176⟩,
  ⟨(some 34), (some (31, true)), (.len false (.t 33)), [], [], 2240⟩,
  ⟨(some 35), (some (31, true)), (.bin .lss (.t 32) (.t 34)), [], [], 2304⟩,
  ⟨(some 36), none, (.pick (.t 31) (.t 35) (.c (.bool false))), [], [], 2368⟩]) (.cond (.t 36) (.seq (.seq (.reg false [⟨(some 37), none, (.mov (.t 5)), [], [], 2432⟩,
  ⟨(some 38), none, (.mov (.t 0)), [], [], 2496⟩,
  ⟨(some 39), none, (.mov (.t 6)), [], [], 2560⟩,
  ⟨(some 40), none, (.iaL 3 (.t 38) (.t 39)), [], [], 2624⟩,
  ⟨(some 41), none, (.ld true 3 (.t 40)), [], [], 2688⟩,
  ⟨(some 42), none, (.mksl 3 1 [(.int .i64 0), (.int .i64 0), (.str [])] [(0, (3, (.t 41)))]), [], [], 2752⟩,
  ⟨(some 43), none, (.call 8 [(.t 37), (.t 42)]), [], [], 2816⟩,
  ⟨(some 44), none, (.bin .neq (.t 43) (.c (.int .i64 1))), [], [], 2880⟩]) (.cond (.t 44) (.seq (.reg false [⟨(some 4), none, (.mov (.c (.bool false))), [], [], 320⟩]) .ret) .skip)) (.seq (.reg false [⟨(some 45), none, (.mov (.t 8)), [], [], 2944⟩,
  ⟨(some 46), none, (.mov (.t 0)), [], [], 3008⟩,
  ⟨(some 47), none, (.mov (.t 6)), [], [], 3072⟩,
  ⟨(some 48), none, (.iaL 3 (.t 46) (.t 47)), [], [], 3136⟩,
  ⟨(some 49), none, (.ld true 3 (.t 48)), [], [], 3200⟩,
  ⟨(some 50), none, (.mksl 3 1 [(.int .i64 0), (.int .i64 0), (.str [])] [(0, (3, (.t 49)))]), [], [], 3264⟩,
  ⟨(some 51), none, (.app 3 32 (.t 45) (.t 50)), [], [], 3328⟩,
  ⟨(some 8), none, (.mov (.t 51)), [], [], 576⟩]) (.seq (.reg false [⟨(some 52), none, (.mov (.t 6)), [], [], 3392⟩,
  ⟨(some 53), none, (.bin .add (.t 52) (.c (.int .i64 1))), [], [], 3456⟩,
  ⟨(some 6), none, (.mov (.t 53)), [], [], 448⟩]) (.exit 1)))) .skip)) (.seq (.reg false [⟨(some 55), none, (.mov (.t 5)), [], [], 3584⟩,
  ⟨(some 56), none, (.call 9 [(.t 55), (.c (.int .i64 0))]), [], [], 3648⟩,
  ⟨(some 54), none, (.mov (.t 56)), [], [], 3520⟩,
  ⟨(some 57), none, (.ext 0 (.t 54)), [], [], 3712⟩,
  ⟨(some 58), none, (.ext 1 (.t 54)), [], [], 3776⟩,
  ⟨(some 10), none, (.new [(.int .i64 0), (.int .i64 0), (.str [])]), [], [], 704⟩,
  ⟨none, none, (.st true 3 (.t 10) (.t 57)), [], [], 64⟩,
  ⟨(some 11), none, (.mov (.t 58)), [], [], 768⟩]) (.seq (.seq (.reg true [⟨(some 59), none, (.mov (.t 11)), [], [], 3840⟩,
  ⟨(some 60), none, (.mov (.t 7)), [], [], 3904⟩,
  ⟨(some 61), none, (.mov (.t 8)), [], [], 3968⟩,
  ⟨(some 62), none, (.len false (.t 61)), [2], [2], 4032⟩,
  ⟨(some 63), none, (.bin .lss (.t 60) (.t 62)), [1, 3], [1, 3, 2], 4096⟩,
  ⟨(some 64), none, (.eqn true .bool (.t 59) (.t 63)), [0, 4], [0, 4, 1, 3, 2], 4160⟩,
  ⟨(some 65), none, (.mov (.t 64)), [5], [5, 0, 4, 1, 3, 2], 4224⟩,
  ⟨(some 66), (some (65, false)), (.mov (.t 11)), [6], [6, 5, 0, 4, 1, 3, 2], 4288⟩,
  ⟨(some 67), (some (65, false)), (.mov (.t 66)), [7, 6, 6], [7, 6, 5, 0, 4, 1, 3, 2], 4352⟩,
  ⟨(some 68), (some (67, true)), (.ld true 3 (.t 10)), [8], [8, 7, 6, 5, 0, 4, 1, 3, 2], 4416⟩,
  ⟨(some 69), (some (67, true)), (.mov (.t 8)), [8], [8, 7, 6, 5, 0, 4, 1, 3, 2], 4480⟩,
  ⟨(some 70), (some (67, true)), (.mov (.t 7)), [8], [8, 7, 6, 5, 0, 4, 1, 3, 2], 4544⟩,
  ⟨(some 71), (some (67, true)), (.iaL 3 (.t 69) (.t 70)), [10, 11, 8], [10, 11, 8, 7, 6, 5, 0, 4, 1, 3, 2], 4608⟩,
  ⟨(some 72), (some (67, true)), (.ld true 3 (.t 71)), [12, 8], [12, 8, 10, 11, 7, 6, 5, 0, 4, 1, 3, 2], 4672⟩,
  ⟨(some 73), (some (67, true)), (.eqS true [.i, .i, .s] (.t 68) (.t 72)), [9, 13, 8], [9, 13, 8, 7, 6, 5, 0, 4, 1, 3, 2, 12, 10, 11], 4736⟩,
  ⟨(some 74), (some (65, false)), (.pick (.t 67) (.t 73) (.c (.bool false))), [8, 14, 6], [8, 14, 6, 7, 5, 0, 4, 1, 3, 2, 9, 13, 12, 10, 11], 4800⟩,
  ⟨(some 75), none, (.pick (.t 65) (.c (.bool true)) (.t 74)), [6, 15], [6, 15, 5, 0, 4, 1, 3, 2, 8, 14, 7, 9, 13, 12, 10, 11], 4864⟩]) (.cond (.t 75) (.seq (.reg false [⟨(some 4), none, (.mov (.c (.bool false))), [], [], 320⟩]) .ret) .skip)) (.seq (.reg false [⟨(some 76), none, (.mov (.t 11)), [], [], 4928⟩]) (.cond (.t 76) (.reg false [⟨(some 77), none, (.mov (.t 7)), [], [], 4992⟩,
  ⟨(some 78), none, (.bin .add (.t 77) (.c (.int .i64 1))), [], [], 5056⟩,
  ⟨(some 7), none, (.mov (.t 78)), [], [], 512⟩]) .skip)))))) (.reg false [⟨(some 24), none, (.mov (.t 9)), [], [], 1600⟩,
  ⟨(some 25), none, (.bin .add (.t 24) (.c (.int .i64 1))), [], [], 1664⟩,
  ⟨(some 9), none, (.mov (.t 25)), [], [], 640⟩])))
def ir3 : IFun := ⟨2, 89, [(.tmp 4)], (.seq (.reg false [⟨(some 4), none, (.mov (.c (.bool false))), [], [], 320⟩]) (.seq (.seq (.reg false [⟨(some 12), none, (.call 6 []), [], [], 832⟩,
  ⟨(some 13), none, (.un .not (.t 12)), [], [], 896⟩]) (.cond (.t 13) (.seq (.reg false [⟨(some 4), none, (.mov (.c (.bool false))), [], [], 320⟩]) .ret) .skip)) (.seq (.reg false [⟨(some 14), none, (.call 7 []), [], [], 960⟩,
  ⟨(some 5), none, (.mov (.t 14)), [], [], 384⟩]) (.seq (.reg false [⟨(some 6), none, (.mov (.c (.int .i64 0))), [], [], 448⟩,
  ⟨(some 7), none, (.mov (.c (.int .i64 0))), [], [], 512⟩]) (.seq (.reg false [⟨(some 15), none, (.mksl 3 0 [] []), [], [], 1024⟩,
  ⟨(some 8), none, (.mov (.t 15)), [], [], 576⟩]) (.seq (.seq (.reg false [⟨(some 9), none, (.mov (.c (.int .i64 0))), [], [], 640⟩]) (.block 0 (.loop lp3_0))) (.seq (.reg false [⟨(some 79), none, (.call 6 []), [], [], 5120⟩,
  ⟨(some 80), none, (.mov (.t 79)), [], [], 5184⟩,
  ⟨(some 81), (some (80, true)), (.mov (.t 5)), [], [], 5248⟩,
  ⟨(some 82), (some (80, true)), (.call 10 [(.t 81)]), [], [], 5312⟩,
  ⟨(some 83), (some (80, true)), (.mov (.t 8)), [], [], 5376⟩,
  ⟨(some 84), (some (80, true)), (.len false (.t 83)), [], [], 5440⟩,
  ⟨(some 85), (some (80, true)), (.mov (.t 7)), [], [], 5504⟩,
  ⟨(some 86), (some (80, true)), (.bin .sub (.t 84) (.t 85)), [], [], 5568⟩,
  ⟨(some 87), (some (80, true)), (.bin .eql (.t 82) (.t 86)), [], [], 5632⟩,
  ⟨(some 88), none, (.pick (.t 80) (.t 87) (.c (.bool false))), [], [], 5696⟩,
  ⟨(some 4), none, (.mov (.t 88)), [], [], 320⟩]) .ret))))))), none⟩
theorem ok3 : FnOk Try.prog 3 ir3 := .inl ⟨Try.f3, 0, Try.func3, by kernel_rfl, by kernel_rfl⟩
/-- muniment/munimentlaw22.NetFull -/
def lp4_0 : IC := (.seq (.seq (.reg false [⟨(some 14), none, (.mov (.t 6)), [], [], 960⟩,
  ⟨(some 15), none, (.bin .lss (.t 14) (.c (.int .i64 4096))), [], [], 1024⟩]) (.cond (.t 15) .skip (.exit 0))) (.seq (.block 1 (.seq (.reg false [⟨(some 18), none, (.mov (.t 5)), [], [], 1216⟩,
  ⟨(some 19), none, (.ld true 3 (.t 2)), [], [], 1280⟩,
  ⟨(some 20), none, (.mksl 3 1 [(.int .i64 0), (.int .i64 0), (.str [])] [(0, (3, (.t 19)))]), [], [], 1344⟩,
  ⟨(some 21), none, (.call 8 [(.t 18), (.t 20)]), [], [], 1408⟩,
  ⟨(some 22), none, (.bin .neq (.t 21) (.c (.int .i64 1))), [], [], 1472⟩]) (.cond (.t 22) (.seq (.reg false [⟨(some 4), none, (.mov (.c (.bool false))), [], [], 320⟩]) .ret) .skip))) (.reg false [⟨(some 16), none, (.mov (.t 6)), [], [], 1088⟩,
  ⟨(some 17), none, (.bin .add (.t 16) (.c (.int .i64 1))), [], [], 1152⟩,
  ⟨(some 6), none, (.mov (.t 17)), [], [], 448⟩])))
def lp4_1 : IC := (.seq (.seq (.reg false [⟨(some 27), none, (.mov (.t 8)), [], [], 1792⟩,
  ⟨(some 28), none, (.mov (.t 7)), [], [], 1856⟩,
  ⟨(some 29), none, (.bin .lss (.t 27) (.t 28)), [], [], 1920⟩]) (.cond (.t 29) .skip (.exit 2))) (.seq (.block 3 (.seq (.reg false [⟨(some 32), none, (.mov (.t 5)), [], [], 2112⟩,
  ⟨(some 33), none, (.ld true 3 (.t 2)), [], [], 2176⟩,
  ⟨(some 34), none, (.mksl 3 1 [(.int .i64 0), (.int .i64 0), (.str [])] [(0, (3, (.t 33)))]), [], [], 2240⟩,
  ⟨(some 35), none, (.call 8 [(.t 32), (.t 34)]), [], [], 2304⟩,
  ⟨(some 36), none, (.bin .neq (.t 35) (.c (.int .i64 0))), [], [], 2368⟩,
  ⟨(some 37), none, (.mov (.t 36)), [], [], 2432⟩,
  ⟨(some 38), (some (37, false)), (.mov (.t 5)), [], [], 2496⟩,
  ⟨(some 39), (some (37, false)), (.mov (.t 8)), [], [], 2560⟩,
  ⟨(some 40), (some (37, false)), (.call 11 [(.t 38), (.t 39)]), [], [], 2624⟩,
  ⟨(some 41), none, (.pick (.t 37) (.c (.bool true)) (.t 40)), [], [], 2688⟩,
  ⟨(some 42), none, (.mov (.t 41)), [], [], 2752⟩,
  ⟨(some 43), (some (42, false)), (.mov (.t 5)), [], [], 2816⟩,
  ⟨(some 44), (some (42, false)), (.mov (.t 8)), [], [], 2880⟩,
  ⟨(some 45), (some (42, false)), (.ld true 3 (.t 2)), [], [], 2944⟩,
  ⟨(some 46), (some (42, false)), (.call 12 [(.t 43), (.t 44), (.t 45)]), [], [], 3008⟩,
  ⟨(some 47), none, (.pick (.t 42) (.c (.bool true)) (.t 46)), [], [], 3072⟩]) (.cond (.t 47) (.seq (.reg false [⟨(some 4), none, (.mov (.c (.bool false))), [], [], 320⟩]) .ret) .skip))) (.reg false [⟨(some 30), none, (.mov (.t 8)), [], [], 1984⟩,
  ⟨(some 31), none, (.bin .add (.t 30) (.c (.int .i64 1))), [], [], 2048⟩,
  ⟨(some 8), none, (.mov (.t 31)), [], [], 576⟩])))
def ir4 : IFun := ⟨2, 67, [(.tmp 4)], (.seq (.reg false [⟨(some 2), none, (.box 3 (.t 0)), [], [], 192⟩,
  ⟨(some 4), none, (.mov (.c (.bool false))), [], [], 320⟩]) (.seq (.reg false [⟨(some 11), none, (.call 7 []), [], [], 768⟩,
  ⟨(some 5), none, (.mov (.t 11)), [], [], 384⟩]) (.seq (.seq (.reg false [⟨(some 12), none, (.call 6 []), [], [], 832⟩,
  ⟨(some 13), none, (.un .not (.t 12)), [], [], 896⟩]) (.cond (.t 13) (.seq (.reg false [⟨(some 4), none, (.mov (.c (.bool false))), [], [], 320⟩]) .ret) .skip)) (.seq (.seq (.reg false [⟨(some 6), none, (.mov (.c (.int .i64 0))), [], [], 448⟩]) (.block 0 (.loop lp4_0))) (.seq (.reg false [⟨(some 7), none, (.mov (.c (.int .i64 0))), [], [], 512⟩]) (.seq (.seq (.reg false [⟨(some 23), none, (.mov (.t 1)), [], [], 1536⟩,
  ⟨(some 24), none, (.bin .gtr (.t 23) (.c (.int .i64 0))), [], [], 1600⟩]) (.cond (.t 24) (.reg false [⟨(some 25), none, (.mov (.t 1)), [], [], 1664⟩,
  ⟨(some 26), none, (.bin .rem (.t 25) (.c (.int .i64 50))), [], [], 1728⟩,
  ⟨(some 7), none, (.mov (.t 26)), [], [], 512⟩]) .skip)) (.seq (.seq (.reg false [⟨(some 8), none, (.mov (.c (.int .i64 0))), [], [], 576⟩]) (.block 2 (.loop lp4_1))) (.seq (.reg false [⟨(some 49), none, (.mov (.t 5)), [], [], 3200⟩,
  ⟨(some 50), none, (.call 13 [(.t 49)]), [], [], 3264⟩,
  ⟨(some 48), none, (.mov (.t 50)), [], [], 3136⟩,
  ⟨(some 51), none, (.ext 0 (.t 48)), [], [], 3328⟩,
  ⟨(some 52), none, (.ext 1 (.t 48)), [], [], 3392⟩,
  ⟨(some 9), none, (.mov (.t 51)), [], [], 640⟩,
  ⟨(some 10), none, (.mov (.t 52)), [], [], 704⟩]) (.seq (.reg false [⟨(some 53), none, (.mov (.t 5)), [], [], 3456⟩,
  ⟨(some 54), none, (.call 10 [(.t 53)]), [], [], 3520⟩,
  ⟨(some 55), none, (.bin .eql (.t 54) (.c (.int .i64 4096))), [], [], 3584⟩,
  ⟨(some 56), none, (.mov (.t 55)), [], [], 3648⟩,
  ⟨(some 57), (some (56, true)), (.mov (.t 9)), [], [], 3712⟩,
  ⟨(some 58), (some (56, true)), (.mov (.t 7)), [], [], 3776⟩,
  ⟨(some 59), (some (56, true)), (.bin .add (.c (.int .i64 4096)) (.t 58)), [], [], 3840⟩,
  ⟨(some 60), (some (56, true)), (.bin .eql (.t 57) (.t 59)), [], [], 3904⟩,
  ⟨(some 61), none, (.pick (.t 56) (.t 60) (.c (.bool false))), [], [], 3968⟩,
  ⟨(some 62), none, (.mov (.t 61)), [], [], 4032⟩,
  ⟨(some 63), (some (62, true)), (.mov (.t 10)), [], [], 4096⟩,
  ⟨(some 64), (some (62, true)), (.mov (.t 7)), [], [], 4160⟩,
  ⟨(some 65), (some (62, true)), (.bin .eql (.t 63) (.t 64)), [], [], 4224⟩,
  ⟨(some 66), none, (.pick (.t 62) (.t 65) (.c (.bool false))), [], [], 4288⟩,
  ⟨(some 4), none, (.mov (.t 66)), [], [], 320⟩]) .ret))))))))), none⟩
theorem ok4 : FnOk Try.prog 4 ir4 := .inl ⟨Try.f4, 0, Try.func4, by kernel_rfl, by kernel_rfl⟩
/-- muniment/munimentlaw22.NetNil -/
def ir5 : IFun := ⟨1, 91, [(.tmp 2)], (.seq (.reg false [⟨(some 1), none, (.box 5 (.t 0)), [], [], 128⟩,
  ⟨(some 2), none, (.mov (.c (.bool false))), [], [], 192⟩]) (.seq (.seq (.reg false [⟨(some 9), none, (.call 6 []), [], [], 640⟩,
  ⟨(some 10), none, (.un .not (.t 9)), [], [], 704⟩]) (.cond (.t 10) (.seq (.reg false [⟨(some 2), none, (.mov (.c (.bool false))), [], [], 192⟩]) .ret) .skip)) (.seq (.reg false [⟨(some 3), none, (.mov (.c .nilp)), [], [], 256⟩]) (.seq (.reg false [⟨(some 12), none, (.mov (.t 3)), [], [], 832⟩,
  ⟨(some 13), none, (.fad 3 (.t 1)), [], [], 896⟩,
  ⟨(some 14), none, (.ld false 1 (.t 13)), [], [], 960⟩,
  ⟨(some 15), none, (.call 9 [(.t 12), (.t 14)]), [], [], 1024⟩,
  ⟨(some 11), none, (.mov (.t 15)), [], [], 768⟩,
  ⟨(some 16), none, (.ext 0 (.t 11)), [], [], 1088⟩,
  ⟨(some 17), none, (.ext 1 (.t 11)), [], [], 1152⟩,
  ⟨(some 4), none, (.new [(.int .i64 0), (.int .i64 0), (.str [])]), [], [], 320⟩,
  ⟨none, none, (.st true 3 (.t 4) (.t 16)), [], [], 64⟩,
  ⟨(some 5), none, (.mov (.t 17)), [], [], 384⟩]) (.seq (.reg false [⟨(some 19), none, (.mov (.t 3)), [], [], 1280⟩,
  ⟨(some 20), none, (.call 13 [(.t 19)]), [], [], 1344⟩,
  ⟨(some 18), none, (.mov (.t 20)), [], [], 1216⟩,
  ⟨(some 21), none, (.ext 0 (.t 18)), [], [], 1408⟩,
  ⟨(some 22), none, (.ext 1 (.t 18)), [], [], 1472⟩,
  ⟨(some 6), none, (.mov (.t 21)), [], [], 448⟩,
  ⟨(some 7), none, (.mov (.t 22)), [], [], 512⟩]) (.seq (.reg false [⟨(some 23), none, (.mov (.t 3)), [], [], 1536⟩,
  ⟨(some 24), none, (.call 14 [(.t 23)]), [], [], 1600⟩]) (.seq (.reg false [⟨(some 8), none, (.new [(.int .i64 0)]), [], [], 576⟩,
  ⟨none, none, (.st false 1 (.t 8) (.c (.int .i64 0))), [], [], 64⟩]) (.seq (.seq (.reg false [⟨(some 25), none, (.mov (.t 3)), [], [], 1664⟩,
  ⟨(some 26), none, (.call 15 [(.t 25)]), [], [], 1728⟩]) (.block 0 (.reg false [⟨none, none, (.ent (.c .nilp)), [], [], 0⟩]))) (.seq (.reg false [⟨(some 31), none, (.call 6 []), [], [], 2048⟩,
  ⟨(some 32), none, (.mov (.t 31)), [], [], 2112⟩,
  ⟨(some 33), (some (32, true)), (.mov (.t 3)), [], [], 2176⟩,
  ⟨(some 34), (some (32, true)), (.fad 4 (.t 1)), [], [], 2240⟩,
  ⟨(some 35), (some (32, true)), (.ld false 1 (.t 34)), [], [], 2304⟩,
  ⟨(some 36), (some (32, true)), (.call 8 [(.t 33), (.t 35)]), [], [], 2368⟩,
  ⟨(some 37), (some (32, true)), (.bin .eql (.t 36) (.c (.int .i64 0))), [], [], 2432⟩,
  ⟨(some 38), none, (.pick (.t 32) (.t 37) (.c (.bool false))), [], [], 2496⟩,
  ⟨(some 39), none, (.mov (.t 38)), [], [], 2560⟩,
  ⟨(some 40), (some (39, true)), (.mov (.t 3)), [], [], 2624⟩,
  ⟨(some 41), (some (39, true)), (.call 10 [(.t 40)]), [], [], 2688⟩,
  ⟨(some 42), (some (39, true)), (.bin .eql (.t 41) (.c (.int .i64 0))), [], [], 2752⟩,
  ⟨(some 43), none, (.pick (.t 39) (.t 42) (.c (.bool false))), [], [], 2816⟩,
  ⟨(some 44), none, (.mov (.t 43)), [], [], 2880⟩,
  ⟨(some 45), (some (44, true)), (.mov (.t 5)), [], [], 2944⟩,
  ⟨(some 46), (some (44, true)), (.un .not (.t 45)), [], [], 3008⟩,
  ⟨(some 47), none, (.pick (.t 44) (.t 46) (.c (.bool false))), [], [], 3072⟩,
  ⟨(some 48), none, (.mov (.t 47)), [], [], 3136⟩,
  ⟨(some 49), (some (48, true)), (.mov (.t 3)), [], [], 3200⟩,
  ⟨(some 50), (some (48, true)), (.fad 3 (.t 1)), [], [], 3264⟩,
  ⟨(some 51), (some (48, true)), (.ld false 1 (.t 50)), [], [], 3328⟩,
  ⟨(some 52), (some (48, true)), (.call 16 [(.t 49), (.t 51)]), [], [], 3392⟩,
  ⟨(some 53), (some (48, true)), (.un .not (.t 52)), [], [], 3456⟩,
  ⟨(some 54), none, (.pick (.t 48) (.t 53) (.c (.bool false))), [], [], 3520⟩,
  ⟨(some 55), none, (.mov (.t 54)), [], [], 3584⟩,
  ⟨(some 56), (some (55, true)), (.mov (.t 3)), [], [], 3648⟩,
  ⟨(some 57), (some (55, true)), (.fad 3 (.t 1)), [], [], 3712⟩,
  ⟨(some 58), (some (55, true)), (.ld false 1 (.t 57)), [], [], 3776⟩,
  ⟨(some 59), (some (55, true)), (.call 11 [(.t 56), (.t 58)]), [], [], 3840⟩,
  ⟨(some 60), (some (55, true)), (.un .not (.t 59)), [], [], 3904⟩,
  ⟨(some 61), none, (.pick (.t 55) (.t 60) (.c (.bool false))), [], [], 3968⟩,
  ⟨(some 62), none, (.mov (.t 61)), [], [], 4032⟩,
  ⟨(some 63), (some (62, true)), (.mov (.t 3)), [], [], 4096⟩,
  ⟨(some 64), (some (62, true)), (.fad 3 (.t 1)), [], [], 4160⟩,
  ⟨(some 65), (some (62, true)), (.ld false 1 (.t 64)), [], [], 4224⟩,
  ⟨(some 66), (some (62, true)), (.mk [(.int .i64 0), (.int .i64 0), (.str [])] []), [], [], 4288⟩,
  ⟨(some 67), (some (62, true)), (.call 12 [(.t 63), (.t 65), (.t 66)]), [], [], 4352⟩,
  ⟨(some 68), (some (62, true)), (.un .not (.t 67)), [], [], 4416⟩,
  ⟨(some 69), none, (.pick (.t 62) (.t 68) (.c (.bool false))), [], [], 4480⟩,
  ⟨(some 70), none, (.mov (.t 69)), [], [], 4544⟩,
  ⟨(some 71), (some (70, true)), (.mov (.t 3)), [], [], 4608⟩,
  ⟨(some 72), (some (70, true)), (.fad 1 (.t 1)), [], [], 4672⟩,
  ⟨(some 73), (some (70, true)), (.ld false 1 (.t 72)), [], [], 4736⟩,
  ⟨(some 74), (some (70, true)), (.fad 2 (.t 1)), [], [], 4800⟩,
  ⟨(some 75), (some (70, true)), (.ld false 1 (.t 74)), [], [], 4864⟩,
  ⟨(some 76), (some (70, true)), (.call 17 [(.t 71), (.t 73), (.t 75)]), [], [], 4928⟩,
  ⟨(some 77), (some (70, true)), (.bin .eql (.t 76) (.c (.int .i64 0))), [], [], 4992⟩,
  ⟨(some 78), none, (.pick (.t 70) (.t 77) (.c (.bool false))), [], [], 5056⟩,
  ⟨(some 79), none, (.mov (.t 78)), [], [], 5120⟩,
  ⟨(some 80), (some (79, true)), (.mov (.t 6)), [], [], 5184⟩,
  ⟨(some 81), (some (79, true)), (.bin .eql (.t 80) (.c (.int .i64 0))), [], [], 5248⟩,
  ⟨(some 82), none, (.pick (.t 79) (.t 81) (.c (.bool false))), [], [], 5312⟩,
  ⟨(some 83), none, (.mov (.t 82)), [], [], 5376⟩,
  ⟨(some 84), (some (83, true)), (.mov (.t 7)), [], [], 5440⟩,
  ⟨(some 85), (some (83, true)), (.bin .eql (.t 84) (.c (.int .i64 0))), [], [], 5504⟩,
  ⟨(some 86), none, (.pick (.t 83) (.t 85) (.c (.bool false))), [], [], 5568⟩,
  ⟨(some 87), none, (.mov (.t 86)), [], [], 5632⟩,
  ⟨(some 88), (some (87, true)), (.ld false 1 (.t 8)), [], [], 5696⟩,
  ⟨(some 89), (some (87, true)), (.bin .eql (.t 88) (.c (.int .i64 0))), [], [], 5760⟩,
  ⟨(some 90), none, (.pick (.t 87) (.t 89) (.c (.bool false))), [], [], 5824⟩,
  ⟨(some 2), none, (.mov (.t 90)), [], [], 192⟩]) .ret))))))))), none⟩
theorem ok5 : FnOk Try.prog 5 ir5 := .inl ⟨Try.f5, 0, Try.func5, by kernel_rfl, by kernel_rfl⟩
/-- muniment/munimentlaw22.awake -/
def ir6 : IFun := ⟨0, 31, [(.tmp 0)], (.seq (.reg false [⟨(some 0), none, (.mov (.c (.bool false))), [], [], 64⟩]) (.seq (.reg false [⟨(some 5), none, (.call 7 []), [], [], 384⟩,
  ⟨(some 1), none, (.mov (.t 5)), [], [], 128⟩]) (.seq (.reg false [⟨(some 6), none, (.mov (.t 1)), [], [], 448⟩,
  ⟨(some 7), none, (.mk [(.int .i64 0), (.int .i64 0), (.str [])] [(0, (1, (.c (.int .i64 1)))), (1, (1, (.c (.int .i64 2)))), (2, (1, (.c (.str [97]))))]), [], [], 512⟩,
  ⟨(some 8), none, (.mk [(.int .i64 0), (.int .i64 0), (.str [])] [(0, (1, (.c (.int .i64 1)))), (1, (1, (.c (.int .i64 2)))), (2, (1, (.c (.str [98]))))]), [], [], 576⟩,
  ⟨(some 9), none, (.mksl 3 2 [(.int .i64 0), (.int .i64 0), (.str []), (.int .i64 0), (.int .i64 0), (.str [])] [(0, (3, (.t 7))), (3, (3, (.t 8)))]), [], [], 640⟩,
  ⟨(some 10), none, (.call 8 [(.t 6), (.t 9)]), [], [], 704⟩,
  ⟨(some 2), none, (.mov (.t 10)), [], [], 192⟩]) (.seq (.reg false [⟨(some 12), none, (.mov (.t 1)), [], [], 832⟩,
  ⟨(some 13), none, (.call 9 [(.t 12), (.c (.int .i64 1))]), [], [], 896⟩,
  ⟨(some 11), none, (.mov (.t 13)), [], [], 768⟩,
  ⟨(some 14), none, (.ext 0 (.t 11)), [], [], 960⟩,
  ⟨(some 15), none, (.ext 1 (.t 11)), [], [], 1024⟩,
  ⟨(some 3), none, (.new [(.int .i64 0), (.int .i64 0), (.str [])]), [], [], 256⟩,
  ⟨none, none, (.st true 3 (.t 3) (.t 14)), [], [], 64⟩,
  ⟨(some 4), none, (.mov (.t 15)), [], [], 320⟩]) (.seq (.reg false [⟨(some 16), none, (.mov (.t 2)), [], [], 1088⟩,
  ⟨(some 17), none, (.bin .eql (.t 16) (.c (.int .i64 2))), [], [], 1152⟩,
  ⟨(some 18), none, (.mov (.t 17)), [], [], 1216⟩,
  ⟨(some 19), (some (18, true)), (.mov (.t 4)), [], [], 1280⟩,
  ⟨(some 20), none, (.pick (.t 18) (.t 19) (.c (.bool false))), [], [], 1344⟩,
  ⟨(some 21), none, (.mov (.t 20)), [], [], 1408⟩,
  ⟨(some 22), (some (21, true)), (.fad 2 (.t 3)), [], [], 1472⟩,
  ⟨(some 23), (some (21, true)), (.ld false 1 (.t 22)), [], [], 1536⟩,
  ⟨(some 24), (some (21, true)), (.bin .eql (.t 23) (.c (.str [98]))), [], [], 1600⟩,
  ⟨(some 25), none, (.pick (.t 21) (.t 24) (.c (.bool false))), [], [], 1664⟩,
  ⟨(some 26), none, (.mov (.t 25)), [], [], 1728⟩,
  ⟨(some 27), (some (26, true)), (.mov (.t 1)), [], [], 1792⟩,
  ⟨(some 28), (some (26, true)), (.call 10 [(.t 27)]), [], [], 1856⟩,
  ⟨(some 29), (some (26, true)), (.bin .eql (.t 28) (.c (.int .i64 1))), [], [], 1920⟩,
  ⟨(some 30), none, (.pick (.t 26) (.t 29) (.c (.bool false))), [], [], 1984⟩,
  ⟨(some 0), none, (.mov (.t 30)), [], [], 64⟩]) .ret))))), none⟩
theorem ok6 : FnOk Try.prog 6 ir6 := .inl ⟨Try.f6, 0, Try.func6, by kernel_rfl, by kernel_rfl⟩
/-- muniment/net.New -/
def ir7 : IFun := ⟨0, 4, [(.tmp 0)], (.seq (.reg false [⟨(some 0), none, (.mov (.c .nilp)), [], [], 64⟩]) (.seq (.reg false [⟨(some 1), none, .mkm, [], [], 128⟩,
  ⟨(some 2), none, (.mk [(.sl .nil 0 []), .nilm, (.int .i64 0), (.int .i64 0)] [(1, (1, (.t 1)))]), [], [], 192⟩,
  ⟨(some 3), none, (.box 4 (.t 2)), [], [], 256⟩,
  ⟨(some 0), none, (.mov (.t 3)), [], [], 64⟩]) .ret)), none⟩
theorem ok7 : FnOk Try.prog 7 ir7 := .inl ⟨Try.f7, 0, Try.func7, by kernel_rfl, by kernel_rfl⟩
/-- (*muniment/net.Net).Send -/
def lp8_0 : IC := (.seq (.reg false [⟨(some 13), none, (.bin .lss (.t 12) (.t 11)), [], [], 896⟩]) (.seq (.cond (.t 13) .skip (.exit 0)) (.seq (.block 1 (.seq (.reg false [⟨(some 14), none, (.iaL 3 (.t 10) (.t 12)), [], [], 960⟩,
  ⟨(some 15), none, (.ld true 3 (.t 14)), [], [], 1024⟩,
  ⟨(some 7), none, (.new [(.int .i64 0), (.int .i64 0), (.str [])]), [], [], 512⟩,
  ⟨none, none, (.st true 3 (.t 7) (.t 15)), [], [], 64⟩]) (.seq (.reg false [⟨(some 16), none, (.mov (.t 0)), [], [], 1088⟩,
  ⟨(some 17), none, (.chk (.t 16)), [], [], 1152⟩,
  ⟨(some 18), none, (.fad 2 (.t 17)), [], [], 1216⟩,
  ⟨(some 19), none, (.ld false 1 (.t 18)), [], [], 1280⟩,
  ⟨(some 20), none, (.bin .add (.t 19) (.c (.int .i64 1))), [], [], 1344⟩,
  ⟨(some 21), none, (.chk (.t 16)), [], [], 1408⟩,
  ⟨(some 22), none, (.fad 2 (.t 21)), [], [], 1472⟩,
  ⟨none, none, (.st false 1 (.t 22) (.t 20)), [], [], 64⟩]) (.seq (.seq (.reg true [⟨(some 23), none, (.mov (.t 0)), [], [], 1536⟩,
  ⟨(some 24), none, (.chk (.t 23)), [0], [0], 1600⟩,
  ⟨(some 25), none, (.fad 1 (.t 24)), [1], [1, 0], 1664⟩,
  ⟨(some 26), none, (.ld false 1 (.t 25)), [2], [2, 1, 0], 1728⟩,
  ⟨(some 27), none, (.fad 0 (.t 7)), [], [], 1792⟩,
  ⟨(some 28), none, (.ld false 1 (.t 27)), [4], [4], 1856⟩,
  ⟨(some 29), none, (.fad 1 (.t 7)), [], [], 1920⟩,
  ⟨(some 30), none, (.ld false 1 (.t 29)), [6], [6], 1984⟩,
  ⟨(some 31), none, (.mk [(.int .i64 0), (.int .i64 0)] [(0, (1, (.t 28))), (1, (1, (.t 30)))]), [5, 7], [5, 7, 4, 6], 2048⟩,
  ⟨(some 32), none, (.mget (.many [.i, .i]) false (.bool false) (.t 26) (.t 31)), [3, 8], [3, 8, 2, 1, 0, 5, 7, 4, 6], 2112⟩,
  ⟨(some 33), none, (.mov (.t 32)), [9], [9, 3, 8, 2, 1, 0, 5, 7, 4, 6], 2176⟩,
  ⟨(some 34), (some (33, false)), (.mov (.t 0)), [10], [10, 9, 3, 8, 2, 1, 0, 5, 7, 4, 6], 2240⟩,
  ⟨(some 35), (some (33, false)), (.chk (.t 34)), [11, 10], [11, 10, 9, 3, 8, 2, 1, 0, 5, 7, 4, 6], 2304⟩,
  ⟨(some 36), (some (33, false)), (.fad 0 (.t 35)), [12, 10], [12, 10, 11, 9, 3, 8, 2, 1, 0, 5, 7, 4, 6], 2368⟩,
  ⟨(some 37), (some (33, false)), (.ld false 1 (.t 36)), [13, 10], [13, 10, 12, 11, 9, 3, 8, 2, 1, 0, 5, 7, 4, 6], 2432⟩,
  ⟨(some 38), (some (33, false)), (.len false (.t 37)), [14, 10], [14, 10, 13, 12, 11, 9, 3, 8, 2, 1, 0, 5, 7, 4, 6], 2496⟩,
  ⟨(some 39), (some (33, false)), (.bin .geq (.t 38) (.c (.int .i64 4096))), [15, 10], [15, 10, 14, 13, 12, 11, 9, 3, 8, 2, 1, 0, 5, 7, 4, 6], 2560⟩,
  ⟨(some 40), none, (.pick (.t 33) (.c (.bool true)) (.t 39)), [10, 16], [10, 16, 9, 3, 8, 2, 1, 0, 5, 7, 4, 6, 15, 14, 13, 12, 11], 2624⟩]) (.cond (.t 40) (.seq (.reg false [⟨(some 41), none, (.mov (.t 0)), [], [], 2688⟩,
  ⟨(some 42), none, (.chk (.t 41)), [], [], 2752⟩,
  ⟨(some 43), none, (.fad 3 (.t 42)), [], [], 2816⟩,
  ⟨(some 44), none, (.ld false 1 (.t 43)), [], [], 2880⟩,
  ⟨(some 45), none, (.bin .add (.t 44) (.c (.int .i64 1))), [], [], 2944⟩,
  ⟨(some 46), none, (.chk (.t 41)), [], [], 3008⟩,
  ⟨(some 47), none, (.fad 3 (.t 46)), [], [], 3072⟩,
  ⟨none, none, (.st false 1 (.t 47) (.t 45)), [], [], 64⟩]) (.exit 1)) .skip)) (.seq (.reg true [⟨(some 48), none, (.mov (.t 0)), [], [], 3136⟩,
  ⟨(some 49), none, (.mov (.t 0)), [], [], 3200⟩,
  ⟨(some 50), none, (.chk (.t 49)), [1], [1], 3264⟩,
  ⟨(some 51), none, (.fad 0 (.t 50)), [2], [2, 1], 3328⟩,
  ⟨(some 52), none, (.ld false 1 (.t 51)), [3], [3, 2, 1], 3392⟩,
  ⟨(some 53), none, (.ld true 3 (.t 7)), [], [], 3456⟩,
  ⟨(some 54), none, (.mksl 3 1 [(.int .i64 0), (.int .i64 0), (.str [])] [(0, (3, (.t 53)))]), [5], [5], 3520⟩,
  ⟨(some 55), none, (.app 3 32 (.t 52) (.t 54)), [4, 6], [4, 6, 3, 2, 1, 5], 3584⟩,
  ⟨(some 56), none, (.chk (.t 48)), [0, 0, 1, 2, 3, 4, 5, 6, 7], [0, 1, 2, 3, 4, 5, 6, 7], 3648⟩,
  ⟨(some 57), none, (.fad 0 (.t 56)), [8, 0, 1, 2, 3, 4, 5, 6, 7], [8, 0, 1, 2, 3, 4, 5, 6, 7], 3712⟩,
  ⟨none, none, (.st false 1 (.t 57) (.t 55)), [9, 7, 7, 0, 1, 2, 3, 4, 5, 6, 7], [9, 7, 0, 1, 2, 3, 4, 5, 6, 8], 64⟩]) (.reg false [⟨(some 58), none, (.mov (.t 5)), [], [], 3776⟩,
  ⟨(some 59), none, (.bin .add (.t 58) (.c (.int .i64 1))), [], [], 3840⟩,
  ⟨(some 5), none, (.mov (.t 59)), [], [], 384⟩])))))) (.reg false [⟨(some 60), none, (.bin .add (.t 12) (.c (.int .i64 1))), [], [], 3904⟩,
  ⟨(some 12), none, (.mov (.t 60)), [], [], 832⟩]))))
def ir8 : IFun := ⟨2, 62, [(.tmp 4)], (.seq (.reg false [⟨(some 4), none, (.mov (.c (.int .i64 0))), [], [], 320⟩]) (.seq (.seq (.reg false [⟨(some 8), none, (.mov (.t 0)), [], [], 576⟩,
  ⟨(some 9), none, (.eqn false .ptr (.t 8) (.c .nilp)), [], [], 640⟩]) (.cond (.t 9) (.seq (.reg false [⟨(some 4), none, (.mov (.c (.int .i64 0))), [], [], 320⟩]) .ret) .skip)) (.seq (.reg false [⟨(some 5), none, (.mov (.c (.int .i64 0))), [], [], 384⟩]) (.seq (.seq (.reg false [⟨(some 10), none, (.mov (.t 1)), [], [], 704⟩,
  ⟨(some 11), none, (.len false (.t 10)), [], [], 768⟩,
  ⟨(some 12), none, (.mov (.c (.int .i64 0))), [], [], 832⟩]) (.block 0 (.loop lp8_0))) (.seq (.reg false [⟨(some 61), none, (.mov (.t 5)), [], [], 3968⟩,
  ⟨(some 4), none, (.mov (.t 61)), [], [], 320⟩]) .ret))))), none⟩
theorem ok8 : FnOk Try.prog 8 ir8 := .inl ⟨Try.f8, 0, Try.func8, by kernel_rfl, by kernel_rfl⟩
/-- (*muniment/net.Net).Take -/
def ir9 : IFun := ⟨2, 42, [(.cell 4 true 3), (.tmp 5)], (.seq (.reg false [⟨(some 4), none, (.new [(.int .i64 0), (.int .i64 0), (.str [])]), [], [], 320⟩,
  ⟨(some 5), none, (.mov (.c (.bool false))), [], [], 384⟩]) (.seq (.seq (.reg false [⟨(some 7), none, (.mov (.t 0)), [], [], 512⟩,
  ⟨(some 8), none, (.eqn false .ptr (.t 7) (.c .nilp)), [], [], 576⟩,
  ⟨(some 9), none, (.mov (.t 8)), [], [], 640⟩,
  ⟨(some 10), (some (9, false)), (.mov (.t 1)), [], [], 704⟩,
  ⟨(some 11), (some (9, false)), (.bin .lss (.t 10) (.c (.int .i64 0))), [], [], 768⟩,
  ⟨(some 12), none, (.pick (.t 9) (.c (.bool true)) (.t 11)), [], [], 832⟩,
  ⟨(some 13), none, (.mov (.t 12)), [], [], 896⟩,
  ⟨(some 14), (some (13, false)), (.mov (.t 1)), [], [], 960⟩,
  ⟨(some 15), (some (13, false)), (.mov (.t 0)), [], [], 1024⟩,
  ⟨(some 16), (some (13, false)), (.chk (.t 15)), [], [], 1088⟩,
  ⟨(some 17), (some (13, false)), (.fad 0 (.t 16)), [], [], 1152⟩,
  ⟨(some 18), (some (13, false)), (.ld false 1 (.t 17)), [], [], 1216⟩,
  ⟨(some 19), (some (13, false)), (.len false (.t 18)), [], [], 1280⟩,
  ⟨(some 20), (some (13, false)), (.bin .geq (.t 14) (.t 19)), [], [], 1344⟩,
  ⟨(some 21), none, (.pick (.t 13) (.c (.bool true)) (.t 20)), [], [], 1408⟩]) (.cond (.t 21) (.seq (.reg false [⟨(some 22), none, (.mk [(.int .i64 0), (.int .i64 0), (.str [])] []), [], [], 1472⟩,
  ⟨none, none, (.st true 3 (.t 4) (.t 22)), [], [], 64⟩,
  ⟨(some 5), none, (.mov (.c (.bool false))), [], [], 384⟩]) .ret) .skip)) (.seq (.reg false [⟨(some 23), none, (.mov (.t 0)), [], [], 1536⟩,
  ⟨(some 24), none, (.chk (.t 23)), [], [], 1600⟩,
  ⟨(some 25), none, (.fad 0 (.t 24)), [], [], 1664⟩,
  ⟨(some 26), none, (.ld false 1 (.t 25)), [], [], 1728⟩,
  ⟨(some 27), none, (.mov (.t 1)), [], [], 1792⟩,
  ⟨(some 28), none, (.iaL 3 (.t 26) (.t 27)), [], [], 1856⟩,
  ⟨(some 29), none, (.ld true 3 (.t 28)), [], [], 1920⟩,
  ⟨(some 6), none, (.new [(.int .i64 0), (.int .i64 0), (.str [])]), [], [], 448⟩,
  ⟨none, none, (.st true 3 (.t 6) (.t 29)), [], [], 64⟩]) (.seq (.reg false [⟨(some 30), none, (.mov (.t 0)), [], [], 1984⟩,
  ⟨(some 31), none, (.mov (.t 0)), [], [], 2048⟩,
  ⟨(some 32), none, (.chk (.t 31)), [], [], 2112⟩,
  ⟨(some 33), none, (.fad 0 (.t 32)), [], [], 2176⟩,
  ⟨(some 34), none, (.ld false 1 (.t 33)), [], [], 2240⟩,
  ⟨(some 35), none, (.mov (.t 1)), [], [], 2304⟩,
  ⟨(some 36), none, (.mov (.t 1)), [], [], 2368⟩,
  ⟨(some 37), none, (.bin .add (.t 36) (.c (.int .i64 1))), [], [], 2432⟩,
  ⟨(some 38), none, (.call 18 [(.t 34), (.t 35), (.t 37)]), [], [], 2496⟩,
  ⟨(some 39), none, (.chk (.t 30)), [], [], 2560⟩,
  ⟨(some 40), none, (.fad 0 (.t 39)), [], [], 2624⟩,
  ⟨none, none, (.st false 1 (.t 40) (.t 38)), [], [], 64⟩]) (.seq (.reg false [⟨(some 41), none, (.ld true 3 (.t 6)), [], [], 2688⟩,
  ⟨none, none, (.st true 3 (.t 4) (.t 41)), [], [], 64⟩,
  ⟨(some 5), none, (.mov (.c (.bool true))), [], [], 384⟩]) .ret))))), none⟩
theorem ok9 : FnOk Try.prog 9 ir9 := .inl ⟨Try.f9, 0, Try.func9, by kernel_rfl, by kernel_rfl⟩
/-- (*muniment/net.Net).Len -/
def ir10 : IFun := ⟨1, 10, [(.tmp 2)], (.seq (.reg false [⟨(some 2), none, (.mov (.c (.int .i64 0))), [], [], 192⟩]) (.seq (.seq (.reg false [⟨(some 3), none, (.mov (.t 0)), [], [], 256⟩,
  ⟨(some 4), none, (.eqn false .ptr (.t 3) (.c .nilp)), [], [], 320⟩]) (.cond (.t 4) (.seq (.reg false [⟨(some 2), none, (.mov (.c (.int .i64 0))), [], [], 192⟩]) .ret) .skip)) (.seq (.reg false [⟨(some 5), none, (.mov (.t 0)), [], [], 384⟩,
  ⟨(some 6), none, (.chk (.t 5)), [], [], 448⟩,
  ⟨(some 7), none, (.fad 0 (.t 6)), [], [], 512⟩,
  ⟨(some 8), none, (.ld false 1 (.t 7)), [], [], 576⟩,
  ⟨(some 9), none, (.len false (.t 8)), [], [], 640⟩,
  ⟨(some 2), none, (.mov (.t 9)), [], [], 192⟩]) .ret))), none⟩
theorem ok10 : FnOk Try.prog 10 ir10 := .inl ⟨Try.f10, 0, Try.func10, by kernel_rfl, by kernel_rfl⟩
/-- (*muniment/net.Net).Double -/
def ir11 : IFun := ⟨2, 44, [(.tmp 4)], (.seq (.reg false [⟨(some 4), none, (.mov (.c (.bool false))), [], [], 320⟩]) (.seq (.seq (.reg false [⟨(some 5), none, (.mov (.t 0)), [], [], 384⟩,
  ⟨(some 6), none, (.eqn false .ptr (.t 5) (.c .nilp)), [], [], 448⟩,
  ⟨(some 7), none, (.mov (.t 6)), [], [], 512⟩,
  ⟨(some 8), (some (7, false)), (.mov (.t 1)), [], [], 576⟩,
  ⟨(some 9), (some (7, false)), (.bin .lss (.t 8) (.c (.int .i64 0))), [], [], 640⟩,
  ⟨(some 10), none, (.pick (.t 7) (.c (.bool true)) (.t 9)), [], [], 704⟩,
  ⟨(some 11), none, (.mov (.t 10)), [], [], 768⟩,
  ⟨(some 12), (some (11, false)), (.mov (.t 1)), [], [], 832⟩,
  ⟨(some 13), (some (11, false)), (.mov (.t 0)), [], [], 896⟩,
  ⟨(some 14), (some (11, false)), (.chk (.t 13)), [], [], 960⟩,
  ⟨(some 15), (some (11, false)), (.fad 0 (.t 14)), [], [], 1024⟩,
  ⟨(some 16), (some (11, false)), (.ld false 1 (.t 15)), [], [], 1088⟩,
  ⟨(some 17), (some (11, false)), (.len false (.t 16)), [], [], 1152⟩,
  ⟨(some 18), (some (11, false)), (.bin .geq (.t 12) (.t 17)), [], [], 1216⟩,
  ⟨(some 19), none, (.pick (.t 11) (.c (.bool true)) (.t 18)), [], [], 1280⟩,
  ⟨(some 20), none, (.mov (.t 19)), [], [], 1344⟩,
  ⟨(some 21), (some (20, false)), (.mov (.t 0)), [], [], 1408⟩,
  ⟨(some 22), (some (20, false)), (.chk (.t 21)), [], [], 1472⟩,
  ⟨(some 23), (some (20, false)), (.fad 0 (.t 22)), [], [], 1536⟩,
  ⟨(some 24), (some (20, false)), (.ld false 1 (.t 23)), [], [], 1600⟩,
  ⟨(some 25), (some (20, false)), (.len false (.t 24)), [], [], 1664⟩,
  ⟨(some 26), (some (20, false)), (.bin .geq (.t 25) (.c (.int .i64 4096))), [], [], 1728⟩,
  ⟨(some 27), none, (.pick (.t 20) (.c (.bool true)) (.t 26)), [], [], 1792⟩]) (.cond (.t 27) (.seq (.reg false [⟨(some 4), none, (.mov (.c (.bool false))), [], [], 320⟩]) .ret) .skip)) (.seq (.reg true [⟨(some 28), none, (.mov (.t 0)), [], [], 1856⟩,
  ⟨(some 29), none, (.mov (.t 0)), [], [], 1920⟩,
  ⟨(some 30), none, (.chk (.t 29)), [1], [1], 1984⟩,
  ⟨(some 31), none, (.fad 0 (.t 30)), [2], [2, 1], 2048⟩,
  ⟨(some 32), none, (.ld false 1 (.t 31)), [3], [3, 2, 1], 2112⟩,
  ⟨(some 33), none, (.mov (.t 0)), [], [], 2176⟩,
  ⟨(some 34), none, (.chk (.t 33)), [5], [5], 2240⟩,
  ⟨(some 35), none, (.fad 0 (.t 34)), [6], [6, 5], 2304⟩,
  ⟨(some 36), none, (.ld false 1 (.t 35)), [7], [7, 6, 5], 2368⟩,
  ⟨(some 37), none, (.mov (.t 1)), [], [], 2432⟩,
  ⟨(some 38), none, (.iaL 3 (.t 36) (.t 37)), [8, 9], [8, 9, 7, 6, 5], 2496⟩,
  ⟨(some 39), none, (.ld true 3 (.t 38)), [10], [10, 8, 9, 7, 6, 5], 2560⟩,
  ⟨(some 40), none, (.mksl 3 1 [(.int .i64 0), (.int .i64 0), (.str [])] [(0, (3, (.t 39)))]), [11], [11, 10, 8, 9, 7, 6, 5], 2624⟩,
  ⟨(some 41), none, (.app 3 32 (.t 32) (.t 40)), [4, 12], [4, 12, 3, 2, 1, 11, 10, 8, 9, 7, 6, 5], 2688⟩,
  ⟨(some 42), none, (.chk (.t 28)), [0, 0, 1, 2, 3, 4, 5, 6, 7, 8, 9, 10, 11, 12, 13], [0, 1, 2, 3, 4, 5, 6, 7, 8, 9, 10, 11, 12, 13], 2752⟩,
  ⟨(some 43), none, (.fad 0 (.t 42)), [14, 0, 1, 2, 3, 4, 5, 6, 7, 8, 9, 10, 11, 12, 13], [14, 0, 1, 2, 3, 4, 5, 6, 7, 8, 9, 10, 11, 12, 13], 2816⟩,
  ⟨none, none, (.st false 1 (.t 43) (.t 41)), [15, 13, 13, 0, 1, 2, 3, 4, 5, 6, 7, 8, 9, 10, 11, 12, 13], [15, 13, 0, 1, 2, 3, 4, 5, 6, 7, 8, 9, 10, 11, 12, 14], 64⟩]) (.seq (.reg false [⟨(some 4), none, (.mov (.c (.bool true))), [], [], 320⟩]) .ret)))), none⟩
theorem ok11 : FnOk Try.prog 11 ir11 := .inl ⟨Try.f11, 0, Try.func11, by kernel_rfl, by kernel_rfl⟩
/-- (*muniment/net.Net).Insert -/
def ir12 : IFun := ⟨3, 41, [(.tmp 6)], (.seq (.reg false [⟨(some 5), none, (.box 3 (.t 2)), [], [], 384⟩,
  ⟨(some 6), none, (.mov (.c (.bool false))), [], [], 448⟩]) (.seq (.seq (.reg false [⟨(some 7), none, (.mov (.t 0)), [], [], 512⟩,
  ⟨(some 8), none, (.eqn false .ptr (.t 7) (.c .nilp)), [], [], 576⟩,
  ⟨(some 9), none, (.mov (.t 8)), [], [], 640⟩,
  ⟨(some 10), (some (9, false)), (.mov (.t 1)), [], [], 704⟩,
  ⟨(some 11), (some (9, false)), (.bin .lss (.t 10) (.c (.int .i64 0))), [], [], 768⟩,
  ⟨(some 12), none, (.pick (.t 9) (.c (.bool true)) (.t 11)), [], [], 832⟩,
  ⟨(some 13), none, (.mov (.t 12)), [], [], 896⟩,
  ⟨(some 14), (some (13, false)), (.mov (.t 1)), [], [], 960⟩,
  ⟨(some 15), (some (13, false)), (.mov (.t 0)), [], [], 1024⟩,
  ⟨(some 16), (some (13, false)), (.chk (.t 15)), [], [], 1088⟩,
  ⟨(some 17), (some (13, false)), (.fad 0 (.t 16)), [], [], 1152⟩,
  ⟨(some 18), (some (13, false)), (.ld false 1 (.t 17)), [], [], 1216⟩,
  ⟨(some 19), (some (13, false)), (.len false (.t 18)), [], [], 1280⟩,
  ⟨(some 20), (some (13, false)), (.bin .gtr (.t 14) (.t 19)), [], [], 1344⟩,
  ⟨(some 21), none, (.pick (.t 13) (.c (.bool true)) (.t 20)), [], [], 1408⟩,
  ⟨(some 22), none, (.mov (.t 21)), [], [], 1472⟩,
  ⟨(some 23), (some (22, false)), (.mov (.t 0)), [], [], 1536⟩,
  ⟨(some 24), (some (22, false)), (.chk (.t 23)), [], [], 1600⟩,
  ⟨(some 25), (some (22, false)), (.fad 0 (.t 24)), [], [], 1664⟩,
  ⟨(some 26), (some (22, false)), (.ld false 1 (.t 25)), [], [], 1728⟩,
  ⟨(some 27), (some (22, false)), (.len false (.t 26)), [], [], 1792⟩,
  ⟨(some 28), (some (22, false)), (.bin .geq (.t 27) (.c (.int .i64 4096))), [], [], 1856⟩,
  ⟨(some 29), none, (.pick (.t 22) (.c (.bool true)) (.t 28)), [], [], 1920⟩]) (.cond (.t 29) (.seq (.reg false [⟨(some 6), none, (.mov (.c (.bool false))), [], [], 448⟩]) .ret) .skip)) (.seq (.reg true [⟨(some 30), none, (.mov (.t 0)), [], [], 1984⟩,
  ⟨(some 31), none, (.mov (.t 0)), [], [], 2048⟩,
  ⟨(some 32), none, (.chk (.t 31)), [1], [1], 2112⟩,
  ⟨(some 33), none, (.fad 0 (.t 32)), [2], [2, 1], 2176⟩,
  ⟨(some 34), none, (.ld false 1 (.t 33)), [3], [3, 2, 1], 2240⟩,
  ⟨(some 35), none, (.mov (.t 1)), [], [], 2304⟩,
  ⟨(some 36), none, (.ld true 3 (.t 5)), [], [], 2368⟩,
  ⟨(some 37), none, (.mksl 3 1 [(.int .i64 0), (.int .i64 0), (.str [])] [(0, (3, (.t 36)))]), [6], [6], 2432⟩,
  ⟨(some 38), none, (.call 19 [(.t 34), (.t 35), (.t 37)]), [4, 5, 7], [4, 5, 7, 3, 2, 1, 6], 2496⟩,
  ⟨(some 39), none, (.chk (.t 30)), [0, 0, 1, 2, 3, 4, 5, 6, 7, 8], [0, 1, 2, 3, 4, 5, 6, 7, 8], 2560⟩,
  ⟨(some 40), none, (.fad 0 (.t 39)), [9, 0, 1, 2, 3, 4, 5, 6, 7, 8], [9, 0, 1, 2, 3, 4, 5, 6, 7, 8], 2624⟩,
  ⟨none, none, (.st false 1 (.t 40) (.t 38)), [10, 8, 8, 0, 1, 2, 3, 4, 5, 6, 7, 8], [10, 8, 0, 1, 2, 3, 4, 5, 6, 7, 9], 64⟩]) (.seq (.reg false [⟨(some 6), none, (.mov (.c (.bool true))), [], [], 448⟩]) .ret)))), none⟩
theorem ok12 : FnOk Try.prog 12 ir12 := .inl ⟨Try.f12, 0, Try.func12, by kernel_rfl, by kernel_rfl⟩
/-- (*muniment/net.Net).Counts -/
def ir13 : IFun := ⟨1, 14, [(.tmp 2), (.tmp 3)], (.seq (.reg false [⟨(some 2), none, (.mov (.c (.int .i64 0))), [], [], 192⟩,
  ⟨(some 3), none, (.mov (.c (.int .i64 0))), [], [], 256⟩]) (.seq (.seq (.reg false [⟨(some 4), none, (.mov (.t 0)), [], [], 320⟩,
  ⟨(some 5), none, (.eqn false .ptr (.t 4) (.c .nilp)), [], [], 384⟩]) (.cond (.t 5) (.seq (.reg false [⟨(some 2), none, (.mov (.c (.int .i64 0))), [], [], 192⟩,
  ⟨(some 3), none, (.mov (.c (.int .i64 0))), [], [], 256⟩]) .ret) .skip)) (.seq (.reg true [⟨(some 6), none, (.mov (.t 0)), [], [], 448⟩,
  ⟨(some 7), none, (.chk (.t 6)), [0], [0], 512⟩,
  ⟨(some 8), none, (.fad 2 (.t 7)), [1], [1, 0], 576⟩,
  ⟨(some 9), none, (.ld false 1 (.t 8)), [2], [2, 1, 0], 640⟩,
  ⟨(some 10), none, (.mov (.t 0)), [], [], 704⟩,
  ⟨(some 11), none, (.chk (.t 10)), [4], [4], 768⟩,
  ⟨(some 12), none, (.fad 3 (.t 11)), [5], [5, 4], 832⟩,
  ⟨(some 13), none, (.ld false 1 (.t 12)), [6], [6, 5, 4], 896⟩,
  ⟨(some 2), none, (.mov (.t 9)), [3, 0, 1, 2, 3], [3, 0, 1, 2], 192⟩,
  ⟨(some 3), none, (.mov (.t 13)), [7, 8, 0, 1, 2, 3, 4, 5, 6, 7, 8], [7, 8, 0, 1, 2, 3, 4, 5, 6], 256⟩]) .ret))), none⟩
theorem ok13 : FnOk Try.prog 13 ir13 := .inl ⟨Try.f13, 0, Try.func13, by kernel_rfl, by kernel_rfl⟩
/-- (*muniment/net.Net).Heal -/
def ir14 : IFun := ⟨1, 8, [], (.seq (.reg false [⟨(some 2), none, (.mov (.t 0)), [], [], 192⟩,
  ⟨(some 3), none, (.eqn true .ptr (.t 2) (.c .nilp)), [], [], 256⟩]) (.cond (.t 3) (.reg false [⟨(some 4), none, (.mov (.t 0)), [], [], 320⟩,
  ⟨(some 5), none, .mkm, [], [], 384⟩,
  ⟨(some 6), none, (.chk (.t 4)), [], [], 448⟩,
  ⟨(some 7), none, (.fad 1 (.t 6)), [], [], 512⟩,
  ⟨none, none, (.st false 1 (.t 7) (.t 5)), [], [], 64⟩]) .skip)), none⟩
theorem ok14 : FnOk Try.prog 14 ir14 := .inl ⟨Try.f14, 0, Try.func14, by kernel_rfl, by kernel_rfl⟩
/-- (*muniment/net.Net).All -/
def ir15 : IFun := ⟨1, 4, [(.tmp 2)], (.seq (.reg false [⟨(some 1), none, (.box 1 (.t 0)), [], [], 128⟩,
  ⟨(some 2), none, (.mov (.c .nilfn)), [], [], 192⟩]) (.seq (.reg false [⟨(some 3), none, (.clo 20 [(.t 1)]), [], [], 256⟩,
  ⟨(some 2), none, (.mov (.t 3)), [], [], 192⟩]) .ret)), none⟩
theorem ok15 : FnOk Try.prog 15 ir15 := .inl ⟨Try.f15, 0, Try.func15, by kernel_rfl, by kernel_rfl⟩
/-- (*muniment/net.Net).Drop -/
def ir16 : IFun := ⟨2, 22, [(.tmp 4)], (.seq (.reg false [⟨(some 4), none, (.mov (.c (.bool false))), [], [], 320⟩]) (.seq (.reg false [⟨(some 8), none, (.mov (.t 0)), [], [], 576⟩,
  ⟨(some 9), none, (.mov (.t 1)), [], [], 640⟩,
  ⟨(some 10), none, (.call 9 [(.t 8), (.t 9)]), [], [], 704⟩,
  ⟨(some 7), none, (.mov (.t 10)), [], [], 512⟩,
  ⟨(some 11), none, (.ext 0 (.t 7)), [], [], 768⟩,
  ⟨(some 12), none, (.ext 1 (.t 7)), [], [], 832⟩,
  ⟨(some 5), none, (.new [(.int .i64 0), (.int .i64 0), (.str [])]), [], [], 384⟩,
  ⟨none, none, (.st true 3 (.t 5) (.t 11)), [], [], 64⟩,
  ⟨(some 6), none, (.mov (.t 12)), [], [], 448⟩]) (.seq (.seq (.reg false [⟨(some 13), none, (.mov (.t 6)), [], [], 896⟩]) (.cond (.t 13) (.reg false [⟨(some 14), none, (.mov (.t 0)), [], [], 960⟩,
  ⟨(some 15), none, (.chk (.t 14)), [], [], 1024⟩,
  ⟨(some 16), none, (.fad 3 (.t 15)), [], [], 1088⟩,
  ⟨(some 17), none, (.ld false 1 (.t 16)), [], [], 1152⟩,
  ⟨(some 18), none, (.bin .add (.t 17) (.c (.int .i64 1))), [], [], 1216⟩,
  ⟨(some 19), none, (.chk (.t 14)), [], [], 1280⟩,
  ⟨(some 20), none, (.fad 3 (.t 19)), [], [], 1344⟩,
  ⟨none, none, (.st false 1 (.t 20) (.t 18)), [], [], 64⟩]) .skip)) (.seq (.reg false [⟨(some 21), none, (.mov (.t 6)), [], [], 1408⟩,
  ⟨(some 4), none, (.mov (.t 21)), [], [], 320⟩]) .ret)))), none⟩
theorem ok16 : FnOk Try.prog 16 ir16 := .inl ⟨Try.f16, 0, Try.func16, by kernel_rfl, by kernel_rfl⟩
/-- (*muniment/net.Net).Cut -/
def ir17 : IFun := ⟨3, 72, [(.tmp 6)], (.seq (.reg false [⟨(some 3), none, (.box 1 (.t 0)), [], [], 256⟩,
  ⟨(some 6), none, (.mov (.c (.int .i64 0))), [], [], 448⟩]) (.seq (.seq (.reg false [⟨(some 11), none, (.ld false 1 (.t 3)), [], [], 768⟩,
  ⟨(some 12), none, (.eqn false .ptr (.t 11) (.c .nilp)), [], [], 832⟩]) (.cond (.t 12) (.seq (.reg false [⟨(some 6), none, (.mov (.c (.int .i64 0))), [], [], 448⟩]) .ret) .skip)) (.seq (.reg true [⟨(some 13), none, (.ld false 1 (.t 3)), [], [], 896⟩,
  ⟨(some 14), none, (.chk (.t 13)), [0], [0], 960⟩,
  ⟨(some 15), none, (.fad 1 (.t 14)), [1], [1, 0], 1024⟩,
  ⟨(some 16), none, (.ld false 1 (.t 15)), [2], [2, 1, 0], 1088⟩,
  ⟨(some 17), none, (.mov (.t 1)), [], [], 1152⟩,
  ⟨(some 18), none, (.mov (.t 2)), [], [], 1216⟩,
  ⟨(some 19), none, (.mk [(.int .i64 0), (.int .i64 0)] [(0, (1, (.t 17))), (1, (1, (.t 18)))]), [4, 5], [4, 5], 1280⟩,
  ⟨(some 20), none, (.ld false 1 (.t 3)), [], [], 1344⟩,
  ⟨(some 21), none, (.chk (.t 20)), [7], [7], 1408⟩,
  ⟨(some 22), none, (.fad 1 (.t 21)), [8], [8, 7], 1472⟩,
  ⟨(some 23), none, (.ld false 1 (.t 22)), [9], [9, 8, 7], 1536⟩,
  ⟨(some 24), none, (.mov (.t 2)), [], [], 1600⟩,
  ⟨(some 25), none, (.mov (.t 1)), [], [], 1664⟩,
  ⟨(some 26), none, (.mk [(.int .i64 0), (.int .i64 0)] [(0, (1, (.t 24))), (1, (1, (.t 25)))]), [11, 12], [11, 12], 1728⟩,
  ⟨(some 27), none, (.ent (.c .nilp)), [3, 6, 10], [3, 6, 10, 2, 1, 0, 4, 5, 9, 8, 7], 1792⟩,
  ⟨(some 28), none, (.ext 1 (.t 27)), [14], [14, 3, 6, 10, 2, 1, 0, 4, 5, 9, 8, 7], 1856⟩,
  ⟨none, none, (.ent (.c .nilp)), [3, 15, 14, 0, 1, 2, 3, 4, 5, 6, 10, 14], [3, 15, 14, 0, 1, 2, 4, 5, 6, 10, 9, 8, 7], 64⟩,
  ⟨(some 29), none, (.ent (.c .nilp)), [10, 13, 16, 0, 1, 2, 3, 4, 5, 6, 10, 14, 15, 16], [10, 13, 16, 0, 1, 2, 3, 4, 5, 6, 14, 15, 9, 8, 7, 11, 12], 1920⟩,
  ⟨(some 30), none, (.ext 1 (.t 29)), [17], [17, 10, 13, 16, 0, 1, 2, 3, 4, 5, 6, 14, 15, 9, 8, 7, 11, 12], 1984⟩,
  ⟨none, none, (.ent (.c .nilp)), [10, 18, 17, 0, 1, 2, 3, 4, 5, 6, 7, 8, 9, 10, 11, 12, 13, 14, 15, 16, 17], [10, 18, 17, 0, 1, 2, 3, 4, 5, 6, 7, 8, 9, 11, 12, 13, 14, 15, 16], 64⟩]) (.seq (.reg false [⟨(some 7), none, (.new [(.sl .nil 0 [])]), [], [], 512⟩]) (.seq (.seq (.reg false [⟨(some 31), none, (.ld false 1 (.t 3)), [], [], 2048⟩,
  ⟨(some 32), none, (.call 15 [(.t 31)]), [], [], 2112⟩]) (.block 0 (.reg false [⟨none, none, (.ent (.c .nilp)), [], [], 0⟩]))) (.seq (.reg true [⟨(some 50), none, (.ld false 1 (.t 3)), [], [], 3264⟩,
  ⟨(some 51), none, (.chk (.t 50)), [0], [0], 3328⟩,
  ⟨(some 52), none, (.fad 0 (.t 51)), [1], [1, 0], 3392⟩,
  ⟨(some 53), none, (.ld false 1 (.t 52)), [2], [2, 1, 0], 3456⟩,
  ⟨(some 54), none, (.len false (.t 53)), [3], [3, 2, 1, 0], 3520⟩,
  ⟨(some 55), none, (.ld false 1 (.t 7)), [], [], 3584⟩,
  ⟨(some 56), none, (.len false (.t 55)), [5], [5], 3648⟩,
  ⟨(some 57), none, (.bin .sub (.t 54) (.t 56)), [4, 6], [4, 6, 3, 2, 1, 0, 5], 3712⟩,
  ⟨(some 10), none, (.mov (.t 57)), [7, 0, 1, 2, 3, 4, 5, 6, 7], [7, 0, 1, 2, 3, 4, 5, 6], 704⟩]) (.seq (.reg true [⟨(some 58), none, (.ld false 1 (.t 3)), [], [], 3776⟩,
  ⟨(some 59), none, (.ld false 1 (.t 3)), [], [], 3840⟩,
  ⟨(some 60), none, (.ld false 1 (.t 7)), [], [], 3904⟩,
  ⟨(some 61), none, (.ld false 1 (.t 3)), [], [], 3968⟩,
  ⟨(some 62), none, (.chk (.t 61)), [3], [3], 4032⟩,
  ⟨(some 63), none, (.fad 3 (.t 62)), [4], [4, 3], 4096⟩,
  ⟨(some 64), none, (.ld false 1 (.t 63)), [5], [5, 4, 3], 4160⟩,
  ⟨(some 65), none, (.mov (.t 10)), [], [], 4224⟩,
  ⟨(some 66), none, (.bin .add (.t 64) (.t 65)), [6, 7], [6, 7, 5, 4, 3], 4288⟩,
  ⟨(some 67), none, (.chk (.t 58)), [0, 0, 2, 6], [0, 2, 6, 5, 4, 3], 4352⟩,
  ⟨(some 68), none, (.fad 0 (.t 67)), [9, 0, 2, 6], [9, 0, 2, 6, 5, 4, 3], 4416⟩,
  ⟨none, none, (.st false 1 (.t 68) (.t 60)), [10, 2, 0, 2, 6], [10, 2, 0, 6, 9, 5, 4, 3], 64⟩,
  ⟨(some 69), none, (.chk (.t 59)), [1, 0, 1, 2, 3, 4, 5, 6, 7, 8, 9, 10, 11], [1, 0, 2, 3, 4, 5, 6, 7, 8, 9, 10, 11], 4480⟩,
  ⟨(some 70), none, (.fad 3 (.t 69)), [12, 0, 1, 2, 3, 4, 5, 6, 7, 8, 9, 10, 11], [12, 0, 1, 2, 3, 4, 5, 6, 7, 8, 9, 10, 11], 4544⟩,
  ⟨none, none, (.st false 1 (.t 70) (.t 66)), [13, 8, 11, 0, 1, 2, 3, 4, 5, 6, 7, 8, 9, 10, 11], [13, 8, 11, 0, 1, 2, 3, 4, 5, 6, 7, 9, 10, 12], 64⟩]) (.seq (.reg false [⟨(some 71), none, (.mov (.t 10)), [], [], 4608⟩,
  ⟨(some 6), none, (.mov (.t 71)), [], [], 448⟩]) .ret)))))))), none⟩
theorem ok17 : FnOk Try.prog 17 ir17 := .inl ⟨Try.f17, 0, Try.func17, by kernel_rfl, by kernel_rfl⟩
/-- slices.Delete[[]muniment/api.Packet,muniment/api.Packet] -/
def ir18 : IFun := ⟨3, 33, [(.tmp 6)], (.seq (.reg false [⟨(some 6), none, (.mov (.c (.sl .nil 0 []))), [], [], 448⟩]) (.seq (.reg false [⟨(some 8), none, (.mov (.t 0)), [], [], 576⟩,
  ⟨(some 9), none, (.mov (.t 1)), [], [], 640⟩,
  ⟨(some 10), none, (.mov (.t 2)), [], [], 704⟩,
  ⟨(some 11), none, (.mov (.t 0)), [], [], 768⟩,
  ⟨(some 12), none, (.len false (.t 11)), [], [], 832⟩,
  ⟨(some 13), none, (.slL 3 (.t 8) (some (.t 9)) (some (.t 10)) (some (.t 12))), [], [], 896⟩]) (.seq (.seq (.reg false [⟨(some 14), none, (.mov (.t 1)), [], [], 960⟩,
  ⟨(some 15), none, (.mov (.t 2)), [], [], 1024⟩,
  ⟨(some 16), none, (.bin .eql (.t 14) (.t 15)), [], [], 1088⟩]) (.cond (.t 16) (.seq (.reg false [⟨(some 17), none, (.mov (.t 0)), [], [], 1152⟩,
  ⟨(some 6), none, (.mov (.t 17)), [], [], 448⟩]) .ret) .skip)) (.seq (.reg false [⟨(some 18), none, (.mov (.t 0)), [], [], 1216⟩,
  ⟨(some 19), none, (.len false (.t 18)), [], [], 1280⟩,
  ⟨(some 7), none, (.mov (.t 19)), [], [], 512⟩]) (.seq (.reg true [⟨(some 20), none, (.mov (.t 0)), [], [], 1344⟩,
  ⟨(some 21), none, (.mov (.t 1)), [], [], 1408⟩,
  ⟨(some 22), none, (.slL 3 (.t 20) none (some (.t 21)) none), [0, 1], [0, 1], 1472⟩,
  ⟨(some 23), none, (.mov (.t 0)), [], [], 1536⟩,
  ⟨(some 24), none, (.mov (.t 2)), [], [], 1600⟩,
  ⟨(some 25), none, (.slL 3 (.t 23) (some (.t 24)) none none), [3, 4], [3, 4], 1664⟩,
  ⟨(some 26), none, (.app 3 32 (.t 22) (.t 25)), [2, 5], [2, 5, 0, 1, 3, 4], 1728⟩,
  ⟨(some 0), none, (.mov (.t 26)), [6, 6, 0, 1, 2, 3, 4, 5, 6], [6, 0, 1, 2, 3, 4, 5], 64⟩]) (.seq (.reg false [⟨(some 27), none, (.mov (.t 0)), [], [], 1792⟩,
  ⟨(some 28), none, (.mov (.t 0)), [], [], 1856⟩,
  ⟨(some 29), none, (.len false (.t 28)), [], [], 1920⟩,
  ⟨(some 30), none, (.mov (.t 7)), [], [], 1984⟩,
  ⟨(some 31), none, (.slL 3 (.t 27) (some (.t 29)) (some (.t 30)) none), [], [], 2048⟩,
  ⟨none, none, (.clr 3 [(.int .i64 0), (.int .i64 0), (.str [])] (.t 31)), [], [], 64⟩]) (.seq (.reg false [⟨(some 32), none, (.mov (.t 0)), [], [], 2112⟩,
  ⟨(some 6), none, (.mov (.t 32)), [], [], 448⟩]) .ret))))))), none⟩
theorem ok18 : FnOk Try.prog 18 ir18 := .inl ⟨Try.f18, 0, Try.func18, by kernel_rfl, by kernel_rfl⟩
/-- slices.Insert[[]muniment/api.Packet,muniment/api.Packet] -/
def ir19 : IFun := ⟨3, 95, [(.tmp 6)], (.seq (.reg false [⟨(some 6), none, (.mov (.c (.sl .nil 0 []))), [], [], 448⟩]) (.seq (.reg false [⟨(some 10), none, (.mov (.t 0)), [], [], 704⟩,
  ⟨(some 11), none, (.mov (.t 1)), [], [], 768⟩,
  ⟨(some 12), none, (.slL 3 (.t 10) (some (.t 11)) none none), [], [], 832⟩]) (.seq (.reg false [⟨(some 13), none, (.mov (.t 2)), [], [], 896⟩,
  ⟨(some 14), none, (.len false (.t 13)), [], [], 960⟩,
  ⟨(some 7), none, (.mov (.t 14)), [], [], 512⟩]) (.seq (.seq (.reg false [⟨(some 15), none, (.mov (.t 7)), [], [], 1024⟩,
  ⟨(some 16), none, (.bin .eql (.t 15) (.c (.int .i64 0))), [], [], 1088⟩]) (.cond (.t 16) (.seq (.reg false [⟨(some 17), none, (.mov (.t 0)), [], [], 1152⟩,
  ⟨(some 6), none, (.mov (.t 17)), [], [], 448⟩]) .ret) .skip)) (.seq (.reg false [⟨(some 18), none, (.mov (.t 0)), [], [], 1216⟩,
  ⟨(some 19), none, (.len false (.t 18)), [], [], 1280⟩,
  ⟨(some 8), none, (.mov (.t 19)), [], [], 576⟩]) (.seq (.seq (.reg false [⟨(some 20), none, (.mov (.t 1)), [], [], 1344⟩,
  ⟨(some 21), none, (.mov (.t 8)), [], [], 1408⟩,
  ⟨(some 22), none, (.bin .eql (.t 20) (.t 21)), [], [], 1472⟩]) (.cond (.t 22) (.seq (.reg false [⟨(some 23), none, (.mov (.t 0)), [], [], 1536⟩,
  ⟨(some 24), none, (.mov (.t 2)), [], [], 1600⟩,
  ⟨(some 25), none, (.app 3 32 (.t 23) (.t 24)), [], [], 1664⟩,
  ⟨(some 6), none, (.mov (.t 25)), [], [], 448⟩]) .ret) .skip)) (.seq (.seq (.reg false [⟨(some 26), none, (.mov (.t 8)), [], [], 1728⟩,
  ⟨(some 27), none, (.mov (.t 7)), [], [], 1792⟩,
  ⟨(some 28), none, (.bin .add (.t 26) (.t 27)), [], [], 1856⟩,
  ⟨(some 29), none, (.mov (.t 0)), [], [], 1920⟩,
  ⟨(some 30), none, (.ent (.c .nilp)), [], [], 1984⟩,
  ⟨(some 31), none, (.bin .gtr (.t 28) (.t 30)), [], [], 2048⟩]) (.cond (.t 31) (.seq (.reg false [⟨(some 32), none, (.mov (.t 0)), [], [], 2112⟩,
  ⟨(some 33), none, (.mov (.t 1)), [], [], 2176⟩,
  ⟨(some 34), none, (.slL 3 (.t 32) none (some (.t 33)) none), [], [], 2240⟩,
  ⟨(some 35), none, (.mov (.t 8)), [], [], 2304⟩,
  ⟨(some 36), none, (.mov (.t 7)), [], [], 2368⟩,
  ⟨(some 37), none, (.bin .add (.t 35) (.t 36)), [], [], 2432⟩,
  ⟨(some 38), none, (.mov (.t 1)), [], [], 2496⟩,
  ⟨(some 39), none, (.bin .sub (.t 37) (.t 38)), [], [], 2560⟩,
  ⟨(some 40), none, (.ent (.c .nilp)), [], [], 2624⟩,
  ⟨(some 9), none, (.mov (.t 40)), [], [], 640⟩]) (.seq (.reg false [⟨(some 41), none, (.mov (.t 9)), [], [], 2688⟩,
  ⟨(some 42), none, (.mov (.t 1)), [], [], 2752⟩,
  ⟨(some 43), none, (.slL 3 (.t 41) (some (.t 42)) none none), [], [], 2816⟩,
  ⟨(some 44), none, (.mov (.t 2)), [], [], 2880⟩,
  ⟨(some 45), none, (.copy 3 (.t 43) (.t 44)), [], [], 2944⟩]) (.seq (.reg true [⟨(some 46), none, (.mov (.t 9)), [], [], 3008⟩,
  ⟨(some 47), none, (.mov (.t 1)), [], [], 3072⟩,
  ⟨(some 48), none, (.mov (.t 7)), [], [], 3136⟩,
  ⟨(some 49), none, (.bin .add (.t 47) (.t 48)), [1, 2], [1, 2], 3200⟩,
  ⟨(some 50), none, (.slL 3 (.t 46) (some (.t 49)) none none), [0, 3], [0, 3, 1, 2], 3264⟩,
  ⟨(some 51), none, (.mov (.t 0)), [], [], 3328⟩,
  ⟨(some 52), none, (.mov (.t 1)), [], [], 3392⟩,
  ⟨(some 53), none, (.slL 3 (.t 51) (some (.t 52)) none none), [5, 6], [5, 6], 3456⟩,
  ⟨(some 54), none, (.copy 3 (.t 50) (.t 53)), [4, 7], [4, 7, 0, 3, 1, 2, 5, 6], 3520⟩]) (.seq (.reg false [⟨(some 55), none, (.mov (.t 9)), [], [], 3584⟩,
  ⟨(some 6), none, (.mov (.t 55)), [], [], 448⟩]) .ret)))) .skip)) (.seq (.reg false [⟨(some 56), none, (.mov (.t 0)), [], [], 3648⟩,
  ⟨(some 57), none, (.mov (.t 8)), [], [], 3712⟩,
  ⟨(some 58), none, (.mov (.t 7)), [], [], 3776⟩,
  ⟨(some 59), none, (.bin .add (.t 57) (.t 58)), [], [], 3840⟩,
  ⟨(some 60), none, (.slL 3 (.t 56) none (some (.t 59)) none), [], [], 3904⟩,
  ⟨(some 0), none, (.mov (.t 60)), [], [], 64⟩]) (.seq (.seq (.reg false [⟨(some 61), none, (.mov (.t 2)), [], [], 3968⟩,
  ⟨(some 62), none, (.mov (.t 0)), [], [], 4032⟩,
  ⟨(some 63), none, (.mov (.t 1)), [], [], 4096⟩,
  ⟨(some 64), none, (.mov (.t 7)), [], [], 4160⟩,
  ⟨(some 65), none, (.bin .add (.t 63) (.t 64)), [], [], 4224⟩,
  ⟨(some 66), none, (.slL 3 (.t 62) (some (.t 65)) none none), [], [], 4288⟩,
  ⟨(some 67), none, (.call 22 [(.t 61), (.t 66)]), [], [], 4352⟩,
  ⟨(some 68), none, (.un .not (.t 67)), [], [], 4416⟩]) (.cond (.t 68) (.seq (.reg true [⟨(some 69), none, (.mov (.t 0)), [], [], 4480⟩,
  ⟨(some 70), none, (.mov (.t 1)), [], [], 4544⟩,
  ⟨(some 71), none, (.mov (.t 7)), [], [], 4608⟩,
  ⟨(some 72), none, (.bin .add (.t 70) (.t 71)), [1, 2], [1, 2], 4672⟩,
  ⟨(some 73), none, (.slL 3 (.t 69) (some (.t 72)) none none), [0, 3], [0, 3, 1, 2], 4736⟩,
  ⟨(some 74), none, (.mov (.t 0)), [], [], 4800⟩,
  ⟨(some 75), none, (.mov (.t 1)), [], [], 4864⟩,
  ⟨(some 76), none, (.slL 3 (.t 74) (some (.t 75)) none none), [5, 6], [5, 6], 4928⟩,
  ⟨(some 77), none, (.copy 3 (.t 73) (.t 76)), [4, 7], [4, 7, 0, 3, 1, 2, 5, 6], 4992⟩]) (.seq (.reg false [⟨(some 78), none, (.mov (.t 0)), [], [], 5056⟩,
  ⟨(some 79), none, (.mov (.t 1)), [], [], 5120⟩,
  ⟨(some 80), none, (.slL 3 (.t 78) (some (.t 79)) none none), [], [], 5184⟩,
  ⟨(some 81), none, (.mov (.t 2)), [], [], 5248⟩,
  ⟨(some 82), none, (.copy 3 (.t 80) (.t 81)), [], [], 5312⟩]) (.seq (.reg false [⟨(some 83), none, (.mov (.t 0)), [], [], 5376⟩,
  ⟨(some 6), none, (.mov (.t 83)), [], [], 448⟩]) .ret))) .skip)) (.seq (.reg false [⟨(some 84), none, (.mov (.t 0)), [], [], 5440⟩,
  ⟨(some 85), none, (.mov (.t 8)), [], [], 5504⟩,
  ⟨(some 86), none, (.slL 3 (.t 84) (some (.t 85)) none none), [], [], 5568⟩,
  ⟨(some 87), none, (.mov (.t 2)), [], [], 5632⟩,
  ⟨(some 88), none, (.copy 3 (.t 86) (.t 87)), [], [], 5696⟩]) (.seq (.reg false [⟨(some 89), none, (.mov (.t 0)), [], [], 5760⟩,
  ⟨(some 90), none, (.mov (.t 1)), [], [], 5824⟩,
  ⟨(some 91), none, (.slL 3 (.t 89) (some (.t 90)) none none), [], [], 5888⟩,
  ⟨(some 92), none, (.mov (.t 7)), [], [], 5952⟩,
  ⟨(some 93), none, (.call 23 [(.t 91), (.t 92)]), [], [], 6016⟩]) (.seq (.reg false [⟨(some 94), none, (.mov (.t 0)), [], [], 6080⟩,
  ⟨(some 6), none, (.mov (.t 94)), [], [], 448⟩]) .ret)))))))))))), none⟩
theorem ok19 : FnOk Try.prog 19 ir19 := .inl ⟨Try.f19, 0, Try.func19, by kernel_rfl, by kernel_rfl⟩
/-- (*muniment/net.Net).All$1 -/
def lp20_0 : IC := (.seq (.reg false [⟨(some 14), none, (.bin .lss (.t 13) (.t 12)), [], [], 960⟩]) (.seq (.cond (.t 14) .skip (.exit 0)) (.seq (.block 1 (.seq (.reg false [⟨(some 15), none, (.mov (.t 13)), [], [], 1024⟩,
  ⟨(some 16), none, (.iaL 3 (.t 11) (.t 13)), [], [], 1088⟩,
  ⟨(some 17), none, (.ld true 3 (.t 16)), [], [], 1152⟩,
  ⟨(some 4), none, (.new [(.int .i64 0), (.int .i64 0), (.str [])]), [], [], 320⟩,
  ⟨(some 3), none, (.mov (.t 15)), [], [], 256⟩,
  ⟨none, none, (.st true 3 (.t 4) (.t 17)), [], [], 64⟩]) (.seq (.reg false [⟨(some 18), none, (.mov (.t 0)), [], [], 1216⟩,
  ⟨(some 19), none, (.mov (.t 3)), [], [], 1280⟩,
  ⟨(some 20), none, (.ld true 3 (.t 4)), [], [], 1344⟩,
  ⟨(some 21), none, (.callv (.t 18) [(.t 19), (.t 20)]), [], [], 1408⟩,
  ⟨(some 22), none, (.un .not (.t 21)), [], [], 1472⟩]) (.cond (.t 22) .ret .skip)))) (.reg false [⟨(some 23), none, (.bin .add (.t 13) (.c (.int .i64 1))), [], [], 1536⟩,
  ⟨(some 13), none, (.mov (.t 23)), [], [], 896⟩]))))
def ir20 : IFun := ⟨2, 24, [], (.seq (.seq (.reg false [⟨(some 5), none, (.ld false 1 (.t 1)), [], [], 384⟩,
  ⟨(some 6), none, (.eqn false .ptr (.t 5) (.c .nilp)), [], [], 448⟩]) (.cond (.t 6) .ret .skip)) (.seq (.reg false [⟨(some 7), none, (.ld false 1 (.t 1)), [], [], 512⟩,
  ⟨(some 8), none, (.chk (.t 7)), [], [], 576⟩,
  ⟨(some 9), none, (.fad 0 (.t 8)), [], [], 640⟩,
  ⟨(some 10), none, (.ld false 1 (.t 9)), [], [], 704⟩,
  ⟨(some 11), none, (.call 21 [(.t 10)]), [], [], 768⟩,
  ⟨(some 12), none, (.len false (.t 11)), [], [], 832⟩,
  ⟨(some 13), none, (.mov (.c (.int .i64 0))), [], [], 896⟩]) (.block 0 (.loop lp20_0)))), none⟩
theorem ok20 : FnOk Try.prog 20 ir20 := .inl ⟨Try.f20, 0, Try.func20, by kernel_rfl, by kernel_rfl⟩
/-- slices.Clone[[]muniment/api.Packet,muniment/api.Packet] -/
def ir21 : IFun := ⟨1, 8, [(.tmp 2)], (.seq (.reg false [⟨(some 2), none, (.mov (.c (.sl .nil 0 []))), [], [], 192⟩]) (.seq (.seq (.reg false [⟨(some 3), none, (.mov (.t 0)), [], [], 256⟩,
  ⟨(some 4), none, (.eqn false .sl (.t 3) (.c (.sl .nil 0 []))), [], [], 320⟩]) (.cond (.t 4) (.seq (.reg false [⟨(some 2), none, (.mov (.c (.sl .nil 0 []))), [], [], 192⟩]) .ret) .skip)) (.seq (.reg false [⟨(some 5), none, (.mksl 3 0 [] []), [], [], 384⟩,
  ⟨(some 6), none, (.mov (.t 0)), [], [], 448⟩,
  ⟨(some 7), none, (.app 3 32 (.t 5) (.t 6)), [], [], 512⟩,
  ⟨(some 2), none, (.mov (.t 7)), [], [], 192⟩]) .ret))), none⟩
theorem ok21 : FnOk Try.prog 21 ir21 := .inl ⟨Try.f21, 0, Try.func21, by kernel_rfl, by kernel_rfl⟩
/-- slices.rotateRight[muniment/api.Packet] -/
def ir23 : IFun := ⟨2, 10, [], (.reg false [⟨(some 4), none, (.mov (.t 0)), [], [], 320⟩,
  ⟨(some 5), none, (.mov (.t 0)), [], [], 384⟩,
  ⟨(some 6), none, (.len false (.t 5)), [], [], 448⟩,
  ⟨(some 7), none, (.mov (.t 1)), [], [], 512⟩,
  ⟨(some 8), none, (.bin .sub (.t 6) (.t 7)), [], [], 576⟩,
  ⟨(some 9), none, (.call 24 [(.t 4), (.t 8)]), [], [], 640⟩]), none⟩
theorem ok23 : FnOk Try.prog 23 ir23 := .inl ⟨Try.f23, 0, Try.func23, by kernel_rfl, by kernel_rfl⟩
/-- slices.rotateLeft[muniment/api.Packet] -/
def ir24 : IFun := ⟨2, 14, [], (.seq (.reg false [⟨(some 4), none, (.mov (.t 0)), [], [], 320⟩,
  ⟨(some 5), none, (.mov (.t 1)), [], [], 384⟩,
  ⟨(some 6), none, (.slL 3 (.t 4) none (some (.t 5)) none), [], [], 448⟩,
  ⟨(some 7), none, (.call 25 [(.t 6)]), [], [], 512⟩]) (.seq (.reg false [⟨(some 8), none, (.mov (.t 0)), [], [], 576⟩,
  ⟨(some 9), none, (.mov (.t 1)), [], [], 640⟩,
  ⟨(some 10), none, (.slL 3 (.t 8) (some (.t 9)) none none), [], [], 704⟩,
  ⟨(some 11), none, (.call 25 [(.t 10)]), [], [], 768⟩]) (.reg false [⟨(some 12), none, (.mov (.t 0)), [], [], 832⟩,
  ⟨(some 13), none, (.call 25 [(.t 12)]), [], [], 896⟩]))), none⟩
theorem ok24 : FnOk Try.prog 24 ir24 := .inl ⟨Try.f24, 0, Try.func24, by kernel_rfl, by kernel_rfl⟩
/-- slices.Reverse[[]muniment/api.Packet,muniment/api.Packet] -/
def lp25_0 : IC := (.seq (.seq (.reg false [⟨(some 7), none, (.mov (.t 2)), [], [], 512⟩,
  ⟨(some 8), none, (.mov (.t 3)), [], [], 576⟩,
  ⟨(some 9), none, (.bin .lss (.t 7) (.t 8)), [], [], 640⟩]) (.cond (.t 9) .skip (.exit 0))) (.seq (.block 1 (.reg true [⟨(some 14), none, (.mov (.t 0)), [], [], 960⟩,
  ⟨(some 15), none, (.mov (.t 2)), [], [], 1024⟩,
  ⟨(some 16), none, (.mov (.t 0)), [], [], 1088⟩,
  ⟨(some 17), none, (.mov (.t 3)), [], [], 1152⟩,
  ⟨(some 18), none, (.mov (.t 0)), [], [], 1216⟩,
  ⟨(some 19), none, (.mov (.t 3)), [], [], 1280⟩,
  ⟨(some 20), none, (.iaL 3 (.t 18) (.t 19)), [4, 5], [4, 5], 1344⟩,
  ⟨(some 21), none, (.ld true 3 (.t 20)), [6], [6, 4, 5], 1408⟩,
  ⟨(some 22), none, (.mov (.t 0)), [], [], 1472⟩,
  ⟨(some 23), none, (.mov (.t 2)), [], [], 1536⟩,
  ⟨(some 24), none, (.iaL 3 (.t 22) (.t 23)), [8, 9], [8, 9], 1600⟩,
  ⟨(some 25), none, (.ld true 3 (.t 24)), [10], [10, 8, 9], 1664⟩,
  ⟨(some 26), none, (.iaL 3 (.t 14) (.t 15)), [0, 1, 0, 1, 4, 5, 6, 7, 11], [0, 1, 4, 5, 6, 7, 11, 10, 8, 9], 1728⟩,
  ⟨none, none, (.st true 3 (.t 26) (.t 21)), [12, 7, 0, 1, 4, 5, 6, 7, 11], [12, 7, 0, 1, 4, 5, 6, 11, 10, 8, 9], 64⟩,
  ⟨(some 27), none, (.iaL 3 (.t 16) (.t 17)), [2, 3, 0, 1, 2, 3, 4, 5, 6, 7, 8, 9, 10, 11, 12, 13], [2, 3, 0, 1, 4, 5, 6, 7, 8, 9, 10, 11, 12, 13], 1792⟩,
  ⟨none, none, (.st true 3 (.t 27) (.t 25)), [14, 11, 13, 0, 1, 2, 3, 4, 5, 6, 7, 8, 9, 10, 11, 12, 13], [14, 11, 13, 0, 1, 2, 3, 4, 5, 6, 7, 8, 9, 10, 12], 64⟩])) (.reg false [⟨(some 10), none, (.mov (.t 2)), [], [], 704⟩,
  ⟨(some 11), none, (.bin .add (.t 10) (.c (.int .i64 1))), [], [], 768⟩,
  ⟨(some 12), none, (.mov (.t 3)), [], [], 832⟩,
  ⟨(some 13), none, (.bin .sub (.t 12) (.c (.int .i64 1))), [], [], 896⟩,
  ⟨(some 2), none, (.mov (.t 11)), [], [], 192⟩,
  ⟨(some 3), none, (.mov (.t 13)), [], [], 256⟩])))
def ir25 : IFun := ⟨1, 28, [], (.seq (.reg false [⟨(some 4), none, (.mov (.t 0)), [], [], 320⟩,
  ⟨(some 5), none, (.len false (.t 4)), [], [], 384⟩,
  ⟨(some 6), none, (.bin .sub (.t 5) (.c (.int .i64 1))), [], [], 448⟩,
  ⟨(some 2), none, (.mov (.c (.int .i64 0))), [], [], 192⟩,
  ⟨(some 3), none, (.mov (.t 6)), [], [], 256⟩]) (.block 0 (.loop lp25_0))), none⟩
theorem ok25 : FnOk Try.prog 25 ir25 := .inl ⟨Try.f25, 0, Try.func25, by kernel_rfl, by kernel_rfl⟩
def fnsL : List (Nat × Option (List Mode) × IFun) := [(2, some [], ir2),
  (3, some [.bor, .bor], ir3),
  (4, some [.bor, .bor], ir4),
  (5, some [.bor], ir5),
  (6, some [], ir6),
  (7, some [], ir7),
  (8, some [.io, .bor], ir8),
  (9, some [.io, .bor], ir9),
  (10, some [.bor], ir10),
  (11, some [.io, .bor], ir11),
  (12, some [.io, .bor, .bor], ir12),
  (13, some [.bor], ir13),
  (14, some [.io], ir14),
  (15, some [.bor], ir15),
  (16, some [.io, .bor], ir16),
  (17, some [.bor, .bor, .bor], ir17),
  (18, some [.mov, .bor, .bor], ir18),
  (19, some [.bor, .bor, .bor], ir19),
  (20, some [.bor, .bor], ir20),
  (21, some [.bor], ir21),
  (23, some [.bor, .bor], ir23),
  (24, some [.bor, .bor], ir24),
  (25, some [.bor], ir25)]
def fns : Fns := fun f => (fnsL.find? fun q => q.1 == f).map (·.2)
theorem fnsL_ok : ∀ q ∈ fnsL, FnOk Try.prog q.1 q.2.2 := by
  unfold fnsL
  repeat rw [List.forall_mem_cons]
  exact ⟨ok2, ok3, ok4, ok5, ok6, ok7, ok8, ok9, ok10, ok11, ok12, ok13, ok14, ok15, ok16, ok17, ok18, ok19, ok20, ok21, ok23, ok24, ok25, by simp⟩
theorem fns_ok (f : Nat) (p : Option (List Mode) × IFun) (h : fns f = some p) : FnOk Try.prog f p.2 := by
  obtain ⟨q, h1, rfl⟩ := Option.map_eq_some_iff.1 h
  have h2 := List.find?_some h1
  rw [← beq_iff_eq.1 h2]
  exact fnsL_ok q (List.mem_of_find?_eq_some h1)
theorem mixed : Try.prog.follows .mixedOrders = true := by kernel_rfl
theorem laid : laidOutB Try.prog = true := by kernel_rfl
theorem T_ok : TblOk Try.prog (tabW fns) := tabW_ok mixed fns_ok
variable {σ : Store} {base : Nat}
theorem at2 : fns 2 = some (some [], ir2) := rfl
@[go_sem] theorem call2 (vs : List V) : callV (tabW fns) σ base 2 vs = callP σ base [] vs (Gf fns 2) (passV σ [] vs) := callV_T at2 vs
@[go_sem] theorem callr2 (vs : List V) : callR (tabW fns) σ base 2 vs = outS σ (callP σ base [] vs (Gf fns 2) (passV σ [] vs)) := callR_T at2 vs
theorem at3 : fns 3 = some (some [.bor, .bor], ir3) := rfl
@[go_sem] theorem call3 (vs : List V) : callV (tabW fns) σ base 3 vs = callP σ base [.bor, .bor] vs (Gf fns 3) (passV σ [.bor, .bor] vs) := callV_T at3 vs
@[go_sem] theorem callr3 (vs : List V) : callR (tabW fns) σ base 3 vs = outS σ (callP σ base [.bor, .bor] vs (Gf fns 3) (passV σ [.bor, .bor] vs)) := callR_T at3 vs
theorem at4 : fns 4 = some (some [.bor, .bor], ir4) := rfl
@[go_sem] theorem call4 (vs : List V) : callV (tabW fns) σ base 4 vs = callP σ base [.bor, .bor] vs (Gf fns 4) (passV σ [.bor, .bor] vs) := callV_T at4 vs
@[go_sem] theorem callr4 (vs : List V) : callR (tabW fns) σ base 4 vs = outS σ (callP σ base [.bor, .bor] vs (Gf fns 4) (passV σ [.bor, .bor] vs)) := callR_T at4 vs
theorem at5 : fns 5 = some (some [.bor], ir5) := rfl
@[go_sem] theorem call5 (vs : List V) : callV (tabW fns) σ base 5 vs = callP σ base [.bor] vs (Gf fns 5) (passV σ [.bor] vs) := callV_T at5 vs
@[go_sem] theorem callr5 (vs : List V) : callR (tabW fns) σ base 5 vs = outS σ (callP σ base [.bor] vs (Gf fns 5) (passV σ [.bor] vs)) := callR_T at5 vs
theorem at6 : fns 6 = some (some [], ir6) := rfl
@[go_sem] theorem call6 (vs : List V) : callV (tabW fns) σ base 6 vs = callP σ base [] vs (Gf fns 6) (passV σ [] vs) := callV_T at6 vs
@[go_sem] theorem callr6 (vs : List V) : callR (tabW fns) σ base 6 vs = outS σ (callP σ base [] vs (Gf fns 6) (passV σ [] vs)) := callR_T at6 vs
theorem at7 : fns 7 = some (some [], ir7) := rfl
@[go_sem] theorem call7 (vs : List V) : callV (tabW fns) σ base 7 vs = callP σ base [] vs (Gf fns 7) (passV σ [] vs) := callV_T at7 vs
@[go_sem] theorem callr7 (vs : List V) : callR (tabW fns) σ base 7 vs = outS σ (callP σ base [] vs (Gf fns 7) (passV σ [] vs)) := callR_T at7 vs
theorem at8 : fns 8 = some (some [.io, .bor], ir8) := rfl
theorem call8 (vs : List V) : callV (tabW fns) σ base 8 vs = callP σ base [.io, .bor] vs (Gf fns 8) (passV σ [.io, .bor] vs) := callV_T at8 vs
theorem callr8 (vs : List V) : callR (tabW fns) σ base 8 vs = outS σ (callP σ base [.io, .bor] vs (Gf fns 8) (passV σ [.io, .bor] vs)) := callR_T at8 vs
theorem at9 : fns 9 = some (some [.io, .bor], ir9) := rfl
theorem call9 (vs : List V) : callV (tabW fns) σ base 9 vs = callP σ base [.io, .bor] vs (Gf fns 9) (passV σ [.io, .bor] vs) := callV_T at9 vs
theorem callr9 (vs : List V) : callR (tabW fns) σ base 9 vs = outS σ (callP σ base [.io, .bor] vs (Gf fns 9) (passV σ [.io, .bor] vs)) := callR_T at9 vs
theorem at10 : fns 10 = some (some [.bor], ir10) := rfl
@[go_sem] theorem call10 (vs : List V) : callV (tabW fns) σ base 10 vs = callP σ base [.bor] vs (Gf fns 10) (passV σ [.bor] vs) := callV_T at10 vs
@[go_sem] theorem callr10 (vs : List V) : callR (tabW fns) σ base 10 vs = outS σ (callP σ base [.bor] vs (Gf fns 10) (passV σ [.bor] vs)) := callR_T at10 vs
theorem at11 : fns 11 = some (some [.io, .bor], ir11) := rfl
theorem call11 (vs : List V) : callV (tabW fns) σ base 11 vs = callP σ base [.io, .bor] vs (Gf fns 11) (passV σ [.io, .bor] vs) := callV_T at11 vs
theorem callr11 (vs : List V) : callR (tabW fns) σ base 11 vs = outS σ (callP σ base [.io, .bor] vs (Gf fns 11) (passV σ [.io, .bor] vs)) := callR_T at11 vs
theorem at12 : fns 12 = some (some [.io, .bor, .bor], ir12) := rfl
theorem call12 (vs : List V) : callV (tabW fns) σ base 12 vs = callP σ base [.io, .bor, .bor] vs (Gf fns 12) (passV σ [.io, .bor, .bor] vs) := callV_T at12 vs
theorem callr12 (vs : List V) : callR (tabW fns) σ base 12 vs = outS σ (callP σ base [.io, .bor, .bor] vs (Gf fns 12) (passV σ [.io, .bor, .bor] vs)) := callR_T at12 vs
theorem at13 : fns 13 = some (some [.bor], ir13) := rfl
@[go_sem] theorem call13 (vs : List V) : callV (tabW fns) σ base 13 vs = callP σ base [.bor] vs (Gf fns 13) (passV σ [.bor] vs) := callV_T at13 vs
@[go_sem] theorem callr13 (vs : List V) : callR (tabW fns) σ base 13 vs = outS σ (callP σ base [.bor] vs (Gf fns 13) (passV σ [.bor] vs)) := callR_T at13 vs
theorem at14 : fns 14 = some (some [.io], ir14) := rfl
theorem call14 (vs : List V) : callV (tabW fns) σ base 14 vs = callP σ base [.io] vs (Gf fns 14) (passV σ [.io] vs) := callV_T at14 vs
theorem callr14 (vs : List V) : callR (tabW fns) σ base 14 vs = outS σ (callP σ base [.io] vs (Gf fns 14) (passV σ [.io] vs)) := callR_T at14 vs
theorem at15 : fns 15 = some (some [.bor], ir15) := rfl
@[go_sem] theorem call15 (vs : List V) : callV (tabW fns) σ base 15 vs = callP σ base [.bor] vs (Gf fns 15) (passV σ [.bor] vs) := callV_T at15 vs
@[go_sem] theorem callr15 (vs : List V) : callR (tabW fns) σ base 15 vs = outS σ (callP σ base [.bor] vs (Gf fns 15) (passV σ [.bor] vs)) := callR_T at15 vs
theorem at16 : fns 16 = some (some [.io, .bor], ir16) := rfl
theorem call16 (vs : List V) : callV (tabW fns) σ base 16 vs = callP σ base [.io, .bor] vs (Gf fns 16) (passV σ [.io, .bor] vs) := callV_T at16 vs
theorem callr16 (vs : List V) : callR (tabW fns) σ base 16 vs = outS σ (callP σ base [.io, .bor] vs (Gf fns 16) (passV σ [.io, .bor] vs)) := callR_T at16 vs
theorem at17 : fns 17 = some (some [.bor, .bor, .bor], ir17) := rfl
@[go_sem] theorem call17 (vs : List V) : callV (tabW fns) σ base 17 vs = callP σ base [.bor, .bor, .bor] vs (Gf fns 17) (passV σ [.bor, .bor, .bor] vs) := callV_T at17 vs
@[go_sem] theorem callr17 (vs : List V) : callR (tabW fns) σ base 17 vs = outS σ (callP σ base [.bor, .bor, .bor] vs (Gf fns 17) (passV σ [.bor, .bor, .bor] vs)) := callR_T at17 vs
theorem at18 : fns 18 = some (some [.mov, .bor, .bor], ir18) := rfl
@[go_sem] theorem call18 (vs : List V) : callV (tabW fns) σ base 18 vs = callP σ base [.mov, .bor, .bor] vs (Gf fns 18) (passV σ [.mov, .bor, .bor] vs) := callV_T at18 vs
@[go_sem] theorem callr18 (vs : List V) : callR (tabW fns) σ base 18 vs = outS σ (callP σ base [.mov, .bor, .bor] vs (Gf fns 18) (passV σ [.mov, .bor, .bor] vs)) := callR_T at18 vs
theorem at19 : fns 19 = some (some [.bor, .bor, .bor], ir19) := rfl
@[go_sem] theorem call19 (vs : List V) : callV (tabW fns) σ base 19 vs = callP σ base [.bor, .bor, .bor] vs (Gf fns 19) (passV σ [.bor, .bor, .bor] vs) := callV_T at19 vs
@[go_sem] theorem callr19 (vs : List V) : callR (tabW fns) σ base 19 vs = outS σ (callP σ base [.bor, .bor, .bor] vs (Gf fns 19) (passV σ [.bor, .bor, .bor] vs)) := callR_T at19 vs
theorem at20 : fns 20 = some (some [.bor, .bor], ir20) := rfl
@[go_sem] theorem call20 (vs : List V) : callV (tabW fns) σ base 20 vs = callP σ base [.bor, .bor] vs (Gf fns 20) (passV σ [.bor, .bor] vs) := callV_T at20 vs
@[go_sem] theorem callr20 (vs : List V) : callR (tabW fns) σ base 20 vs = outS σ (callP σ base [.bor, .bor] vs (Gf fns 20) (passV σ [.bor, .bor] vs)) := callR_T at20 vs
theorem at21 : fns 21 = some (some [.bor], ir21) := rfl
@[go_sem] theorem call21 (vs : List V) : callV (tabW fns) σ base 21 vs = callP σ base [.bor] vs (Gf fns 21) (passV σ [.bor] vs) := callV_T at21 vs
@[go_sem] theorem callr21 (vs : List V) : callR (tabW fns) σ base 21 vs = outS σ (callP σ base [.bor] vs (Gf fns 21) (passV σ [.bor] vs)) := callR_T at21 vs
theorem at23 : fns 23 = some (some [.bor, .bor], ir23) := rfl
@[go_sem] theorem call23 (vs : List V) : callV (tabW fns) σ base 23 vs = callP σ base [.bor, .bor] vs (Gf fns 23) (passV σ [.bor, .bor] vs) := callV_T at23 vs
@[go_sem] theorem callr23 (vs : List V) : callR (tabW fns) σ base 23 vs = outS σ (callP σ base [.bor, .bor] vs (Gf fns 23) (passV σ [.bor, .bor] vs)) := callR_T at23 vs
theorem at24 : fns 24 = some (some [.bor, .bor], ir24) := rfl
@[go_sem] theorem call24 (vs : List V) : callV (tabW fns) σ base 24 vs = callP σ base [.bor, .bor] vs (Gf fns 24) (passV σ [.bor, .bor] vs) := callV_T at24 vs
@[go_sem] theorem callr24 (vs : List V) : callR (tabW fns) σ base 24 vs = outS σ (callP σ base [.bor, .bor] vs (Gf fns 24) (passV σ [.bor, .bor] vs)) := callR_T at24 vs
theorem at25 : fns 25 = some (some [.bor], ir25) := rfl
@[go_sem] theorem call25 (vs : List V) : callV (tabW fns) σ base 25 vs = callP σ base [.bor] vs (Gf fns 25) (passV σ [.bor] vs) := callV_T at25 vs
@[go_sem] theorem callr25 (vs : List V) : callR (tabW fns) σ base 25 vs = outS σ (callP σ base [.bor] vs (Gf fns 25) (passV σ [.bor] vs)) := callR_T at25 vs
end Go.Vm.Ytcnnlnpebpakjaa
