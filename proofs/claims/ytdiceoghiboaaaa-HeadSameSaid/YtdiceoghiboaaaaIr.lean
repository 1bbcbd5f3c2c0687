/- Written by wip/vm/irtab.py: the functions in the machine's form, each checked, and their table. -/
import Derived.Test.YtdiceoghiboaaaaVmBits
import Derived.Test.YtdiceoghiboaaaaProg
set_option linter.unusedSectionVars false
set_option linter.unusedSimpArgs false
set_option linter.unusedVariables false
namespace Go.Vm.Ytdiceoghiboaaaa
open Go.Proofs
/-- gosem.cut.init -/
def ir2 : IFun := ⟨0, 1, [], (.reg false [⟨(some 0), none, (.call 1 []), [], [], 64⟩])⟩
theorem ok2 : FnOk Try.prog 2 ir2 := ⟨Try.f2, 0, Try.func2, by kernel_rfl, by kernel_rfl⟩
/-- muniment/munimentlaw08.HeadSame -/
def ir3 : IFun := ⟨3, 79, [(.tmp 6)], (.seq (.reg false [⟨(some 3), none, (.box 5 (.t 0)), [], [], 256⟩,
  ⟨(some 4), none, (.box 5 (.t 1)), [], [], 320⟩,
  ⟨(some 6), none, (.mov (.c (.bool false))), [], [], 448⟩]) (.seq (.seq (.reg false [⟨(some 11), none, (.ld true 5 (.t 3)), [], [], 768⟩,
  ⟨(some 12), none, (.call 5 [(.t 11)]), [], [], 832⟩,
  ⟨(some 13), none, (.call 4 [(.t 12)]), [], [], 896⟩,
  ⟨(some 14), none, (.bin .neq (.t 13) (.c (.int .i64 0))), [], [], 960⟩,
  ⟨(some 15), none, (.mov (.t 14)), [], [], 1024⟩,
  ⟨(some 16), (some (15, false)), (.ld true 5 (.t 4)), [], [], 1088⟩,
  ⟨(some 17), (some (15, false)), (.call 5 [(.t 16)]), [], [], 1152⟩,
  ⟨(some 18), (some (15, false)), (.call 4 [(.t 17)]), [], [], 1216⟩,
  ⟨(some 19), (some (15, false)), (.bin .neq (.t 18) (.c (.int .i64 0))), [], [], 1280⟩,
  ⟨(some 20), none, (.pick (.t 15) (.c (.bool true)) (.t 19)), [], [], 1344⟩]) (.cond (.t 20) (.seq (.reg false [⟨(some 21), none, (.call 6 []), [], [], 1408⟩,
  ⟨(some 6), none, (.mov (.t 21)), [], [], 448⟩]) .ret) .skip)) (.seq (.reg false [⟨(some 22), none, (.ld true 5 (.t 3)), [], [], 1472⟩,
  ⟨(some 23), none, (.call 7 [(.t 22)]), [], [], 1536⟩,
  ⟨(some 7), none, (.new [(.int .u64 0), (.str []), (.str []), (.str []), (.sl .nil 0 [])]), [], [], 512⟩,
  ⟨none, none, (.st true 5 (.t 7) (.t 23)), [], [], 64⟩]) (.seq (.reg true [⟨(some 24), none, (.ld true 5 (.t 3)), [], [], 1600⟩,
  ⟨(some 25), none, (.call 5 [(.t 24)]), [0], [0], 1664⟩,
  ⟨(some 26), none, (.call 8 [(.t 25)]), [1, 1], [1, 0], 1728⟩,
  ⟨(some 27), none, (.ld true 5 (.t 4)), [], [], 1792⟩,
  ⟨(some 28), none, (.call 5 [(.t 27)]), [3, 2], [3, 2, 1, 0], 1856⟩,
  ⟨(some 29), none, (.call 8 [(.t 28)]), [4, 4], [4, 3, 2, 1, 0], 1920⟩,
  ⟨(some 30), none, (.bin .eql (.t 26) (.t 29)), [2, 5], [2, 5, 1, 0, 4, 3], 1984⟩,
  ⟨(some 8), none, (.mov (.t 30)), [6, 5, 0, 1, 2, 3, 4, 5, 6], [6, 5, 0, 1, 2, 3, 4], 576⟩]) (.seq (.seq (.reg false [⟨(some 31), none, (.call 6 []), [], [], 2048⟩,
  ⟨(some 32), none, (.un .not (.t 31)), [], [], 2112⟩,
  ⟨(some 33), none, (.mov (.t 32)), [], [], 2176⟩,
  ⟨(some 34), (some (33, false)), (.ld true 5 (.t 3)), [], [], 2240⟩,
  ⟨(some 35), (some (33, false)), (.ld true 5 (.t 4)), [], [], 2304⟩,
  ⟨(some 36), (some (33, false)), (.call 9 [(.t 34), (.t 35)]), [], [], 2368⟩,
  ⟨(some 37), (some (33, false)), (.mov (.t 8)), [], [], 2432⟩,
  ⟨(some 38), (some (33, false)), (.eqn true .bool (.t 36) (.t 37)), [], [], 2496⟩,
  ⟨(some 39), none, (.pick (.t 33) (.c (.bool true)) (.t 38)), [], [], 2560⟩,
  ⟨(some 40), none, (.mov (.t 39)), [], [], 2624⟩,
  ⟨(some 41), (some (40, false)), (.ld true 5 (.t 3)), [], [], 2688⟩,
  ⟨(some 42), (some (40, false)), (.ld true 5 (.t 7)), [], [], 2752⟩,
  ⟨(some 43), (some (40, false)), (.call 9 [(.t 41), (.t 42)]), [], [], 2816⟩,
  ⟨(some 44), (some (40, false)), (.un .not (.t 43)), [], [], 2880⟩,
  ⟨(some 45), none, (.pick (.t 40) (.c (.bool true)) (.t 44)), [], [], 2944⟩,
  ⟨(some 46), none, (.mov (.t 45)), [], [], 3008⟩,
  ⟨(some 47), (some (46, false)), (.fad 4 (.t 7)), [], [], 3072⟩,
  ⟨(some 48), (some (46, false)), (.ld false 1 (.t 47)), [], [], 3136⟩,
  ⟨(some 49), (some (46, false)), (.len false (.t 48)), [], [], 3200⟩,
  ⟨(some 50), (some (46, false)), (.fad 4 (.t 3)), [], [], 3264⟩,
  ⟨(some 51), (some (46, false)), (.ld false 1 (.t 50)), [], [], 3328⟩,
  ⟨(some 52), (some (46, false)), (.len false (.t 51)), [], [], 3392⟩,
  ⟨(some 53), (some (46, false)), (.bin .neq (.t 49) (.t 52)), [], [], 3456⟩,
  ⟨(some 54), none, (.pick (.t 46) (.c (.bool true)) (.t 53)), [], [], 3520⟩]) (.cond (.t 54) (.seq (.reg false [⟨(some 6), none, (.mov (.c (.bool false))), [], [], 448⟩]) .ret) .skip)) (.seq (.reg false [⟨(some 55), none, (.fad 4 (.t 7)), [], [], 3584⟩,
  ⟨(some 56), none, (.ld false 1 (.t 55)), [], [], 3648⟩,
  ⟨(some 57), none, (.iaL 1 (.t 56) (.c (.int .i64 0))), [], [], 3712⟩,
  ⟨none, none, (.st false 1 (.t 57) (.c (.int .i64 99))), [], [], 64⟩]) (.seq (.reg false [⟨(some 58), none, (.mov (.t 2)), [], [], 3776⟩,
  ⟨(some 59), none, (.bin .and (.t 58) (.c (.int .i64 1023))), [], [], 3840⟩,
  ⟨(some 9), none, (.mov (.t 59)), [], [], 640⟩]) (.seq (.reg false [⟨(some 60), none, (.mov (.t 9)), [], [], 3904⟩,
  ⟨(some 61), none, (.call 10 [(.t 60)]), [], [], 3968⟩,
  ⟨(some 10), none, (.mov (.t 61)), [], [], 704⟩]) (.seq (.reg false [⟨(some 62), none, (.ld true 5 (.t 3)), [], [], 4032⟩,
  ⟨(some 63), none, (.ld true 5 (.t 7)), [], [], 4096⟩,
  ⟨(some 64), none, (.call 9 [(.t 62), (.t 63)]), [], [], 4160⟩,
  ⟨(some 65), none, (.un .not (.t 64)), [], [], 4224⟩,
  ⟨(some 66), none, (.mov (.t 65)), [], [], 4288⟩,
  ⟨(some 67), (some (66, true)), (.mov (.t 10)), [], [], 4352⟩,
  ⟨(some 68), (some (66, true)), (.bin .mul (.c (.int .i64 2)) (.t 67)), [], [], 4416⟩,
  ⟨(some 69), (some (66, true)), (.mov (.t 9)), [], [], 4480⟩,
  ⟨(some 70), (some (66, true)), (.bin .gtr (.t 68) (.t 69)), [], [], 4544⟩,
  ⟨(some 71), none, (.pick (.t 66) (.t 70) (.c (.bool false))), [], [], 4608⟩,
  ⟨(some 72), none, (.mov (.t 71)), [], [], 4672⟩,
  ⟨(some 73), (some (72, true)), (.mov (.t 10)), [], [], 4736⟩,
  ⟨(some 74), (some (72, true)), (.bin .sub (.t 73) (.c (.int .i64 1))), [], [], 4800⟩,
  ⟨(some 75), (some (72, true)), (.bin .mul (.c (.int .i64 2)) (.t 74)), [], [], 4864⟩,
  ⟨(some 76), (some (72, true)), (.mov (.t 9)), [], [], 4928⟩,
  ⟨(some 77), (some (72, true)), (.bin .leq (.t 75) (.t 76)), [], [], 4992⟩,
  ⟨(some 78), none, (.pick (.t 72) (.t 77) (.c (.bool false))), [], [], 5056⟩,
  ⟨(some 6), none, (.mov (.t 78)), [], [], 448⟩]) .ret)))))))))⟩
theorem ok3 : FnOk Try.prog 3 ir3 := ⟨Try.f3, 0, Try.func3, by kernel_rfl, by kernel_rfl⟩
/-- muniment/munimentref08.Check -/
def ir4 : IFun := ⟨1, 30, [(.tmp 2)], (.seq (.reg false [⟨(some 1), none, (.box 5 (.t 0)), [], [], 128⟩,
  ⟨(some 2), none, (.mov (.c (.int .i64 0))), [], [], 192⟩]) (.seq (.seq (.reg false [⟨(some 3), none, (.fad 0 (.t 1)), [], [], 256⟩,
  ⟨(some 4), none, (.ld false 1 (.t 3)), [], [], 320⟩,
  ⟨(some 5), none, (.bin .eql (.t 4) (.c (.int .u64 0))), [], [], 384⟩,
  ⟨(some 6), none, (.mov (.t 5)), [], [], 448⟩,
  ⟨(some 7), (some (6, false)), (.fad 1 (.t 1)), [], [], 512⟩,
  ⟨(some 8), (some (6, false)), (.ld false 1 (.t 7)), [], [], 576⟩,
  ⟨(some 9), (some (6, false)), (.len true (.t 8)), [], [], 640⟩,
  ⟨(some 10), (some (6, false)), (.bin .neq (.t 9) (.c (.int .i64 32))), [], [], 704⟩,
  ⟨(some 11), none, (.pick (.t 6) (.c (.bool true)) (.t 10)), [], [], 768⟩,
  ⟨(some 12), none, (.mov (.t 11)), [], [], 832⟩,
  ⟨(some 13), (some (12, false)), (.fad 2 (.t 1)), [], [], 896⟩,
  ⟨(some 14), (some (12, false)), (.ld false 1 (.t 13)), [], [], 960⟩,
  ⟨(some 15), (some (12, false)), (.len true (.t 14)), [], [], 1024⟩,
  ⟨(some 16), (some (12, false)), (.bin .neq (.t 15) (.c (.int .i64 32))), [], [], 1088⟩,
  ⟨(some 17), none, (.pick (.t 12) (.c (.bool true)) (.t 16)), [], [], 1152⟩,
  ⟨(some 18), none, (.mov (.t 17)), [], [], 1216⟩,
  ⟨(some 19), (some (18, false)), (.fad 3 (.t 1)), [], [], 1280⟩,
  ⟨(some 20), (some (18, false)), (.ld false 1 (.t 19)), [], [], 1344⟩,
  ⟨(some 21), (some (18, false)), (.len true (.t 20)), [], [], 1408⟩,
  ⟨(some 22), (some (18, false)), (.bin .neq (.t 21) (.c (.int .i64 32))), [], [], 1472⟩,
  ⟨(some 23), none, (.pick (.t 18) (.c (.bool true)) (.t 22)), [], [], 1536⟩,
  ⟨(some 24), none, (.mov (.t 23)), [], [], 1600⟩,
  ⟨(some 25), (some (24, false)), (.fad 4 (.t 1)), [], [], 1664⟩,
  ⟨(some 26), (some (24, false)), (.ld false 1 (.t 25)), [], [], 1728⟩,
  ⟨(some 27), (some (24, false)), (.call 11 [(.t 26)]), [], [], 1792⟩,
  ⟨(some 28), (some (24, false)), (.un .not (.t 27)), [], [], 1856⟩,
  ⟨(some 29), none, (.pick (.t 24) (.c (.bool true)) (.t 28)), [], [], 1920⟩]) (.cond (.t 29) (.seq (.reg false [⟨(some 2), none, (.mov (.c (.int .i64 80))), [], [], 192⟩]) .ret) .skip)) (.seq (.reg false [⟨(some 2), none, (.mov (.c (.int .i64 0))), [], [], 192⟩]) .ret)))⟩
theorem ok4 : FnOk Try.prog 4 ir4 := ⟨Try.f4, 0, Try.func4, by kernel_rfl, by kernel_rfl⟩
/-- muniment/munimentlaw08.Ref -/
def ir5 : IFun := ⟨1, 14, [(.cell 2 true 5)], (.seq (.reg false [⟨(some 1), none, (.box 5 (.t 0)), [], [], 128⟩,
  ⟨(some 2), none, (.new [(.int .u64 0), (.str []), (.str []), (.str []), (.sl .nil 0 [])]), [], [], 192⟩]) (.seq (.reg false [⟨(some 3), none, (.fad 0 (.t 1)), [], [], 256⟩,
  ⟨(some 4), none, (.ld false 1 (.t 3)), [], [], 320⟩,
  ⟨(some 5), none, (.fad 1 (.t 1)), [], [], 384⟩,
  ⟨(some 6), none, (.ld false 1 (.t 5)), [], [], 448⟩,
  ⟨(some 7), none, (.fad 2 (.t 1)), [], [], 512⟩,
  ⟨(some 8), none, (.ld false 1 (.t 7)), [], [], 576⟩,
  ⟨(some 9), none, (.fad 3 (.t 1)), [], [], 640⟩,
  ⟨(some 10), none, (.ld false 1 (.t 9)), [], [], 704⟩,
  ⟨(some 11), none, (.fad 4 (.t 1)), [], [], 768⟩,
  ⟨(some 12), none, (.ld false 1 (.t 11)), [], [], 832⟩,
  ⟨(some 13), none, (.mk [(.int .u64 0), (.str []), (.str []), (.str []), (.sl .nil 0 [])] [(0, (1, (.t 4))), (1, (1, (.t 6))), (2, (1, (.t 8))), (3, (1, (.t 10))), (4, (1, (.t 12)))]), [], [], 896⟩,
  ⟨none, none, (.st true 5 (.t 2) (.t 13)), [], [], 64⟩]) .ret))⟩
theorem ok5 : FnOk Try.prog 5 ir5 := ⟨Try.f5, 0, Try.func5, by kernel_rfl, by kernel_rfl⟩
/-- muniment/munimentlaw08.awake -/
def ir6 : IFun := ⟨0, 43, [(.tmp 0)], (.seq (.reg false [⟨(some 0), none, (.mov (.c (.bool false))), [], [], 64⟩]) (.seq (.reg false [⟨(some 6), none, (.call 13 []), [], [], 448⟩,
  ⟨(some 7), none, (.call 13 []), [], [], 512⟩,
  ⟨(some 8), none, (.call 13 []), [], [], 576⟩,
  ⟨(some 9), none, (.mksl 1 2 [(.int .i64 0), (.int .i64 0)] [(0, (1, (.c (.int .i64 2)))), (1, (1, (.c (.int .i64 5))))]), [], [], 640⟩,
  ⟨(some 10), none, (.mk [(.int .u64 0), (.str []), (.str []), (.str []), (.sl .nil 0 [])] [(0, (1, (.c (.int .u64 1)))), (1, (1, (.t 6))), (2, (1, (.t 7))), (3, (1, (.t 8))), (4, (1, (.t 9)))]), [], [], 704⟩,
  ⟨(some 11), none, (.call 12 [(.t 10)]), [], [], 768⟩,
  ⟨(some 5), none, (.mov (.t 11)), [], [], 384⟩,
  ⟨(some 12), none, (.ext 0 (.t 5)), [], [], 832⟩,
  ⟨(some 13), none, (.ext 1 (.t 5)), [], [], 896⟩,
  ⟨(some 1), none, (.mov (.t 12)), [], [], 128⟩,
  ⟨(some 2), none, (.mov (.t 13)), [], [], 192⟩]) (.seq (.reg false [⟨(some 15), none, (.mov (.t 1)), [], [], 1024⟩,
  ⟨(some 16), none, (.call 14 [(.t 15)]), [], [], 1088⟩,
  ⟨(some 14), none, (.mov (.t 16)), [], [], 960⟩,
  ⟨(some 17), none, (.ext 0 (.t 14)), [], [], 1152⟩,
  ⟨(some 18), none, (.ext 1 (.t 14)), [], [], 1216⟩,
  ⟨(some 3), none, (.new [(.int .u64 0), (.str []), (.str []), (.str []), (.sl .nil 0 [])]), [], [], 256⟩,
  ⟨none, none, (.st true 5 (.t 3) (.t 17)), [], [], 64⟩,
  ⟨(some 4), none, (.mov (.t 18)), [], [], 320⟩]) (.seq (.reg false [⟨(some 19), none, (.mov (.t 2)), [], [], 1280⟩,
  ⟨(some 20), none, (.bin .eql (.t 19) (.c (.int .i64 0))), [], [], 1344⟩,
  ⟨(some 21), none, (.mov (.t 20)), [], [], 1408⟩,
  ⟨(some 22), (some (21, true)), (.mov (.t 4)), [], [], 1472⟩,
  ⟨(some 23), (some (21, true)), (.bin .eql (.t 22) (.c (.int .i64 0))), [], [], 1536⟩,
  ⟨(some 24), none, (.pick (.t 21) (.t 23) (.c (.bool false))), [], [], 1600⟩,
  ⟨(some 25), none, (.mov (.t 24)), [], [], 1664⟩,
  ⟨(some 26), (some (25, true)), (.fad 0 (.t 3)), [], [], 1728⟩,
  ⟨(some 27), (some (25, true)), (.ld false 1 (.t 26)), [], [], 1792⟩,
  ⟨(some 28), (some (25, true)), (.bin .eql (.t 27) (.c (.int .u64 1))), [], [], 1856⟩,
  ⟨(some 29), none, (.pick (.t 25) (.t 28) (.c (.bool false))), [], [], 1920⟩,
  ⟨(some 30), none, (.mov (.t 29)), [], [], 1984⟩,
  ⟨(some 31), (some (30, true)), (.fad 4 (.t 3)), [], [], 2048⟩,
  ⟨(some 32), (some (30, true)), (.ld false 1 (.t 31)), [], [], 2112⟩,
  ⟨(some 33), (some (30, true)), (.len false (.t 32)), [], [], 2176⟩,
  ⟨(some 34), (some (30, true)), (.bin .eql (.t 33) (.c (.int .i64 2))), [], [], 2240⟩,
  ⟨(some 35), none, (.pick (.t 30) (.t 34) (.c (.bool false))), [], [], 2304⟩,
  ⟨(some 36), none, (.mov (.t 35)), [], [], 2368⟩,
  ⟨(some 37), (some (36, true)), (.fad 4 (.t 3)), [], [], 2432⟩,
  ⟨(some 38), (some (36, true)), (.ld false 1 (.t 37)), [], [], 2496⟩,
  ⟨(some 39), (some (36, true)), (.iaL 1 (.t 38) (.c (.int .i64 1))), [], [], 2560⟩,
  ⟨(some 40), (some (36, true)), (.ld false 1 (.t 39)), [], [], 2624⟩,
  ⟨(some 41), (some (36, true)), (.bin .eql (.t 40) (.c (.int .i64 5))), [], [], 2688⟩,
  ⟨(some 42), none, (.pick (.t 36) (.t 41) (.c (.bool false))), [], [], 2752⟩,
  ⟨(some 0), none, (.mov (.t 42)), [], [], 64⟩]) .ret))))⟩
theorem ok6 : FnOk Try.prog 6 ir6 := ⟨Try.f6, 0, Try.func6, by kernel_rfl, by kernel_rfl⟩
/-- muniment/head.Clone -/
def ir7 : IFun := ⟨1, 8, [(.cell 2 true 5)], (.seq (.reg false [⟨(some 1), none, (.box 5 (.t 0)), [], [], 128⟩,
  ⟨(some 2), none, (.new [(.int .u64 0), (.str []), (.str []), (.str []), (.sl .nil 0 [])]), [], [], 192⟩]) (.seq (.reg false [⟨(some 3), none, (.fad 4 (.t 1)), [], [], 256⟩,
  ⟨(some 4), none, (.ld false 1 (.t 3)), [], [], 320⟩,
  ⟨(some 5), none, (.call 15 [(.t 4)]), [], [], 384⟩,
  ⟨(some 6), none, (.fad 4 (.t 1)), [], [], 448⟩,
  ⟨none, none, (.st false 1 (.t 6) (.t 5)), [], [], 64⟩]) (.seq (.reg false [⟨(some 7), none, (.ld true 5 (.t 1)), [], [], 512⟩,
  ⟨none, none, (.st true 5 (.t 2) (.t 7)), [], [], 64⟩]) .ret)))⟩
theorem ok7 : FnOk Try.prog 7 ir7 := ⟨Try.f7, 0, Try.func7, by kernel_rfl, by kernel_rfl⟩
/-- muniment/munimentref08.Bytes -/
def ir8 : IFun := ⟨1, 22, [(.tmp 2)], (.seq (.reg false [⟨(some 1), none, (.box 5 (.t 0)), [], [], 128⟩,
  ⟨(some 2), none, (.mov (.c (.str []))), [], [], 192⟩]) (.seq (.reg true [⟨(some 3), none, (.fad 0 (.t 1)), [], [], 256⟩,
  ⟨(some 4), none, (.ld false 1 (.t 3)), [0], [0], 320⟩,
  ⟨(some 5), none, (.call 16 [(.t 4), (.c (.int .i64 8))]), [1], [1, 0], 384⟩,
  ⟨(some 6), none, (.fad 1 (.t 1)), [], [], 448⟩,
  ⟨(some 7), none, (.ld false 1 (.t 6)), [3], [3], 512⟩,
  ⟨(some 8), none, (.call 17 [(.t 7)]), [4, 2], [4, 2, 3, 1, 0], 576⟩,
  ⟨(some 9), none, (.bin .add (.t 5) (.t 8)), [2, 5], [2, 5, 1, 0, 4, 3], 640⟩,
  ⟨(some 10), none, (.fad 2 (.t 1)), [], [], 704⟩,
  ⟨(some 11), none, (.ld false 1 (.t 10)), [7], [7], 768⟩,
  ⟨(some 12), none, (.call 17 [(.t 11)]), [8, 5], [8, 5, 7, 4, 2, 3, 1, 0], 832⟩,
  ⟨(some 13), none, (.bin .add (.t 9) (.t 12)), [6, 9], [6, 9, 2, 5, 1, 0, 4, 3, 8, 7], 896⟩,
  ⟨(some 14), none, (.fad 3 (.t 1)), [], [], 960⟩,
  ⟨(some 15), none, (.ld false 1 (.t 14)), [11], [11], 1024⟩,
  ⟨(some 16), none, (.call 17 [(.t 15)]), [12, 9], [12, 9, 11, 8, 5, 7, 4, 2, 3, 1, 0], 1088⟩,
  ⟨(some 17), none, (.bin .add (.t 13) (.t 16)), [10, 13], [10, 13, 6, 9, 2, 5, 1, 0, 4, 3, 8, 7, 12, 11], 1152⟩,
  ⟨(some 18), none, (.fad 4 (.t 1)), [], [], 1216⟩,
  ⟨(some 19), none, (.ld false 1 (.t 18)), [15], [15], 1280⟩,
  ⟨(some 20), none, (.call 18 [(.t 19)]), [16, 13], [16, 13, 15, 12, 9, 11, 8, 5, 7, 4, 2, 3, 1, 0], 1344⟩,
  ⟨(some 21), none, (.bin .add (.t 17) (.t 20)), [14, 17], [14, 17, 10, 13, 6, 9, 2, 5, 1, 0, 4, 3, 8, 7, 12, 11, 16, 15], 1408⟩,
  ⟨(some 2), none, (.mov (.t 21)), [18, 17, 0, 1, 2, 3, 4, 5, 6, 7, 8, 9, 10, 11, 12, 13, 14, 15, 16, 17, 18], [18, 17, 0, 1, 2, 3, 4, 5, 6, 7, 8, 9, 10, 11, 12, 13, 14, 15, 16], 192⟩]) .ret))⟩
theorem ok8 : FnOk Try.prog 8 ir8 := ⟨Try.f8, 0, Try.func8, by kernel_rfl, by kernel_rfl⟩
/-- muniment/head.Same -/
def ir9 : IFun := ⟨2, 38, [(.tmp 4)], (.seq (.reg false [⟨(some 2), none, (.box 5 (.t 0)), [], [], 192⟩,
  ⟨(some 3), none, (.box 5 (.t 1)), [], [], 256⟩,
  ⟨(some 4), none, (.mov (.c (.bool false))), [], [], 320⟩]) (.seq (.reg false [⟨(some 5), none, (.fad 0 (.t 2)), [], [], 384⟩,
  ⟨(some 6), none, (.ld false 1 (.t 5)), [], [], 448⟩,
  ⟨(some 7), none, (.fad 0 (.t 3)), [], [], 512⟩,
  ⟨(some 8), none, (.ld false 1 (.t 7)), [], [], 576⟩,
  ⟨(some 9), none, (.bin .eql (.t 6) (.t 8)), [], [], 640⟩,
  ⟨(some 10), none, (.mov (.t 9)), [], [], 704⟩,
  ⟨(some 11), (some (10, true)), (.fad 1 (.t 2)), [], [], 768⟩,
  ⟨(some 12), (some (10, true)), (.ld false 1 (.t 11)), [], [], 832⟩,
  ⟨(some 13), (some (10, true)), (.fad 1 (.t 3)), [], [], 896⟩,
  ⟨(some 14), (some (10, true)), (.ld false 1 (.t 13)), [], [], 960⟩,
  ⟨(some 15), (some (10, true)), (.bin .eql (.t 12) (.t 14)), [], [], 1024⟩,
  ⟨(some 16), none, (.pick (.t 10) (.t 15) (.c (.bool false))), [], [], 1088⟩,
  ⟨(some 17), none, (.mov (.t 16)), [], [], 1152⟩,
  ⟨(some 18), (some (17, true)), (.fad 2 (.t 2)), [], [], 1216⟩,
  ⟨(some 19), (some (17, true)), (.ld false 1 (.t 18)), [], [], 1280⟩,
  ⟨(some 20), (some (17, true)), (.fad 2 (.t 3)), [], [], 1344⟩,
  ⟨(some 21), (some (17, true)), (.ld false 1 (.t 20)), [], [], 1408⟩,
  ⟨(some 22), (some (17, true)), (.bin .eql (.t 19) (.t 21)), [], [], 1472⟩,
  ⟨(some 23), none, (.pick (.t 17) (.t 22) (.c (.bool false))), [], [], 1536⟩,
  ⟨(some 24), none, (.mov (.t 23)), [], [], 1600⟩,
  ⟨(some 25), (some (24, true)), (.fad 3 (.t 2)), [], [], 1664⟩,
  ⟨(some 26), (some (24, true)), (.ld false 1 (.t 25)), [], [], 1728⟩,
  ⟨(some 27), (some (24, true)), (.fad 3 (.t 3)), [], [], 1792⟩,
  ⟨(some 28), (some (24, true)), (.ld false 1 (.t 27)), [], [], 1856⟩,
  ⟨(some 29), (some (24, true)), (.bin .eql (.t 26) (.t 28)), [], [], 1920⟩,
  ⟨(some 30), none, (.pick (.t 24) (.t 29) (.c (.bool false))), [], [], 1984⟩,
  ⟨(some 31), none, (.mov (.t 30)), [], [], 2048⟩,
  ⟨(some 32), (some (31, true)), (.fad 4 (.t 2)), [], [], 2112⟩,
  ⟨(some 33), (some (31, true)), (.ld false 1 (.t 32)), [], [], 2176⟩,
  ⟨(some 34), (some (31, true)), (.fad 4 (.t 3)), [], [], 2240⟩,
  ⟨(some 35), (some (31, true)), (.ld false 1 (.t 34)), [], [], 2304⟩,
  ⟨(some 36), (some (31, true)), (.call 19 [(.t 33), (.t 35)]), [], [], 2368⟩,
  ⟨(some 37), none, (.pick (.t 31) (.t 36) (.c (.bool false))), [], [], 2432⟩,
  ⟨(some 4), none, (.mov (.t 37)), [], [], 320⟩]) .ret))⟩
theorem ok9 : FnOk Try.prog 9 ir9 := ⟨Try.f9, 0, Try.func9, by kernel_rfl, by kernel_rfl⟩
/-- muniment/head.Most -/
def ir10 : IFun := ⟨1, 6, [(.tmp 2)], (.seq (.reg false [⟨(some 2), none, (.mov (.c (.int .i64 0))), [], [], 192⟩]) (.seq (.reg false [⟨(some 3), none, (.mov (.t 0)), [], [], 256⟩,
  ⟨(some 4), none, (.bin .quo (.t 3) (.c (.int .i64 2))), [], [], 320⟩,
  ⟨(some 5), none, (.bin .add (.t 4) (.c (.int .i64 1))), [], [], 384⟩,
  ⟨(some 2), none, (.mov (.t 5)), [], [], 192⟩]) .ret))⟩
theorem ok10 : FnOk Try.prog 10 ir10 := ⟨Try.f10, 0, Try.func10, by kernel_rfl, by kernel_rfl⟩
/-- muniment/munimentref08.Members -/
def lp11_0 : IC := (.seq (.seq (.reg false [⟨(some 4), none, (.mov (.t 3)), [], [], 320⟩,
  ⟨(some 5), none, (.mov (.t 0)), [], [], 384⟩,
  ⟨(some 6), none, (.len false (.t 5)), [], [], 448⟩,
  ⟨(some 7), none, (.bin .lss (.t 4) (.t 6)), [], [], 512⟩]) (.cond (.t 7) .skip (.exit 0))) (.seq (.block 1 (.seq (.reg true [⟨(some 10), none, (.mov (.t 0)), [], [], 704⟩,
  ⟨(some 11), none, (.mov (.t 3)), [], [], 768⟩,
  ⟨(some 12), none, (.iaL 1 (.t 10) (.t 11)), [0, 1], [0, 1], 832⟩,
  ⟨(some 13), none, (.ld false 1 (.t 12)), [2], [2, 0, 1], 896⟩,
  ⟨(some 14), none, (.bin .lss (.t 13) (.c (.int .i64 0))), [3], [3, 2, 0, 1], 960⟩,
  ⟨(some 15), none, (.mov (.t 14)), [4], [4, 3, 2, 0, 1], 1024⟩,
  ⟨(some 16), (some (15, false)), (.mov (.t 0)), [5], [5, 4, 3, 2, 0, 1], 1088⟩,
  ⟨(some 17), (some (15, false)), (.mov (.t 3)), [5], [5, 4, 3, 2, 0, 1], 1152⟩,
  ⟨(some 18), (some (15, false)), (.iaL 1 (.t 16) (.t 17)), [6, 7, 5], [6, 7, 5, 4, 3, 2, 0, 1], 1216⟩,
  ⟨(some 19), (some (15, false)), (.ld false 1 (.t 18)), [8, 5], [8, 5, 6, 7, 4, 3, 2, 0, 1], 1280⟩,
  ⟨(some 20), (some (15, false)), (.bin .gtr (.t 19) (.c (.int .i64 15))), [9, 5], [9, 5, 8, 6, 7, 4, 3, 2, 0, 1], 1344⟩,
  ⟨(some 21), none, (.pick (.t 15) (.c (.bool true)) (.t 20)), [5, 10], [5, 10, 4, 3, 2, 0, 1, 9, 8, 6, 7], 1408⟩,
  ⟨(some 22), none, (.mov (.t 21)), [11, 5], [11, 5, 10, 4, 3, 2, 0, 1, 9, 8, 6, 7], 1472⟩,
  ⟨(some 23), (some (22, false)), (.mov (.t 3)), [12], [12, 11, 5, 10, 4, 3, 2, 0, 1, 9, 8, 6, 7], 1536⟩,
  ⟨(some 24), (some (22, false)), (.bin .gtr (.t 23) (.c (.int .i64 0))), [13, 12], [13, 12, 11, 5, 10, 4, 3, 2, 0, 1, 9, 8, 6, 7], 1600⟩,
  ⟨(some 25), (some (22, false)), (.mov (.t 24)), [14, 12, 12], [14, 12, 13, 11, 5, 10, 4, 3, 2, 0, 1, 9, 8, 6, 7], 1664⟩,
  ⟨(some 26), (some (25, true)), (.mov (.t 0)), [15], [15, 14, 12, 13, 11, 5, 10, 4, 3, 2, 0, 1, 9, 8, 6, 7], 1728⟩,
  ⟨(some 27), (some (25, true)), (.mov (.t 3)), [15], [15, 14, 12, 13, 11, 5, 10, 4, 3, 2, 0, 1, 9, 8, 6, 7], 1792⟩,
  ⟨(some 28), (some (25, true)), (.bin .sub (.t 27) (.c (.int .i64 1))), [17, 15], [17, 15, 14, 12, 13, 11, 5, 10, 4, 3, 2, 0, 1, 9, 8, 6, 7], 1856⟩,
  ⟨(some 29), (some (25, true)), (.iaL 1 (.t 26) (.t 28)), [16, 18, 15], [16, 18, 15, 14, 12, 13, 11, 5, 10, 4, 3, 2, 0, 1, 9, 8, 6, 7, 17], 1920⟩,
  ⟨(some 30), (some (25, true)), (.ld false 1 (.t 29)), [19, 15], [19, 15, 16, 18, 14, 12, 13, 11, 5, 10, 4, 3, 2, 0, 1, 9, 8, 6, 7, 17], 1984⟩,
  ⟨(some 31), (some (25, true)), (.mov (.t 0)), [15], [15, 14, 12, 13, 11, 5, 10, 4, 3, 2, 0, 1, 9, 8, 6, 7], 2048⟩,
  ⟨(some 32), (some (25, true)), (.mov (.t 3)), [15], [15, 14, 12, 13, 11, 5, 10, 4, 3, 2, 0, 1, 9, 8, 6, 7], 2112⟩,
  ⟨(some 33), (some (25, true)), (.iaL 1 (.t 31) (.t 32)), [21, 22, 15], [21, 22, 15, 14, 12, 13, 11, 5, 10, 4, 3, 2, 0, 1, 9, 8, 6, 7], 2176⟩,
  ⟨(some 34), (some (25, true)), (.ld false 1 (.t 33)), [23, 15], [23, 15, 21, 22, 14, 12, 13, 11, 5, 10, 4, 3, 2, 0, 1, 9, 8, 6, 7], 2240⟩,
  ⟨(some 35), (some (25, true)), (.bin .geq (.t 30) (.t 34)), [20, 24, 15], [20, 24, 15, 19, 16, 18, 14, 12, 13, 11, 5, 10, 4, 3, 2, 0, 1, 9, 8, 6, 7, 17, 23, 21, 22], 2304⟩,
  ⟨(some 36), (some (22, false)), (.pick (.t 25) (.t 35) (.c (.bool false))), [15, 25, 12], [15, 25, 12, 14, 13, 11, 5, 10, 4, 3, 2, 0, 1, 9, 8, 6, 7, 20, 24, 19, 16, 18, 17, 23, 21, 22], 2368⟩,
  ⟨(some 37), none, (.pick (.t 22) (.c (.bool true)) (.t 36)), [12, 26], [12, 26, 11, 5, 10, 4, 3, 2, 0, 1, 9, 8, 6, 7, 15, 25, 14, 13, 20, 24, 19, 16, 18, 17, 23, 21, 22], 2432⟩]) (.cond (.t 37) (.seq (.reg false [⟨(some 2), none, (.mov (.c (.bool false))), [], [], 192⟩]) .ret) .skip))) (.reg false [⟨(some 8), none, (.mov (.t 3)), [], [], 576⟩,
  ⟨(some 9), none, (.bin .add (.t 8) (.c (.int .i64 1))), [], [], 640⟩,
  ⟨(some 3), none, (.mov (.t 9)), [], [], 256⟩])))
def ir11 : IFun := ⟨1, 41, [(.tmp 2)], (.seq (.reg false [⟨(some 2), none, (.mov (.c (.bool false))), [], [], 192⟩]) (.seq (.seq (.reg false [⟨(some 3), none, (.mov (.c (.int .i64 0))), [], [], 256⟩]) (.block 0 (.loop lp11_0))) (.seq (.reg false [⟨(some 38), none, (.mov (.t 0)), [], [], 2496⟩,
  ⟨(some 39), none, (.len false (.t 38)), [], [], 2560⟩,
  ⟨(some 40), none, (.bin .gtr (.t 39) (.c (.int .i64 0))), [], [], 2624⟩,
  ⟨(some 2), none, (.mov (.t 40)), [], [], 192⟩]) .ret)))⟩
theorem ok11 : FnOk Try.prog 11 ir11 := ⟨Try.f11, 0, Try.func11, by kernel_rfl, by kernel_rfl⟩
/-- muniment/head.Encode -/
def ir12 : IFun := ⟨1, 17, [(.tmp 2), (.tmp 3)], (.seq (.reg false [⟨(some 1), none, (.box 5 (.t 0)), [], [], 128⟩,
  ⟨(some 2), none, (.mov (.c (.str []))), [], [], 192⟩,
  ⟨(some 3), none, (.mov (.c (.int .i64 0))), [], [], 256⟩]) (.seq (.seq (.reg false [⟨(some 6), none, (.ld true 5 (.t 1)), [], [], 448⟩,
  ⟨(some 7), none, (.call 20 [(.t 6)]), [], [], 512⟩,
  ⟨(some 4), none, (.mov (.t 7)), [], [], 320⟩]) (.seq (.reg false [⟨(some 8), none, (.mov (.t 4)), [], [], 576⟩,
  ⟨(some 9), none, (.bin .neq (.t 8) (.c (.int .i64 0))), [], [], 640⟩]) (.cond (.t 9) (.seq (.reg false [⟨(some 10), none, (.mov (.t 4)), [], [], 704⟩,
  ⟨(some 2), none, (.mov (.c (.str []))), [], [], 192⟩,
  ⟨(some 3), none, (.mov (.t 10)), [], [], 256⟩]) .ret) .skip))) (.seq (.reg false [⟨(some 11), none, (.call 21 []), [], [], 768⟩,
  ⟨(some 5), none, (.mov (.t 11)), [], [], 384⟩]) (.seq (.reg false [⟨(some 12), none, (.mov (.t 5)), [], [], 832⟩,
  ⟨(some 13), none, (.ld true 5 (.t 1)), [], [], 896⟩,
  ⟨(some 14), none, (.call 22 [(.t 12), (.t 13)]), [], [], 960⟩]) (.seq (.reg false [⟨(some 15), none, (.mov (.t 5)), [], [], 1024⟩,
  ⟨(some 16), none, (.call 23 [(.t 15)]), [], [], 1088⟩,
  ⟨(some 2), none, (.mov (.t 16)), [], [], 192⟩,
  ⟨(some 3), none, (.mov (.c (.int .i64 0))), [], [], 256⟩]) .ret)))))⟩
theorem ok12 : FnOk Try.prog 12 ir12 := ⟨Try.f12, 0, Try.func12, by kernel_rfl, by kernel_rfl⟩
/-- muniment/munimentlaw08.zeros -/
def ir13 : IFun := ⟨0, 2, [(.tmp 0)], (.seq (.reg false [⟨(some 0), none, (.mov (.c (.str []))), [], [], 64⟩]) (.seq (.reg false [⟨(some 1), none, (.call 17 [(.c (.str []))]), [], [], 128⟩,
  ⟨(some 0), none, (.mov (.t 1)), [], [], 64⟩]) .ret))⟩
theorem ok13 : FnOk Try.prog 13 ir13 := ⟨Try.f13, 0, Try.func13, by kernel_rfl, by kernel_rfl⟩
/-- muniment/head.Decode -/
def ir14 : IFun := ⟨1, 18, [(.cell 2 true 5), (.tmp 3)], (.seq (.reg false [⟨(some 2), none, (.new [(.int .u64 0), (.str []), (.str []), (.str []), (.sl .nil 0 [])]), [], [], 192⟩,
  ⟨(some 3), none, (.mov (.c (.int .i64 0))), [], [], 256⟩]) (.seq (.reg false [⟨(some 7), none, (.mov (.t 0)), [], [], 512⟩,
  ⟨(some 8), none, (.call 24 [(.t 7)]), [], [], 576⟩,
  ⟨(some 4), none, (.mov (.t 8)), [], [], 320⟩]) (.seq (.reg false [⟨(some 9), none, (.mov (.t 4)), [], [], 640⟩,
  ⟨(some 10), none, (.call 25 [(.t 9)]), [], [], 704⟩,
  ⟨(some 5), none, (.new [(.int .u64 0), (.str []), (.str []), (.str []), (.sl .nil 0 [])]), [], [], 384⟩,
  ⟨none, none, (.st true 5 (.t 5) (.t 10)), [], [], 64⟩]) (.seq (.seq (.reg false [⟨(some 11), none, (.mov (.t 4)), [], [], 768⟩,
  ⟨(some 12), none, (.call 26 [(.t 11)]), [], [], 832⟩,
  ⟨(some 6), none, (.mov (.t 12)), [], [], 448⟩]) (.seq (.reg false [⟨(some 13), none, (.mov (.t 6)), [], [], 896⟩,
  ⟨(some 14), none, (.bin .neq (.t 13) (.c (.int .i64 0))), [], [], 960⟩]) (.cond (.t 14) (.seq (.reg false [⟨(some 15), none, (.mk [(.int .u64 0), (.str []), (.str []), (.str []), (.sl .nil 0 [])] []), [], [], 1024⟩,
  ⟨(some 16), none, (.mov (.t 6)), [], [], 1088⟩,
  ⟨none, none, (.st true 5 (.t 2) (.t 15)), [], [], 64⟩,
  ⟨(some 3), none, (.mov (.t 16)), [], [], 256⟩]) .ret) .skip))) (.seq (.reg false [⟨(some 17), none, (.ld true 5 (.t 5)), [], [], 1152⟩,
  ⟨none, none, (.st true 5 (.t 2) (.t 17)), [], [], 64⟩,
  ⟨(some 3), none, (.mov (.c (.int .i64 0))), [], [], 256⟩]) .ret)))))⟩
theorem ok14 : FnOk Try.prog 14 ir14 := ⟨Try.f14, 0, Try.func14, by kernel_rfl, by kernel_rfl⟩
/-- slices.Clone[[]int,int] -/
def ir15 : IFun := ⟨1, 8, [(.tmp 2)], (.seq (.reg false [⟨(some 2), none, (.mov (.c (.sl .nil 0 []))), [], [], 192⟩]) (.seq (.seq (.reg false [⟨(some 3), none, (.mov (.t 0)), [], [], 256⟩,
  ⟨(some 4), none, (.eqn false .sl (.t 3) (.c (.sl .nil 0 []))), [], [], 320⟩]) (.cond (.t 4) (.seq (.reg false [⟨(some 2), none, (.mov (.c (.sl .nil 0 []))), [], [], 192⟩]) .ret) .skip)) (.seq (.reg false [⟨(some 5), none, (.mksl 1 0 [] []), [], [], 384⟩,
  ⟨(some 6), none, (.mov (.t 0)), [], [], 448⟩,
  ⟨(some 7), none, (.app 1 8 (.t 5) (.t 6)), [], [], 512⟩,
  ⟨(some 2), none, (.mov (.t 7)), [], [], 192⟩]) .ret)))⟩
theorem ok15 : FnOk Try.prog 15 ir15 := ⟨Try.f15, 0, Try.func15, by kernel_rfl, by kernel_rfl⟩
/-- muniment/munimentref03.Number -/
def ir16 : IFun := ⟨2, 20, [(.tmp 4)], (.seq (.reg false [⟨(some 4), none, (.mov (.c (.str []))), [], [], 320⟩]) (.seq (.seq (.reg false [⟨(some 5), none, (.mov (.t 1)), [], [], 384⟩,
  ⟨(some 6), none, (.bin .gtr (.t 5) (.c (.int .i64 8))), [], [], 448⟩]) (.cond (.t 6) (.reg false [⟨(some 1), none, (.mov (.c (.int .i64 8))), [], [], 128⟩]) .skip)) (.seq (.seq (.reg false [⟨(some 7), none, (.mov (.t 1)), [], [], 512⟩,
  ⟨(some 8), none, (.bin .leq (.t 7) (.c (.int .i64 0))), [], [], 576⟩]) (.cond (.t 8) (.seq (.reg false [⟨(some 4), none, (.mov (.c (.str []))), [], [], 320⟩]) .ret) .skip)) (.seq (.reg true [⟨(some 9), none, (.mov (.t 0)), [], [], 640⟩,
  ⟨(some 10), none, (.bin .quo (.t 9) (.c (.int .u64 256))), [0], [0], 704⟩,
  ⟨(some 11), none, (.mov (.t 1)), [], [], 768⟩,
  ⟨(some 12), none, (.bin .sub (.t 11) (.c (.int .i64 1))), [2], [2], 832⟩,
  ⟨(some 13), none, (.call 16 [(.t 10), (.t 12)]), [1, 3], [1, 3, 0, 2], 896⟩,
  ⟨(some 14), none, (.mov (.t 0)), [], [], 960⟩,
  ⟨(some 15), none, (.bin .rem (.t 14) (.c (.int .u64 256))), [5], [5], 1024⟩,
  ⟨(some 16), none, (.toInt .u8 (.t 15)), [6], [6, 5], 1088⟩,
  ⟨(some 17), none, (.mksl 1 1 [(.int .u8 0)] [(0, (1, (.t 16)))]), [7], [7, 6, 5], 1152⟩,
  ⟨(some 18), none, (.toStr (.t 17)), [8], [8, 7, 6, 5], 1216⟩,
  ⟨(some 19), none, (.bin .add (.t 13) (.t 18)), [4, 9], [4, 9, 1, 3, 0, 2, 8, 7, 6, 5], 1280⟩,
  ⟨(some 4), none, (.mov (.t 19)), [10, 4, 0, 1, 2, 3, 4, 5, 6, 7, 8, 9, 10], [10, 4, 0, 1, 2, 3, 5, 6, 7, 8, 9], 320⟩]) .ret))))⟩
theorem ok16 : FnOk Try.prog 16 ir16 := ⟨Try.f16, 0, Try.func16, by kernel_rfl, by kernel_rfl⟩
/-- muniment/munimentref03.Hash -/
def lp17_0 : IC := (.seq (.seq (.reg false [⟨(some 3), none, (.mov (.t 0)), [], [], 256⟩,
  ⟨(some 4), none, (.len true (.t 3)), [], [], 320⟩,
  ⟨(some 5), none, (.bin .lss (.t 4) (.c (.int .i64 32))), [], [], 384⟩]) (.cond (.t 5) .skip (.exit 0))) (.block 1 (.reg false [⟨(some 6), none, (.mov (.t 0)), [], [], 448⟩,
  ⟨(some 7), none, (.bin .add (.t 6) (.c (.str [0]))), [], [], 512⟩,
  ⟨(some 0), none, (.mov (.t 7)), [], [], 64⟩])))
def ir17 : IFun := ⟨1, 10, [(.tmp 2)], (.seq (.reg false [⟨(some 2), none, (.mov (.c (.str []))), [], [], 192⟩]) (.seq (.block 0 (.loop lp17_0)) (.seq (.reg false [⟨(some 8), none, (.mov (.t 0)), [], [], 576⟩,
  ⟨(some 9), none, (.slS (.t 8) none (some (.c (.int .i64 32)))), [], [], 640⟩,
  ⟨(some 2), none, (.mov (.t 9)), [], [], 192⟩]) .ret)))⟩
theorem ok17 : FnOk Try.prog 17 ir17 := ⟨Try.f17, 0, Try.func17, by kernel_rfl, by kernel_rfl⟩
/-- muniment/munimentref08.MembersBytes -/
def lp18_0 : IC := (.seq (.seq (.reg false [⟨(some 9), none, (.mov (.t 4)), [], [], 640⟩,
  ⟨(some 10), none, (.mov (.t 0)), [], [], 704⟩,
  ⟨(some 11), none, (.len false (.t 10)), [], [], 768⟩,
  ⟨(some 12), none, (.bin .lss (.t 9) (.t 11)), [], [], 832⟩]) (.cond (.t 12) .skip (.exit 0))) (.seq (.block 1 (.reg false [⟨(some 15), none, (.mov (.t 3)), [], [], 1024⟩,
  ⟨(some 16), none, (.mov (.t 0)), [], [], 1088⟩,
  ⟨(some 17), none, (.mov (.t 4)), [], [], 1152⟩,
  ⟨(some 18), none, (.iaL 1 (.t 16) (.t 17)), [], [], 1216⟩,
  ⟨(some 19), none, (.ld false 1 (.t 18)), [], [], 1280⟩,
  ⟨(some 20), none, (.toInt .u64 (.t 19)), [], [], 1344⟩,
  ⟨(some 21), none, (.call 16 [(.t 20), (.c (.int .i64 1))]), [], [], 1408⟩,
  ⟨(some 22), none, (.bin .add (.t 15) (.t 21)), [], [], 1472⟩,
  ⟨(some 3), none, (.mov (.t 22)), [], [], 256⟩])) (.reg false [⟨(some 13), none, (.mov (.t 4)), [], [], 896⟩,
  ⟨(some 14), none, (.bin .add (.t 13) (.c (.int .i64 1))), [], [], 960⟩,
  ⟨(some 4), none, (.mov (.t 14)), [], [], 320⟩])))
def ir18 : IFun := ⟨1, 24, [(.tmp 2)], (.seq (.reg false [⟨(some 2), none, (.mov (.c (.str []))), [], [], 192⟩]) (.seq (.reg false [⟨(some 5), none, (.mov (.t 0)), [], [], 384⟩,
  ⟨(some 6), none, (.len false (.t 5)), [], [], 448⟩,
  ⟨(some 7), none, (.toInt .u64 (.t 6)), [], [], 512⟩,
  ⟨(some 8), none, (.call 16 [(.t 7), (.c (.int .i64 1))]), [], [], 576⟩,
  ⟨(some 3), none, (.mov (.t 8)), [], [], 256⟩]) (.seq (.seq (.reg false [⟨(some 4), none, (.mov (.c (.int .i64 0))), [], [], 320⟩]) (.block 0 (.loop lp18_0))) (.seq (.reg false [⟨(some 23), none, (.mov (.t 3)), [], [], 1536⟩,
  ⟨(some 2), none, (.mov (.t 23)), [], [], 192⟩]) .ret))))⟩
theorem ok18 : FnOk Try.prog 18 ir18 := ⟨Try.f18, 0, Try.func18, by kernel_rfl, by kernel_rfl⟩
/-- slices.Equal[[]int,int] -/
def lp19_0 : IC := (.seq (.reg false [⟨(some 14), none, (.bin .lss (.t 13) (.t 12)), [], [], 960⟩]) (.seq (.cond (.t 14) .skip (.exit 0)) (.seq (.block 1 (.seq (.reg false [⟨(some 15), none, (.mov (.t 13)), [], [], 1024⟩,
  ⟨(some 5), none, (.mov (.t 15)), [], [], 384⟩]) (.seq (.reg true [⟨(some 16), none, (.mov (.t 0)), [], [], 1088⟩,
  ⟨(some 17), none, (.mov (.t 5)), [], [], 1152⟩,
  ⟨(some 18), none, (.iaL 1 (.t 16) (.t 17)), [0, 1], [0, 1], 1216⟩,
  ⟨(some 19), none, (.ld false 1 (.t 18)), [2], [2, 0, 1], 1280⟩,
  ⟨(some 20), none, (.mov (.t 1)), [], [], 1344⟩,
  ⟨(some 21), none, (.mov (.t 5)), [], [], 1408⟩,
  ⟨(some 22), none, (.iaL 1 (.t 20) (.t 21)), [4, 5], [4, 5], 1472⟩,
  ⟨(some 23), none, (.ld false 1 (.t 22)), [6], [6, 4, 5], 1536⟩,
  ⟨(some 24), none, (.bin .neq (.t 19) (.t 23)), [3, 7], [3, 7, 2, 0, 1, 6, 4, 5], 1600⟩]) (.cond (.t 24) (.seq (.reg false [⟨(some 4), none, (.mov (.c (.bool false))), [], [], 320⟩]) .ret) .skip)))) (.reg false [⟨(some 25), none, (.bin .add (.t 13) (.c (.int .i64 1))), [], [], 1664⟩,
  ⟨(some 13), none, (.mov (.t 25)), [], [], 896⟩]))))
def ir19 : IFun := ⟨2, 26, [(.tmp 4)], (.seq (.reg false [⟨(some 4), none, (.mov (.c (.bool false))), [], [], 320⟩]) (.seq (.seq (.reg false [⟨(some 6), none, (.mov (.t 0)), [], [], 448⟩,
  ⟨(some 7), none, (.len false (.t 6)), [], [], 512⟩,
  ⟨(some 8), none, (.mov (.t 1)), [], [], 576⟩,
  ⟨(some 9), none, (.len false (.t 8)), [], [], 640⟩,
  ⟨(some 10), none, (.bin .neq (.t 7) (.t 9)), [], [], 704⟩]) (.cond (.t 10) (.seq (.reg false [⟨(some 4), none, (.mov (.c (.bool false))), [], [], 320⟩]) .ret) .skip)) (.seq (.seq (.reg false [⟨(some 11), none, (.mov (.t 0)), [], [], 768⟩,
  ⟨(some 12), none, (.len false (.t 11)), [], [], 832⟩,
  ⟨(some 13), none, (.mov (.c (.int .i64 0))), [], [], 896⟩]) (.block 0 (.loop lp19_0))) (.seq (.reg false [⟨(some 4), none, (.mov (.c (.bool true))), [], [], 320⟩]) .ret))))⟩
theorem ok19 : FnOk Try.prog 19 ir19 := ⟨Try.f19, 0, Try.func19, by kernel_rfl, by kernel_rfl⟩
/-- muniment/head.Check -/
def ir20 : IFun := ⟨1, 30, [(.tmp 2)], (.seq (.reg false [⟨(some 1), none, (.box 5 (.t 0)), [], [], 128⟩,
  ⟨(some 2), none, (.mov (.c (.int .i64 0))), [], [], 192⟩]) (.seq (.seq (.reg false [⟨(some 3), none, (.fad 0 (.t 1)), [], [], 256⟩,
  ⟨(some 4), none, (.ld false 1 (.t 3)), [], [], 320⟩,
  ⟨(some 5), none, (.bin .lss (.t 4) (.c (.int .u64 1))), [], [], 384⟩,
  ⟨(some 6), none, (.mov (.t 5)), [], [], 448⟩,
  ⟨(some 7), (some (6, false)), (.fad 1 (.t 1)), [], [], 512⟩,
  ⟨(some 8), (some (6, false)), (.ld false 1 (.t 7)), [], [], 576⟩,
  ⟨(some 9), (some (6, false)), (.len true (.t 8)), [], [], 640⟩,
  ⟨(some 10), (some (6, false)), (.bin .neq (.t 9) (.c (.int .i64 32))), [], [], 704⟩,
  ⟨(some 11), none, (.pick (.t 6) (.c (.bool true)) (.t 10)), [], [], 768⟩,
  ⟨(some 12), none, (.mov (.t 11)), [], [], 832⟩,
  ⟨(some 13), (some (12, false)), (.fad 2 (.t 1)), [], [], 896⟩,
  ⟨(some 14), (some (12, false)), (.ld false 1 (.t 13)), [], [], 960⟩,
  ⟨(some 15), (some (12, false)), (.len true (.t 14)), [], [], 1024⟩,
  ⟨(some 16), (some (12, false)), (.bin .neq (.t 15) (.c (.int .i64 32))), [], [], 1088⟩,
  ⟨(some 17), none, (.pick (.t 12) (.c (.bool true)) (.t 16)), [], [], 1152⟩,
  ⟨(some 18), none, (.mov (.t 17)), [], [], 1216⟩,
  ⟨(some 19), (some (18, false)), (.fad 3 (.t 1)), [], [], 1280⟩,
  ⟨(some 20), (some (18, false)), (.ld false 1 (.t 19)), [], [], 1344⟩,
  ⟨(some 21), (some (18, false)), (.len true (.t 20)), [], [], 1408⟩,
  ⟨(some 22), (some (18, false)), (.bin .neq (.t 21) (.c (.int .i64 32))), [], [], 1472⟩,
  ⟨(some 23), none, (.pick (.t 18) (.c (.bool true)) (.t 22)), [], [], 1536⟩,
  ⟨(some 24), none, (.mov (.t 23)), [], [], 1600⟩,
  ⟨(some 25), (some (24, false)), (.fad 4 (.t 1)), [], [], 1664⟩,
  ⟨(some 26), (some (24, false)), (.ld false 1 (.t 25)), [], [], 1728⟩,
  ⟨(some 27), (some (24, false)), (.call 27 [(.t 26)]), [], [], 1792⟩,
  ⟨(some 28), (some (24, false)), (.un .not (.t 27)), [], [], 1856⟩,
  ⟨(some 29), none, (.pick (.t 24) (.c (.bool true)) (.t 28)), [], [], 1920⟩]) (.cond (.t 29) (.seq (.reg false [⟨(some 2), none, (.mov (.c (.int .i64 80))), [], [], 192⟩]) .ret) .skip)) (.seq (.reg false [⟨(some 2), none, (.mov (.c (.int .i64 0))), [], [], 192⟩]) .ret)))⟩
theorem ok20 : FnOk Try.prog 20 ir20 := ⟨Try.f20, 0, Try.func20, by kernel_rfl, by kernel_rfl⟩
/-- muniment/wire.NewWriter -/
def ir21 : IFun := ⟨0, 3, [(.tmp 0)], (.seq (.reg false [⟨(some 0), none, (.mov (.c .nilp)), [], [], 64⟩]) (.seq (.reg false [⟨(some 1), none, (.mk [(.sl .nil 0 [])] []), [], [], 128⟩,
  ⟨(some 2), none, (.box 1 (.t 1)), [], [], 192⟩,
  ⟨(some 0), none, (.mov (.t 2)), [], [], 64⟩]) .ret))⟩
theorem ok21 : FnOk Try.prog 21 ir21 := ⟨Try.f21, 0, Try.func21, by kernel_rfl, by kernel_rfl⟩
/-- muniment/head.Put -/
def ir22 : IFun := ⟨2, 24, [], (.seq (.reg false [⟨(some 3), none, (.box 5 (.t 1)), [], [], 256⟩]) (.seq (.reg false [⟨(some 4), none, (.mov (.t 0)), [], [], 320⟩,
  ⟨(some 5), none, (.fad 0 (.t 3)), [], [], 384⟩,
  ⟨(some 6), none, (.ld false 1 (.t 5)), [], [], 448⟩,
  ⟨(some 7), none, (.call 28 [(.t 4), (.t 6), (.c (.int .i64 8))]), [], [], 512⟩]) (.seq (.reg false [⟨(some 8), none, (.mov (.t 0)), [], [], 576⟩,
  ⟨(some 9), none, (.fad 1 (.t 3)), [], [], 640⟩,
  ⟨(some 10), none, (.ld false 1 (.t 9)), [], [], 704⟩,
  ⟨(some 11), none, (.call 29 [(.t 8), (.t 10)]), [], [], 768⟩]) (.seq (.reg false [⟨(some 12), none, (.mov (.t 0)), [], [], 832⟩,
  ⟨(some 13), none, (.fad 2 (.t 3)), [], [], 896⟩,
  ⟨(some 14), none, (.ld false 1 (.t 13)), [], [], 960⟩,
  ⟨(some 15), none, (.call 29 [(.t 12), (.t 14)]), [], [], 1024⟩]) (.seq (.reg false [⟨(some 16), none, (.mov (.t 0)), [], [], 1088⟩,
  ⟨(some 17), none, (.fad 3 (.t 3)), [], [], 1152⟩,
  ⟨(some 18), none, (.ld false 1 (.t 17)), [], [], 1216⟩,
  ⟨(some 19), none, (.call 29 [(.t 16), (.t 18)]), [], [], 1280⟩]) (.reg false [⟨(some 20), none, (.mov (.t 0)), [], [], 1344⟩,
  ⟨(some 21), none, (.fad 4 (.t 3)), [], [], 1408⟩,
  ⟨(some 22), none, (.ld false 1 (.t 21)), [], [], 1472⟩,
  ⟨(some 23), none, (.call 30 [(.t 20), (.t 22)]), [], [], 1536⟩]))))))⟩
theorem ok22 : FnOk Try.prog 22 ir22 := ⟨Try.f22, 0, Try.func22, by kernel_rfl, by kernel_rfl⟩
/-- (*muniment/wire.Writer).All -/
def ir23 : IFun := ⟨1, 10, [(.tmp 2)], (.seq (.reg false [⟨(some 2), none, (.mov (.c (.str []))), [], [], 192⟩]) (.seq (.seq (.reg false [⟨(some 3), none, (.mov (.t 0)), [], [], 256⟩,
  ⟨(some 4), none, (.eqn false .ptr (.t 3) (.c .nilp)), [], [], 320⟩]) (.cond (.t 4) (.seq (.reg false [⟨(some 2), none, (.mov (.c (.str []))), [], [], 192⟩]) .ret) .skip)) (.seq (.reg false [⟨(some 5), none, (.mov (.t 0)), [], [], 384⟩,
  ⟨(some 6), none, (.chk (.t 5)), [], [], 448⟩,
  ⟨(some 7), none, (.fad 0 (.t 6)), [], [], 512⟩,
  ⟨(some 8), none, (.ld false 1 (.t 7)), [], [], 576⟩,
  ⟨(some 9), none, (.toStr (.t 8)), [], [], 640⟩,
  ⟨(some 2), none, (.mov (.t 9)), [], [], 192⟩]) .ret)))⟩
theorem ok23 : FnOk Try.prog 23 ir23 := ⟨Try.f23, 0, Try.func23, by kernel_rfl, by kernel_rfl⟩
/-- muniment/wire.NewReader -/
def ir24 : IFun := ⟨1, 6, [(.tmp 2)], (.seq (.reg false [⟨(some 2), none, (.mov (.c .nilp)), [], [], 192⟩]) (.seq (.reg false [⟨(some 3), none, (.mov (.t 0)), [], [], 256⟩,
  ⟨(some 4), none, (.mk [(.str []), (.int .i64 0), (.int .i64 0)] [(0, (1, (.t 3)))]), [], [], 320⟩,
  ⟨(some 5), none, (.box 3 (.t 4)), [], [], 384⟩,
  ⟨(some 2), none, (.mov (.t 5)), [], [], 192⟩]) .ret))⟩
theorem ok24 : FnOk Try.prog 24 ir24 := ⟨Try.f24, 0, Try.func24, by kernel_rfl, by kernel_rfl⟩
/-- muniment/head.Take -/
def ir25 : IFun := ⟨1, 27, [(.cell 2 true 5)], (.seq (.reg false [⟨(some 2), none, (.new [(.int .u64 0), (.str []), (.str []), (.str []), (.sl .nil 0 [])]), [], [], 192⟩]) (.seq (.reg false [⟨(some 4), none, (.mov (.t 0)), [], [], 320⟩,
  ⟨(some 5), none, (.call 31 [(.t 4), (.c (.int .i64 8))]), [], [], 384⟩,
  ⟨(some 6), none, (.mov (.t 0)), [], [], 448⟩,
  ⟨(some 7), none, (.call 32 [(.t 6)]), [], [], 512⟩,
  ⟨(some 8), none, (.mov (.t 0)), [], [], 576⟩,
  ⟨(some 9), none, (.call 32 [(.t 8)]), [], [], 640⟩,
  ⟨(some 10), none, (.mov (.t 0)), [], [], 704⟩,
  ⟨(some 11), none, (.call 32 [(.t 10)]), [], [], 768⟩,
  ⟨(some 12), none, (.mov (.t 0)), [], [], 832⟩,
  ⟨(some 13), none, (.call 33 [(.t 12)]), [], [], 896⟩,
  ⟨(some 14), none, (.mk [(.int .u64 0), (.str []), (.str []), (.str []), (.sl .nil 0 [])] [(0, (1, (.t 5))), (1, (1, (.t 7))), (2, (1, (.t 9))), (3, (1, (.t 11))), (4, (1, (.t 13)))]), [], [], 960⟩,
  ⟨(some 3), none, (.new [(.int .u64 0), (.str []), (.str []), (.str []), (.sl .nil 0 [])]), [], [], 256⟩,
  ⟨none, none, (.st true 5 (.t 3) (.t 14)), [], [], 64⟩]) (.seq (.seq (.reg false [⟨(some 15), none, (.mov (.t 0)), [], [], 1024⟩,
  ⟨(some 16), none, (.call 34 [(.t 15)]), [], [], 1088⟩,
  ⟨(some 17), none, (.bin .eql (.t 16) (.c (.int .i64 0))), [], [], 1152⟩]) (.cond (.t 17) (.reg false [⟨(some 18), none, (.mov (.t 0)), [], [], 1216⟩,
  ⟨(some 19), none, (.ld true 5 (.t 3)), [], [], 1280⟩,
  ⟨(some 20), none, (.call 20 [(.t 19)]), [], [], 1344⟩,
  ⟨(some 21), none, (.call 35 [(.t 18), (.t 20)]), [], [], 1408⟩]) .skip)) (.seq (.seq (.reg false [⟨(some 22), none, (.mov (.t 0)), [], [], 1472⟩,
  ⟨(some 23), none, (.call 34 [(.t 22)]), [], [], 1536⟩,
  ⟨(some 24), none, (.bin .neq (.t 23) (.c (.int .i64 0))), [], [], 1600⟩]) (.cond (.t 24) (.seq (.reg false [⟨(some 25), none, (.mk [(.int .u64 0), (.str []), (.str []), (.str []), (.sl .nil 0 [])] []), [], [], 1664⟩,
  ⟨none, none, (.st true 5 (.t 2) (.t 25)), [], [], 64⟩]) .ret) .skip)) (.seq (.reg false [⟨(some 26), none, (.ld true 5 (.t 3)), [], [], 1728⟩,
  ⟨none, none, (.st true 5 (.t 2) (.t 26)), [], [], 64⟩]) .ret)))))⟩
theorem ok25 : FnOk Try.prog 25 ir25 := ⟨Try.f25, 0, Try.func25, by kernel_rfl, by kernel_rfl⟩
/-- (*muniment/wire.Reader).End -/
def ir26 : IFun := ⟨1, 10, [(.tmp 2)], (.seq (.reg false [⟨(some 2), none, (.mov (.c (.int .i64 0))), [], [], 192⟩]) (.seq (.seq (.reg false [⟨(some 3), none, (.mov (.t 0)), [], [], 256⟩,
  ⟨(some 4), none, (.call 36 [(.t 3)]), [], [], 320⟩,
  ⟨(some 5), none, (.bin .gtr (.t 4) (.c (.int .i64 0))), [], [], 384⟩]) (.cond (.t 5) (.reg false [⟨(some 6), none, (.mov (.t 0)), [], [], 448⟩,
  ⟨(some 7), none, (.call 35 [(.t 6), (.c (.int .i64 5))]), [], [], 512⟩]) .skip)) (.seq (.reg false [⟨(some 8), none, (.mov (.t 0)), [], [], 576⟩,
  ⟨(some 9), none, (.call 34 [(.t 8)]), [], [], 640⟩,
  ⟨(some 2), none, (.mov (.t 9)), [], [], 192⟩]) .ret)))⟩
theorem ok26 : FnOk Try.prog 26 ir26 := ⟨Try.f26, 0, Try.func26, by kernel_rfl, by kernel_rfl⟩
/-- muniment/head.Members -/
def lp27_0 : IC := (.seq (.reg false [⟨(some 8), none, (.bin .lss (.t 7) (.t 6)), [], [], 576⟩]) (.seq (.cond (.t 8) .skip (.exit 0)) (.seq (.block 1 (.seq (.reg false [⟨(some 9), none, (.mov (.t 7)), [], [], 640⟩,
  ⟨(some 10), none, (.iaL 1 (.t 5) (.t 7)), [], [], 704⟩,
  ⟨(some 11), none, (.ld false 1 (.t 10)), [], [], 768⟩,
  ⟨(some 3), none, (.mov (.t 9)), [], [], 256⟩,
  ⟨(some 4), none, (.mov (.t 11)), [], [], 320⟩]) (.seq (.reg false [⟨(some 12), none, (.mov (.t 4)), [], [], 832⟩,
  ⟨(some 13), none, (.bin .lss (.t 12) (.c (.int .i64 0))), [], [], 896⟩,
  ⟨(some 14), none, (.mov (.t 13)), [], [], 960⟩,
  ⟨(some 15), (some (14, false)), (.mov (.t 4)), [], [], 1024⟩,
  ⟨(some 16), (some (14, false)), (.bin .geq (.t 15) (.c (.int .i64 16))), [], [], 1088⟩,
  ⟨(some 17), none, (.pick (.t 14) (.c (.bool true)) (.t 16)), [], [], 1152⟩,
  ⟨(some 18), none, (.mov (.t 17)), [], [], 1216⟩,
  ⟨(some 19), (some (18, false)), (.mov (.t 3)), [], [], 1280⟩,
  ⟨(some 20), (some (18, false)), (.bin .gtr (.t 19) (.c (.int .i64 0))), [], [], 1344⟩,
  ⟨(some 21), (some (18, false)), (.mov (.t 20)), [], [], 1408⟩,
  ⟨(some 22), (some (21, true)), (.mov (.t 0)), [], [], 1472⟩,
  ⟨(some 23), (some (21, true)), (.mov (.t 3)), [], [], 1536⟩,
  ⟨(some 24), (some (21, true)), (.bin .sub (.t 23) (.c (.int .i64 1))), [], [], 1600⟩,
  ⟨(some 25), (some (21, true)), (.iaL 1 (.t 22) (.t 24)), [], [], 1664⟩,
  ⟨(some 26), (some (21, true)), (.ld false 1 (.t 25)), [], [], 1728⟩,
  ⟨(some 27), (some (21, true)), (.mov (.t 4)), [], [], 1792⟩,
  ⟨(some 28), (some (21, true)), (.bin .geq (.t 26) (.t 27)), [], [], 1856⟩,
  ⟨(some 29), (some (18, false)), (.pick (.t 21) (.t 28) (.c (.bool false))), [], [], 1920⟩,
  ⟨(some 30), none, (.pick (.t 18) (.c (.bool true)) (.t 29)), [], [], 1984⟩]) (.cond (.t 30) (.seq (.reg false [⟨(some 2), none, (.mov (.c (.bool false))), [], [], 192⟩]) .ret) .skip)))) (.reg false [⟨(some 31), none, (.bin .add (.t 7) (.c (.int .i64 1))), [], [], 2048⟩,
  ⟨(some 7), none, (.mov (.t 31)), [], [], 512⟩]))))
def ir27 : IFun := ⟨1, 35, [(.tmp 2)], (.seq (.reg false [⟨(some 2), none, (.mov (.c (.bool false))), [], [], 192⟩]) (.seq (.seq (.reg false [⟨(some 5), none, (.mov (.t 0)), [], [], 384⟩,
  ⟨(some 6), none, (.len false (.t 5)), [], [], 448⟩,
  ⟨(some 7), none, (.mov (.c (.int .i64 0))), [], [], 512⟩]) (.block 0 (.loop lp27_0))) (.seq (.reg false [⟨(some 32), none, (.mov (.t 0)), [], [], 2112⟩,
  ⟨(some 33), none, (.len false (.t 32)), [], [], 2176⟩,
  ⟨(some 34), none, (.bin .geq (.t 33) (.c (.int .i64 1))), [], [], 2240⟩,
  ⟨(some 2), none, (.mov (.t 34)), [], [], 192⟩]) .ret)))⟩
theorem ok27 : FnOk Try.prog 27 ir27 := ⟨Try.f27, 0, Try.func27, by kernel_rfl, by kernel_rfl⟩
/-- (*muniment/wire.Writer).Number -/
def ir28 : IFun := ⟨3, 11, [], (.reg false [⟨(some 6), none, (.mov (.t 0)), [], [], 448⟩,
  ⟨(some 7), none, (.mov (.t 1)), [], [], 512⟩,
  ⟨(some 8), none, (.mov (.t 2)), [], [], 576⟩,
  ⟨(some 9), none, (.call 38 [(.t 7), (.t 8)]), [], [], 640⟩,
  ⟨(some 10), none, (.call 37 [(.t 6), (.t 9)]), [], [], 704⟩])⟩
theorem ok28 : FnOk Try.prog 28 ir28 := ⟨Try.f28, 0, Try.func28, by kernel_rfl, by kernel_rfl⟩
/-- (*muniment/wire.Writer).Hash -/
def ir29 : IFun := ⟨2, 13, [], (.seq (.reg false [⟨(some 5), none, (.mkSlice 1 1 [(.int .u8 0)] (.c (.int .i64 32)) (.c (.int .i64 32))), [], [], 384⟩,
  ⟨(some 4), none, (.mov (.t 5)), [], [], 320⟩]) (.seq (.reg false [⟨(some 6), none, (.mov (.t 4)), [], [], 448⟩,
  ⟨(some 7), none, (.mov (.t 1)), [], [], 512⟩,
  ⟨(some 8), none, (.copy 1 (.t 6) (.t 7)), [], [], 576⟩]) (.reg false [⟨(some 9), none, (.mov (.t 0)), [], [], 640⟩,
  ⟨(some 10), none, (.mov (.t 4)), [], [], 704⟩,
  ⟨(some 11), none, (.toStr (.t 10)), [], [], 768⟩,
  ⟨(some 12), none, (.call 37 [(.t 9), (.t 11)]), [], [], 832⟩])))⟩
theorem ok29 : FnOk Try.prog 29 ir29 := ⟨Try.f29, 0, Try.func29, by kernel_rfl, by kernel_rfl⟩
/-- muniment/head.PutMembers -/
def lp30_0 : IC := (.seq (.reg false [⟨(some 14), none, (.bin .lss (.t 13) (.t 12)), [], [], 960⟩]) (.seq (.cond (.t 14) .skip (.exit 0)) (.seq (.block 1 (.seq (.reg false [⟨(some 15), none, (.iaL 1 (.t 11) (.t 13)), [], [], 1024⟩,
  ⟨(some 16), none, (.ld false 1 (.t 15)), [], [], 1088⟩,
  ⟨(some 5), none, (.mov (.t 16)), [], [], 384⟩]) (.reg false [⟨(some 17), none, (.mov (.t 0)), [], [], 1152⟩,
  ⟨(some 18), none, (.mov (.t 5)), [], [], 1216⟩,
  ⟨(some 19), none, (.toInt .u64 (.t 18)), [], [], 1280⟩,
  ⟨(some 20), none, (.call 28 [(.t 17), (.t 19), (.c (.int .i64 1))]), [], [], 1344⟩]))) (.reg false [⟨(some 21), none, (.bin .add (.t 13) (.c (.int .i64 1))), [], [], 1408⟩,
  ⟨(some 13), none, (.mov (.t 21)), [], [], 896⟩]))))
def ir30 : IFun := ⟨2, 22, [], (.seq (.reg false [⟨(some 6), none, (.mov (.t 0)), [], [], 448⟩,
  ⟨(some 7), none, (.mov (.t 1)), [], [], 512⟩,
  ⟨(some 8), none, (.len false (.t 7)), [], [], 576⟩,
  ⟨(some 9), none, (.toInt .u64 (.t 8)), [], [], 640⟩,
  ⟨(some 10), none, (.call 28 [(.t 6), (.t 9), (.c (.int .i64 1))]), [], [], 704⟩]) (.seq (.reg false [⟨(some 11), none, (.mov (.t 1)), [], [], 768⟩,
  ⟨(some 12), none, (.len false (.t 11)), [], [], 832⟩,
  ⟨(some 13), none, (.mov (.c (.int .i64 0))), [], [], 896⟩]) (.block 0 (.loop lp30_0))))⟩
theorem ok30 : FnOk Try.prog 30 ir30 := ⟨Try.f30, 0, Try.func30, by kernel_rfl, by kernel_rfl⟩
/-- (*muniment/wire.Reader).Number -/
def lp31_0 : IC := (.seq (.reg false [⟨(some 24), none, (.bin .lss (.t 23) (.t 22)), [], [], 1600⟩]) (.seq (.cond (.t 24) .skip (.exit 0)) (.seq (.block 1 (.seq (.reg false [⟨(some 25), none, (.iaL 1 (.t 21) (.t 23)), [], [], 1664⟩,
  ⟨(some 26), none, (.ld false 1 (.t 25)), [], [], 1728⟩,
  ⟨(some 7), none, (.mov (.t 26)), [], [], 512⟩]) (.reg false [⟨(some 27), none, (.mov (.t 5)), [], [], 1792⟩,
  ⟨(some 28), none, (.bin .shl (.t 27) (.c (.int .u64 8))), [], [], 1856⟩,
  ⟨(some 29), none, (.mov (.t 7)), [], [], 1920⟩,
  ⟨(some 30), none, (.toInt .u64 (.t 29)), [], [], 1984⟩,
  ⟨(some 31), none, (.bin .or (.t 28) (.t 30)), [], [], 2048⟩,
  ⟨(some 5), none, (.mov (.t 31)), [], [], 384⟩]))) (.reg false [⟨(some 32), none, (.bin .add (.t 23) (.c (.int .i64 1))), [], [], 2112⟩,
  ⟨(some 23), none, (.mov (.t 32)), [], [], 1536⟩]))))
def ir31 : IFun := ⟨2, 34, [(.tmp 4)], (.seq (.reg false [⟨(some 4), none, (.mov (.c (.int .u64 0))), [], [], 320⟩]) (.seq (.seq (.reg false [⟨(some 8), none, (.mov (.t 0)), [], [], 576⟩,
  ⟨(some 9), none, (.call 34 [(.t 8)]), [], [], 640⟩,
  ⟨(some 10), none, (.bin .eql (.t 9) (.c (.int .i64 0))), [], [], 704⟩,
  ⟨(some 11), none, (.mov (.t 10)), [], [], 768⟩,
  ⟨(some 12), (some (11, true)), (.mov (.t 1)), [], [], 832⟩,
  ⟨(some 13), (some (11, true)), (.bin .gtr (.t 12) (.c (.int .i64 8))), [], [], 896⟩,
  ⟨(some 14), none, (.pick (.t 11) (.t 13) (.c (.bool false))), [], [], 960⟩]) (.cond (.t 14) (.reg false [⟨(some 15), none, (.mov (.t 0)), [], [], 1024⟩,
  ⟨(some 16), none, (.chk (.t 15)), [], [], 1088⟩,
  ⟨(some 17), none, (.fad 2 (.t 16)), [], [], 1152⟩,
  ⟨none, none, (.st false 1 (.t 17) (.c (.int .i64 1))), [], [], 64⟩]) .skip)) (.seq (.reg false [⟨(some 5), none, (.mov (.c (.int .u64 0))), [], [], 384⟩]) (.seq (.seq (.reg false [⟨(some 18), none, (.mov (.t 0)), [], [], 1216⟩,
  ⟨(some 19), none, (.mov (.t 1)), [], [], 1280⟩,
  ⟨(some 20), none, (.call 39 [(.t 18), (.t 19)]), [], [], 1344⟩,
  ⟨(some 21), none, (.toBytes (.t 20)), [], [], 1408⟩,
  ⟨(some 22), none, (.len false (.t 21)), [], [], 1472⟩,
  ⟨(some 23), none, (.mov (.c (.int .i64 0))), [], [], 1536⟩]) (.block 0 (.loop lp31_0))) (.seq (.reg false [⟨(some 33), none, (.mov (.t 5)), [], [], 2176⟩,
  ⟨(some 4), none, (.mov (.t 33)), [], [], 320⟩]) .ret)))))⟩
theorem ok31 : FnOk Try.prog 31 ir31 := ⟨Try.f31, 0, Try.func31, by kernel_rfl, by kernel_rfl⟩
/-- (*muniment/wire.Reader).Hash -/
def ir32 : IFun := ⟨1, 5, [(.tmp 2)], (.seq (.reg false [⟨(some 2), none, (.mov (.c (.str []))), [], [], 192⟩]) (.seq (.reg false [⟨(some 3), none, (.mov (.t 0)), [], [], 256⟩,
  ⟨(some 4), none, (.call 39 [(.t 3), (.c (.int .i64 32))]), [], [], 320⟩,
  ⟨(some 2), none, (.mov (.t 4)), [], [], 192⟩]) .ret))⟩
theorem ok32 : FnOk Try.prog 32 ir32 := ⟨Try.f32, 0, Try.func32, by kernel_rfl, by kernel_rfl⟩
/-- muniment/head.TakeMembers -/
def lp33_0 : IC := (.seq (.seq (.reg false [⟨(some 7), none, (.mov (.t 4)), [], [], 512⟩,
  ⟨(some 8), none, (.bin .gtr (.t 7) (.c (.int .u64 0))), [], [], 576⟩,
  ⟨(some 9), none, (.mov (.t 8)), [], [], 640⟩,
  ⟨(some 10), (some (9, true)), (.mov (.t 0)), [], [], 704⟩,
  ⟨(some 11), (some (9, true)), (.call 34 [(.t 10)]), [], [], 768⟩,
  ⟨(some 12), (some (9, true)), (.bin .eql (.t 11) (.c (.int .i64 0))), [], [], 832⟩,
  ⟨(some 13), none, (.pick (.t 9) (.t 12) (.c (.bool false))), [], [], 896⟩]) (.cond (.t 13) .skip (.exit 0))) (.seq (.block 1 (.reg false [⟨(some 16), none, (.mov (.t 3)), [], [], 1088⟩,
  ⟨(some 17), none, (.mov (.t 0)), [], [], 1152⟩,
  ⟨(some 18), none, (.call 31 [(.t 17), (.c (.int .i64 1))]), [], [], 1216⟩,
  ⟨(some 19), none, (.toInt .i64 (.t 18)), [], [], 1280⟩,
  ⟨(some 20), none, (.mksl 1 1 [(.int .i64 0)] [(0, (1, (.t 19)))]), [], [], 1344⟩,
  ⟨(some 21), none, (.app 1 8 (.t 16) (.t 20)), [], [], 1408⟩,
  ⟨(some 3), none, (.mov (.t 21)), [], [], 256⟩])) (.reg false [⟨(some 14), none, (.mov (.t 4)), [], [], 960⟩,
  ⟨(some 15), none, (.bin .sub (.t 14) (.c (.int .u64 1))), [], [], 1024⟩,
  ⟨(some 4), none, (.mov (.t 15)), [], [], 320⟩])))
def ir33 : IFun := ⟨1, 36, [(.tmp 2)], (.seq (.reg false [⟨(some 2), none, (.mov (.c (.sl .nil 0 []))), [], [], 192⟩]) (.seq (.reg false [⟨(some 3), none, (.mov (.c (.sl .nil 0 []))), [], [], 256⟩]) (.seq (.seq (.reg false [⟨(some 5), none, (.mov (.t 0)), [], [], 384⟩,
  ⟨(some 6), none, (.call 31 [(.t 5), (.c (.int .i64 1))]), [], [], 448⟩,
  ⟨(some 4), none, (.mov (.t 6)), [], [], 320⟩]) (.block 0 (.loop lp33_0))) (.seq (.seq (.reg false [⟨(some 22), none, (.mov (.t 0)), [], [], 1472⟩,
  ⟨(some 23), none, (.call 34 [(.t 22)]), [], [], 1536⟩,
  ⟨(some 24), none, (.bin .eql (.t 23) (.c (.int .i64 0))), [], [], 1600⟩,
  ⟨(some 25), none, (.mov (.t 24)), [], [], 1664⟩,
  ⟨(some 26), (some (25, true)), (.mov (.t 3)), [], [], 1728⟩,
  ⟨(some 27), (some (25, true)), (.call 27 [(.t 26)]), [], [], 1792⟩,
  ⟨(some 28), (some (25, true)), (.un .not (.t 27)), [], [], 1856⟩,
  ⟨(some 29), none, (.pick (.t 25) (.t 28) (.c (.bool false))), [], [], 1920⟩]) (.cond (.t 29) (.reg false [⟨(some 30), none, (.mov (.t 0)), [], [], 1984⟩,
  ⟨(some 31), none, (.call 35 [(.t 30), (.c (.int .i64 6))]), [], [], 2048⟩]) .skip)) (.seq (.seq (.reg false [⟨(some 32), none, (.mov (.t 0)), [], [], 2112⟩,
  ⟨(some 33), none, (.call 34 [(.t 32)]), [], [], 2176⟩,
  ⟨(some 34), none, (.bin .neq (.t 33) (.c (.int .i64 0))), [], [], 2240⟩]) (.cond (.t 34) (.seq (.reg false [⟨(some 2), none, (.mov (.c (.sl .nil 0 []))), [], [], 192⟩]) .ret) .skip)) (.seq (.reg false [⟨(some 35), none, (.mov (.t 3)), [], [], 2304⟩,
  ⟨(some 2), none, (.mov (.t 35)), [], [], 192⟩]) .ret))))))⟩
theorem ok33 : FnOk Try.prog 33 ir33 := ⟨Try.f33, 0, Try.func33, by kernel_rfl, by kernel_rfl⟩
/-- (*muniment/wire.Reader).Err -/
def ir34 : IFun := ⟨1, 9, [(.tmp 2)], (.seq (.reg false [⟨(some 2), none, (.mov (.c (.int .i64 0))), [], [], 192⟩]) (.seq (.seq (.reg false [⟨(some 3), none, (.mov (.t 0)), [], [], 256⟩,
  ⟨(some 4), none, (.eqn false .ptr (.t 3) (.c .nilp)), [], [], 320⟩]) (.cond (.t 4) (.seq (.reg false [⟨(some 2), none, (.mov (.c (.int .i64 1))), [], [], 192⟩]) .ret) .skip)) (.seq (.reg false [⟨(some 5), none, (.mov (.t 0)), [], [], 384⟩,
  ⟨(some 6), none, (.chk (.t 5)), [], [], 448⟩,
  ⟨(some 7), none, (.fad 2 (.t 6)), [], [], 512⟩,
  ⟨(some 8), none, (.ld false 1 (.t 7)), [], [], 576⟩,
  ⟨(some 2), none, (.mov (.t 8)), [], [], 192⟩]) .ret)))⟩
theorem ok34 : FnOk Try.prog 34 ir34 := ⟨Try.f34, 0, Try.func34, by kernel_rfl, by kernel_rfl⟩
/-- (*muniment/wire.Reader).Fail -/
def ir35 : IFun := ⟨2, 17, [], (.seq (.reg false [⟨(some 4), none, (.mov (.t 0)), [], [], 320⟩,
  ⟨(some 5), none, (.eqn true .ptr (.t 4) (.c .nilp)), [], [], 384⟩,
  ⟨(some 6), none, (.mov (.t 5)), [], [], 448⟩,
  ⟨(some 7), (some (6, true)), (.mov (.t 0)), [], [], 512⟩,
  ⟨(some 8), (some (6, true)), (.chk (.t 7)), [], [], 576⟩,
  ⟨(some 9), (some (6, true)), (.fad 2 (.t 8)), [], [], 640⟩,
  ⟨(some 10), (some (6, true)), (.ld false 1 (.t 9)), [], [], 704⟩,
  ⟨(some 11), (some (6, true)), (.bin .eql (.t 10) (.c (.int .i64 0))), [], [], 768⟩,
  ⟨(some 12), none, (.pick (.t 6) (.t 11) (.c (.bool false))), [], [], 832⟩]) (.cond (.t 12) (.reg false [⟨(some 13), none, (.mov (.t 0)), [], [], 896⟩,
  ⟨(some 14), none, (.mov (.t 1)), [], [], 960⟩,
  ⟨(some 15), none, (.chk (.t 13)), [], [], 1024⟩,
  ⟨(some 16), none, (.fad 2 (.t 15)), [], [], 1088⟩,
  ⟨none, none, (.st false 1 (.t 16) (.t 14)), [], [], 64⟩]) .skip))⟩
theorem ok35 : FnOk Try.prog 35 ir35 := ⟨Try.f35, 0, Try.func35, by kernel_rfl, by kernel_rfl⟩
/-- (*muniment/wire.Reader).Left -/
def ir36 : IFun := ⟨1, 15, [(.tmp 2)], (.seq (.reg false [⟨(some 2), none, (.mov (.c (.int .i64 0))), [], [], 192⟩]) (.seq (.seq (.reg false [⟨(some 3), none, (.mov (.t 0)), [], [], 256⟩,
  ⟨(some 4), none, (.eqn false .ptr (.t 3) (.c .nilp)), [], [], 320⟩]) (.cond (.t 4) (.seq (.reg false [⟨(some 2), none, (.mov (.c (.int .i64 0))), [], [], 192⟩]) .ret) .skip)) (.seq (.reg true [⟨(some 5), none, (.mov (.t 0)), [], [], 384⟩,
  ⟨(some 6), none, (.chk (.t 5)), [0], [0], 448⟩,
  ⟨(some 7), none, (.fad 0 (.t 6)), [1], [1, 0], 512⟩,
  ⟨(some 8), none, (.ld false 1 (.t 7)), [2], [2, 1, 0], 576⟩,
  ⟨(some 9), none, (.len true (.t 8)), [3], [3, 2, 1, 0], 640⟩,
  ⟨(some 10), none, (.mov (.t 0)), [], [], 704⟩,
  ⟨(some 11), none, (.chk (.t 10)), [5], [5], 768⟩,
  ⟨(some 12), none, (.fad 1 (.t 11)), [6], [6, 5], 832⟩,
  ⟨(some 13), none, (.ld false 1 (.t 12)), [7], [7, 6, 5], 896⟩,
  ⟨(some 14), none, (.bin .sub (.t 9) (.t 13)), [4, 8], [4, 8, 3, 2, 1, 0, 7, 6, 5], 960⟩,
  ⟨(some 2), none, (.mov (.t 14)), [9, 0, 1, 2, 3, 4, 5, 6, 7, 8, 9], [9, 0, 1, 2, 3, 4, 5, 6, 7, 8], 192⟩]) .ret)))⟩
theorem ok36 : FnOk Try.prog 36 ir36 := ⟨Try.f36, 0, Try.func36, by kernel_rfl, by kernel_rfl⟩
/-- (*muniment/wire.Writer).Bytes -/
def ir37 : IFun := ⟨2, 15, [], (.seq (.reg false [⟨(some 4), none, (.mov (.t 0)), [], [], 320⟩,
  ⟨(some 5), none, (.eqn true .ptr (.t 4) (.c .nilp)), [], [], 384⟩]) (.cond (.t 5) (.reg false [⟨(some 6), none, (.mov (.t 0)), [], [], 448⟩,
  ⟨(some 7), none, (.mov (.t 0)), [], [], 512⟩,
  ⟨(some 8), none, (.chk (.t 7)), [], [], 576⟩,
  ⟨(some 9), none, (.fad 0 (.t 8)), [], [], 640⟩,
  ⟨(some 10), none, (.ld false 1 (.t 9)), [], [], 704⟩,
  ⟨(some 11), none, (.mov (.t 1)), [], [], 768⟩,
  ⟨(some 12), none, (.app 1 1 (.t 10) (.t 11)), [], [], 832⟩,
  ⟨(some 13), none, (.chk (.t 6)), [], [], 896⟩,
  ⟨(some 14), none, (.fad 0 (.t 13)), [], [], 960⟩,
  ⟨none, none, (.st false 1 (.t 14) (.t 12)), [], [], 64⟩]) .skip))⟩
theorem ok37 : FnOk Try.prog 37 ir37 := ⟨Try.f37, 0, Try.func37, by kernel_rfl, by kernel_rfl⟩
/-- muniment/wire.Number -/
def lp38_0 : IC := (.seq (.reg false [⟨(some 11), none, (.bin .lss (.t 10) (.t 9)), [], [], 768⟩]) (.seq (.cond (.t 11) .skip (.exit 0)) (.seq (.block 1 (.seq (.reg false [⟨(some 12), none, (.mov (.t 10)), [], [], 832⟩,
  ⟨(some 6), none, (.mov (.t 12)), [], [], 448⟩]) (.reg false [⟨(some 13), none, (.mov (.t 5)), [], [], 896⟩,
  ⟨(some 14), none, (.mov (.t 0)), [], [], 960⟩,
  ⟨(some 15), none, (.mov (.t 1)), [], [], 1024⟩,
  ⟨(some 16), none, (.mm false (.t 15) (.c (.int .i64 8))), [], [], 1088⟩,
  ⟨(some 17), none, (.bin .sub (.t 16) (.c (.int .i64 1))), [], [], 1152⟩,
  ⟨(some 18), none, (.mov (.t 6)), [], [], 1216⟩,
  ⟨(some 19), none, (.bin .sub (.t 17) (.t 18)), [], [], 1280⟩,
  ⟨(some 20), none, (.bin .mul (.c (.int .i64 8)) (.t 19)), [], [], 1344⟩,
  ⟨(some 21), none, (.bin .shr (.t 14) (.t 20)), [], [], 1408⟩,
  ⟨(some 22), none, (.toInt .u8 (.t 21)), [], [], 1472⟩,
  ⟨(some 23), none, (.mksl 1 1 [(.int .u8 0)] [(0, (1, (.t 22)))]), [], [], 1536⟩,
  ⟨(some 24), none, (.app 1 1 (.t 13) (.t 23)), [], [], 1600⟩,
  ⟨(some 5), none, (.mov (.t 24)), [], [], 384⟩]))) (.reg false [⟨(some 25), none, (.bin .add (.t 10) (.c (.int .i64 1))), [], [], 1664⟩,
  ⟨(some 10), none, (.mov (.t 25)), [], [], 704⟩]))))
def ir38 : IFun := ⟨2, 28, [(.tmp 4)], (.seq (.reg false [⟨(some 4), none, (.mov (.c (.str []))), [], [], 320⟩]) (.seq (.reg false [⟨(some 5), none, (.mov (.c (.sl .nil 0 []))), [], [], 384⟩]) (.seq (.seq (.reg false [⟨(some 7), none, (.mov (.t 1)), [], [], 512⟩,
  ⟨(some 8), none, (.mm true (.t 7) (.c (.int .i64 0))), [], [], 576⟩,
  ⟨(some 9), none, (.mm false (.t 8) (.c (.int .i64 8))), [], [], 640⟩,
  ⟨(some 10), none, (.mov (.c (.int .i64 0))), [], [], 704⟩]) (.block 0 (.loop lp38_0))) (.seq (.reg false [⟨(some 26), none, (.mov (.t 5)), [], [], 1728⟩,
  ⟨(some 27), none, (.toStr (.t 26)), [], [], 1792⟩,
  ⟨(some 4), none, (.mov (.t 27)), [], [], 320⟩]) .ret))))⟩
theorem ok38 : FnOk Try.prog 38 ir38 := ⟨Try.f38, 0, Try.func38, by kernel_rfl, by kernel_rfl⟩
/-- (*muniment/wire.Reader).Bytes -/
def ir39 : IFun := ⟨2, 54, [(.tmp 4)], (.seq (.reg false [⟨(some 4), none, (.mov (.c (.str []))), [], [], 320⟩]) (.seq (.block 0 (.seq (.reg false [⟨(some 6), none, (.mov (.t 0)), [], [], 448⟩,
  ⟨(some 7), none, (.call 34 [(.t 6)]), [], [], 512⟩,
  ⟨(some 8), none, (.bin .neq (.t 7) (.c (.int .i64 0))), [], [], 576⟩,
  ⟨(some 5), none, (.mov (.t 8)), [], [], 384⟩]) (.cond (.t 5) (.seq (.reg false [⟨(some 4), none, (.mov (.c (.str []))), [], [], 320⟩]) .ret) (.seq (.reg false [⟨(some 10), none, (.mov (.t 1)), [], [], 704⟩,
  ⟨(some 11), none, (.bin .lss (.t 10) (.c (.int .i64 0))), [], [], 768⟩,
  ⟨(some 9), none, (.mov (.t 11)), [], [], 640⟩]) (.cond (.t 9) (.seq (.reg false [⟨(some 12), none, (.mov (.t 0)), [], [], 832⟩,
  ⟨(some 13), none, (.chk (.t 12)), [], [], 896⟩,
  ⟨(some 14), none, (.fad 2 (.t 13)), [], [], 960⟩,
  ⟨none, none, (.st false 1 (.t 14) (.c (.int .i64 1))), [], [], 64⟩]) (.seq (.reg false [⟨(some 4), none, (.mov (.c (.str []))), [], [], 320⟩]) .ret)) (.seq (.reg true [⟨(some 16), none, (.mov (.t 1)), [], [], 1088⟩,
  ⟨(some 17), none, (.mov (.t 0)), [], [], 1152⟩,
  ⟨(some 18), none, (.chk (.t 17)), [1], [1], 1216⟩,
  ⟨(some 19), none, (.fad 0 (.t 18)), [2], [2, 1], 1280⟩,
  ⟨(some 20), none, (.ld false 1 (.t 19)), [3], [3, 2, 1], 1344⟩,
  ⟨(some 21), none, (.len true (.t 20)), [4], [4, 3, 2, 1], 1408⟩,
  ⟨(some 22), none, (.mov (.t 0)), [], [], 1472⟩,
  ⟨(some 23), none, (.chk (.t 22)), [6], [6], 1536⟩,
  ⟨(some 24), none, (.fad 1 (.t 23)), [7], [7, 6], 1600⟩,
  ⟨(some 25), none, (.ld false 1 (.t 24)), [8], [8, 7, 6], 1664⟩,
  ⟨(some 26), none, (.bin .sub (.t 21) (.t 25)), [5, 9], [5, 9, 4, 3, 2, 1, 8, 7, 6], 1728⟩,
  ⟨(some 27), none, (.bin .gtr (.t 16) (.t 26)), [0, 10], [0, 10, 5, 9, 4, 3, 2, 1, 8, 7, 6], 1792⟩,
  ⟨(some 15), none, (.mov (.t 27)), [11], [11, 0, 10, 5, 9, 4, 3, 2, 1, 8, 7, 6], 1024⟩]) (.cond (.t 15) (.seq (.reg false [⟨(some 28), none, (.mov (.t 0)), [], [], 1856⟩,
  ⟨(some 29), none, (.chk (.t 28)), [], [], 1920⟩,
  ⟨(some 30), none, (.fad 2 (.t 29)), [], [], 1984⟩,
  ⟨none, none, (.st false 1 (.t 30) (.c (.int .i64 4))), [], [], 64⟩]) (.seq (.reg false [⟨(some 4), none, (.mov (.c (.str []))), [], [], 320⟩]) .ret)) .skip))))))) (.seq (.reg false [⟨(some 31), none, (.mov (.t 0)), [], [], 2048⟩,
  ⟨(some 32), none, (.chk (.t 31)), [], [], 2112⟩,
  ⟨(some 33), none, (.fad 1 (.t 32)), [], [], 2176⟩,
  ⟨(some 34), none, (.ld false 1 (.t 33)), [], [], 2240⟩,
  ⟨(some 35), none, (.mov (.t 1)), [], [], 2304⟩,
  ⟨(some 36), none, (.bin .add (.t 34) (.t 35)), [], [], 2368⟩,
  ⟨(some 37), none, (.chk (.t 31)), [], [], 2432⟩,
  ⟨(some 38), none, (.fad 1 (.t 37)), [], [], 2496⟩,
  ⟨none, none, (.st false 1 (.t 38) (.t 36)), [], [], 64⟩]) (.seq (.reg true [⟨(some 39), none, (.mov (.t 0)), [], [], 2560⟩,
  ⟨(some 40), none, (.chk (.t 39)), [0], [0], 2624⟩,
  ⟨(some 41), none, (.fad 0 (.t 40)), [1], [1, 0], 2688⟩,
  ⟨(some 42), none, (.ld false 1 (.t 41)), [2], [2, 1, 0], 2752⟩,
  ⟨(some 43), none, (.mov (.t 0)), [], [], 2816⟩,
  ⟨(some 44), none, (.chk (.t 43)), [4], [4], 2880⟩,
  ⟨(some 45), none, (.fad 1 (.t 44)), [5], [5, 4], 2944⟩,
  ⟨(some 46), none, (.ld false 1 (.t 45)), [6], [6, 5, 4], 3008⟩,
  ⟨(some 47), none, (.mov (.t 1)), [], [], 3072⟩,
  ⟨(some 48), none, (.bin .sub (.t 46) (.t 47)), [7, 8], [7, 8, 6, 5, 4], 3136⟩,
  ⟨(some 49), none, (.mov (.t 0)), [], [], 3200⟩,
  ⟨(some 50), none, (.chk (.t 49)), [10], [10], 3264⟩,
  ⟨(some 51), none, (.fad 1 (.t 50)), [11], [11, 10], 3328⟩,
  ⟨(some 52), none, (.ld false 1 (.t 51)), [12], [12, 11, 10], 3392⟩,
  ⟨(some 53), none, (.slS (.t 42) (some (.t 48)) (some (.t 52))), [3, 9, 13], [3, 9, 13, 2, 1, 0, 7, 8, 6, 5, 4, 12, 11, 10], 3456⟩,
  ⟨(some 4), none, (.mov (.t 53)), [14, 0, 1, 2, 3, 4, 5, 6, 7, 8, 9, 10, 11, 12, 13, 14], [14, 0, 1, 2, 3, 4, 5, 6, 7, 8, 9, 10, 11, 12, 13], 320⟩]) .ret))))⟩
theorem ok39 : FnOk Try.prog 39 ir39 := ⟨Try.f39, 0, Try.func39, by kernel_rfl, by kernel_rfl⟩
def fnsL : List (Nat × Option (List Mode) × IFun) := [(2, some [], ir2),
  (3, some [.bor, .bor, .bor], ir3),
  (4, some [.bor], ir4),
  (5, some [.bor], ir5),
  (6, some [], ir6),
  (7, some [.bor], ir7),
  (8, some [.bor], ir8),
  (9, some [.bor, .bor], ir9),
  (10, some [.bor], ir10),
  (11, some [.bor], ir11),
  (12, some [.bor], ir12),
  (13, some [], ir13),
  (14, some [.bor], ir14),
  (15, some [.bor], ir15),
  (16, some [.bor, .bor], ir16),
  (17, some [.bor], ir17),
  (18, some [.bor], ir18),
  (19, some [.bor, .bor], ir19),
  (20, some [.bor], ir20),
  (21, some [], ir21),
  (22, some [.io, .bor], ir22),
  (23, some [.bor], ir23),
  (24, some [.bor], ir24),
  (25, some [.io], ir25),
  (26, some [.io], ir26),
  (27, some [.bor], ir27),
  (28, some [.io, .bor, .bor], ir28),
  (29, some [.io, .bor], ir29),
  (30, some [.io, .bor], ir30),
  (31, some [.io, .bor], ir31),
  (32, some [.io], ir32),
  (33, some [.io], ir33),
  (34, some [.bor], ir34),
  (35, some [.io, .bor], ir35),
  (36, some [.bor], ir36),
  (37, some [.io, .bor], ir37),
  (38, some [.bor, .bor], ir38),
  (39, some [.io, .bor], ir39)]
def fns : Fns := fun f => (fnsL.find? fun q => q.1 == f).map (·.2)
theorem fnsL_ok : ∀ q ∈ fnsL, FnOk Try.prog q.1 q.2.2 := by
  unfold fnsL
  repeat rw [List.forall_mem_cons]
  exact ⟨ok2, ok3, ok4, ok5, ok6, ok7, ok8, ok9, ok10, ok11, ok12, ok13, ok14, ok15, ok16, ok17, ok18, ok19, ok20, ok21, ok22, ok23, ok24, ok25, ok26, ok27, ok28, ok29, ok30, ok31, ok32, ok33, ok34, ok35, ok36, ok37, ok38, ok39, by simp⟩
theorem fns_ok (f : Nat) (p : Option (List Mode) × IFun) (h : fns f = some p) : FnOk Try.prog f p.2 := by
  obtain ⟨q, h1, rfl⟩ := Option.map_eq_some_iff.1 h
  have h2 := List.find?_some h1
  rw [← beq_iff_eq.1 h2]
  exact fnsL_ok q (List.mem_of_find?_eq_some h1)
theorem mixed : Try.prog.follows .mixedOrders = true := by kernel_rfl
theorem laid : laidOutB Try.prog = true := by kernel_rfl
theorem T_ok : TblOk Try.prog (tabW fns) := tabW_ok mixed fns_ok
variable {σ : Store} {base : Nat}
theorem at2 : fns 2 = some (some [], ir2) := rfl
@[go_sem] theorem call2 (vs : List V) : callV (tabW fns) σ base 2 vs = callP σ base [] vs (Gf fns 2) (passV σ [] vs) := callV_T at2 vs
@[go_sem] theorem callr2 (vs : List V) : callR (tabW fns) σ base 2 vs = outS σ (callP σ base [] vs (Gf fns 2) (passV σ [] vs)) := callR_T at2 vs
theorem at3 : fns 3 = some (some [.bor, .bor, .bor], ir3) := rfl
@[go_sem] theorem call3 (vs : List V) : callV (tabW fns) σ base 3 vs = callP σ base [.bor, .bor, .bor] vs (Gf fns 3) (passV σ [.bor, .bor, .bor] vs) := callV_T at3 vs
@[go_sem] theorem callr3 (vs : List V) : callR (tabW fns) σ base 3 vs = outS σ (callP σ base [.bor, .bor, .bor] vs (Gf fns 3) (passV σ [.bor, .bor, .bor] vs)) := callR_T at3 vs
theorem at4 : fns 4 = some (some [.bor], ir4) := rfl
@[go_sem] theorem call4 (vs : List V) : callV (tabW fns) σ base 4 vs = callP σ base [.bor] vs (Gf fns 4) (passV σ [.bor] vs) := callV_T at4 vs
@[go_sem] theorem callr4 (vs : List V) : callR (tabW fns) σ base 4 vs = outS σ (callP σ base [.bor] vs (Gf fns 4) (passV σ [.bor] vs)) := callR_T at4 vs
theorem at5 : fns 5 = some (some [.bor], ir5) := rfl
@[go_sem] theorem call5 (vs : List V) : callV (tabW fns) σ base 5 vs = callP σ base [.bor] vs (Gf fns 5) (passV σ [.bor] vs) := callV_T at5 vs
@[go_sem] theorem callr5 (vs : List V) : callR (tabW fns) σ base 5 vs = outS σ (callP σ base [.bor] vs (Gf fns 5) (passV σ [.bor] vs)) := callR_T at5 vs
theorem at6 : fns 6 = some (some [], ir6) := rfl
@[go_sem] theorem call6 (vs : List V) : callV (tabW fns) σ base 6 vs = callP σ base [] vs (Gf fns 6) (passV σ [] vs) := callV_T at6 vs
@[go_sem] theorem callr6 (vs : List V) : callR (tabW fns) σ base 6 vs = outS σ (callP σ base [] vs (Gf fns 6) (passV σ [] vs)) := callR_T at6 vs
theorem at7 : fns 7 = some (some [.bor], ir7) := rfl
@[go_sem] theorem call7 (vs : List V) : callV (tabW fns) σ base 7 vs = callP σ base [.bor] vs (Gf fns 7) (passV σ [.bor] vs) := callV_T at7 vs
@[go_sem] theorem callr7 (vs : List V) : callR (tabW fns) σ base 7 vs = outS σ (callP σ base [.bor] vs (Gf fns 7) (passV σ [.bor] vs)) := callR_T at7 vs
theorem at8 : fns 8 = some (some [.bor], ir8) := rfl
@[go_sem] theorem call8 (vs : List V) : callV (tabW fns) σ base 8 vs = callP σ base [.bor] vs (Gf fns 8) (passV σ [.bor] vs) := callV_T at8 vs
@[go_sem] theorem callr8 (vs : List V) : callR (tabW fns) σ base 8 vs = outS σ (callP σ base [.bor] vs (Gf fns 8) (passV σ [.bor] vs)) := callR_T at8 vs
theorem at9 : fns 9 = some (some [.bor, .bor], ir9) := rfl
@[go_sem] theorem call9 (vs : List V) : callV (tabW fns) σ base 9 vs = callP σ base [.bor, .bor] vs (Gf fns 9) (passV σ [.bor, .bor] vs) := callV_T at9 vs
@[go_sem] theorem callr9 (vs : List V) : callR (tabW fns) σ base 9 vs = outS σ (callP σ base [.bor, .bor] vs (Gf fns 9) (passV σ [.bor, .bor] vs)) := callR_T at9 vs
theorem at10 : fns 10 = some (some [.bor], ir10) := rfl
@[go_sem] theorem call10 (vs : List V) : callV (tabW fns) σ base 10 vs = callP σ base [.bor] vs (Gf fns 10) (passV σ [.bor] vs) := callV_T at10 vs
@[go_sem] theorem callr10 (vs : List V) : callR (tabW fns) σ base 10 vs = outS σ (callP σ base [.bor] vs (Gf fns 10) (passV σ [.bor] vs)) := callR_T at10 vs
theorem at11 : fns 11 = some (some [.bor], ir11) := rfl
@[go_sem] theorem call11 (vs : List V) : callV (tabW fns) σ base 11 vs = callP σ base [.bor] vs (Gf fns 11) (passV σ [.bor] vs) := callV_T at11 vs
@[go_sem] theorem callr11 (vs : List V) : callR (tabW fns) σ base 11 vs = outS σ (callP σ base [.bor] vs (Gf fns 11) (passV σ [.bor] vs)) := callR_T at11 vs
theorem at12 : fns 12 = some (some [.bor], ir12) := rfl
@[go_sem] theorem call12 (vs : List V) : callV (tabW fns) σ base 12 vs = callP σ base [.bor] vs (Gf fns 12) (passV σ [.bor] vs) := callV_T at12 vs
@[go_sem] theorem callr12 (vs : List V) : callR (tabW fns) σ base 12 vs = outS σ (callP σ base [.bor] vs (Gf fns 12) (passV σ [.bor] vs)) := callR_T at12 vs
theorem at13 : fns 13 = some (some [], ir13) := rfl
@[go_sem] theorem call13 (vs : List V) : callV (tabW fns) σ base 13 vs = callP σ base [] vs (Gf fns 13) (passV σ [] vs) := callV_T at13 vs
@[go_sem] theorem callr13 (vs : List V) : callR (tabW fns) σ base 13 vs = outS σ (callP σ base [] vs (Gf fns 13) (passV σ [] vs)) := callR_T at13 vs
theorem at14 : fns 14 = some (some [.bor], ir14) := rfl
@[go_sem] theorem call14 (vs : List V) : callV (tabW fns) σ base 14 vs = callP σ base [.bor] vs (Gf fns 14) (passV σ [.bor] vs) := callV_T at14 vs
@[go_sem] theorem callr14 (vs : List V) : callR (tabW fns) σ base 14 vs = outS σ (callP σ base [.bor] vs (Gf fns 14) (passV σ [.bor] vs)) := callR_T at14 vs
theorem at15 : fns 15 = some (some [.bor], ir15) := rfl
@[go_sem] theorem call15 (vs : List V) : callV (tabW fns) σ base 15 vs = callP σ base [.bor] vs (Gf fns 15) (passV σ [.bor] vs) := callV_T at15 vs
@[go_sem] theorem callr15 (vs : List V) : callR (tabW fns) σ base 15 vs = outS σ (callP σ base [.bor] vs (Gf fns 15) (passV σ [.bor] vs)) := callR_T at15 vs
theorem at16 : fns 16 = some (some [.bor, .bor], ir16) := rfl
@[go_sem] theorem call16 (vs : List V) : callV (tabW fns) σ base 16 vs = callP σ base [.bor, .bor] vs (Gf fns 16) (passV σ [.bor, .bor] vs) := callV_T at16 vs
@[go_sem] theorem callr16 (vs : List V) : callR (tabW fns) σ base 16 vs = outS σ (callP σ base [.bor, .bor] vs (Gf fns 16) (passV σ [.bor, .bor] vs)) := callR_T at16 vs
theorem at17 : fns 17 = some (some [.bor], ir17) := rfl
@[go_sem] theorem call17 (vs : List V) : callV (tabW fns) σ base 17 vs = callP σ base [.bor] vs (Gf fns 17) (passV σ [.bor] vs) := callV_T at17 vs
@[go_sem] theorem callr17 (vs : List V) : callR (tabW fns) σ base 17 vs = outS σ (callP σ base [.bor] vs (Gf fns 17) (passV σ [.bor] vs)) := callR_T at17 vs
theorem at18 : fns 18 = some (some [.bor], ir18) := rfl
@[go_sem] theorem call18 (vs : List V) : callV (tabW fns) σ base 18 vs = callP σ base [.bor] vs (Gf fns 18) (passV σ [.bor] vs) := callV_T at18 vs
@[go_sem] theorem callr18 (vs : List V) : callR (tabW fns) σ base 18 vs = outS σ (callP σ base [.bor] vs (Gf fns 18) (passV σ [.bor] vs)) := callR_T at18 vs
theorem at19 : fns 19 = some (some [.bor, .bor], ir19) := rfl
@[go_sem] theorem call19 (vs : List V) : callV (tabW fns) σ base 19 vs = callP σ base [.bor, .bor] vs (Gf fns 19) (passV σ [.bor, .bor] vs) := callV_T at19 vs
@[go_sem] theorem callr19 (vs : List V) : callR (tabW fns) σ base 19 vs = outS σ (callP σ base [.bor, .bor] vs (Gf fns 19) (passV σ [.bor, .bor] vs)) := callR_T at19 vs
theorem at20 : fns 20 = some (some [.bor], ir20) := rfl
@[go_sem] theorem call20 (vs : List V) : callV (tabW fns) σ base 20 vs = callP σ base [.bor] vs (Gf fns 20) (passV σ [.bor] vs) := callV_T at20 vs
@[go_sem] theorem callr20 (vs : List V) : callR (tabW fns) σ base 20 vs = outS σ (callP σ base [.bor] vs (Gf fns 20) (passV σ [.bor] vs)) := callR_T at20 vs
theorem at21 : fns 21 = some (some [], ir21) := rfl
@[go_sem] theorem call21 (vs : List V) : callV (tabW fns) σ base 21 vs = callP σ base [] vs (Gf fns 21) (passV σ [] vs) := callV_T at21 vs
@[go_sem] theorem callr21 (vs : List V) : callR (tabW fns) σ base 21 vs = outS σ (callP σ base [] vs (Gf fns 21) (passV σ [] vs)) := callR_T at21 vs
theorem at22 : fns 22 = some (some [.io, .bor], ir22) := rfl
theorem call22 (vs : List V) : callV (tabW fns) σ base 22 vs = callP σ base [.io, .bor] vs (Gf fns 22) (passV σ [.io, .bor] vs) := callV_T at22 vs
theorem callr22 (vs : List V) : callR (tabW fns) σ base 22 vs = outS σ (callP σ base [.io, .bor] vs (Gf fns 22) (passV σ [.io, .bor] vs)) := callR_T at22 vs
theorem at23 : fns 23 = some (some [.bor], ir23) := rfl
@[go_sem] theorem call23 (vs : List V) : callV (tabW fns) σ base 23 vs = callP σ base [.bor] vs (Gf fns 23) (passV σ [.bor] vs) := callV_T at23 vs
@[go_sem] theorem callr23 (vs : List V) : callR (tabW fns) σ base 23 vs = outS σ (callP σ base [.bor] vs (Gf fns 23) (passV σ [.bor] vs)) := callR_T at23 vs
theorem at24 : fns 24 = some (some [.bor], ir24) := rfl
@[go_sem] theorem call24 (vs : List V) : callV (tabW fns) σ base 24 vs = callP σ base [.bor] vs (Gf fns 24) (passV σ [.bor] vs) := callV_T at24 vs
@[go_sem] theorem callr24 (vs : List V) : callR (tabW fns) σ base 24 vs = outS σ (callP σ base [.bor] vs (Gf fns 24) (passV σ [.bor] vs)) := callR_T at24 vs
theorem at25 : fns 25 = some (some [.io], ir25) := rfl
theorem call25 (vs : List V) : callV (tabW fns) σ base 25 vs = callP σ base [.io] vs (Gf fns 25) (passV σ [.io] vs) := callV_T at25 vs
theorem callr25 (vs : List V) : callR (tabW fns) σ base 25 vs = outS σ (callP σ base [.io] vs (Gf fns 25) (passV σ [.io] vs)) := callR_T at25 vs
theorem at26 : fns 26 = some (some [.io], ir26) := rfl
theorem call26 (vs : List V) : callV (tabW fns) σ base 26 vs = callP σ base [.io] vs (Gf fns 26) (passV σ [.io] vs) := callV_T at26 vs
theorem callr26 (vs : List V) : callR (tabW fns) σ base 26 vs = outS σ (callP σ base [.io] vs (Gf fns 26) (passV σ [.io] vs)) := callR_T at26 vs
theorem at27 : fns 27 = some (some [.bor], ir27) := rfl
@[go_sem] theorem call27 (vs : List V) : callV (tabW fns) σ base 27 vs = callP σ base [.bor] vs (Gf fns 27) (passV σ [.bor] vs) := callV_T at27 vs
@[go_sem] theorem callr27 (vs : List V) : callR (tabW fns) σ base 27 vs = outS σ (callP σ base [.bor] vs (Gf fns 27) (passV σ [.bor] vs)) := callR_T at27 vs
theorem at28 : fns 28 = some (some [.io, .bor, .bor], ir28) := rfl
theorem call28 (vs : List V) : callV (tabW fns) σ base 28 vs = callP σ base [.io, .bor, .bor] vs (Gf fns 28) (passV σ [.io, .bor, .bor] vs) := callV_T at28 vs
theorem callr28 (vs : List V) : callR (tabW fns) σ base 28 vs = outS σ (callP σ base [.io, .bor, .bor] vs (Gf fns 28) (passV σ [.io, .bor, .bor] vs)) := callR_T at28 vs
theorem at29 : fns 29 = some (some [.io, .bor], ir29) := rfl
theorem call29 (vs : List V) : callV (tabW fns) σ base 29 vs = callP σ base [.io, .bor] vs (Gf fns 29) (passV σ [.io, .bor] vs) := callV_T at29 vs
theorem callr29 (vs : List V) : callR (tabW fns) σ base 29 vs = outS σ (callP σ base [.io, .bor] vs (Gf fns 29) (passV σ [.io, .bor] vs)) := callR_T at29 vs
theorem at30 : fns 30 = some (some [.io, .bor], ir30) := rfl
theorem call30 (vs : List V) : callV (tabW fns) σ base 30 vs = callP σ base [.io, .bor] vs (Gf fns 30) (passV σ [.io, .bor] vs) := callV_T at30 vs
theorem callr30 (vs : List V) : callR (tabW fns) σ base 30 vs = outS σ (callP σ base [.io, .bor] vs (Gf fns 30) (passV σ [.io, .bor] vs)) := callR_T at30 vs
theorem at31 : fns 31 = some (some [.io, .bor], ir31) := rfl
theorem call31 (vs : List V) : callV (tabW fns) σ base 31 vs = callP σ base [.io, .bor] vs (Gf fns 31) (passV σ [.io, .bor] vs) := callV_T at31 vs
theorem callr31 (vs : List V) : callR (tabW fns) σ base 31 vs = outS σ (callP σ base [.io, .bor] vs (Gf fns 31) (passV σ [.io, .bor] vs)) := callR_T at31 vs
theorem at32 : fns 32 = some (some [.io], ir32) := rfl
theorem call32 (vs : List V) : callV (tabW fns) σ base 32 vs = callP σ base [.io] vs (Gf fns 32) (passV σ [.io] vs) := callV_T at32 vs
theorem callr32 (vs : List V) : callR (tabW fns) σ base 32 vs = outS σ (callP σ base [.io] vs (Gf fns 32) (passV σ [.io] vs)) := callR_T at32 vs
theorem at33 : fns 33 = some (some [.io], ir33) := rfl
theorem call33 (vs : List V) : callV (tabW fns) σ base 33 vs = callP σ base [.io] vs (Gf fns 33) (passV σ [.io] vs) := callV_T at33 vs
theorem callr33 (vs : List V) : callR (tabW fns) σ base 33 vs = outS σ (callP σ base [.io] vs (Gf fns 33) (passV σ [.io] vs)) := callR_T at33 vs
theorem at34 : fns 34 = some (some [.bor], ir34) := rfl
@[go_sem] theorem call34 (vs : List V) : callV (tabW fns) σ base 34 vs = callP σ base [.bor] vs (Gf fns 34) (passV σ [.bor] vs) := callV_T at34 vs
@[go_sem] theorem callr34 (vs : List V) : callR (tabW fns) σ base 34 vs = outS σ (callP σ base [.bor] vs (Gf fns 34) (passV σ [.bor] vs)) := callR_T at34 vs
theorem at35 : fns 35 = some (some [.io, .bor], ir35) := rfl
theorem call35 (vs : List V) : callV (tabW fns) σ base 35 vs = callP σ base [.io, .bor] vs (Gf fns 35) (passV σ [.io, .bor] vs) := callV_T at35 vs
theorem callr35 (vs : List V) : callR (tabW fns) σ base 35 vs = outS σ (callP σ base [.io, .bor] vs (Gf fns 35) (passV σ [.io, .bor] vs)) := callR_T at35 vs
theorem at36 : fns 36 = some (some [.bor], ir36) := rfl
@[go_sem] theorem call36 (vs : List V) : callV (tabW fns) σ base 36 vs = callP σ base [.bor] vs (Gf fns 36) (passV σ [.bor] vs) := callV_T at36 vs
@[go_sem] theorem callr36 (vs : List V) : callR (tabW fns) σ base 36 vs = outS σ (callP σ base [.bor] vs (Gf fns 36) (passV σ [.bor] vs)) := callR_T at36 vs
theorem at37 : fns 37 = some (some [.io, .bor], ir37) := rfl
theorem call37 (vs : List V) : callV (tabW fns) σ base 37 vs = callP σ base [.io, .bor] vs (Gf fns 37) (passV σ [.io, .bor] vs) := callV_T at37 vs
theorem callr37 (vs : List V) : callR (tabW fns) σ base 37 vs = outS σ (callP σ base [.io, .bor] vs (Gf fns 37) (passV σ [.io, .bor] vs)) := callR_T at37 vs
theorem at38 : fns 38 = some (some [.bor, .bor], ir38) := rfl
@[go_sem] theorem call38 (vs : List V) : callV (tabW fns) σ base 38 vs = callP σ base [.bor, .bor] vs (Gf fns 38) (passV σ [.bor, .bor] vs) := callV_T at38 vs
@[go_sem] theorem callr38 (vs : List V) : callR (tabW fns) σ base 38 vs = outS σ (callP σ base [.bor, .bor] vs (Gf fns 38) (passV σ [.bor, .bor] vs)) := callR_T at38 vs
theorem at39 : fns 39 = some (some [.io, .bor], ir39) := rfl
theorem call39 (vs : List V) : callV (tabW fns) σ base 39 vs = callP σ base [.io, .bor] vs (Gf fns 39) (passV σ [.io, .bor] vs) := callV_T at39 vs
theorem callr39 (vs : List V) : callR (tabW fns) σ base 39 vs = outS σ (callP σ base [.io, .bor] vs (Gf fns 39) (passV σ [.io, .bor] vs)) := callR_T at39 vs
end Go.Vm.Ytdiceoghiboaaaa
