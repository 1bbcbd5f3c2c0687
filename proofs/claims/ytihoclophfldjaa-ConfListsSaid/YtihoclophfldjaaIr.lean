/- Written by wip/vm/irtab.py: the functions in the machine's form, each checked, and their table. -/
import Derived.Test.YtihoclophfldjaaVmInsG
import Derived.Test.YtihoclophfldjaaVmBits
import Derived.Test.YtihoclophfldjaaProg
set_option linter.unusedSectionVars false
set_option linter.unusedSimpArgs false
set_option linter.unusedVariables false
namespace Go.Vm.Ytihoclophfldjaa
open Go.Proofs
/-- gosem.cut.init -/
def ir2 : IFun := ⟨0, 1, [], (.reg false [⟨(some 0), none, (.call 1 []), [], [], 64⟩]), none⟩
theorem ok2 : FnOk Try.prog 2 ir2 := .inl ⟨Try.f2, 0, Try.func2, by kernel_rfl, by kernel_rfl⟩
/-- muniment/munimentlaw13.ConfNext -/
def ir3 : IFun := ⟨3, 60, [(.tmp 6)], (.seq (.reg false [⟨(some 6), none, (.mov (.c (.bool false))), [], [], 448⟩]) (.seq (.reg false [⟨(some 10), none, (.mov (.t 0)), [], [], 704⟩,
  ⟨(some 11), none, (.bin .and (.t 10) (.c (.int .i64 65535))), [], [], 768⟩,
  ⟨(some 12), none, (.mov (.t 1)), [], [], 832⟩,
  ⟨(some 13), none, (.bin .and (.t 12) (.c (.int .i64 65535))), [], [], 896⟩,
  ⟨(some 7), none, (.mov (.t 11)), [], [], 512⟩,
  ⟨(some 8), none, (.mov (.t 13)), [], [], 576⟩]) (.seq (.reg false [⟨(some 14), none, (.mov (.t 7)), [], [], 960⟩,
  ⟨(some 15), none, (.bin .neq (.t 14) (.c (.int .i64 0))), [], [], 1024⟩,
  ⟨(some 16), none, (.mov (.t 15)), [], [], 1088⟩,
  ⟨(some 17), (some (16, true)), (.mov (.t 8)), [], [], 1152⟩,
  ⟨(some 18), (some (16, true)), (.bin .neq (.t 17) (.c (.int .i64 0))), [], [], 1216⟩,
  ⟨(some 19), none, (.pick (.t 16) (.t 18) (.c (.bool false))), [], [], 1280⟩,
  ⟨(some 20), none, (.mov (.t 19)), [], [], 1344⟩,
  ⟨(some 21), (some (20, true)), (.mov (.t 7)), [], [], 1408⟩,
  ⟨(some 22), (some (20, true)), (.mov (.t 8)), [], [], 1472⟩,
  ⟨(some 23), (some (20, true)), (.bin .xor (.t 21) (.t 22)), [], [], 1536⟩,
  ⟨(some 24), (some (20, true)), (.call 7 [(.t 23)]), [], [], 1600⟩,
  ⟨(some 25), (some (20, true)), (.bin .eql (.t 24) (.c (.int .i64 1))), [], [], 1664⟩,
  ⟨(some 26), none, (.pick (.t 20) (.t 25) (.c (.bool false))), [], [], 1728⟩,
  ⟨(some 9), none, (.mov (.t 26)), [], [], 640⟩]) (.seq (.seq (.reg false [⟨(some 27), none, (.mov (.t 2)), [], [], 1792⟩,
  ⟨(some 28), none, (.len false (.t 27)), [], [], 1856⟩,
  ⟨(some 29), none, (.bin .gtr (.t 28) (.c (.int .i64 20))), [], [], 1920⟩]) (.cond (.t 29) (.reg false [⟨(some 30), none, (.mov (.t 2)), [], [], 1984⟩,
  ⟨(some 31), none, (.slL 1 (.t 30) none (some (.c (.int .i64 20))) none), [], [], 2048⟩,
  ⟨(some 2), none, (.mov (.t 31)), [], [], 192⟩]) .skip)) (.seq (.reg false [⟨(some 32), none, (.call 8 []), [], [], 2112⟩,
  ⟨(some 33), none, (.mov (.t 32)), [], [], 2176⟩,
  ⟨(some 34), (some (33, true)), (.mov (.t 7)), [], [], 2240⟩,
  ⟨(some 35), (some (33, true)), (.call 10 [(.t 34)]), [], [], 2304⟩,
  ⟨(some 36), (some (33, true)), (.mov (.t 8)), [], [], 2368⟩,
  ⟨(some 37), (some (33, true)), (.call 10 [(.t 36)]), [], [], 2432⟩,
  ⟨(some 38), (some (33, true)), (.call 9 [(.t 35), (.t 37)]), [], [], 2496⟩,
  ⟨(some 39), (some (33, true)), (.mov (.t 9)), [], [], 2560⟩,
  ⟨(some 40), (some (33, true)), (.eqn false .bool (.t 38) (.t 39)), [], [], 2624⟩,
  ⟨(some 41), none, (.pick (.t 33) (.t 40) (.c (.bool false))), [], [], 2688⟩,
  ⟨(some 42), none, (.mov (.t 41)), [], [], 2752⟩,
  ⟨(some 43), (some (42, true)), (.mov (.t 2)), [], [], 2816⟩,
  ⟨(some 44), (some (42, true)), (.call 11 [(.t 43)]), [], [], 2880⟩,
  ⟨(some 45), (some (42, true)), (.mov (.t 44)), [], [], 2944⟩,
  ⟨(some 46), (some (45, false)), (.mov (.t 2)), [], [], 3008⟩,
  ⟨(some 47), (some (45, false)), (.mov (.t 7)), [], [], 3072⟩,
  ⟨(some 48), (some (45, false)), (.call 10 [(.t 47)]), [], [], 3136⟩,
  ⟨(some 49), (some (45, false)), (.call 9 [(.t 46), (.t 48)]), [], [], 3200⟩,
  ⟨(some 50), (some (45, false)), (.un .not (.t 49)), [], [], 3264⟩,
  ⟨(some 51), (some (45, false)), (.mov (.t 50)), [], [], 3328⟩,
  ⟨(some 52), (some (51, true)), (.mov (.t 7)), [], [], 3392⟩,
  ⟨(some 53), (some (51, true)), (.call 10 [(.t 52)]), [], [], 3456⟩,
  ⟨(some 54), (some (51, true)), (.mov (.t 2)), [], [], 3520⟩,
  ⟨(some 55), (some (51, true)), (.call 9 [(.t 53), (.t 54)]), [], [], 3584⟩,
  ⟨(some 56), (some (51, true)), (.un .not (.t 55)), [], [], 3648⟩,
  ⟨(some 57), (some (45, false)), (.pick (.t 51) (.t 56) (.c (.bool false))), [], [], 3712⟩,
  ⟨(some 58), (some (42, true)), (.pick (.t 45) (.c (.bool true)) (.t 57)), [], [], 3776⟩,
  ⟨(some 59), none, (.pick (.t 42) (.t 58) (.c (.bool false))), [], [], 3840⟩,
  ⟨(some 6), none, (.mov (.t 59)), [], [], 448⟩]) .ret))))), none⟩
theorem ok3 : FnOk Try.prog 3 ir3 := .inl ⟨Try.f3, 0, Try.func3, by kernel_rfl, by kernel_rfl⟩
/-- muniment/munimentlaw13.ConfMeets -/
def lp4_0 : IC := (.seq (.seq (.reg false [⟨(some 34), none, (.mov (.t 13)), [], [], 2240⟩,
  ⟨(some 35), none, (.bin .lss (.t 34) (.c (.int .i64 16))), [], [], 2304⟩]) (.cond (.t 35) .skip (.exit 0))) (.seq (.block 1 (.reg false [⟨(some 38), none, (.mov (.t 11)), [], [], 2496⟩,
  ⟨(some 39), none, (.mov (.t 13)), [], [], 2560⟩,
  ⟨(some 40), none, (.mov (.t 12)), [], [], 2624⟩,
  ⟨(some 41), none, (.mov (.t 13)), [], [], 2688⟩,
  ⟨(some 42), none, (.mov (.t 9)), [], [], 2752⟩,
  ⟨(some 43), none, (.mov (.t 13)), [], [], 2816⟩,
  ⟨(some 44), none, (.toInt .u64 (.t 43)), [], [], 2880⟩,
  ⟨(some 45), none, (.bin .shr (.t 42) (.t 44)), [], [], 2944⟩,
  ⟨(some 46), none, (.bin .and (.t 45) (.c (.int .i64 1))), [], [], 3008⟩,
  ⟨(some 47), none, (.bin .eql (.t 46) (.c (.int .i64 1))), [], [], 3072⟩,
  ⟨(some 48), none, (.mov (.t 10)), [], [], 3136⟩,
  ⟨(some 49), none, (.mov (.t 13)), [], [], 3200⟩,
  ⟨(some 50), none, (.toInt .u64 (.t 49)), [], [], 3264⟩,
  ⟨(some 51), none, (.bin .shr (.t 48) (.t 50)), [], [], 3328⟩,
  ⟨(some 52), none, (.bin .and (.t 51) (.c (.int .i64 1))), [], [], 3392⟩,
  ⟨(some 53), none, (.bin .eql (.t 52) (.c (.int .i64 1))), [], [], 3456⟩,
  ⟨none, none, (.mset (.one .i) (.t 38) (.t 39) (.t 47)), [], [], 64⟩,
  ⟨none, none, (.mset (.one .i) (.t 40) (.t 41) (.t 53)), [], [], 64⟩])) (.reg false [⟨(some 36), none, (.mov (.t 13)), [], [], 2368⟩,
  ⟨(some 37), none, (.bin .add (.t 36) (.c (.int .i64 1))), [], [], 2432⟩,
  ⟨(some 13), none, (.mov (.t 37)), [], [], 896⟩])))
def ir4 : IFun := ⟨3, 104, [(.tmp 6)], (.seq (.reg false [⟨(some 5), none, (.box 2 (.t 2)), [], [], 384⟩,
  ⟨(some 6), none, (.mov (.c (.bool false))), [], [], 448⟩]) (.seq (.reg false [⟨(some 16), none, (.mov (.t 0)), [], [], 1088⟩,
  ⟨(some 17), none, (.bin .and (.t 16) (.c (.int .i64 65535))), [], [], 1152⟩,
  ⟨(some 7), none, (.mov (.t 17)), [], [], 512⟩]) (.seq (.reg false [⟨(some 18), none, (.mov (.t 7)), [], [], 1216⟩,
  ⟨(some 19), none, (.mov (.t 1)), [], [], 1280⟩,
  ⟨(some 20), none, (.bin .and (.t 19) (.c (.int .i64 15))), [], [], 1344⟩,
  ⟨(some 21), none, (.toInt .u64 (.t 20)), [], [], 1408⟩,
  ⟨(some 22), none, (.bin .shl (.c (.int .i64 1)) (.t 21)), [], [], 1472⟩,
  ⟨(some 23), none, (.bin .xor (.t 18) (.t 22)), [], [], 1536⟩,
  ⟨(some 8), none, (.mov (.t 23)), [], [], 576⟩]) (.seq (.reg true [⟨(some 24), none, (.iaA 2 1 (.t 5) (.c (.int .i64 0))), [], [], 1600⟩,
  ⟨(some 25), none, (.ld false 1 (.t 24)), [0], [0], 1664⟩,
  ⟨(some 26), none, (.mov (.t 7)), [], [], 1728⟩,
  ⟨(some 27), none, (.bin .and (.t 25) (.t 26)), [1, 2], [1, 2, 0], 1792⟩,
  ⟨(some 28), none, (.iaA 2 1 (.t 5) (.c (.int .i64 1))), [], [], 1856⟩,
  ⟨(some 29), none, (.ld false 1 (.t 28)), [4], [4], 1920⟩,
  ⟨(some 30), none, (.mov (.t 8)), [], [], 1984⟩,
  ⟨(some 31), none, (.bin .and (.t 29) (.t 30)), [5, 6], [5, 6, 4], 2048⟩,
  ⟨(some 9), none, (.mov (.t 27)), [3, 0, 1, 2, 3], [3, 0, 1, 2], 640⟩,
  ⟨(some 10), none, (.mov (.t 31)), [7, 8, 0, 1, 2, 3, 4, 5, 6, 7, 8], [7, 8, 0, 1, 2, 3, 4, 5, 6], 704⟩]) (.seq (.reg false [⟨(some 32), none, .mkm, [], [], 2112⟩,
  ⟨(some 33), none, .mkm, [], [], 2176⟩,
  ⟨(some 11), none, (.mov (.t 32)), [], [], 768⟩,
  ⟨(some 12), none, (.mov (.t 33)), [], [], 832⟩]) (.seq (.seq (.reg false [⟨(some 13), none, (.mov (.c (.int .i64 0))), [], [], 896⟩]) (.block 0 (.loop lp4_0))) (.seq (.reg false [⟨(some 54), none, (.mov (.t 7)), [], [], 3520⟩,
  ⟨(some 55), none, (.call 10 [(.t 54)]), [], [], 3584⟩,
  ⟨(some 56), none, (.mov (.t 11)), [], [], 3648⟩,
  ⟨(some 57), none, (.call 12 [(.t 55), (.t 56)]), [], [], 3712⟩,
  ⟨(some 58), none, (.mov (.t 8)), [], [], 3776⟩,
  ⟨(some 59), none, (.call 10 [(.t 58)]), [], [], 3840⟩,
  ⟨(some 60), none, (.mov (.t 12)), [], [], 3904⟩,
  ⟨(some 61), none, (.call 12 [(.t 59), (.t 60)]), [], [], 3968⟩,
  ⟨(some 14), none, (.mov (.t 57)), [], [], 960⟩,
  ⟨(some 15), none, (.mov (.t 61)), [], [], 1024⟩]) (.seq (.seq (.reg false [⟨(some 62), none, (.call 8 []), [], [], 4032⟩,
  ⟨(some 63), none, (.un .not (.t 62)), [], [], 4096⟩,
  ⟨(some 64), none, (.mov (.t 63)), [], [], 4160⟩,
  ⟨(some 65), (some (64, false)), (.mov (.t 14)), [], [], 4224⟩,
  ⟨(some 66), (some (64, false)), (.mov (.t 7)), [], [], 4288⟩,
  ⟨(some 67), (some (64, false)), (.bin .neq (.t 66) (.c (.int .i64 0))), [], [], 4352⟩,
  ⟨(some 68), (some (64, false)), (.mov (.t 67)), [], [], 4416⟩,
  ⟨(some 69), (some (68, true)), (.mov (.t 9)), [], [], 4480⟩,
  ⟨(some 70), (some (68, true)), (.call 7 [(.t 69)]), [], [], 4544⟩,
  ⟨(some 71), (some (68, true)), (.bin .mul (.c (.int .i64 2)) (.t 70)), [], [], 4608⟩,
  ⟨(some 72), (some (68, true)), (.mov (.t 7)), [], [], 4672⟩,
  ⟨(some 73), (some (68, true)), (.call 7 [(.t 72)]), [], [], 4736⟩,
  ⟨(some 74), (some (68, true)), (.bin .gtr (.t 71) (.t 73)), [], [], 4800⟩,
  ⟨(some 75), (some (64, false)), (.pick (.t 68) (.t 74) (.c (.bool false))), [], [], 4864⟩,
  ⟨(some 76), (some (64, false)), (.eqn true .bool (.t 65) (.t 75)), [], [], 4928⟩,
  ⟨(some 77), none, (.pick (.t 64) (.c (.bool true)) (.t 76)), [], [], 4992⟩,
  ⟨(some 78), none, (.mov (.t 77)), [], [], 5056⟩,
  ⟨(some 79), (some (78, false)), (.mov (.t 15)), [], [], 5120⟩,
  ⟨(some 80), (some (78, false)), (.mov (.t 8)), [], [], 5184⟩,
  ⟨(some 81), (some (78, false)), (.bin .neq (.t 80) (.c (.int .i64 0))), [], [], 5248⟩,
  ⟨(some 82), (some (78, false)), (.mov (.t 81)), [], [], 5312⟩,
  ⟨(some 83), (some (82, true)), (.mov (.t 10)), [], [], 5376⟩,
  ⟨(some 84), (some (82, true)), (.call 7 [(.t 83)]), [], [], 5440⟩,
  ⟨(some 85), (some (82, true)), (.bin .mul (.c (.int .i64 2)) (.t 84)), [], [], 5504⟩,
  ⟨(some 86), (some (82, true)), (.mov (.t 8)), [], [], 5568⟩,
  ⟨(some 87), (some (82, true)), (.call 7 [(.t 86)]), [], [], 5632⟩,
  ⟨(some 88), (some (82, true)), (.bin .gtr (.t 85) (.t 87)), [], [], 5696⟩,
  ⟨(some 89), (some (78, false)), (.pick (.t 82) (.t 88) (.c (.bool false))), [], [], 5760⟩,
  ⟨(some 90), (some (78, false)), (.eqn true .bool (.t 79) (.t 89)), [], [], 5824⟩,
  ⟨(some 91), none, (.pick (.t 78) (.c (.bool true)) (.t 90)), [], [], 5888⟩]) (.cond (.t 91) (.seq (.reg false [⟨(some 6), none, (.mov (.c (.bool false))), [], [], 448⟩]) .ret) .skip)) (.seq (.reg false [⟨(some 92), none, (.mov (.t 14)), [], [], 5952⟩,
  ⟨(some 93), none, (.un .not (.t 92)), [], [], 6016⟩,
  ⟨(some 94), none, (.mov (.t 93)), [], [], 6080⟩,
  ⟨(some 95), (some (94, false)), (.mov (.t 15)), [], [], 6144⟩,
  ⟨(some 96), (some (94, false)), (.un .not (.t 95)), [], [], 6208⟩,
  ⟨(some 97), none, (.pick (.t 94) (.c (.bool true)) (.t 96)), [], [], 6272⟩,
  ⟨(some 98), none, (.mov (.t 97)), [], [], 6336⟩,
  ⟨(some 99), (some (98, false)), (.mov (.t 9)), [], [], 6400⟩,
  ⟨(some 100), (some (98, false)), (.mov (.t 10)), [], [], 6464⟩,
  ⟨(some 101), (some (98, false)), (.bin .and (.t 99) (.t 100)), [], [], 6528⟩,
  ⟨(some 102), (some (98, false)), (.bin .neq (.t 101) (.c (.int .i64 0))), [], [], 6592⟩,
  ⟨(some 103), none, (.pick (.t 98) (.c (.bool true)) (.t 102)), [], [], 6656⟩,
  ⟨(some 6), none, (.mov (.t 103)), [], [], 448⟩]) .ret))))))))), none⟩
theorem ok4 : FnOk Try.prog 4 ir4 := .inl ⟨Try.f4, 0, Try.func4, by kernel_rfl, by kernel_rfl⟩
/-- muniment/munimentlaw13.ConfLatest -/
def lp5_0 : IC := (.seq (.seq (.reg false [⟨(some 18), none, (.mov (.t 7)), [], [], 1216⟩,
  ⟨(some 19), none, (.mov (.t 1)), [], [], 1280⟩,
  ⟨(some 20), none, (.len false (.t 19)), [], [], 1344⟩,
  ⟨(some 21), none, (.bin .lss (.t 18) (.t 20)), [], [], 1408⟩]) (.cond (.t 21) .skip (.exit 0))) (.seq (.block 1 (.seq (.reg false [⟨(some 24), none, (.mov (.t 1)), [], [], 1600⟩,
  ⟨(some 25), none, (.mov (.t 7)), [], [], 1664⟩,
  ⟨(some 26), none, (.iaL 4 (.t 24) (.t 25)), [], [], 1728⟩,
  ⟨(some 27), none, (.fad 2 (.t 26)), [], [], 1792⟩,
  ⟨(some 28), none, (.ld false 1 (.t 27)), [], [], 1856⟩]) (.cond (.t 28) (.reg false [⟨(some 29), none, (.mov (.t 1)), [], [], 1920⟩,
  ⟨(some 30), none, (.mov (.t 7)), [], [], 1984⟩,
  ⟨(some 31), none, (.iaL 4 (.t 29) (.t 30)), [], [], 2048⟩,
  ⟨(some 32), none, (.fad 3 (.t 31)), [], [], 2112⟩,
  ⟨(some 33), none, (.ld false 1 (.t 32)), [], [], 2176⟩,
  ⟨(some 34), none, (.mov (.t 7)), [], [], 2240⟩,
  ⟨(some 35), none, (.bin .add (.t 34) (.c (.int .i64 1))), [], [], 2304⟩,
  ⟨(some 5), none, (.mov (.t 33)), [], [], 384⟩,
  ⟨(some 6), none, (.mov (.t 35)), [], [], 448⟩]) .skip))) (.reg false [⟨(some 22), none, (.mov (.t 7)), [], [], 1472⟩,
  ⟨(some 23), none, (.bin .add (.t 22) (.c (.int .i64 1))), [], [], 1536⟩,
  ⟨(some 7), none, (.mov (.t 23)), [], [], 512⟩])))
def ir5 : IFun := ⟨2, 55, [(.tmp 4)], (.seq (.reg false [⟨(some 4), none, (.mov (.c (.bool false))), [], [], 320⟩]) (.seq (.seq (.reg false [⟨(some 10), none, (.mov (.t 1)), [], [], 704⟩,
  ⟨(some 11), none, (.len false (.t 10)), [], [], 768⟩,
  ⟨(some 12), none, (.bin .gtr (.t 11) (.c (.int .i64 60))), [], [], 832⟩]) (.cond (.t 12) (.reg false [⟨(some 13), none, (.mov (.t 1)), [], [], 896⟩,
  ⟨(some 14), none, (.slL 4 (.t 13) none (some (.c (.int .i64 60))) none), [], [], 960⟩,
  ⟨(some 1), none, (.mov (.t 14)), [], [], 128⟩]) .skip)) (.seq (.reg false [⟨(some 15), none, (.mov (.t 0)), [], [], 1024⟩,
  ⟨(some 16), none, (.bin .and (.t 15) (.c (.int .i64 65535))), [], [], 1088⟩,
  ⟨(some 17), none, (.call 10 [(.t 16)]), [], [], 1152⟩,
  ⟨(some 5), none, (.mov (.t 17)), [], [], 384⟩,
  ⟨(some 6), none, (.mov (.c (.int .i64 0))), [], [], 448⟩]) (.seq (.seq (.reg false [⟨(some 7), none, (.mov (.c (.int .i64 0))), [], [], 512⟩]) (.block 0 (.loop lp5_0))) (.seq (.reg false [⟨(some 37), none, (.mov (.t 0)), [], [], 2432⟩,
  ⟨(some 38), none, (.bin .and (.t 37) (.c (.int .i64 65535))), [], [], 2496⟩,
  ⟨(some 39), none, (.call 10 [(.t 38)]), [], [], 2560⟩,
  ⟨(some 40), none, (.mov (.t 1)), [], [], 2624⟩,
  ⟨(some 41), none, (.call 13 [(.t 39), (.t 40)]), [], [], 2688⟩,
  ⟨(some 36), none, (.mov (.t 41)), [], [], 2368⟩,
  ⟨(some 42), none, (.ext 0 (.t 36)), [], [], 2752⟩,
  ⟨(some 43), none, (.ext 1 (.t 36)), [], [], 2816⟩,
  ⟨(some 8), none, (.mov (.t 42)), [], [], 576⟩,
  ⟨(some 9), none, (.mov (.t 43)), [], [], 640⟩]) (.seq (.reg false [⟨(some 44), none, (.call 8 []), [], [], 2880⟩,
  ⟨(some 45), none, (.mov (.t 44)), [], [], 2944⟩,
  ⟨(some 46), (some (45, true)), (.mov (.t 8)), [], [], 3008⟩,
  ⟨(some 47), (some (45, true)), (.mov (.t 5)), [], [], 3072⟩,
  ⟨(some 48), (some (45, true)), (.call 14 [(.t 46), (.t 47)]), [], [], 3136⟩,
  ⟨(some 49), none, (.pick (.t 45) (.t 48) (.c (.bool false))), [], [], 3200⟩,
  ⟨(some 50), none, (.mov (.t 49)), [], [], 3264⟩,
  ⟨(some 51), (some (50, true)), (.mov (.t 9)), [], [], 3328⟩,
  ⟨(some 52), (some (50, true)), (.mov (.t 6)), [], [], 3392⟩,
  ⟨(some 53), (some (50, true)), (.bin .eql (.t 51) (.t 52)), [], [], 3456⟩,
  ⟨(some 54), none, (.pick (.t 50) (.t 53) (.c (.bool false))), [], [], 3520⟩,
  ⟨(some 4), none, (.mov (.t 54)), [], [], 320⟩]) .ret)))))), none⟩
theorem ok5 : FnOk Try.prog 5 ir5 := .inl ⟨Try.f5, 0, Try.func5, by kernel_rfl, by kernel_rfl⟩
/-- muniment/munimentlaw13.ConfLists -/
def ir6 : IFun := ⟨2, 57, [(.tmp 4)], (.seq (.reg false [⟨(some 4), none, (.mov (.c (.bool false))), [], [], 320⟩]) (.seq (.reg false [⟨(some 8), none, (.mov (.t 0)), [], [], 576⟩,
  ⟨(some 9), none, (.bin .and (.t 8) (.c (.int .i64 65535))), [], [], 640⟩,
  ⟨(some 5), none, (.mov (.t 9)), [], [], 384⟩]) (.seq (.reg false [⟨(some 10), none, (.mov (.t 5)), [], [], 704⟩,
  ⟨(some 11), none, (.call 10 [(.t 10)]), [], [], 768⟩,
  ⟨(some 6), none, (.mov (.t 11)), [], [], 448⟩]) (.seq (.reg false [⟨(some 12), none, (.mov (.t 1)), [], [], 832⟩,
  ⟨(some 13), none, (.bin .and (.t 12) (.c (.int .i64 15))), [], [], 896⟩,
  ⟨(some 7), none, (.mov (.t 13)), [], [], 512⟩]) (.seq (.reg false [⟨(some 14), none, (.call 8 []), [], [], 960⟩,
  ⟨(some 15), none, (.mov (.t 14)), [], [], 1024⟩,
  ⟨(some 16), (some (15, true)), (.mov (.t 6)), [], [], 1088⟩,
  ⟨(some 17), (some (15, true)), (.mov (.t 7)), [], [], 1152⟩,
  ⟨(some 18), (some (15, true)), (.call 15 [(.t 16), (.t 17)]), [], [], 1216⟩,
  ⟨(some 19), (some (15, true)), (.mov (.t 5)), [], [], 1280⟩,
  ⟨(some 20), (some (15, true)), (.mov (.t 7)), [], [], 1344⟩,
  ⟨(some 21), (some (15, true)), (.toInt .u64 (.t 20)), [], [], 1408⟩,
  ⟨(some 22), (some (15, true)), (.bin .shr (.t 19) (.t 21)), [], [], 1472⟩,
  ⟨(some 23), (some (15, true)), (.bin .and (.t 22) (.c (.int .i64 1))), [], [], 1536⟩,
  ⟨(some 24), (some (15, true)), (.bin .eql (.t 23) (.c (.int .i64 1))), [], [], 1600⟩,
  ⟨(some 25), (some (15, true)), (.eqn false .bool (.t 18) (.t 24)), [], [], 1664⟩,
  ⟨(some 26), none, (.pick (.t 15) (.t 25) (.c (.bool false))), [], [], 1728⟩,
  ⟨(some 27), none, (.mov (.t 26)), [], [], 1792⟩,
  ⟨(some 28), (some (27, true)), (.mov (.t 6)), [], [], 1856⟩,
  ⟨(some 29), (some (27, true)), (.mov (.t 7)), [], [], 1920⟩,
  ⟨(some 30), (some (27, true)), (.call 16 [(.t 28), (.t 29)]), [], [], 1984⟩,
  ⟨(some 31), (some (27, true)), (.mov (.t 5)), [], [], 2048⟩,
  ⟨(some 32), (some (27, true)), (.mov (.t 7)), [], [], 2112⟩,
  ⟨(some 33), (some (27, true)), (.toInt .u64 (.t 32)), [], [], 2176⟩,
  ⟨(some 34), (some (27, true)), (.bin .shl (.c (.int .i64 1)) (.t 33)), [], [], 2240⟩,
  ⟨(some 35), (some (27, true)), (.bin .or (.t 31) (.t 34)), [], [], 2304⟩,
  ⟨(some 36), (some (27, true)), (.call 10 [(.t 35)]), [], [], 2368⟩,
  ⟨(some 37), (some (27, true)), (.call 14 [(.t 30), (.t 36)]), [], [], 2432⟩,
  ⟨(some 38), none, (.pick (.t 27) (.t 37) (.c (.bool false))), [], [], 2496⟩,
  ⟨(some 39), none, (.mov (.t 38)), [], [], 2560⟩,
  ⟨(some 40), (some (39, true)), (.mov (.t 6)), [], [], 2624⟩,
  ⟨(some 41), (some (39, true)), (.mov (.t 7)), [], [], 2688⟩,
  ⟨(some 42), (some (39, true)), (.call 17 [(.t 40), (.t 41)]), [], [], 2752⟩,
  ⟨(some 43), (some (39, true)), (.mov (.t 5)), [], [], 2816⟩,
  ⟨(some 44), (some (39, true)), (.mov (.t 7)), [], [], 2880⟩,
  ⟨(some 45), (some (39, true)), (.toInt .u64 (.t 44)), [], [], 2944⟩,
  ⟨(some 46), (some (39, true)), (.bin .shl (.c (.int .i64 1)) (.t 45)), [], [], 3008⟩,
  ⟨(some 47), (some (39, true)), (.bin .andNot (.t 43) (.t 46)), [], [], 3072⟩,
  ⟨(some 48), (some (39, true)), (.call 10 [(.t 47)]), [], [], 3136⟩,
  ⟨(some 49), (some (39, true)), (.call 14 [(.t 42), (.t 48)]), [], [], 3200⟩,
  ⟨(some 50), none, (.pick (.t 39) (.t 49) (.c (.bool false))), [], [], 3264⟩,
  ⟨(some 51), none, (.mov (.t 50)), [], [], 3328⟩,
  ⟨(some 52), (some (51, true)), (.mov (.t 6)), [], [], 3392⟩,
  ⟨(some 53), (some (51, true)), (.mov (.t 5)), [], [], 3456⟩,
  ⟨(some 54), (some (51, true)), (.call 10 [(.t 53)]), [], [], 3520⟩,
  ⟨(some 55), (some (51, true)), (.call 14 [(.t 52), (.t 54)]), [], [], 3584⟩,
  ⟨(some 56), none, (.pick (.t 51) (.t 55) (.c (.bool false))), [], [], 3648⟩,
  ⟨(some 4), none, (.mov (.t 56)), [], [], 320⟩]) .ret))))), none⟩
theorem ok6 : FnOk Try.prog 6 ir6 := .inl ⟨Try.f6, 0, Try.func6, by kernel_rfl, by kernel_rfl⟩
/-- muniment/munimentlaw13.bits -/
def ir7 : IFun := ⟨1, 6, [(.tmp 2)], (.seq (.reg false [⟨(some 2), none, (.mov (.c (.int .i64 0))), [], [], 192⟩]) (.seq (.reg false [⟨(some 3), none, (.mov (.t 0)), [], [], 256⟩,
  ⟨(some 4), none, (.call 10 [(.t 3)]), [], [], 320⟩,
  ⟨(some 5), none, (.len false (.t 4)), [], [], 384⟩,
  ⟨(some 2), none, (.mov (.t 5)), [], [], 192⟩]) .ret)), none⟩
theorem ok7 : FnOk Try.prog 7 ir7 := .inl ⟨Try.f7, 0, Try.func7, by kernel_rfl, by kernel_rfl⟩
/-- muniment/munimentlaw13.awake -/
def ir8 : IFun := ⟨0, 10, [(.tmp 0)], (.seq (.reg false [⟨(some 0), none, (.mov (.c (.bool false))), [], [], 64⟩]) (.seq (.reg false [⟨(some 1), none, (.mksl 1 2 [(.int .i64 0), (.int .i64 0)] [(0, (1, (.c (.int .i64 0)))), (1, (1, (.c (.int .i64 1))))]), [], [], 128⟩,
  ⟨(some 2), none, (.mksl 1 3 [(.int .i64 0), (.int .i64 0), (.int .i64 0)] [(0, (1, (.c (.int .i64 0)))), (1, (1, (.c (.int .i64 1)))), (2, (1, (.c (.int .i64 2))))]), [], [], 192⟩,
  ⟨(some 3), none, (.call 9 [(.t 1), (.t 2)]), [], [], 256⟩,
  ⟨(some 4), none, (.mov (.t 3)), [], [], 320⟩,
  ⟨(some 5), (some (4, true)), (.mksl 1 2 [(.int .i64 0), (.int .i64 0)] [(0, (1, (.c (.int .i64 0)))), (1, (1, (.c (.int .i64 1))))]), [], [], 384⟩,
  ⟨(some 6), (some (4, true)), (.mksl 1 2 [(.int .i64 0), (.int .i64 0)] [(0, (1, (.c (.int .i64 0)))), (1, (1, (.c (.int .i64 2))))]), [], [], 448⟩,
  ⟨(some 7), (some (4, true)), (.call 9 [(.t 5), (.t 6)]), [], [], 512⟩,
  ⟨(some 8), (some (4, true)), (.un .not (.t 7)), [], [], 576⟩,
  ⟨(some 9), none, (.pick (.t 4) (.t 8) (.c (.bool false))), [], [], 640⟩,
  ⟨(some 0), none, (.mov (.t 9)), [], [], 64⟩]) .ret)), none⟩
theorem ok8 : FnOk Try.prog 8 ir8 := .inl ⟨Try.f8, 0, Try.func8, by kernel_rfl, by kernel_rfl⟩
/-- muniment/conf.Next -/
def ir9 : IFun := ⟨2, 21, [(.tmp 4)], (.seq (.reg false [⟨(some 4), none, (.mov (.c (.bool false))), [], [], 320⟩]) (.seq (.seq (.reg false [⟨(some 5), none, (.mov (.t 0)), [], [], 384⟩,
  ⟨(some 6), none, (.call 18 [(.t 5)]), [], [], 448⟩,
  ⟨(some 7), none, (.un .not (.t 6)), [], [], 512⟩,
  ⟨(some 8), none, (.mov (.t 7)), [], [], 576⟩,
  ⟨(some 9), (some (8, false)), (.mov (.t 1)), [], [], 640⟩,
  ⟨(some 10), (some (8, false)), (.call 18 [(.t 9)]), [], [], 704⟩,
  ⟨(some 11), (some (8, false)), (.un .not (.t 10)), [], [], 768⟩,
  ⟨(some 12), none, (.pick (.t 8) (.c (.bool true)) (.t 11)), [], [], 832⟩]) (.cond (.t 12) (.seq (.reg false [⟨(some 4), none, (.mov (.c (.bool false))), [], [], 320⟩]) .ret) .skip)) (.seq (.reg false [⟨(some 13), none, (.mov (.t 0)), [], [], 896⟩,
  ⟨(some 14), none, (.mov (.t 1)), [], [], 960⟩,
  ⟨(some 15), none, (.call 19 [(.t 13), (.t 14)]), [], [], 1024⟩,
  ⟨(some 16), none, (.mov (.t 1)), [], [], 1088⟩,
  ⟨(some 17), none, (.mov (.t 0)), [], [], 1152⟩,
  ⟨(some 18), none, (.call 19 [(.t 16), (.t 17)]), [], [], 1216⟩,
  ⟨(some 19), none, (.bin .add (.t 15) (.t 18)), [], [], 1280⟩,
  ⟨(some 20), none, (.bin .eql (.t 19) (.c (.int .i64 1))), [], [], 1344⟩,
  ⟨(some 4), none, (.mov (.t 20)), [], [], 320⟩]) .ret))), none⟩
theorem ok9 : FnOk Try.prog 9 ir9 := .inl ⟨Try.f9, 0, Try.func9, by kernel_rfl, by kernel_rfl⟩
/-- muniment/munimentlaw13.list -/
def lp10_0 : IC := (.seq (.seq (.reg false [⟨(some 6), none, (.mov (.t 4)), [], [], 448⟩,
  ⟨(some 7), none, (.bin .lss (.t 6) (.c (.int .i64 16))), [], [], 512⟩]) (.cond (.t 7) .skip (.exit 0))) (.seq (.block 1 (.seq (.reg false [⟨(some 10), none, (.mov (.t 0)), [], [], 704⟩,
  ⟨(some 11), none, (.mov (.t 4)), [], [], 768⟩,
  ⟨(some 12), none, (.toInt .u64 (.t 11)), [], [], 832⟩,
  ⟨(some 13), none, (.bin .shr (.t 10) (.t 12)), [], [], 896⟩,
  ⟨(some 14), none, (.bin .and (.t 13) (.c (.int .i64 1))), [], [], 960⟩,
  ⟨(some 15), none, (.bin .eql (.t 14) (.c (.int .i64 1))), [], [], 1024⟩]) (.cond (.t 15) (.reg false [⟨(some 16), none, (.mov (.t 3)), [], [], 1088⟩,
  ⟨(some 17), none, (.mov (.t 4)), [], [], 1152⟩,
  ⟨(some 18), none, (.mksl 1 1 [(.int .i64 0)] [(0, (1, (.t 17)))]), [], [], 1216⟩,
  ⟨(some 19), none, (.app 1 8 (.t 16) (.t 18)), [], [], 1280⟩,
  ⟨(some 3), none, (.mov (.t 19)), [], [], 256⟩]) .skip))) (.reg false [⟨(some 8), none, (.mov (.t 4)), [], [], 576⟩,
  ⟨(some 9), none, (.bin .add (.t 8) (.c (.int .i64 1))), [], [], 640⟩,
  ⟨(some 4), none, (.mov (.t 9)), [], [], 320⟩])))
def ir10 : IFun := ⟨1, 21, [(.tmp 2)], (.seq (.reg false [⟨(some 2), none, (.mov (.c (.sl .nil 0 []))), [], [], 192⟩]) (.seq (.reg false [⟨(some 5), none, (.mksl 1 0 [] []), [], [], 384⟩,
  ⟨(some 3), none, (.mov (.t 5)), [], [], 256⟩]) (.seq (.seq (.reg false [⟨(some 4), none, (.mov (.c (.int .i64 0))), [], [], 320⟩]) (.block 0 (.loop lp10_0))) (.seq (.reg false [⟨(some 20), none, (.mov (.t 3)), [], [], 1344⟩,
  ⟨(some 2), none, (.mov (.t 20)), [], [], 192⟩]) .ret)))), none⟩
theorem ok10 : FnOk Try.prog 10 ir10 := .inl ⟨Try.f10, 0, Try.func10, by kernel_rfl, by kernel_rfl⟩
/-- muniment/munimentref08.Members -/
def lp11_0 : IC := (.seq (.seq (.reg false [⟨(some 4), none, (.mov (.t 3)), [], [], 320⟩,
  ⟨(some 5), none, (.mov (.t 0)), [], [], 384⟩,
  ⟨(some 6), none, (.len false (.t 5)), [], [], 448⟩,
  ⟨(some 7), none, (.bin .lss (.t 4) (.t 6)), [], [], 512⟩]) (.cond (.t 7) .skip (.exit 0))) (.seq (.block 1 (.seq (.reg true [⟨(some 10), none, (.mov (.t 0)), [], [], 704⟩,
  ⟨(some 11), none, (.mov (.t 3)), [], [], 768⟩,
  ⟨(some 12), none, (.iaL 1 (.t 10) (.t 11)), [0, 1], [0, 1], 832⟩,
  ⟨(some 13), none, (.ld false 1 (.t 12)), [2], [2, 0, 1], 896⟩,
  ⟨(some 14), none, (.bin .lss (.t 13) (.c (.int .i64 0))), [3], [3, 2, 0, 1], 960⟩,
  ⟨(some 15), none, (.mov (.t 14)), [4], [4, 3, 2, 0, 1], 1024⟩,
  ⟨(some 16), (some (15, false)), (.mov (.t 0)), [5], [5, 4, 3, 2, 0, 1], 1088⟩,
  ⟨(some 17), (some (15, false)), (.mov (.t 3)), [5], [5, 4, 3, 2, 0, 1], 1152⟩,
  ⟨(some 18), (some (15, false)), (.iaL 1 (.t 16) (.t 17)), [6, 7, 5], [6, 7, 5, 4, 3, 2, 0, 1], 1216⟩,
  ⟨(some 19), (some (15, false)), (.ld false 1 (.t 18)), [8, 5], [8, 5, 6, 7, 4, 3, 2, 0, 1], 1280⟩,
  ⟨(some 20), (some (15, false)), (.bin .gtr (.t 19) (.c (.int .i64 15))), [9, 5], [9, 5, 8, 6, 7, 4, 3, 2, 0, 1], 1344⟩,
  ⟨(some 21), none, (.pick (.t 15) (.c (.bool true)) (.t 20)), [5, 10], [5, 10, 4, 3, 2, 0, 1, 9, 8, 6, 7], 1408⟩,
  ⟨(some 22), none, (.mov (.t 21)), [11, 5], [11, 5, 10, 4, 3, 2, 0, 1, 9, 8, 6, 7], 1472⟩,
  ⟨(some 23), (some (22, false)), (.mov (.t 3)), [12], [12, 11, 5, 10, 4, 3, 2, 0, 1, 9, 8, 6, 7], 1536⟩,
  ⟨(some 24), (some (22, false)), (.bin .gtr (.t 23) (.c (.int .i64 0))), [13, 12], [13, 12, 11, 5, 10, 4, 3, 2, 0, 1, 9, 8, 6, 7], 1600⟩,
  ⟨(some 25), (some (22, false)), (.mov (.t 24)), [14, 12, 12], [14, 12, 13, 11, 5, 10, 4, 3, 2, 0, 1, 9, 8, 6, 7], 1664⟩,
  ⟨(some 26), (some (25, true)), (.mov (.t 0)), [15], [15, 14, 12, 13, 11, 5, 10, 4, 3, 2, 0, 1, 9, 8, 6, 7], 1728⟩,
  ⟨(some 27), (some (25, true)), (.mov (.t 3)), [15], [15, 14, 12, 13, 11, 5, 10, 4, 3, 2, 0, 1, 9, 8, 6, 7], 1792⟩,
  ⟨(some 28), (some (25, true)), (.bin .sub (.t 27) (.c (.int .i64 1))), [17, 15], [17, 15, 14, 12, 13, 11, 5, 10, 4, 3, 2, 0, 1, 9, 8, 6, 7], 1856⟩,
  ⟨(some 29), (some (25, true)), (.iaL 1 (.t 26) (.t 28)), [16, 18, 15], [16, 18, 15, 14, 12, 13, 11, 5, 10, 4, 3, 2, 0, 1, 9, 8, 6, 7, 17], 1920⟩,
  ⟨(some 30), (some (25, true)), (.ld false 1 (.t 29)), [19, 15], [19, 15, 16, 18, 14, 12, 13, 11, 5, 10, 4, 3, 2, 0, 1, 9, 8, 6, 7, 17], 1984⟩,
  ⟨(some 31), (some (25, true)), (.mov (.t 0)), [15], [15, 14, 12, 13, 11, 5, 10, 4, 3, 2, 0, 1, 9, 8, 6, 7], 2048⟩,
  ⟨(some 32), (some (25, true)), (.mov (.t 3)), [15], [15, 14, 12, 13, 11, 5, 10, 4, 3, 2, 0, 1, 9, 8, 6, 7], 2112⟩,
  ⟨(some 33), (some (25, true)), (.iaL 1 (.t 31) (.t 32)), [21, 22, 15], [21, 22, 15, 14, 12, 13, 11, 5, 10, 4, 3, 2, 0, 1, 9, 8, 6, 7], 2176⟩,
  ⟨(some 34), (some (25, true)), (.ld false 1 (.t 33)), [23, 15], [23, 15, 21, 22, 14, 12, 13, 11, 5, 10, 4, 3, 2, 0, 1, 9, 8, 6, 7], 2240⟩,
  ⟨(some 35), (some (25, true)), (.bin .geq (.t 30) (.t 34)), [20, 24, 15], [20, 24, 15, 19, 16, 18, 14, 12, 13, 11, 5, 10, 4, 3, 2, 0, 1, 9, 8, 6, 7, 17, 23, 21, 22], 2304⟩,
  ⟨(some 36), (some (22, false)), (.pick (.t 25) (.t 35) (.c (.bool false))), [15, 25, 12], [15, 25, 12, 14, 13, 11, 5, 10, 4, 3, 2, 0, 1, 9, 8, 6, 7, 20, 24, 19, 16, 18, 17, 23, 21, 22], 2368⟩,
  ⟨(some 37), none, (.pick (.t 22) (.c (.bool true)) (.t 36)), [12, 26], [12, 26, 11, 5, 10, 4, 3, 2, 0, 1, 9, 8, 6, 7, 15, 25, 14, 13, 20, 24, 19, 16, 18, 17, 23, 21, 22], 2432⟩]) (.cond (.t 37) (.seq (.reg false [⟨(some 2), none, (.mov (.c (.bool false))), [], [], 192⟩]) .ret) .skip))) (.reg false [⟨(some 8), none, (.mov (.t 3)), [], [], 576⟩,
  ⟨(some 9), none, (.bin .add (.t 8) (.c (.int .i64 1))), [], [], 640⟩,
  ⟨(some 3), none, (.mov (.t 9)), [], [], 256⟩])))
def ir11 : IFun := ⟨1, 41, [(.tmp 2)], (.seq (.reg false [⟨(some 2), none, (.mov (.c (.bool false))), [], [], 192⟩]) (.seq (.seq (.reg false [⟨(some 3), none, (.mov (.c (.int .i64 0))), [], [], 256⟩]) (.block 0 (.loop lp11_0))) (.seq (.reg false [⟨(some 38), none, (.mov (.t 0)), [], [], 2496⟩,
  ⟨(some 39), none, (.len false (.t 38)), [], [], 2560⟩,
  ⟨(some 40), none, (.bin .gtr (.t 39) (.c (.int .i64 0))), [], [], 2624⟩,
  ⟨(some 2), none, (.mov (.t 40)), [], [], 192⟩]) .ret))), none⟩
theorem ok11 : FnOk Try.prog 11 ir11 := .inl ⟨Try.f11, 0, Try.func11, by kernel_rfl, by kernel_rfl⟩
/-- muniment/conf.Most -/
def lp12_0 : IC := (.seq (.reg false [⟨(some 11), none, (.bin .lss (.t 10) (.t 9)), [], [], 768⟩]) (.seq (.cond (.t 11) .skip (.exit 0)) (.seq (.block 1 (.seq (.reg false [⟨(some 12), none, (.iaL 1 (.t 8) (.t 10)), [], [], 832⟩,
  ⟨(some 13), none, (.ld false 1 (.t 12)), [], [], 896⟩,
  ⟨(some 7), none, (.mov (.t 13)), [], [], 512⟩]) (.seq (.reg false [⟨(some 14), none, (.mov (.t 1)), [], [], 960⟩,
  ⟨(some 15), none, (.mov (.t 7)), [], [], 1024⟩,
  ⟨(some 16), none, (.mget (.one .i) false (.bool false) (.t 14) (.t 15)), [], [], 1088⟩]) (.cond (.t 16) (.reg false [⟨(some 17), none, (.mov (.t 5)), [], [], 1152⟩,
  ⟨(some 18), none, (.bin .add (.t 17) (.c (.int .i64 1))), [], [], 1216⟩,
  ⟨(some 5), none, (.mov (.t 18)), [], [], 384⟩]) .skip)))) (.reg false [⟨(some 19), none, (.bin .add (.t 10) (.c (.int .i64 1))), [], [], 1280⟩,
  ⟨(some 10), none, (.mov (.t 19)), [], [], 704⟩]))))
def ir12 : IFun := ⟨2, 30, [(.tmp 4)], (.seq (.reg false [⟨(some 4), none, (.mov (.c (.bool false))), [], [], 320⟩]) (.seq (.reg false [⟨(some 5), none, (.mov (.c (.int .i64 0))), [], [], 384⟩]) (.seq (.seq (.reg false [⟨(some 8), none, (.mov (.t 0)), [], [], 576⟩,
  ⟨(some 9), none, (.len false (.t 8)), [], [], 640⟩,
  ⟨(some 10), none, (.mov (.c (.int .i64 0))), [], [], 704⟩]) (.block 0 (.loop lp12_0))) (.seq (.reg false [⟨(some 20), none, (.mov (.t 0)), [], [], 1344⟩,
  ⟨(some 21), none, (.len false (.t 20)), [], [], 1408⟩,
  ⟨(some 22), none, (.bin .gtr (.t 21) (.c (.int .i64 0))), [], [], 1472⟩,
  ⟨(some 23), none, (.mov (.t 22)), [], [], 1536⟩,
  ⟨(some 24), (some (23, true)), (.mov (.t 5)), [], [], 1600⟩,
  ⟨(some 25), (some (23, true)), (.mov (.t 0)), [], [], 1664⟩,
  ⟨(some 26), (some (23, true)), (.len false (.t 25)), [], [], 1728⟩,
  ⟨(some 27), (some (23, true)), (.call 20 [(.t 26)]), [], [], 1792⟩,
  ⟨(some 28), (some (23, true)), (.bin .geq (.t 24) (.t 27)), [], [], 1856⟩,
  ⟨(some 29), none, (.pick (.t 23) (.t 28) (.c (.bool false))), [], [], 1920⟩,
  ⟨(some 4), none, (.mov (.t 29)), [], [], 320⟩]) .ret)))), none⟩
theorem ok12 : FnOk Try.prog 12 ir12 := .inl ⟨Try.f12, 0, Try.func12, by kernel_rfl, by kernel_rfl⟩
/-- muniment/conf.Latest -/
def lp13_0 : IC := (.seq (.seq (.reg false [⟨(some 10), none, (.mov (.t 6)), [], [], 704⟩,
  ⟨(some 11), none, (.bin .geq (.t 10) (.c (.int .i64 0))), [], [], 768⟩]) (.cond (.t 11) .skip (.exit 0))) (.seq (.block 1 (.seq (.reg false [⟨(some 14), none, (.mov (.t 1)), [], [], 960⟩,
  ⟨(some 15), none, (.mov (.t 6)), [], [], 1024⟩,
  ⟨(some 16), none, (.iaL 4 (.t 14) (.t 15)), [], [], 1088⟩,
  ⟨(some 17), none, (.fad 2 (.t 16)), [], [], 1152⟩,
  ⟨(some 18), none, (.ld false 1 (.t 17)), [], [], 1216⟩]) (.cond (.t 18) (.seq (.reg false [⟨(some 19), none, (.mov (.t 1)), [], [], 1280⟩,
  ⟨(some 20), none, (.mov (.t 6)), [], [], 1344⟩,
  ⟨(some 21), none, (.iaL 4 (.t 19) (.t 20)), [], [], 1408⟩,
  ⟨(some 22), none, (.fad 3 (.t 21)), [], [], 1472⟩,
  ⟨(some 23), none, (.ld false 1 (.t 22)), [], [], 1536⟩,
  ⟨(some 24), none, (.call 21 [(.t 23)]), [], [], 1600⟩,
  ⟨(some 25), none, (.mov (.t 6)), [], [], 1664⟩,
  ⟨(some 26), none, (.bin .add (.t 25) (.c (.int .i64 1))), [], [], 1728⟩,
  ⟨(some 4), none, (.mov (.t 24)), [], [], 320⟩,
  ⟨(some 5), none, (.mov (.t 26)), [], [], 384⟩]) .ret) .skip))) (.reg false [⟨(some 12), none, (.mov (.t 6)), [], [], 832⟩,
  ⟨(some 13), none, (.bin .sub (.t 12) (.c (.int .i64 1))), [], [], 896⟩,
  ⟨(some 6), none, (.mov (.t 13)), [], [], 448⟩])))
def ir13 : IFun := ⟨2, 29, [(.tmp 4), (.tmp 5)], (.seq (.reg false [⟨(some 4), none, (.mov (.c (.sl .nil 0 []))), [], [], 320⟩,
  ⟨(some 5), none, (.mov (.c (.int .i64 0))), [], [], 384⟩]) (.seq (.seq (.reg false [⟨(some 7), none, (.mov (.t 1)), [], [], 512⟩,
  ⟨(some 8), none, (.len false (.t 7)), [], [], 576⟩,
  ⟨(some 9), none, (.bin .sub (.t 8) (.c (.int .i64 1))), [], [], 640⟩,
  ⟨(some 6), none, (.mov (.t 9)), [], [], 448⟩]) (.block 0 (.loop lp13_0))) (.seq (.reg false [⟨(some 27), none, (.mov (.t 0)), [], [], 1792⟩,
  ⟨(some 28), none, (.call 21 [(.t 27)]), [], [], 1856⟩,
  ⟨(some 4), none, (.mov (.t 28)), [], [], 320⟩,
  ⟨(some 5), none, (.mov (.c (.int .i64 0))), [], [], 384⟩]) .ret))), none⟩
theorem ok13 : FnOk Try.prog 13 ir13 := .inl ⟨Try.f13, 0, Try.func13, by kernel_rfl, by kernel_rfl⟩
/-- muniment/munimentlaw13.same -/
def lp14_0 : IC := (.seq (.seq (.reg false [⟨(some 11), none, (.mov (.t 5)), [], [], 768⟩,
  ⟨(some 12), none, (.mov (.t 0)), [], [], 832⟩,
  ⟨(some 13), none, (.len false (.t 12)), [], [], 896⟩,
  ⟨(some 14), none, (.bin .lss (.t 11) (.t 13)), [], [], 960⟩]) (.cond (.t 14) .skip (.exit 0))) (.seq (.block 1 (.seq (.reg true [⟨(some 17), none, (.mov (.t 0)), [], [], 1152⟩,
  ⟨(some 18), none, (.mov (.t 5)), [], [], 1216⟩,
  ⟨(some 19), none, (.iaL 1 (.t 17) (.t 18)), [0, 1], [0, 1], 1280⟩,
  ⟨(some 20), none, (.ld false 1 (.t 19)), [2], [2, 0, 1], 1344⟩,
  ⟨(some 21), none, (.mov (.t 1)), [], [], 1408⟩,
  ⟨(some 22), none, (.mov (.t 5)), [], [], 1472⟩,
  ⟨(some 23), none, (.iaL 1 (.t 21) (.t 22)), [4, 5], [4, 5], 1536⟩,
  ⟨(some 24), none, (.ld false 1 (.t 23)), [6], [6, 4, 5], 1600⟩,
  ⟨(some 25), none, (.bin .neq (.t 20) (.t 24)), [3, 7], [3, 7, 2, 0, 1, 6, 4, 5], 1664⟩]) (.cond (.t 25) (.seq (.reg false [⟨(some 4), none, (.mov (.c (.bool false))), [], [], 320⟩]) .ret) .skip))) (.reg false [⟨(some 15), none, (.mov (.t 5)), [], [], 1024⟩,
  ⟨(some 16), none, (.bin .add (.t 15) (.c (.int .i64 1))), [], [], 1088⟩,
  ⟨(some 5), none, (.mov (.t 16)), [], [], 384⟩])))
def ir14 : IFun := ⟨2, 26, [(.tmp 4)], (.seq (.reg false [⟨(some 4), none, (.mov (.c (.bool false))), [], [], 320⟩]) (.seq (.seq (.reg false [⟨(some 6), none, (.mov (.t 0)), [], [], 448⟩,
  ⟨(some 7), none, (.len false (.t 6)), [], [], 512⟩,
  ⟨(some 8), none, (.mov (.t 1)), [], [], 576⟩,
  ⟨(some 9), none, (.len false (.t 8)), [], [], 640⟩,
  ⟨(some 10), none, (.bin .neq (.t 7) (.t 9)), [], [], 704⟩]) (.cond (.t 10) (.seq (.reg false [⟨(some 4), none, (.mov (.c (.bool false))), [], [], 320⟩]) .ret) .skip)) (.seq (.seq (.reg false [⟨(some 5), none, (.mov (.c (.int .i64 0))), [], [], 384⟩]) (.block 0 (.loop lp14_0))) (.seq (.reg false [⟨(some 4), none, (.mov (.c (.bool true))), [], [], 320⟩]) .ret)))), none⟩
theorem ok14 : FnOk Try.prog 14 ir14 := .inl ⟨Try.f14, 0, Try.func14, by kernel_rfl, by kernel_rfl⟩
/-- muniment/conf.Has -/
def ir15 : IFun := ⟨2, 14, [(.tmp 4)], (.seq (.reg false [⟨(some 4), none, (.mov (.c (.bool false))), [], [], 320⟩]) (.seq (.reg false [⟨(some 8), none, (.mov (.t 0)), [], [], 576⟩,
  ⟨(some 9), none, (.mov (.t 1)), [], [], 640⟩,
  ⟨(some 10), none, (.call 22 [(.t 8), (.t 9)]), [], [], 704⟩,
  ⟨(some 7), none, (.mov (.t 10)), [], [], 512⟩,
  ⟨(some 11), none, (.ext 0 (.t 7)), [], [], 768⟩,
  ⟨(some 12), none, (.ext 1 (.t 7)), [], [], 832⟩,
  ⟨(some 5), none, (.mov (.t 11)), [], [], 384⟩,
  ⟨(some 6), none, (.mov (.t 12)), [], [], 448⟩]) (.seq (.reg false [⟨(some 13), none, (.mov (.t 6)), [], [], 896⟩,
  ⟨(some 4), none, (.mov (.t 13)), [], [], 320⟩]) .ret))), none⟩
theorem ok15 : FnOk Try.prog 15 ir15 := .inl ⟨Try.f15, 0, Try.func15, by kernel_rfl, by kernel_rfl⟩
/-- muniment/conf.With -/
def ir16 : IFun := ⟨2, 22, [(.tmp 4)], (.seq (.reg false [⟨(some 4), none, (.mov (.c (.sl .nil 0 []))), [], [], 320⟩]) (.seq (.reg false [⟨(some 8), none, (.mov (.t 0)), [], [], 576⟩,
  ⟨(some 9), none, (.mov (.t 1)), [], [], 640⟩,
  ⟨(some 10), none, (.call 22 [(.t 8), (.t 9)]), [], [], 704⟩,
  ⟨(some 7), none, (.mov (.t 10)), [], [], 512⟩,
  ⟨(some 11), none, (.ext 0 (.t 7)), [], [], 768⟩,
  ⟨(some 12), none, (.ext 1 (.t 7)), [], [], 832⟩,
  ⟨(some 5), none, (.mov (.t 11)), [], [], 384⟩,
  ⟨(some 6), none, (.mov (.t 12)), [], [], 448⟩]) (.seq (.seq (.reg false [⟨(some 13), none, (.mov (.t 6)), [], [], 896⟩]) (.cond (.t 13) (.seq (.reg false [⟨(some 14), none, (.mov (.t 0)), [], [], 960⟩,
  ⟨(some 15), none, (.call 21 [(.t 14)]), [], [], 1024⟩,
  ⟨(some 4), none, (.mov (.t 15)), [], [], 320⟩]) .ret) .skip)) (.seq (.reg false [⟨(some 16), none, (.mov (.t 0)), [], [], 1088⟩,
  ⟨(some 17), none, (.call 21 [(.t 16)]), [], [], 1152⟩,
  ⟨(some 18), none, (.mov (.t 5)), [], [], 1216⟩,
  ⟨(some 19), none, (.mov (.t 1)), [], [], 1280⟩,
  ⟨(some 20), none, (.mksl 1 1 [(.int .i64 0)] [(0, (1, (.t 19)))]), [], [], 1344⟩,
  ⟨(some 21), none, (.call 23 [(.t 17), (.t 18), (.t 20)]), [], [], 1408⟩,
  ⟨(some 4), none, (.mov (.t 21)), [], [], 320⟩]) .ret)))), none⟩
theorem ok16 : FnOk Try.prog 16 ir16 := .inl ⟨Try.f16, 0, Try.func16, by kernel_rfl, by kernel_rfl⟩
/-- muniment/conf.Without -/
def ir17 : IFun := ⟨2, 9, [(.tmp 4)], (.seq (.reg false [⟨(some 3), none, (.box 1 (.t 1)), [], [], 256⟩,
  ⟨(some 4), none, (.mov (.c (.sl .nil 0 []))), [], [], 320⟩]) (.seq (.reg false [⟨(some 5), none, (.mov (.t 0)), [], [], 384⟩,
  ⟨(some 6), none, (.call 21 [(.t 5)]), [], [], 448⟩,
  ⟨(some 7), none, (.clo 25 [(.t 3)]), [], [], 512⟩,
  ⟨(some 8), none, (.call 24 [(.t 6), (.t 7)]), [], [], 576⟩,
  ⟨(some 4), none, (.mov (.t 8)), [], [], 320⟩]) .ret)), none⟩
theorem ok17 : FnOk Try.prog 17 ir17 := .inl ⟨Try.f17, 0, Try.func17, by kernel_rfl, by kernel_rfl⟩
/-- muniment/head.Members -/
def lp18_0 : IC := (.seq (.reg false [⟨(some 8), none, (.bin .lss (.t 7) (.t 6)), [], [], 576⟩]) (.seq (.cond (.t 8) .skip (.exit 0)) (.seq (.block 1 (.seq (.reg false [⟨(some 9), none, (.mov (.t 7)), [], [], 640⟩,
  ⟨(some 10), none, (.iaL 1 (.t 5) (.t 7)), [], [], 704⟩,
  ⟨(some 11), none, (.ld false 1 (.t 10)), [], [], 768⟩,
  ⟨(some 3), none, (.mov (.t 9)), [], [], 256⟩,
  ⟨(some 4), none, (.mov (.t 11)), [], [], 320⟩]) (.seq (.reg false [⟨(some 12), none, (.mov (.t 4)), [], [], 832⟩,
  ⟨(some 13), none, (.bin .lss (.t 12) (.c (.int .i64 0))), [], [], 896⟩,
  ⟨(some 14), none, (.mov (.t 13)), [], [], 960⟩,
  ⟨(some 15), (some (14, false)), (.mov (.t 4)), [], [], 1024⟩,
  ⟨(some 16), (some (14, false)), (.bin .geq (.t 15) (.c (.int .i64 16))), [], [], 1088⟩,
  ⟨(some 17), none, (.pick (.t 14) (.c (.bool true)) (.t 16)), [], [], 1152⟩,
  ⟨(some 18), none, (.mov (.t 17)), [], [], 1216⟩,
  ⟨(some 19), (some (18, false)), (.mov (.t 3)), [], [], 1280⟩,
  ⟨(some 20), (some (18, false)), (.bin .gtr (.t 19) (.c (.int .i64 0))), [], [], 1344⟩,
  ⟨(some 21), (some (18, false)), (.mov (.t 20)), [], [], 1408⟩,
  ⟨(some 22), (some (21, true)), (.mov (.t 0)), [], [], 1472⟩,
  ⟨(some 23), (some (21, true)), (.mov (.t 3)), [], [], 1536⟩,
  ⟨(some 24), (some (21, true)), (.bin .sub (.t 23) (.c (.int .i64 1))), [], [], 1600⟩,
  ⟨(some 25), (some (21, true)), (.iaL 1 (.t 22) (.t 24)), [], [], 1664⟩,
  ⟨(some 26), (some (21, true)), (.ld false 1 (.t 25)), [], [], 1728⟩,
  ⟨(some 27), (some (21, true)), (.mov (.t 4)), [], [], 1792⟩,
  ⟨(some 28), (some (21, true)), (.bin .geq (.t 26) (.t 27)), [], [], 1856⟩,
  ⟨(some 29), (some (18, false)), (.pick (.t 21) (.t 28) (.c (.bool false))), [], [], 1920⟩,
  ⟨(some 30), none, (.pick (.t 18) (.c (.bool true)) (.t 29)), [], [], 1984⟩]) (.cond (.t 30) (.seq (.reg false [⟨(some 2), none, (.mov (.c (.bool false))), [], [], 192⟩]) .ret) .skip)))) (.reg false [⟨(some 31), none, (.bin .add (.t 7) (.c (.int .i64 1))), [], [], 2048⟩,
  ⟨(some 7), none, (.mov (.t 31)), [], [], 512⟩]))))
def ir18 : IFun := ⟨1, 35, [(.tmp 2)], (.seq (.reg false [⟨(some 2), none, (.mov (.c (.bool false))), [], [], 192⟩]) (.seq (.seq (.reg false [⟨(some 5), none, (.mov (.t 0)), [], [], 384⟩,
  ⟨(some 6), none, (.len false (.t 5)), [], [], 448⟩,
  ⟨(some 7), none, (.mov (.c (.int .i64 0))), [], [], 512⟩]) (.block 0 (.loop lp18_0))) (.seq (.reg false [⟨(some 32), none, (.mov (.t 0)), [], [], 2112⟩,
  ⟨(some 33), none, (.len false (.t 32)), [], [], 2176⟩,
  ⟨(some 34), none, (.bin .geq (.t 33) (.c (.int .i64 1))), [], [], 2240⟩,
  ⟨(some 2), none, (.mov (.t 34)), [], [], 192⟩]) .ret))), none⟩
theorem ok18 : FnOk Try.prog 18 ir18 := .inl ⟨Try.f18, 0, Try.func18, by kernel_rfl, by kernel_rfl⟩
/-- muniment/conf.lacks[int] -/
def lp19_0 : IC := (.seq (.reg false [⟨(some 11), none, (.bin .lss (.t 10) (.t 9)), [], [], 768⟩]) (.seq (.cond (.t 11) .skip (.exit 0)) (.seq (.block 1 (.seq (.reg false [⟨(some 12), none, (.iaL 1 (.t 8) (.t 10)), [], [], 832⟩,
  ⟨(some 13), none, (.ld false 1 (.t 12)), [], [], 896⟩,
  ⟨(some 7), none, (.mov (.t 13)), [], [], 512⟩]) (.seq (.reg false [⟨(some 14), none, (.mov (.t 1)), [], [], 960⟩,
  ⟨(some 15), none, (.mov (.t 7)), [], [], 1024⟩,
  ⟨(some 16), none, (.call 26 [(.t 14), (.t 15)]), [], [], 1088⟩,
  ⟨(some 17), none, (.un .not (.t 16)), [], [], 1152⟩]) (.cond (.t 17) (.reg false [⟨(some 18), none, (.mov (.t 5)), [], [], 1216⟩,
  ⟨(some 19), none, (.bin .add (.t 18) (.c (.int .i64 1))), [], [], 1280⟩,
  ⟨(some 5), none, (.mov (.t 19)), [], [], 384⟩]) .skip)))) (.reg false [⟨(some 20), none, (.bin .add (.t 10) (.c (.int .i64 1))), [], [], 1344⟩,
  ⟨(some 10), none, (.mov (.t 20)), [], [], 704⟩]))))
def ir19 : IFun := ⟨2, 22, [(.tmp 4)], (.seq (.reg false [⟨(some 4), none, (.mov (.c (.int .i64 0))), [], [], 320⟩]) (.seq (.reg false [⟨(some 5), none, (.mov (.c (.int .i64 0))), [], [], 384⟩]) (.seq (.seq (.reg false [⟨(some 8), none, (.mov (.t 0)), [], [], 576⟩,
  ⟨(some 9), none, (.len false (.t 8)), [], [], 640⟩,
  ⟨(some 10), none, (.mov (.c (.int .i64 0))), [], [], 704⟩]) (.block 0 (.loop lp19_0))) (.seq (.reg false [⟨(some 21), none, (.mov (.t 5)), [], [], 1408⟩,
  ⟨(some 4), none, (.mov (.t 21)), [], [], 320⟩]) .ret)))), none⟩
theorem ok19 : FnOk Try.prog 19 ir19 := .inl ⟨Try.f19, 0, Try.func19, by kernel_rfl, by kernel_rfl⟩
/-- muniment/head.Most -/
def ir20 : IFun := ⟨1, 6, [(.tmp 2)], (.seq (.reg false [⟨(some 2), none, (.mov (.c (.int .i64 0))), [], [], 192⟩]) (.seq (.reg false [⟨(some 3), none, (.mov (.t 0)), [], [], 256⟩,
  ⟨(some 4), none, (.bin .quo (.t 3) (.c (.int .i64 2))), [], [], 320⟩,
  ⟨(some 5), none, (.bin .add (.t 4) (.c (.int .i64 1))), [], [], 384⟩,
  ⟨(some 2), none, (.mov (.t 5)), [], [], 192⟩]) .ret)), none⟩
theorem ok20 : FnOk Try.prog 20 ir20 := .inl ⟨Try.f20, 0, Try.func20, by kernel_rfl, by kernel_rfl⟩
/-- slices.Clone[[]int,int] -/
def ir21 : IFun := ⟨1, 8, [(.tmp 2)], (.seq (.reg false [⟨(some 2), none, (.mov (.c (.sl .nil 0 []))), [], [], 192⟩]) (.seq (.seq (.reg false [⟨(some 3), none, (.mov (.t 0)), [], [], 256⟩,
  ⟨(some 4), none, (.eqn false .sl (.t 3) (.c (.sl .nil 0 []))), [], [], 320⟩]) (.cond (.t 4) (.seq (.reg false [⟨(some 2), none, (.mov (.c (.sl .nil 0 []))), [], [], 192⟩]) .ret) .skip)) (.seq (.reg false [⟨(some 5), none, (.mksl 1 0 [] []), [], [], 384⟩,
  ⟨(some 6), none, (.mov (.t 0)), [], [], 448⟩,
  ⟨(some 7), none, (.app 1 8 (.t 5) (.t 6)), [], [], 512⟩,
  ⟨(some 2), none, (.mov (.t 7)), [], [], 192⟩]) .ret))), none⟩
theorem ok21 : FnOk Try.prog 21 ir21 := .inl ⟨Try.f21, 0, Try.func21, by kernel_rfl, by kernel_rfl⟩
/-- slices.BinarySearch[[]int,int] -/
def lp22_0 : IC := (.seq (.seq (.reg false [⟨(some 13), none, (.mov (.t 7)), [], [], 896⟩,
  ⟨(some 14), none, (.mov (.t 8)), [], [], 960⟩,
  ⟨(some 15), none, (.bin .lss (.t 13) (.t 14)), [], [], 1024⟩]) (.cond (.t 15) .skip (.exit 0))) (.block 1 (.seq (.reg false [⟨(some 16), none, (.mov (.t 7)), [], [], 1088⟩,
  ⟨(some 17), none, (.mov (.t 8)), [], [], 1152⟩,
  ⟨(some 18), none, (.bin .add (.t 16) (.t 17)), [], [], 1216⟩,
  ⟨(some 19), none, (.toInt .u64 (.t 18)), [], [], 1280⟩,
  ⟨(some 20), none, (.bin .shr (.t 19) (.c (.int .u64 1))), [], [], 1344⟩,
  ⟨(some 21), none, (.toInt .i64 (.t 20)), [], [], 1408⟩,
  ⟨(some 9), none, (.mov (.t 21)), [], [], 640⟩]) (.seq (.reg false [⟨(some 22), none, (.mov (.t 0)), [], [], 1472⟩,
  ⟨(some 23), none, (.mov (.t 9)), [], [], 1536⟩,
  ⟨(some 24), none, (.iaL 1 (.t 22) (.t 23)), [], [], 1600⟩,
  ⟨(some 25), none, (.ld false 1 (.t 24)), [], [], 1664⟩,
  ⟨(some 26), none, (.mov (.t 1)), [], [], 1728⟩,
  ⟨(some 27), none, (.call 27 [(.t 25), (.t 26)]), [], [], 1792⟩]) (.cond (.t 27) (.reg false [⟨(some 28), none, (.mov (.t 9)), [], [], 1856⟩,
  ⟨(some 29), none, (.bin .add (.t 28) (.c (.int .i64 1))), [], [], 1920⟩,
  ⟨(some 7), none, (.mov (.t 29)), [], [], 512⟩]) (.reg false [⟨(some 30), none, (.mov (.t 9)), [], [], 1984⟩,
  ⟨(some 8), none, (.mov (.t 30)), [], [], 576⟩]))))))
def ir22 : IFun := ⟨2, 54, [(.tmp 4), (.tmp 5)], (.seq (.reg false [⟨(some 4), none, (.mov (.c (.int .i64 0))), [], [], 320⟩,
  ⟨(some 5), none, (.mov (.c (.bool false))), [], [], 384⟩]) (.seq (.reg false [⟨(some 10), none, (.mov (.t 0)), [], [], 704⟩,
  ⟨(some 11), none, (.len false (.t 10)), [], [], 768⟩,
  ⟨(some 6), none, (.mov (.t 11)), [], [], 448⟩]) (.seq (.reg false [⟨(some 12), none, (.mov (.t 6)), [], [], 832⟩,
  ⟨(some 7), none, (.mov (.c (.int .i64 0))), [], [], 512⟩,
  ⟨(some 8), none, (.mov (.t 12)), [], [], 576⟩]) (.seq (.block 0 (.loop lp22_0)) (.seq (.reg false [⟨(some 31), none, (.mov (.t 7)), [], [], 2048⟩,
  ⟨(some 32), none, (.mov (.t 7)), [], [], 2112⟩,
  ⟨(some 33), none, (.mov (.t 6)), [], [], 2176⟩,
  ⟨(some 34), none, (.bin .lss (.t 32) (.t 33)), [], [], 2240⟩,
  ⟨(some 35), none, (.mov (.t 34)), [], [], 2304⟩,
  ⟨(some 36), (some (35, true)), (.mov (.t 0)), [], [], 2368⟩,
  ⟨(some 37), (some (35, true)), (.mov (.t 7)), [], [], 2432⟩,
  ⟨(some 38), (some (35, true)), (.iaL 1 (.t 36) (.t 37)), [], [], 2496⟩,
  ⟨(some 39), (some (35, true)), (.ld false 1 (.t 38)), [], [], 2560⟩,
  ⟨(some 40), (some (35, true)), (.mov (.t 1)), [], [], 2624⟩,
  ⟨(some 41), (some (35, true)), (.bin .eql (.t 39) (.t 40)), [], [], 2688⟩,
  ⟨(some 42), (some (35, true)), (.mov (.t 41)), [], [], 2752⟩,
  ⟨(some 43), (some (42, false)), (.mov (.t 0)), [], [], 2816⟩,
  ⟨(some 44), (some (42, false)), (.mov (.t 7)), [], [], 2880⟩,
  ⟨(some 45), (some (42, false)), (.iaL 1 (.t 43) (.t 44)), [], [], 2944⟩,
  ⟨(some 46), (some (42, false)), (.ld false 1 (.t 45)), [], [], 3008⟩,
  ⟨(some 47), (some (42, false)), (.call 28 [(.t 46)]), [], [], 3072⟩,
  ⟨(some 48), (some (42, false)), (.mov (.t 47)), [], [], 3136⟩,
  ⟨(some 49), (some (48, true)), (.mov (.t 1)), [], [], 3200⟩,
  ⟨(some 50), (some (48, true)), (.call 28 [(.t 49)]), [], [], 3264⟩,
  ⟨(some 51), (some (42, false)), (.pick (.t 48) (.t 50) (.c (.bool false))), [], [], 3328⟩,
  ⟨(some 52), (some (35, true)), (.pick (.t 42) (.c (.bool true)) (.t 51)), [], [], 3392⟩,
  ⟨(some 53), none, (.pick (.t 35) (.t 52) (.c (.bool false))), [], [], 3456⟩,
  ⟨(some 4), none, (.mov (.t 31)), [], [], 320⟩,
  ⟨(some 5), none, (.mov (.t 53)), [], [], 384⟩]) .ret))))), none⟩
theorem ok22 : FnOk Try.prog 22 ir22 := .inl ⟨Try.f22, 0, Try.func22, by kernel_rfl, by kernel_rfl⟩
/-- slices.Insert[[]int,int] -/
def rho23 : Shelf.Ren := ⟨fun n => if n = 22 then 23 else if n = 29 then 29 else 30, fun n => if n = 9 then 3 else if n = 24 then 22 else if n = 0 then 0 else if n = 3 then 3 else 4, fun n => n⟩
theorem li23 : ∃ zc, zc.cells.size = 1 ∧ LI Try.prog rho23 "slices.Insert[[]int,int]" 1 8 zc :=
  ⟨_, by rfl, { mixed := by kernel_rfl, f22 := by kernel_rfl, ov := fun args w => run_callFunc_extern Try.func29 (by kernel_rfl) (by kernel_rfl) (by kernel_rfl) (e := Extern.SlicesOverlaps.overlaps #[rho23.t 24, rho23.t 24] #[rho23.t 4]) (by kernel_rfl) args w, t0 := by kernel_rfl, a0 := Try.isAgg0, z0 := Try.sizeOf0, v0 := Try.zeroValue0, t3 := by kernel_rfl, a3 := Try.isAgg3, z3 := Try.sizeOf3, v3 := Try.zeroValue3, t4 := by kernel_rfl, a4 := Try.isAgg4, z4 := Try.sizeOf4, v4 := Try.zeroValue4, t24 := by kernel_rfl, a24 := Try.isAgg22, z24 := Try.sizeOf22, v24 := Try.zeroValue22, sz9 := by kernel_rfl, by9 := by kernel_rfl, v9 := Try.zeroValue3, i9 := by kernel_rfl }⟩
def ir23 : IFun := handF [.mov, .bor, .mov] (insG 1 8)
theorem ok23 : FnOk Try.prog 23 ir23 := by
  obtain ⟨zc, hz, li⟩ := li23
  exact .inr ⟨_, _, rfl, ins_good li (by decide) (by decide) (by decide) hz rfl (by decide)⟩
/-- slices.DeleteFunc[[]int,int] -/
def lp24_0 : IC := (.seq (.seq (.reg false [⟨(some 16), none, (.mov (.t 6)), [], [], 1088⟩,
  ⟨(some 17), none, (.mov (.t 0)), [], [], 1152⟩,
  ⟨(some 18), none, (.len false (.t 17)), [], [], 1216⟩,
  ⟨(some 19), none, (.bin .lss (.t 16) (.t 18)), [], [], 1280⟩]) (.cond (.t 19) .skip (.exit 0))) (.seq (.block 1 (.seq (.reg false [⟨(some 22), none, (.mov (.t 0)), [], [], 1472⟩,
  ⟨(some 23), none, (.mov (.t 6)), [], [], 1536⟩,
  ⟨(some 24), none, (.iaL 1 (.t 22) (.t 23)), [], [], 1600⟩,
  ⟨(some 25), none, (.ld false 1 (.t 24)), [], [], 1664⟩,
  ⟨(some 7), none, (.mov (.t 25)), [], [], 512⟩]) (.seq (.reg false [⟨(some 26), none, (.mov (.t 1)), [], [], 1728⟩,
  ⟨(some 27), none, (.mov (.t 7)), [], [], 1792⟩,
  ⟨(some 28), none, (.callv (.t 26) [(.t 27)]), [], [], 1856⟩,
  ⟨(some 29), none, (.un .not (.t 28)), [], [], 1920⟩]) (.cond (.t 29) (.seq (.reg false [⟨(some 30), none, (.mov (.t 0)), [], [], 1984⟩,
  ⟨(some 31), none, (.mov (.t 5)), [], [], 2048⟩,
  ⟨(some 32), none, (.mov (.t 7)), [], [], 2112⟩,
  ⟨(some 33), none, (.iaL 1 (.t 30) (.t 31)), [], [], 2176⟩,
  ⟨none, none, (.st false 1 (.t 33) (.t 32)), [], [], 64⟩]) (.reg false [⟨(some 34), none, (.mov (.t 5)), [], [], 2240⟩,
  ⟨(some 35), none, (.bin .add (.t 34) (.c (.int .i64 1))), [], [], 2304⟩,
  ⟨(some 5), none, (.mov (.t 35)), [], [], 384⟩])) .skip)))) (.reg false [⟨(some 20), none, (.mov (.t 6)), [], [], 1344⟩,
  ⟨(some 21), none, (.bin .add (.t 20) (.c (.int .i64 1))), [], [], 1408⟩,
  ⟨(some 6), none, (.mov (.t 21)), [], [], 448⟩])))
def ir24 : IFun := ⟨2, 42, [(.tmp 4)], (.seq (.reg false [⟨(some 4), none, (.mov (.c (.sl .nil 0 []))), [], [], 320⟩]) (.seq (.reg false [⟨(some 8), none, (.mov (.t 0)), [], [], 576⟩,
  ⟨(some 9), none, (.mov (.t 1)), [], [], 640⟩,
  ⟨(some 10), none, (.call 31 [(.t 8), (.t 9)]), [], [], 704⟩,
  ⟨(some 5), none, (.mov (.t 10)), [], [], 384⟩]) (.seq (.seq (.reg false [⟨(some 11), none, (.mov (.t 5)), [], [], 768⟩,
  ⟨(some 12), none, (.bin .eql (.t 11) (.c (.int .i64 (-1)))), [], [], 832⟩]) (.cond (.t 12) (.seq (.reg false [⟨(some 13), none, (.mov (.t 0)), [], [], 896⟩,
  ⟨(some 4), none, (.mov (.t 13)), [], [], 320⟩]) .ret) .skip)) (.seq (.seq (.reg false [⟨(some 14), none, (.mov (.t 5)), [], [], 960⟩,
  ⟨(some 15), none, (.bin .add (.t 14) (.c (.int .i64 1))), [], [], 1024⟩,
  ⟨(some 6), none, (.mov (.t 15)), [], [], 448⟩]) (.block 0 (.loop lp24_0))) (.seq (.reg false [⟨(some 36), none, (.mov (.t 0)), [], [], 2368⟩,
  ⟨(some 37), none, (.mov (.t 5)), [], [], 2432⟩,
  ⟨(some 38), none, (.slL 1 (.t 36) (some (.t 37)) none none), [], [], 2496⟩,
  ⟨none, none, (.clr 1 [(.int .i64 0)] (.t 38)), [], [], 64⟩]) (.seq (.reg false [⟨(some 39), none, (.mov (.t 0)), [], [], 2560⟩,
  ⟨(some 40), none, (.mov (.t 5)), [], [], 2624⟩,
  ⟨(some 41), none, (.slL 1 (.t 39) none (some (.t 40)) none), [], [], 2688⟩,
  ⟨(some 4), none, (.mov (.t 41)), [], [], 320⟩]) .ret)))))), none⟩
theorem ok24 : FnOk Try.prog 24 ir24 := .inl ⟨Try.f24, 0, Try.func24, by kernel_rfl, by kernel_rfl⟩
/-- muniment/conf.Without$1 -/
def ir25 : IFun := ⟨2, 7, [(.tmp 3)], (.seq (.reg false [⟨(some 3), none, (.mov (.c (.bool false))), [], [], 256⟩]) (.seq (.reg false [⟨(some 4), none, (.mov (.t 0)), [], [], 320⟩,
  ⟨(some 5), none, (.ld false 1 (.t 1)), [], [], 384⟩,
  ⟨(some 6), none, (.bin .eql (.t 4) (.t 5)), [], [], 448⟩,
  ⟨(some 3), none, (.mov (.t 6)), [], [], 256⟩]) .ret)), none⟩
theorem ok25 : FnOk Try.prog 25 ir25 := .inl ⟨Try.f25, 0, Try.func25, by kernel_rfl, by kernel_rfl⟩
/-- slices.Contains[[]int,int] -/
def ir26 : IFun := ⟨2, 9, [(.tmp 4)], (.seq (.reg false [⟨(some 4), none, (.mov (.c (.bool false))), [], [], 320⟩]) (.seq (.reg false [⟨(some 5), none, (.mov (.t 0)), [], [], 384⟩,
  ⟨(some 6), none, (.mov (.t 1)), [], [], 448⟩,
  ⟨(some 7), none, (.call 32 [(.t 5), (.t 6)]), [], [], 512⟩,
  ⟨(some 8), none, (.bin .geq (.t 7) (.c (.int .i64 0))), [], [], 576⟩,
  ⟨(some 4), none, (.mov (.t 8)), [], [], 320⟩]) .ret)), none⟩
theorem ok26 : FnOk Try.prog 26 ir26 := .inl ⟨Try.f26, 0, Try.func26, by kernel_rfl, by kernel_rfl⟩
/-- cmp.Less[int] -/
def ir27 : IFun := ⟨2, 17, [(.tmp 4)], (.seq (.reg false [⟨(some 4), none, (.mov (.c (.bool false))), [], [], 320⟩]) (.seq (.reg false [⟨(some 5), none, (.mov (.t 0)), [], [], 384⟩,
  ⟨(some 6), none, (.call 33 [(.t 5)]), [], [], 448⟩,
  ⟨(some 7), none, (.mov (.t 6)), [], [], 512⟩,
  ⟨(some 8), (some (7, true)), (.mov (.t 1)), [], [], 576⟩,
  ⟨(some 9), (some (7, true)), (.call 33 [(.t 8)]), [], [], 640⟩,
  ⟨(some 10), (some (7, true)), (.un .not (.t 9)), [], [], 704⟩,
  ⟨(some 11), none, (.pick (.t 7) (.t 10) (.c (.bool false))), [], [], 768⟩,
  ⟨(some 12), none, (.mov (.t 11)), [], [], 832⟩,
  ⟨(some 13), (some (12, false)), (.mov (.t 0)), [], [], 896⟩,
  ⟨(some 14), (some (12, false)), (.mov (.t 1)), [], [], 960⟩,
  ⟨(some 15), (some (12, false)), (.bin .lss (.t 13) (.t 14)), [], [], 1024⟩,
  ⟨(some 16), none, (.pick (.t 12) (.c (.bool true)) (.t 15)), [], [], 1088⟩,
  ⟨(some 4), none, (.mov (.t 16)), [], [], 320⟩]) .ret)), none⟩
theorem ok27 : FnOk Try.prog 27 ir27 := .inl ⟨Try.f27, 0, Try.func27, by kernel_rfl, by kernel_rfl⟩
/-- slices.isNaN[int] -/
def ir28 : IFun := ⟨1, 6, [(.tmp 2)], (.seq (.reg false [⟨(some 2), none, (.mov (.c (.bool false))), [], [], 192⟩]) (.seq (.reg false [⟨(some 3), none, (.mov (.t 0)), [], [], 256⟩,
  ⟨(some 4), none, (.mov (.t 0)), [], [], 320⟩,
  ⟨(some 5), none, (.bin .neq (.t 3) (.t 4)), [], [], 384⟩,
  ⟨(some 2), none, (.mov (.t 5)), [], [], 192⟩]) .ret)), none⟩
theorem ok28 : FnOk Try.prog 28 ir28 := .inl ⟨Try.f28, 0, Try.func28, by kernel_rfl, by kernel_rfl⟩
/-- slices.rotateRight[int] -/
def ir30 : IFun := ⟨2, 10, [], (.reg false [⟨(some 4), none, (.mov (.t 0)), [], [], 320⟩,
  ⟨(some 5), none, (.mov (.t 0)), [], [], 384⟩,
  ⟨(some 6), none, (.len false (.t 5)), [], [], 448⟩,
  ⟨(some 7), none, (.mov (.t 1)), [], [], 512⟩,
  ⟨(some 8), none, (.bin .sub (.t 6) (.t 7)), [], [], 576⟩,
  ⟨(some 9), none, (.call 34 [(.t 4), (.t 8)]), [], [], 640⟩]), none⟩
theorem ok30 : FnOk Try.prog 30 ir30 := .inl ⟨Try.f30, 0, Try.func30, by kernel_rfl, by kernel_rfl⟩
/-- slices.IndexFunc[[]int,int] -/
def lp31_0 : IC := (.seq (.reg false [⟨(some 9), none, (.bin .lss (.t 8) (.t 7)), [], [], 640⟩]) (.seq (.cond (.t 9) .skip (.exit 0)) (.seq (.block 1 (.seq (.reg false [⟨(some 10), none, (.mov (.t 8)), [], [], 704⟩,
  ⟨(some 5), none, (.mov (.t 10)), [], [], 384⟩]) (.seq (.reg false [⟨(some 11), none, (.mov (.t 1)), [], [], 768⟩,
  ⟨(some 12), none, (.mov (.t 0)), [], [], 832⟩,
  ⟨(some 13), none, (.mov (.t 5)), [], [], 896⟩,
  ⟨(some 14), none, (.iaL 1 (.t 12) (.t 13)), [], [], 960⟩,
  ⟨(some 15), none, (.ld false 1 (.t 14)), [], [], 1024⟩,
  ⟨(some 16), none, (.callv (.t 11) [(.t 15)]), [], [], 1088⟩]) (.cond (.t 16) (.seq (.reg false [⟨(some 17), none, (.mov (.t 5)), [], [], 1152⟩,
  ⟨(some 4), none, (.mov (.t 17)), [], [], 320⟩]) .ret) .skip)))) (.reg false [⟨(some 18), none, (.bin .add (.t 8) (.c (.int .i64 1))), [], [], 1216⟩,
  ⟨(some 8), none, (.mov (.t 18)), [], [], 576⟩]))))
def ir31 : IFun := ⟨2, 19, [(.tmp 4)], (.seq (.reg false [⟨(some 4), none, (.mov (.c (.int .i64 0))), [], [], 320⟩]) (.seq (.seq (.reg false [⟨(some 6), none, (.mov (.t 0)), [], [], 448⟩,
  ⟨(some 7), none, (.len false (.t 6)), [], [], 512⟩,
  ⟨(some 8), none, (.mov (.c (.int .i64 0))), [], [], 576⟩]) (.block 0 (.loop lp31_0))) (.seq (.reg false [⟨(some 4), none, (.mov (.c (.int .i64 (-1)))), [], [], 320⟩]) .ret))), none⟩
theorem ok31 : FnOk Try.prog 31 ir31 := .inl ⟨Try.f31, 0, Try.func31, by kernel_rfl, by kernel_rfl⟩
/-- slices.Index[[]int,int] -/
def lp32_0 : IC := (.seq (.reg false [⟨(some 9), none, (.bin .lss (.t 8) (.t 7)), [], [], 640⟩]) (.seq (.cond (.t 9) .skip (.exit 0)) (.seq (.block 1 (.seq (.reg false [⟨(some 10), none, (.mov (.t 8)), [], [], 704⟩,
  ⟨(some 5), none, (.mov (.t 10)), [], [], 384⟩]) (.seq (.reg false [⟨(some 11), none, (.mov (.t 1)), [], [], 768⟩,
  ⟨(some 12), none, (.mov (.t 0)), [], [], 832⟩,
  ⟨(some 13), none, (.mov (.t 5)), [], [], 896⟩,
  ⟨(some 14), none, (.iaL 1 (.t 12) (.t 13)), [], [], 960⟩,
  ⟨(some 15), none, (.ld false 1 (.t 14)), [], [], 1024⟩,
  ⟨(some 16), none, (.bin .eql (.t 11) (.t 15)), [], [], 1088⟩]) (.cond (.t 16) (.seq (.reg false [⟨(some 17), none, (.mov (.t 5)), [], [], 1152⟩,
  ⟨(some 4), none, (.mov (.t 17)), [], [], 320⟩]) .ret) .skip)))) (.reg false [⟨(some 18), none, (.bin .add (.t 8) (.c (.int .i64 1))), [], [], 1216⟩,
  ⟨(some 8), none, (.mov (.t 18)), [], [], 576⟩]))))
def ir32 : IFun := ⟨2, 19, [(.tmp 4)], (.seq (.reg false [⟨(some 4), none, (.mov (.c (.int .i64 0))), [], [], 320⟩]) (.seq (.seq (.reg false [⟨(some 6), none, (.mov (.t 0)), [], [], 448⟩,
  ⟨(some 7), none, (.len false (.t 6)), [], [], 512⟩,
  ⟨(some 8), none, (.mov (.c (.int .i64 0))), [], [], 576⟩]) (.block 0 (.loop lp32_0))) (.seq (.reg false [⟨(some 4), none, (.mov (.c (.int .i64 (-1)))), [], [], 320⟩]) .ret))), none⟩
theorem ok32 : FnOk Try.prog 32 ir32 := .inl ⟨Try.f32, 0, Try.func32, by kernel_rfl, by kernel_rfl⟩
/-- cmp.isNaN[int] -/
def ir33 : IFun := ⟨1, 6, [(.tmp 2)], (.seq (.reg false [⟨(some 2), none, (.mov (.c (.bool false))), [], [], 192⟩]) (.seq (.reg false [⟨(some 3), none, (.mov (.t 0)), [], [], 256⟩,
  ⟨(some 4), none, (.mov (.t 0)), [], [], 320⟩,
  ⟨(some 5), none, (.bin .neq (.t 3) (.t 4)), [], [], 384⟩,
  ⟨(some 2), none, (.mov (.t 5)), [], [], 192⟩]) .ret)), none⟩
theorem ok33 : FnOk Try.prog 33 ir33 := .inl ⟨Try.f33, 0, Try.func33, by kernel_rfl, by kernel_rfl⟩
/-- slices.rotateLeft[int] -/
def ir34 : IFun := ⟨2, 14, [], (.seq (.reg false [⟨(some 4), none, (.mov (.t 0)), [], [], 320⟩,
  ⟨(some 5), none, (.mov (.t 1)), [], [], 384⟩,
  ⟨(some 6), none, (.slL 1 (.t 4) none (some (.t 5)) none), [], [], 448⟩,
  ⟨(some 7), none, (.call 35 [(.t 6)]), [], [], 512⟩]) (.seq (.reg false [⟨(some 8), none, (.mov (.t 0)), [], [], 576⟩,
  ⟨(some 9), none, (.mov (.t 1)), [], [], 640⟩,
  ⟨(some 10), none, (.slL 1 (.t 8) (some (.t 9)) none none), [], [], 704⟩,
  ⟨(some 11), none, (.call 35 [(.t 10)]), [], [], 768⟩]) (.reg false [⟨(some 12), none, (.mov (.t 0)), [], [], 832⟩,
  ⟨(some 13), none, (.call 35 [(.t 12)]), [], [], 896⟩]))), none⟩
theorem ok34 : FnOk Try.prog 34 ir34 := .inl ⟨Try.f34, 0, Try.func34, by kernel_rfl, by kernel_rfl⟩
/-- slices.Reverse[[]int,int] -/
def lp35_0 : IC := (.seq (.seq (.reg false [⟨(some 7), none, (.mov (.t 2)), [], [], 512⟩,
  ⟨(some 8), none, (.mov (.t 3)), [], [], 576⟩,
  ⟨(some 9), none, (.bin .lss (.t 7) (.t 8)), [], [], 640⟩]) (.cond (.t 9) .skip (.exit 0))) (.seq (.block 1 (.reg true [⟨(some 14), none, (.mov (.t 0)), [], [], 960⟩,
  ⟨(some 15), none, (.mov (.t 2)), [], [], 1024⟩,
  ⟨(some 16), none, (.mov (.t 0)), [], [], 1088⟩,
  ⟨(some 17), none, (.mov (.t 3)), [], [], 1152⟩,
  ⟨(some 18), none, (.mov (.t 0)), [], [], 1216⟩,
  ⟨(some 19), none, (.mov (.t 3)), [], [], 1280⟩,
  ⟨(some 20), none, (.iaL 1 (.t 18) (.t 19)), [4, 5], [4, 5], 1344⟩,
  ⟨(some 21), none, (.ld false 1 (.t 20)), [6], [6, 4, 5], 1408⟩,
  ⟨(some 22), none, (.mov (.t 0)), [], [], 1472⟩,
  ⟨(some 23), none, (.mov (.t 2)), [], [], 1536⟩,
  ⟨(some 24), none, (.iaL 1 (.t 22) (.t 23)), [8, 9], [8, 9], 1600⟩,
  ⟨(some 25), none, (.ld false 1 (.t 24)), [10], [10, 8, 9], 1664⟩,
  ⟨(some 26), none, (.iaL 1 (.t 14) (.t 15)), [0, 1, 0, 1, 4, 5, 6, 7, 11], [0, 1, 4, 5, 6, 7, 11, 10, 8, 9], 1728⟩,
  ⟨none, none, (.st false 1 (.t 26) (.t 21)), [12, 7, 0, 1, 4, 5, 6, 7, 11], [12, 7, 0, 1, 4, 5, 6, 11, 10, 8, 9], 64⟩,
  ⟨(some 27), none, (.iaL 1 (.t 16) (.t 17)), [2, 3, 0, 1, 2, 3, 4, 5, 6, 7, 8, 9, 10, 11, 12, 13], [2, 3, 0, 1, 4, 5, 6, 7, 8, 9, 10, 11, 12, 13], 1792⟩,
  ⟨none, none, (.st false 1 (.t 27) (.t 25)), [14, 11, 13, 0, 1, 2, 3, 4, 5, 6, 7, 8, 9, 10, 11, 12, 13], [14, 11, 13, 0, 1, 2, 3, 4, 5, 6, 7, 8, 9, 10, 12], 64⟩])) (.reg false [⟨(some 10), none, (.mov (.t 2)), [], [], 704⟩,
  ⟨(some 11), none, (.bin .add (.t 10) (.c (.int .i64 1))), [], [], 768⟩,
  ⟨(some 12), none, (.mov (.t 3)), [], [], 832⟩,
  ⟨(some 13), none, (.bin .sub (.t 12) (.c (.int .i64 1))), [], [], 896⟩,
  ⟨(some 2), none, (.mov (.t 11)), [], [], 192⟩,
  ⟨(some 3), none, (.mov (.t 13)), [], [], 256⟩])))
def ir35 : IFun := ⟨1, 28, [], (.seq (.reg false [⟨(some 4), none, (.mov (.t 0)), [], [], 320⟩,
  ⟨(some 5), none, (.len false (.t 4)), [], [], 384⟩,
  ⟨(some 6), none, (.bin .sub (.t 5) (.c (.int .i64 1))), [], [], 448⟩,
  ⟨(some 2), none, (.mov (.c (.int .i64 0))), [], [], 192⟩,
  ⟨(some 3), none, (.mov (.t 6)), [], [], 256⟩]) (.block 0 (.loop lp35_0))), none⟩
theorem ok35 : FnOk Try.prog 35 ir35 := .inl ⟨Try.f35, 0, Try.func35, by kernel_rfl, by kernel_rfl⟩
def fnsL : List (Nat × Option (List Mode) × IFun) := [(2, some [], ir2),
  (3, some [.bor, .bor, .bor], ir3),
  (4, some [.bor, .bor, .bor], ir4),
  (5, some [.bor, .bor], ir5),
  (6, some [.bor, .bor], ir6),
  (7, some [.bor], ir7),
  (8, some [], ir8),
  (9, some [.bor, .bor], ir9),
  (10, some [.bor], ir10),
  (11, some [.bor], ir11),
  (12, some [.bor, .bor], ir12),
  (13, some [.bor, .bor], ir13),
  (14, some [.bor, .bor], ir14),
  (15, some [.bor, .bor], ir15),
  (16, some [.bor, .bor], ir16),
  (17, some [.bor, .bor], ir17),
  (18, some [.bor], ir18),
  (19, some [.bor, .bor], ir19),
  (20, some [.bor], ir20),
  (21, some [.bor], ir21),
  (22, some [.bor, .bor], ir22),
  (23, some [.mov, .bor, .mov], ir23),
  (24, some [.mov, .bor], ir24),
  (25, some [.bor, .bor], ir25),
  (26, some [.bor, .bor], ir26),
  (27, some [.bor, .bor], ir27),
  (28, some [.bor], ir28),
  (30, some [.bor, .bor], ir30),
  (31, some [.bor, .bor], ir31),
  (32, some [.bor, .bor], ir32),
  (33, some [.bor], ir33),
  (34, some [.bor, .bor], ir34),
  (35, some [.bor], ir35)]
def fns : Fns := fun f => (fnsL.find? fun q => q.1 == f).map (·.2)
theorem fnsL_ok : ∀ q ∈ fnsL, FnOk Try.prog q.1 q.2.2 := by
  unfold fnsL
  repeat rw [List.forall_mem_cons]
  exact ⟨ok2, ok3, ok4, ok5, ok6, ok7, ok8, ok9, ok10, ok11, ok12, ok13, ok14, ok15, ok16, ok17, ok18, ok19, ok20, ok21, ok22, ok23, ok24, ok25, ok26, ok27, ok28, ok30, ok31, ok32, ok33, ok34, ok35, by simp⟩
theorem fns_ok (f : Nat) (p : Option (List Mode) × IFun) (h : fns f = some p) : FnOk Try.prog f p.2 := by
  obtain ⟨q, h1, rfl⟩ := Option.map_eq_some_iff.1 h
  have h2 := List.find?_some h1
  rw [← beq_iff_eq.1 h2]
  exact fnsL_ok q (List.mem_of_find?_eq_some h1)
theorem mixed : Try.prog.follows .mixedOrders = true := by kernel_rfl
theorem laid : laidOutB Try.prog = true := by kernel_rfl
theorem T_ok : TblOk Try.prog (tabW fns) := tabW_ok mixed fns_ok
variable {σ : Store} {base : Nat}
theorem at2 : fns 2 = some (some [], ir2) := rfl
@[go_sem] theorem call2 (vs : List V) : callV (tabW fns) σ base 2 vs = callP σ base [] vs (Gf fns 2) (passV σ [] vs) := callV_T at2 vs
@[go_sem] theorem callr2 (vs : List V) : callR (tabW fns) σ base 2 vs = outS σ (callP σ base [] vs (Gf fns 2) (passV σ [] vs)) := callR_T at2 vs
theorem at3 : fns 3 = some (some [.bor, .bor, .bor], ir3) := rfl
@[go_sem] theorem call3 (vs : List V) : callV (tabW fns) σ base 3 vs = callP σ base [.bor, .bor, .bor] vs (Gf fns 3) (passV σ [.bor, .bor, .bor] vs) := callV_T at3 vs
@[go_sem] theorem callr3 (vs : List V) : callR (tabW fns) σ base 3 vs = outS σ (callP σ base [.bor, .bor, .bor] vs (Gf fns 3) (passV σ [.bor, .bor, .bor] vs)) := callR_T at3 vs
theorem at4 : fns 4 = some (some [.bor, .bor, .bor], ir4) := rfl
@[go_sem] theorem call4 (vs : List V) : callV (tabW fns) σ base 4 vs = callP σ base [.bor, .bor, .bor] vs (Gf fns 4) (passV σ [.bor, .bor, .bor] vs) := callV_T at4 vs
@[go_sem] theorem callr4 (vs : List V) : callR (tabW fns) σ base 4 vs = outS σ (callP σ base [.bor, .bor, .bor] vs (Gf fns 4) (passV σ [.bor, .bor, .bor] vs)) := callR_T at4 vs
theorem at5 : fns 5 = some (some [.bor, .bor], ir5) := rfl
@[go_sem] theorem call5 (vs : List V) : callV (tabW fns) σ base 5 vs = callP σ base [.bor, .bor] vs (Gf fns 5) (passV σ [.bor, .bor] vs) := callV_T at5 vs
@[go_sem] theorem callr5 (vs : List V) : callR (tabW fns) σ base 5 vs = outS σ (callP σ base [.bor, .bor] vs (Gf fns 5) (passV σ [.bor, .bor] vs)) := callR_T at5 vs
theorem at6 : fns 6 = some (some [.bor, .bor], ir6) := rfl
@[go_sem] theorem call6 (vs : List V) : callV (tabW fns) σ base 6 vs = callP σ base [.bor, .bor] vs (Gf fns 6) (passV σ [.bor, .bor] vs) := callV_T at6 vs
@[go_sem] theorem callr6 (vs : List V) : callR (tabW fns) σ base 6 vs = outS σ (callP σ base [.bor, .bor] vs (Gf fns 6) (passV σ [.bor, .bor] vs)) := callR_T at6 vs
theorem at7 : fns 7 = some (some [.bor], ir7) := rfl
@[go_sem] theorem call7 (vs : List V) : callV (tabW fns) σ base 7 vs = callP σ base [.bor] vs (Gf fns 7) (passV σ [.bor] vs) := callV_T at7 vs
@[go_sem] theorem callr7 (vs : List V) : callR (tabW fns) σ base 7 vs = outS σ (callP σ base [.bor] vs (Gf fns 7) (passV σ [.bor] vs)) := callR_T at7 vs
theorem at8 : fns 8 = some (some [], ir8) := rfl
@[go_sem] theorem call8 (vs : List V) : callV (tabW fns) σ base 8 vs = callP σ base [] vs (Gf fns 8) (passV σ [] vs) := callV_T at8 vs
@[go_sem] theorem callr8 (vs : List V) : callR (tabW fns) σ base 8 vs = outS σ (callP σ base [] vs (Gf fns 8) (passV σ [] vs)) := callR_T at8 vs
theorem at9 : fns 9 = some (some [.bor, .bor], ir9) := rfl
@[go_sem] theorem call9 (vs : List V) : callV (tabW fns) σ base 9 vs = callP σ base [.bor, .bor] vs (Gf fns 9) (passV σ [.bor, .bor] vs) := callV_T at9 vs
@[go_sem] theorem callr9 (vs : List V) : callR (tabW fns) σ base 9 vs = outS σ (callP σ base [.bor, .bor] vs (Gf fns 9) (passV σ [.bor, .bor] vs)) := callR_T at9 vs
theorem at10 : fns 10 = some (some [.bor], ir10) := rfl
@[go_sem] theorem call10 (vs : List V) : callV (tabW fns) σ base 10 vs = callP σ base [.bor] vs (Gf fns 10) (passV σ [.bor] vs) := callV_T at10 vs
@[go_sem] theorem callr10 (vs : List V) : callR (tabW fns) σ base 10 vs = outS σ (callP σ base [.bor] vs (Gf fns 10) (passV σ [.bor] vs)) := callR_T at10 vs
theorem at11 : fns 11 = some (some [.bor], ir11) := rfl
@[go_sem] theorem call11 (vs : List V) : callV (tabW fns) σ base 11 vs = callP σ base [.bor] vs (Gf fns 11) (passV σ [.bor] vs) := callV_T at11 vs
@[go_sem] theorem callr11 (vs : List V) : callR (tabW fns) σ base 11 vs = outS σ (callP σ base [.bor] vs (Gf fns 11) (passV σ [.bor] vs)) := callR_T at11 vs
theorem at12 : fns 12 = some (some [.bor, .bor], ir12) := rfl
@[go_sem] theorem call12 (vs : List V) : callV (tabW fns) σ base 12 vs = callP σ base [.bor, .bor] vs (Gf fns 12) (passV σ [.bor, .bor] vs) := callV_T at12 vs
@[go_sem] theorem callr12 (vs : List V) : callR (tabW fns) σ base 12 vs = outS σ (callP σ base [.bor, .bor] vs (Gf fns 12) (passV σ [.bor, .bor] vs)) := callR_T at12 vs
theorem at13 : fns 13 = some (some [.bor, .bor], ir13) := rfl
@[go_sem] theorem call13 (vs : List V) : callV (tabW fns) σ base 13 vs = callP σ base [.bor, .bor] vs (Gf fns 13) (passV σ [.bor, .bor] vs) := callV_T at13 vs
@[go_sem] theorem callr13 (vs : List V) : callR (tabW fns) σ base 13 vs = outS σ (callP σ base [.bor, .bor] vs (Gf fns 13) (passV σ [.bor, .bor] vs)) := callR_T at13 vs
theorem at14 : fns 14 = some (some [.bor, .bor], ir14) := rfl
@[go_sem] theorem call14 (vs : List V) : callV (tabW fns) σ base 14 vs = callP σ base [.bor, .bor] vs (Gf fns 14) (passV σ [.bor, .bor] vs) := callV_T at14 vs
@[go_sem] theorem callr14 (vs : List V) : callR (tabW fns) σ base 14 vs = outS σ (callP σ base [.bor, .bor] vs (Gf fns 14) (passV σ [.bor, .bor] vs)) := callR_T at14 vs
theorem at15 : fns 15 = some (some [.bor, .bor], ir15) := rfl
@[go_sem] theorem call15 (vs : List V) : callV (tabW fns) σ base 15 vs = callP σ base [.bor, .bor] vs (Gf fns 15) (passV σ [.bor, .bor] vs) := callV_T at15 vs
@[go_sem] theorem callr15 (vs : List V) : callR (tabW fns) σ base 15 vs = outS σ (callP σ base [.bor, .bor] vs (Gf fns 15) (passV σ [.bor, .bor] vs)) := callR_T at15 vs
theorem at16 : fns 16 = some (some [.bor, .bor], ir16) := rfl
@[go_sem] theorem call16 (vs : List V) : callV (tabW fns) σ base 16 vs = callP σ base [.bor, .bor] vs (Gf fns 16) (passV σ [.bor, .bor] vs) := callV_T at16 vs
@[go_sem] theorem callr16 (vs : List V) : callR (tabW fns) σ base 16 vs = outS σ (callP σ base [.bor, .bor] vs (Gf fns 16) (passV σ [.bor, .bor] vs)) := callR_T at16 vs
theorem at17 : fns 17 = some (some [.bor, .bor], ir17) := rfl
@[go_sem] theorem call17 (vs : List V) : callV (tabW fns) σ base 17 vs = callP σ base [.bor, .bor] vs (Gf fns 17) (passV σ [.bor, .bor] vs) := callV_T at17 vs
@[go_sem] theorem callr17 (vs : List V) : callR (tabW fns) σ base 17 vs = outS σ (callP σ base [.bor, .bor] vs (Gf fns 17) (passV σ [.bor, .bor] vs)) := callR_T at17 vs
theorem at18 : fns 18 = some (some [.bor], ir18) := rfl
@[go_sem] theorem call18 (vs : List V) : callV (tabW fns) σ base 18 vs = callP σ base [.bor] vs (Gf fns 18) (passV σ [.bor] vs) := callV_T at18 vs
@[go_sem] theorem callr18 (vs : List V) : callR (tabW fns) σ base 18 vs = outS σ (callP σ base [.bor] vs (Gf fns 18) (passV σ [.bor] vs)) := callR_T at18 vs
theorem at19 : fns 19 = some (some [.bor, .bor], ir19) := rfl
@[go_sem] theorem call19 (vs : List V) : callV (tabW fns) σ base 19 vs = callP σ base [.bor, .bor] vs (Gf fns 19) (passV σ [.bor, .bor] vs) := callV_T at19 vs
@[go_sem] theorem callr19 (vs : List V) : callR (tabW fns) σ base 19 vs = outS σ (callP σ base [.bor, .bor] vs (Gf fns 19) (passV σ [.bor, .bor] vs)) := callR_T at19 vs
theorem at20 : fns 20 = some (some [.bor], ir20) := rfl
@[go_sem] theorem call20 (vs : List V) : callV (tabW fns) σ base 20 vs = callP σ base [.bor] vs (Gf fns 20) (passV σ [.bor] vs) := callV_T at20 vs
@[go_sem] theorem callr20 (vs : List V) : callR (tabW fns) σ base 20 vs = outS σ (callP σ base [.bor] vs (Gf fns 20) (passV σ [.bor] vs)) := callR_T at20 vs
theorem at21 : fns 21 = some (some [.bor], ir21) := rfl
@[go_sem] theorem call21 (vs : List V) : callV (tabW fns) σ base 21 vs = callP σ base [.bor] vs (Gf fns 21) (passV σ [.bor] vs) := callV_T at21 vs
@[go_sem] theorem callr21 (vs : List V) : callR (tabW fns) σ base 21 vs = outS σ (callP σ base [.bor] vs (Gf fns 21) (passV σ [.bor] vs)) := callR_T at21 vs
theorem at22 : fns 22 = some (some [.bor, .bor], ir22) := rfl
@[go_sem] theorem call22 (vs : List V) : callV (tabW fns) σ base 22 vs = callP σ base [.bor, .bor] vs (Gf fns 22) (passV σ [.bor, .bor] vs) := callV_T at22 vs
@[go_sem] theorem callr22 (vs : List V) : callR (tabW fns) σ base 22 vs = outS σ (callP σ base [.bor, .bor] vs (Gf fns 22) (passV σ [.bor, .bor] vs)) := callR_T at22 vs
theorem hand23 : Gf fns 23 = insG 1 8 := Gf_hand (ms := [.mov, .bor, .mov]) rfl
theorem at23 : fns 23 = some (some [.mov, .bor, .mov], ir23) := rfl
@[go_sem] theorem call23 (vs : List V) : callV (tabW fns) σ base 23 vs = callP σ base [.mov, .bor, .mov] vs (Gf fns 23) (passV σ [.mov, .bor, .mov] vs) := callV_T at23 vs
@[go_sem] theorem callr23 (vs : List V) : callR (tabW fns) σ base 23 vs = outS σ (callP σ base [.mov, .bor, .mov] vs (Gf fns 23) (passV σ [.mov, .bor, .mov] vs)) := callR_T at23 vs
theorem at24 : fns 24 = some (some [.mov, .bor], ir24) := rfl
@[go_sem] theorem call24 (vs : List V) : callV (tabW fns) σ base 24 vs = callP σ base [.mov, .bor] vs (Gf fns 24) (passV σ [.mov, .bor] vs) := callV_T at24 vs
@[go_sem] theorem callr24 (vs : List V) : callR (tabW fns) σ base 24 vs = outS σ (callP σ base [.mov, .bor] vs (Gf fns 24) (passV σ [.mov, .bor] vs)) := callR_T at24 vs
theorem at25 : fns 25 = some (some [.bor, .bor], ir25) := rfl
@[go_sem] theorem call25 (vs : List V) : callV (tabW fns) σ base 25 vs = callP σ base [.bor, .bor] vs (Gf fns 25) (passV σ [.bor, .bor] vs) := callV_T at25 vs
@[go_sem] theorem callr25 (vs : List V) : callR (tabW fns) σ base 25 vs = outS σ (callP σ base [.bor, .bor] vs (Gf fns 25) (passV σ [.bor, .bor] vs)) := callR_T at25 vs
theorem at26 : fns 26 = some (some [.bor, .bor], ir26) := rfl
@[go_sem] theorem call26 (vs : List V) : callV (tabW fns) σ base 26 vs = callP σ base [.bor, .bor] vs (Gf fns 26) (passV σ [.bor, .bor] vs) := callV_T at26 vs
@[go_sem] theorem callr26 (vs : List V) : callR (tabW fns) σ base 26 vs = outS σ (callP σ base [.bor, .bor] vs (Gf fns 26) (passV σ [.bor, .bor] vs)) := callR_T at26 vs
theorem at27 : fns 27 = some (some [.bor, .bor], ir27) := rfl
@[go_sem] theorem call27 (vs : List V) : callV (tabW fns) σ base 27 vs = callP σ base [.bor, .bor] vs (Gf fns 27) (passV σ [.bor, .bor] vs) := callV_T at27 vs
@[go_sem] theorem callr27 (vs : List V) : callR (tabW fns) σ base 27 vs = outS σ (callP σ base [.bor, .bor] vs (Gf fns 27) (passV σ [.bor, .bor] vs)) := callR_T at27 vs
theorem at28 : fns 28 = some (some [.bor], ir28) := rfl
@[go_sem] theorem call28 (vs : List V) : callV (tabW fns) σ base 28 vs = callP σ base [.bor] vs (Gf fns 28) (passV σ [.bor] vs) := callV_T at28 vs
@[go_sem] theorem callr28 (vs : List V) : callR (tabW fns) σ base 28 vs = outS σ (callP σ base [.bor] vs (Gf fns 28) (passV σ [.bor] vs)) := callR_T at28 vs
theorem at30 : fns 30 = some (some [.bor, .bor], ir30) := rfl
@[go_sem] theorem call30 (vs : List V) : callV (tabW fns) σ base 30 vs = callP σ base [.bor, .bor] vs (Gf fns 30) (passV σ [.bor, .bor] vs) := callV_T at30 vs
@[go_sem] theorem callr30 (vs : List V) : callR (tabW fns) σ base 30 vs = outS σ (callP σ base [.bor, .bor] vs (Gf fns 30) (passV σ [.bor, .bor] vs)) := callR_T at30 vs
theorem at31 : fns 31 = some (some [.bor, .bor], ir31) := rfl
@[go_sem] theorem call31 (vs : List V) : callV (tabW fns) σ base 31 vs = callP σ base [.bor, .bor] vs (Gf fns 31) (passV σ [.bor, .bor] vs) := callV_T at31 vs
@[go_sem] theorem callr31 (vs : List V) : callR (tabW fns) σ base 31 vs = outS σ (callP σ base [.bor, .bor] vs (Gf fns 31) (passV σ [.bor, .bor] vs)) := callR_T at31 vs
theorem at32 : fns 32 = some (some [.bor, .bor], ir32) := rfl
@[go_sem] theorem call32 (vs : List V) : callV (tabW fns) σ base 32 vs = callP σ base [.bor, .bor] vs (Gf fns 32) (passV σ [.bor, .bor] vs) := callV_T at32 vs
@[go_sem] theorem callr32 (vs : List V) : callR (tabW fns) σ base 32 vs = outS σ (callP σ base [.bor, .bor] vs (Gf fns 32) (passV σ [.bor, .bor] vs)) := callR_T at32 vs
theorem at33 : fns 33 = some (some [.bor], ir33) := rfl
@[go_sem] theorem call33 (vs : List V) : callV (tabW fns) σ base 33 vs = callP σ base [.bor] vs (Gf fns 33) (passV σ [.bor] vs) := callV_T at33 vs
@[go_sem] theorem callr33 (vs : List V) : callR (tabW fns) σ base 33 vs = outS σ (callP σ base [.bor] vs (Gf fns 33) (passV σ [.bor] vs)) := callR_T at33 vs
theorem at34 : fns 34 = some (some [.bor, .bor], ir34) := rfl
@[go_sem] theorem call34 (vs : List V) : callV (tabW fns) σ base 34 vs = callP σ base [.bor, .bor] vs (Gf fns 34) (passV σ [.bor, .bor] vs) := callV_T at34 vs
@[go_sem] theorem callr34 (vs : List V) : callR (tabW fns) σ base 34 vs = outS σ (callP σ base [.bor, .bor] vs (Gf fns 34) (passV σ [.bor, .bor] vs)) := callR_T at34 vs
theorem at35 : fns 35 = some (some [.bor], ir35) := rfl
@[go_sem] theorem call35 (vs : List V) : callV (tabW fns) σ base 35 vs = callP σ base [.bor] vs (Gf fns 35) (passV σ [.bor] vs) := callV_T at35 vs
@[go_sem] theorem callr35 (vs : List V) : callR (tabW fns) σ base 35 vs = outS σ (callP σ base [.bor] vs (Gf fns 35) (passV σ [.bor] vs)) := callR_T at35 vs
end Go.Vm.Ytihoclophfldjaa
