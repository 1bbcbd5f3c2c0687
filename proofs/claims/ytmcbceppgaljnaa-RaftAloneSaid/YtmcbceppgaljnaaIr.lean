/- Written by wip/vm/irtab.py: the functions in the machine's form, each checked, and their table. -/
import Derived.Test.YtmcbceppgaljnaaVmBits
import Derived.Test.YtmcbceppgaljnaaProg
import Derived.Test.YtmcbceppgaljnaaIra
set_option linter.unusedSectionVars false
set_option linter.unusedSimpArgs false
set_option linter.unusedVariables false
namespace Go.Vm.Ytmcbceppgaljnaa
open Go.Proofs
/-- (*muniment/raft.Node).term -/
def ir35 : IFun := ⟨2, 49, [(.tmp 4), (.tmp 5)], (.seq (.reg false [⟨(some 4), none, (.mov (.c (.int .i64 0))), [], [], 320⟩,
  ⟨(some 5), none, (.mov (.c (.bool false))), [], [], 384⟩]) (.seq (.block 0 (.seq (.reg false [⟨(some 7), none, (.mov (.t 1)), [], [], 512⟩,
  ⟨(some 8), none, (.mov (.t 0)), [], [], 576⟩,
  ⟨(some 9), none, (.chk (.t 8)), [], [], 640⟩,
  ⟨(some 10), none, (.fad 1 (.t 9)), [], [], 704⟩,
  ⟨(some 11), none, (.fad 2 (.t 10)), [], [], 768⟩,
  ⟨(some 12), none, (.ld false 1 (.t 11)), [], [], 832⟩,
  ⟨(some 13), none, (.bin .eql (.t 7) (.t 12)), [], [], 896⟩,
  ⟨(some 6), none, (.mov (.t 13)), [], [], 448⟩]) (.cond (.t 6) (.seq (.reg false [⟨(some 14), none, (.mov (.t 0)), [], [], 960⟩,
  ⟨(some 15), none, (.chk (.t 14)), [], [], 1024⟩,
  ⟨(some 16), none, (.fad 1 (.t 15)), [], [], 1088⟩,
  ⟨(some 17), none, (.fad 3 (.t 16)), [], [], 1152⟩,
  ⟨(some 18), none, (.ld false 1 (.t 17)), [], [], 1216⟩,
  ⟨(some 4), none, (.mov (.t 18)), [], [], 320⟩,
  ⟨(some 5), none, (.mov (.c (.bool true))), [], [], 384⟩]) .ret) (.seq (.reg false [⟨(some 20), none, (.mov (.t 1)), [], [], 1344⟩,
  ⟨(some 21), none, (.mov (.t 0)), [], [], 1408⟩,
  ⟨(some 22), none, (.chk (.t 21)), [], [], 1472⟩,
  ⟨(some 23), none, (.fad 1 (.t 22)), [], [], 1536⟩,
  ⟨(some 24), none, (.fad 2 (.t 23)), [], [], 1600⟩,
  ⟨(some 25), none, (.ld false 1 (.t 24)), [], [], 1664⟩,
  ⟨(some 26), none, (.bin .lss (.t 20) (.t 25)), [], [], 1728⟩,
  ⟨(some 27), none, (.mov (.t 26)), [], [], 1792⟩,
  ⟨(some 28), (some (27, false)), (.mov (.t 1)), [], [], 1856⟩,
  ⟨(some 29), (some (27, false)), (.mov (.t 0)), [], [], 1920⟩,
  ⟨(some 30), (some (27, false)), (.call 17 [(.t 29)]), [], [], 1984⟩,
  ⟨(some 31), (some (27, false)), (.bin .gtr (.t 28) (.t 30)), [], [], 2048⟩,
  ⟨(some 32), none, (.pick (.t 27) (.c (.bool true)) (.t 31)), [], [], 2112⟩,
  ⟨(some 19), none, (.mov (.t 32)), [], [], 1280⟩]) (.cond (.t 19) (.seq (.reg false [⟨(some 4), none, (.mov (.c (.int .i64 0))), [], [], 320⟩,
  ⟨(some 5), none, (.mov (.c (.bool false))), [], [], 384⟩]) .ret) .skip))))) (.seq (.reg true [⟨(some 33), none, (.mov (.t 0)), [], [], 2176⟩,
  ⟨(some 34), none, (.chk (.t 33)), [0], [0], 2240⟩,
  ⟨(some 35), none, (.fad 1 (.t 34)), [1], [1, 0], 2304⟩,
  ⟨(some 36), none, (.fad 6 (.t 35)), [2], [2, 1, 0], 2368⟩,
  ⟨(some 37), none, (.ld false 1 (.t 36)), [3], [3, 2, 1, 0], 2432⟩,
  ⟨(some 38), none, (.mov (.t 1)), [], [], 2496⟩,
  ⟨(some 39), none, (.mov (.t 0)), [], [], 2560⟩,
  ⟨(some 40), none, (.chk (.t 39)), [6], [6], 2624⟩,
  ⟨(some 41), none, (.fad 1 (.t 40)), [7], [7, 6], 2688⟩,
  ⟨(some 42), none, (.fad 2 (.t 41)), [8], [8, 7, 6], 2752⟩,
  ⟨(some 43), none, (.ld false 1 (.t 42)), [9], [9, 8, 7, 6], 2816⟩,
  ⟨(some 44), none, (.bin .sub (.t 38) (.t 43)), [5, 10], [5, 10, 9, 8, 7, 6], 2880⟩,
  ⟨(some 45), none, (.bin .sub (.t 44) (.c (.int .i64 1))), [11], [11, 5, 10, 9, 8, 7, 6], 2944⟩,
  ⟨(some 46), none, (.iaL 4 (.t 37) (.t 45)), [4, 12], [4, 12, 3, 2, 1, 0, 11, 5, 10, 9, 8, 7, 6], 3008⟩,
  ⟨(some 47), none, (.fad 0 (.t 46)), [13], [13, 4, 12, 3, 2, 1, 0, 11, 5, 10, 9, 8, 7, 6], 3072⟩,
  ⟨(some 48), none, (.ld false 1 (.t 47)), [14], [14, 13, 4, 12, 3, 2, 1, 0, 11, 5, 10, 9, 8, 7, 6], 3136⟩,
  ⟨(some 4), none, (.mov (.t 48)), [15, 0, 1, 2, 3, 4, 5, 6, 7, 8, 9, 10, 11, 12, 13, 14, 15], [15, 0, 1, 2, 3, 4, 5, 6, 7, 8, 9, 10, 11, 12, 13, 14], 320⟩,
  ⟨(some 5), none, (.mov (.c (.bool true))), [16, 0, 1, 2, 3, 4, 5, 6, 7, 8, 9, 10, 11, 12, 13, 14, 15, 16], [16, 0, 1, 2, 3, 4, 5, 6, 7, 8, 9, 10, 11, 12, 13, 14, 15], 384⟩]) .ret))), none⟩
theorem ok35 : FnOk Try.prog 35 ir35 := .inl ⟨Try.f35, 0, Try.func35, by kernel_rfl, by kernel_rfl⟩
/-- (*muniment/raft.Node).advance -/
def lp36_1 : IC := (.seq (.reg false [⟨(some 42), none, (.nxt (.t 41)), [], [], 2752⟩,
  ⟨(some 43), none, (.ext 0 (.t 42)), [], [], 2816⟩]) (.seq (.cond (.t 43) .skip (.exit 2)) (.block 3 (.seq (.reg false [⟨(some 44), none, (.ent (.t 41)), [], [], 2880⟩,
  ⟨(some 45), none, (.ext 0 (.t 44)), [], [], 2944⟩,
  ⟨(some 46), none, (.ext 1 (.t 44)), [], [], 3008⟩,
  ⟨(some 6), none, (.mov (.t 45)), [], [], 448⟩,
  ⟨(some 7), none, (.mov (.t 46)), [], [], 512⟩]) (.reg false [⟨(some 47), none, (.mov (.t 5)), [], [], 3072⟩,
  ⟨(some 48), none, (.mov (.t 6)), [], [], 3136⟩,
  ⟨(some 49), none, (.mov (.t 5)), [], [], 3200⟩,
  ⟨(some 50), none, (.mov (.t 6)), [], [], 3264⟩,
  ⟨(some 51), none, (.mget (.one .i) false (.bool false) (.t 49) (.t 50)), [], [], 3328⟩,
  ⟨(some 52), none, (.mov (.t 51)), [], [], 3392⟩,
  ⟨(some 53), (some (52, false)), (.mov (.t 7)), [], [], 3456⟩,
  ⟨(some 54), (some (52, false)), (.mov (.t 2)), [], [], 3520⟩,
  ⟨(some 55), (some (52, false)), (.bin .geq (.t 53) (.t 54)), [], [], 3584⟩,
  ⟨(some 56), none, (.pick (.t 52) (.c (.bool true)) (.t 55)), [], [], 3648⟩,
  ⟨none, none, (.mset (.one .i) (.t 47) (.t 48) (.t 56)), [], [], 64⟩])))))
def lp36_0 : IC := (.seq (.seq (.reg false [⟨(some 10), none, (.mov (.t 2)), [], [], 704⟩,
  ⟨(some 11), none, (.mov (.t 0)), [], [], 768⟩,
  ⟨(some 12), none, (.chk (.t 11)), [], [], 832⟩,
  ⟨(some 13), none, (.fad 10 (.t 12)), [], [], 896⟩,
  ⟨(some 14), none, (.ld false 1 (.t 13)), [], [], 960⟩,
  ⟨(some 15), none, (.bin .gtr (.t 10) (.t 14)), [], [], 1024⟩]) (.cond (.t 15) .skip (.exit 0))) (.seq (.block 1 (.seq (.seq (.reg false [⟨(some 19), none, (.mov (.t 0)), [], [], 1280⟩,
  ⟨(some 20), none, (.mov (.t 2)), [], [], 1344⟩,
  ⟨(some 21), none, (.call 35 [(.t 19), (.t 20)]), [], [], 1408⟩,
  ⟨(some 18), none, (.mov (.t 21)), [], [], 1216⟩,
  ⟨(some 22), none, (.ext 0 (.t 18)), [], [], 1472⟩,
  ⟨(some 23), none, (.ext 1 (.t 18)), [], [], 1536⟩,
  ⟨(some 3), none, (.mov (.t 22)), [], [], 256⟩,
  ⟨(some 4), none, (.mov (.t 23)), [], [], 320⟩]) (.seq (.reg false [⟨(some 24), none, (.mov (.t 3)), [], [], 1600⟩,
  ⟨(some 25), none, (.mov (.t 0)), [], [], 1664⟩,
  ⟨(some 26), none, (.chk (.t 25)), [], [], 1728⟩,
  ⟨(some 27), none, (.fad 1 (.t 26)), [], [], 1792⟩,
  ⟨(some 28), none, (.fad 0 (.t 27)), [], [], 1856⟩,
  ⟨(some 29), none, (.ld false 1 (.t 28)), [], [], 1920⟩,
  ⟨(some 30), none, (.bin .neq (.t 24) (.t 29)), [], [], 1984⟩]) (.cond (.t 30) .ret .skip))) (.seq (.reg false [⟨(some 31), none, .mkm, [], [], 2048⟩,
  ⟨(some 32), none, (.mov (.t 0)), [], [], 2112⟩,
  ⟨(some 33), none, (.chk (.t 32)), [], [], 2176⟩,
  ⟨(some 34), none, (.fad 0 (.t 33)), [], [], 2240⟩,
  ⟨(some 35), none, (.ld false 1 (.t 34)), [], [], 2304⟩,
  ⟨none, none, (.mset (.one .i) (.t 31) (.t 35) (.c (.bool true))), [], [], 64⟩,
  ⟨(some 36), none, (.mov (.t 31)), [], [], 2368⟩,
  ⟨(some 5), none, (.mov (.t 36)), [], [], 384⟩]) (.seq (.seq (.reg false [⟨(some 37), none, (.mov (.t 0)), [], [], 2432⟩,
  ⟨(some 38), none, (.chk (.t 37)), [], [], 2496⟩,
  ⟨(some 39), none, (.fad 17 (.t 38)), [], [], 2560⟩,
  ⟨(some 40), none, (.ld false 1 (.t 39)), [], [], 2624⟩,
  ⟨(some 41), none, (.rng (.t 40)), [], [], 2688⟩]) (.block 2 (.loop lp36_1))) (.seq (.reg false [⟨(some 57), none, (.mov (.t 0)), [], [], 3712⟩,
  ⟨(some 58), none, (.call 24 [(.t 57)]), [], [], 3776⟩,
  ⟨(some 59), none, (.mov (.t 5)), [], [], 3840⟩,
  ⟨(some 60), none, (.call 33 [(.t 58), (.t 59)]), [], [], 3904⟩]) (.cond (.t 60) (.seq (.reg false [⟨(some 61), none, (.mov (.t 0)), [], [], 3968⟩,
  ⟨(some 62), none, (.mov (.t 2)), [], [], 4032⟩,
  ⟨(some 63), none, (.chk (.t 61)), [], [], 4096⟩,
  ⟨(some 64), none, (.fad 10 (.t 63)), [], [], 4160⟩,
  ⟨none, none, (.st false 1 (.t 64) (.t 62)), [], [], 64⟩]) .ret) .skip)))))) (.reg false [⟨(some 16), none, (.mov (.t 2)), [], [], 1088⟩,
  ⟨(some 17), none, (.bin .sub (.t 16) (.c (.int .i64 1))), [], [], 1152⟩,
  ⟨(some 2), none, (.mov (.t 17)), [], [], 192⟩])))
def ir36 : IFun := ⟨1, 65, [], (.seq (.reg false [⟨(some 8), none, (.mov (.t 0)), [], [], 576⟩,
  ⟨(some 9), none, (.call 17 [(.t 8)]), [], [], 640⟩,
  ⟨(some 2), none, (.mov (.t 9)), [], [], 192⟩]) (.block 0 (.loop lp36_0))), none⟩
theorem ok36 : FnOk Try.prog 36 ir36 := .inl ⟨Try.f36, 0, Try.func36, by kernel_rfl, by kernel_rfl⟩
/-- (*muniment/raft.Node).leave -/
def ir37 : IFun := ⟨1, 33, [], (.seq (.reg true [⟨(some 2), none, (.mov (.t 0)), [], [], 192⟩,
  ⟨(some 3), none, (.chk (.t 2)), [0], [0], 256⟩,
  ⟨(some 4), none, (.fad 8 (.t 3)), [1], [1, 0], 320⟩,
  ⟨(some 5), none, (.ld false 1 (.t 4)), [2], [2, 1, 0], 384⟩,
  ⟨(some 6), none, (.bin .eql (.t 5) (.c (.int .i64 3))), [3], [3, 2, 1, 0], 448⟩,
  ⟨(some 7), none, (.mov (.t 6)), [4], [4, 3, 2, 1, 0], 512⟩,
  ⟨(some 8), (some (7, true)), (.mov (.t 0)), [5], [5, 4, 3, 2, 1, 0], 576⟩,
  ⟨(some 9), (some (7, true)), (.call 24 [(.t 8)]), [6, 5, 5], [6, 5, 4, 3, 2, 1, 0], 640⟩,
  ⟨(some 10), (some (7, true)), (.mov (.t 0)), [5], [5, 4, 3, 2, 1, 0], 704⟩,
  ⟨(some 11), (some (7, true)), (.chk (.t 10)), [8, 5], [8, 5, 4, 3, 2, 1, 0], 768⟩,
  ⟨(some 12), (some (7, true)), (.fad 0 (.t 11)), [9, 5], [9, 5, 8, 4, 3, 2, 1, 0], 832⟩,
  ⟨(some 13), (some (7, true)), (.ld false 1 (.t 12)), [10, 5], [10, 5, 9, 8, 4, 3, 2, 1, 0], 896⟩,
  ⟨(some 14), (some (7, true)), (.call 51 [(.t 9), (.t 13)]), [7, 11, 7, 5], [7, 11, 5, 6, 4, 3, 2, 1, 0, 10, 9, 8], 960⟩,
  ⟨(some 15), (some (7, true)), (.un .not (.t 14)), [12, 5], [12, 5, 7, 11, 6, 4, 3, 2, 1, 0, 10, 9, 8], 1024⟩,
  ⟨(some 16), none, (.pick (.t 7) (.t 15) (.c (.bool false))), [5, 13], [5, 13, 4, 3, 2, 1, 0, 12, 7, 11, 6, 10, 9, 8], 1088⟩,
  ⟨(some 17), none, (.mov (.t 16)), [14, 12], [14, 12, 5, 13, 4, 3, 2, 1, 0, 7, 11, 6, 10, 9, 8], 1152⟩,
  ⟨(some 18), (some (17, true)), (.mov (.t 0)), [15], [15, 14, 12, 5, 13, 4, 3, 2, 1, 0, 7, 11, 6, 10, 9, 8], 1216⟩,
  ⟨(some 19), (some (17, true)), (.call 47 [(.t 18)]), [16, 15, 15], [16, 15, 14, 12, 5, 13, 4, 3, 2, 1, 0, 7, 11, 6, 10, 9, 8], 1280⟩,
  ⟨(some 20), (some (17, true)), (.mov (.t 0)), [15], [15, 14, 12, 5, 13, 4, 3, 2, 1, 0, 7, 11, 6, 10, 9, 8], 1344⟩,
  ⟨(some 21), (some (17, true)), (.chk (.t 20)), [18, 15], [18, 15, 14, 12, 5, 13, 4, 3, 2, 1, 0, 7, 11, 6, 10, 9, 8], 1408⟩,
  ⟨(some 22), (some (17, true)), (.fad 10 (.t 21)), [19, 15], [19, 15, 18, 14, 12, 5, 13, 4, 3, 2, 1, 0, 7, 11, 6, 10, 9, 8], 1472⟩,
  ⟨(some 23), (some (17, true)), (.ld false 1 (.t 22)), [20, 15], [20, 15, 19, 18, 14, 12, 5, 13, 4, 3, 2, 1, 0, 7, 11, 6, 10, 9, 8], 1536⟩,
  ⟨(some 24), (some (17, true)), (.bin .leq (.t 19) (.t 23)), [17, 21, 15], [17, 21, 15, 16, 14, 12, 5, 13, 4, 3, 2, 1, 0, 7, 11, 6, 10, 9, 8, 20, 19, 18], 1600⟩,
  ⟨(some 25), none, (.pick (.t 17) (.t 24) (.c (.bool false))), [15, 22], [15, 22, 14, 12, 5, 13, 4, 3, 2, 1, 0, 7, 11, 6, 10, 9, 8, 17, 21, 16, 20, 19, 18], 1664⟩]) (.cond (.t 25) (.reg false [⟨(some 26), none, (.mov (.t 0)), [], [], 1728⟩,
  ⟨(some 27), none, (.mov (.t 0)), [], [], 1792⟩,
  ⟨(some 28), none, (.chk (.t 27)), [], [], 1856⟩,
  ⟨(some 29), none, (.fad 1 (.t 28)), [], [], 1920⟩,
  ⟨(some 30), none, (.fad 0 (.t 29)), [], [], 1984⟩,
  ⟨(some 31), none, (.ld false 1 (.t 30)), [], [], 2048⟩,
  ⟨(some 32), none, (.call 28 [(.t 26), (.t 31), (.c (.int .i64 (-1)))]), [], [], 2112⟩]) .skip)), none⟩
theorem ok37 : FnOk Try.prog 37 ir37 := .inl ⟨Try.f37, 0, Try.func37, by kernel_rfl, by kernel_rfl⟩
/-- muniment/raft.Check -/
def lp38_0 : IC := (.seq (.reg false [⟨(some 54), none, (.bin .lss (.t 53) (.t 52)), [], [], 3520⟩]) (.seq (.cond (.t 54) .skip (.exit 0)) (.seq (.block 1 (.seq (.reg false [⟨(some 55), none, (.iaL 1 (.t 51) (.t 53)), [], [], 3584⟩,
  ⟨(some 56), none, (.ld false 1 (.t 55)), [], [], 3648⟩,
  ⟨(some 5), none, (.mov (.t 56)), [], [], 384⟩]) (.reg false [⟨(some 57), none, (.mov (.t 3)), [], [], 3712⟩,
  ⟨(some 58), none, (.mov (.t 57)), [], [], 3776⟩,
  ⟨(some 59), (some (58, true)), (.mov (.t 5)), [], [], 3840⟩,
  ⟨(some 60), (some (58, true)), (.bin .geq (.t 59) (.c (.int .i64 0))), [], [], 3904⟩,
  ⟨(some 61), none, (.pick (.t 58) (.t 60) (.c (.bool false))), [], [], 3968⟩,
  ⟨(some 62), none, (.mov (.t 61)), [], [], 4032⟩,
  ⟨(some 63), (some (62, true)), (.mov (.t 5)), [], [], 4096⟩,
  ⟨(some 64), (some (62, true)), (.bin .leq (.t 63) (.c (.int .i64 2147483647))), [], [], 4160⟩,
  ⟨(some 65), none, (.pick (.t 62) (.t 64) (.c (.bool false))), [], [], 4224⟩,
  ⟨(some 3), none, (.mov (.t 65)), [], [], 256⟩]))) (.reg false [⟨(some 66), none, (.bin .add (.t 53) (.c (.int .i64 1))), [], [], 4288⟩,
  ⟨(some 53), none, (.mov (.t 66)), [], [], 3456⟩]))))
def ir38 : IFun := ⟨1, 87, [(.tmp 2)], (.seq (.reg false [⟨(some 1), none, (.box 13 (.t 0)), [], [], 128⟩,
  ⟨(some 2), none, (.mov (.c (.bool false))), [], [], 192⟩]) (.seq (.reg false [⟨(some 6), none, (.fad 0 (.t 1)), [], [], 448⟩,
  ⟨(some 7), none, (.ld false 1 (.t 6)), [], [], 512⟩,
  ⟨(some 8), none, (.bin .geq (.t 7) (.c (.int .i64 1))), [], [], 576⟩,
  ⟨(some 9), none, (.mov (.t 8)), [], [], 640⟩,
  ⟨(some 10), (some (9, true)), (.fad 0 (.t 1)), [], [], 704⟩,
  ⟨(some 11), (some (9, true)), (.ld false 1 (.t 10)), [], [], 768⟩,
  ⟨(some 12), (some (9, true)), (.bin .leq (.t 11) (.c (.int .i64 6))), [], [], 832⟩,
  ⟨(some 13), none, (.pick (.t 9) (.t 12) (.c (.bool false))), [], [], 896⟩,
  ⟨(some 14), none, (.mov (.t 13)), [], [], 960⟩,
  ⟨(some 15), (some (14, true)), (.fad 1 (.t 1)), [], [], 1024⟩,
  ⟨(some 16), (some (14, true)), (.ld false 1 (.t 15)), [], [], 1088⟩,
  ⟨(some 17), (some (14, true)), (.bin .geq (.t 16) (.c (.int .i64 0))), [], [], 1152⟩,
  ⟨(some 18), none, (.pick (.t 14) (.t 17) (.c (.bool false))), [], [], 1216⟩,
  ⟨(some 19), none, (.mov (.t 18)), [], [], 1280⟩,
  ⟨(some 20), (some (19, true)), (.fad 1 (.t 1)), [], [], 1344⟩,
  ⟨(some 21), (some (19, true)), (.ld false 1 (.t 20)), [], [], 1408⟩,
  ⟨(some 22), (some (19, true)), (.bin .lss (.t 21) (.c (.int .i64 16))), [], [], 1472⟩,
  ⟨(some 23), none, (.pick (.t 19) (.t 22) (.c (.bool false))), [], [], 1536⟩,
  ⟨(some 24), none, (.mov (.t 23)), [], [], 1600⟩,
  ⟨(some 25), (some (24, true)), (.fad 2 (.t 1)), [], [], 1664⟩,
  ⟨(some 26), (some (24, true)), (.ld false 1 (.t 25)), [], [], 1728⟩,
  ⟨(some 27), (some (24, true)), (.bin .geq (.t 26) (.c (.int .i64 0))), [], [], 1792⟩,
  ⟨(some 28), none, (.pick (.t 24) (.t 27) (.c (.bool false))), [], [], 1856⟩,
  ⟨(some 29), none, (.mov (.t 28)), [], [], 1920⟩,
  ⟨(some 30), (some (29, true)), (.fad 2 (.t 1)), [], [], 1984⟩,
  ⟨(some 31), (some (29, true)), (.ld false 1 (.t 30)), [], [], 2048⟩,
  ⟨(some 32), (some (29, true)), (.bin .lss (.t 31) (.c (.int .i64 16))), [], [], 2112⟩,
  ⟨(some 33), none, (.pick (.t 29) (.t 32) (.c (.bool false))), [], [], 2176⟩,
  ⟨(some 34), none, (.mov (.t 33)), [], [], 2240⟩,
  ⟨(some 35), (some (34, true)), (.fad 1 (.t 1)), [], [], 2304⟩,
  ⟨(some 36), (some (34, true)), (.ld false 1 (.t 35)), [], [], 2368⟩,
  ⟨(some 37), (some (34, true)), (.fad 2 (.t 1)), [], [], 2432⟩,
  ⟨(some 38), (some (34, true)), (.ld false 1 (.t 37)), [], [], 2496⟩,
  ⟨(some 39), (some (34, true)), (.bin .neq (.t 36) (.t 38)), [], [], 2560⟩,
  ⟨(some 40), none, (.pick (.t 34) (.t 39) (.c (.bool false))), [], [], 2624⟩,
  ⟨(some 3), none, (.mov (.t 40)), [], [], 256⟩]) (.seq (.seq (.reg false [⟨(some 41), none, (.fad 3 (.t 1)), [], [], 2688⟩,
  ⟨(some 42), none, (.ld false 1 (.t 41)), [], [], 2752⟩,
  ⟨(some 43), none, (.fad 4 (.t 1)), [], [], 2816⟩,
  ⟨(some 44), none, (.ld false 1 (.t 43)), [], [], 2880⟩,
  ⟨(some 45), none, (.fad 5 (.t 1)), [], [], 2944⟩,
  ⟨(some 46), none, (.ld false 1 (.t 45)), [], [], 3008⟩,
  ⟨(some 47), none, (.fad 6 (.t 1)), [], [], 3072⟩,
  ⟨(some 48), none, (.ld false 1 (.t 47)), [], [], 3136⟩,
  ⟨(some 49), none, (.fad 9 (.t 1)), [], [], 3200⟩,
  ⟨(some 50), none, (.ld false 1 (.t 49)), [], [], 3264⟩,
  ⟨(some 51), none, (.mksl 1 5 [(.int .i64 0), (.int .i64 0), (.int .i64 0), (.int .i64 0), (.int .i64 0)] [(0, (1, (.t 42))), (1, (1, (.t 44))), (2, (1, (.t 46))), (3, (1, (.t 48))), (4, (1, (.t 50)))]), [], [], 3328⟩,
  ⟨(some 52), none, (.len false (.t 51)), [], [], 3392⟩,
  ⟨(some 53), none, (.mov (.c (.int .i64 0))), [], [], 3456⟩]) (.block 0 (.loop lp38_0))) (.seq (.reg false [⟨(some 67), none, (.mov (.t 3)), [], [], 4352⟩,
  ⟨(some 68), none, (.mov (.t 67)), [], [], 4416⟩,
  ⟨(some 69), (some (68, true)), (.fad 5 (.t 1)), [], [], 4480⟩,
  ⟨(some 70), (some (68, true)), (.ld false 1 (.t 69)), [], [], 4544⟩,
  ⟨(some 71), (some (68, true)), (.fad 3 (.t 1)), [], [], 4608⟩,
  ⟨(some 72), (some (68, true)), (.ld false 1 (.t 71)), [], [], 4672⟩,
  ⟨(some 73), (some (68, true)), (.bin .leq (.t 70) (.t 72)), [], [], 4736⟩,
  ⟨(some 74), none, (.pick (.t 68) (.t 73) (.c (.bool false))), [], [], 4800⟩,
  ⟨(some 75), none, (.mov (.t 74)), [], [], 4864⟩,
  ⟨(some 76), (some (75, true)), (.fad 8 (.t 1)), [], [], 4928⟩,
  ⟨(some 77), (some (75, true)), (.ld false 1 (.t 76)), [], [], 4992⟩,
  ⟨(some 78), (some (75, true)), (.len false (.t 77)), [], [], 5056⟩,
  ⟨(some 79), (some (75, true)), (.bin .leq (.t 78) (.c (.int .i64 16))), [], [], 5120⟩,
  ⟨(some 80), none, (.pick (.t 75) (.t 79) (.c (.bool false))), [], [], 5184⟩,
  ⟨(some 81), none, (.mov (.t 80)), [], [], 5248⟩,
  ⟨(some 82), (some (81, true)), (.fad 10 (.t 1)), [], [], 5312⟩,
  ⟨(some 83), (some (81, true)), (.ld false 1 (.t 82)), [], [], 5376⟩,
  ⟨(some 84), (some (81, true)), (.len true (.t 83)), [], [], 5440⟩,
  ⟨(some 85), (some (81, true)), (.bin .leq (.t 84) (.c (.int .i64 200))), [], [], 5504⟩,
  ⟨(some 86), none, (.pick (.t 81) (.t 85) (.c (.bool false))), [], [], 5568⟩,
  ⟨(some 2), none, (.mov (.t 86)), [], [], 192⟩]) .ret)))), none⟩
theorem ok38 : FnOk Try.prog 38 ir38 := .inl ⟨Try.f38, 0, Try.func38, by kernel_rfl, by kernel_rfl⟩
/-- (*muniment/raft.Node).hear -/
def ir39 : IFun := ⟨2, 71, [(.tmp 4)], (.seq (.reg false [⟨(some 3), none, (.box 13 (.t 1)), [], [], 256⟩,
  ⟨(some 4), none, (.mov (.c (.sl .nil 0 []))), [], [], 320⟩]) (.seq (.reg true [⟨(some 8), none, (.mov (.t 0)), [], [], 576⟩,
  ⟨(some 9), none, (.chk (.t 8)), [0], [0], 640⟩,
  ⟨(some 10), none, (.fad 0 (.t 9)), [1], [1, 0], 704⟩,
  ⟨(some 11), none, (.ld false 1 (.t 10)), [2], [2, 1, 0], 768⟩,
  ⟨(some 12), none, (.fad 1 (.t 3)), [], [], 832⟩,
  ⟨(some 13), none, (.ld false 1 (.t 12)), [4], [4], 896⟩,
  ⟨(some 14), none, (.mov (.t 0)), [], [], 960⟩,
  ⟨(some 15), none, (.chk (.t 14)), [6], [6], 1024⟩,
  ⟨(some 16), none, (.fad 1 (.t 15)), [7], [7, 6], 1088⟩,
  ⟨(some 17), none, (.fad 0 (.t 16)), [8], [8, 7, 6], 1152⟩,
  ⟨(some 18), none, (.ld false 1 (.t 17)), [9], [9, 8, 7, 6], 1216⟩,
  ⟨(some 19), none, (.mk [(.int .i64 0), (.int .i64 0), (.int .i64 0), (.int .i64 0), (.int .i64 0), (.int .i64 0), (.int .i64 0), (.bool false), (.sl .nil 0 []), (.int .i64 0), (.str []), (.bool false), (.sl .nil 0 [])] [(0, (1, (.c (.int .i64 4)))), (1, (1, (.t 11))), (2, (1, (.t 13))), (3, (1, (.t 18)))]), [3, 5, 10], [3, 5, 10, 2, 1, 0, 4, 9, 8, 7, 6], 1280⟩,
  ⟨(some 5), none, (.new [(.int .i64 0), (.int .i64 0), (.int .i64 0), (.int .i64 0), (.int .i64 0), (.int .i64 0), (.int .i64 0), (.bool false), (.sl .nil 0 []), (.int .i64 0), (.str []), (.bool false), (.sl .nil 0 [])]), [], [], 384⟩,
  ⟨none, none, (.st true 13 (.t 5) (.t 19)), [12, 11, 0, 1, 2, 3, 4, 5, 6, 7, 8, 9, 10, 11, 12], [12, 11, 0, 1, 2, 3, 4, 5, 6, 7, 8, 9, 10], 64⟩]) (.seq (.seq (.reg true [⟨(some 20), none, (.fad 3 (.t 3)), [], [], 1344⟩,
  ⟨(some 21), none, (.ld false 1 (.t 20)), [0], [0], 1408⟩,
  ⟨(some 22), none, (.mov (.t 0)), [], [], 1472⟩,
  ⟨(some 23), none, (.chk (.t 22)), [2], [2], 1536⟩,
  ⟨(some 24), none, (.fad 1 (.t 23)), [3], [3, 2], 1600⟩,
  ⟨(some 25), none, (.fad 0 (.t 24)), [4], [4, 3, 2], 1664⟩,
  ⟨(some 26), none, (.ld false 1 (.t 25)), [5], [5, 4, 3, 2], 1728⟩,
  ⟨(some 27), none, (.bin .lss (.t 21) (.t 26)), [1, 6], [1, 6, 0, 5, 4, 3, 2], 1792⟩]) (.cond (.t 27) (.seq (.reg false [⟨(some 28), none, (.ld true 13 (.t 5)), [], [], 1856⟩,
  ⟨(some 29), none, (.mksl 13 1 [(.int .i64 0), (.int .i64 0), (.int .i64 0), (.int .i64 0), (.int .i64 0), (.int .i64 0), (.int .i64 0), (.bool false), (.sl .nil 0 []), (.int .i64 0), (.str []), (.bool false), (.sl .nil 0 [])] [(0, (13, (.t 28)))]), [], [], 1920⟩,
  ⟨(some 4), none, (.mov (.t 29)), [], [], 320⟩]) .ret) .skip)) (.seq (.reg false [⟨(some 30), none, (.mov (.t 0)), [], [], 1984⟩,
  ⟨(some 31), none, (.fad 3 (.t 3)), [], [], 2048⟩,
  ⟨(some 32), none, (.ld false 1 (.t 31)), [], [], 2112⟩,
  ⟨(some 33), none, (.fad 1 (.t 3)), [], [], 2176⟩,
  ⟨(some 34), none, (.ld false 1 (.t 33)), [], [], 2240⟩,
  ⟨(some 35), none, (.call 28 [(.t 30), (.t 32), (.t 34)]), [], [], 2304⟩]) (.seq (.reg false [⟨(some 37), none, (.mov (.t 0)), [], [], 2432⟩,
  ⟨(some 38), none, (.ld true 13 (.t 3)), [], [], 2496⟩,
  ⟨(some 39), none, (.call 53 [(.t 37), (.t 38)]), [], [], 2560⟩,
  ⟨(some 36), none, (.mov (.t 39)), [], [], 2368⟩,
  ⟨(some 40), none, (.ext 0 (.t 36)), [], [], 2624⟩,
  ⟨(some 41), none, (.ext 1 (.t 36)), [], [], 2688⟩,
  ⟨(some 6), none, (.mov (.t 40)), [], [], 448⟩,
  ⟨(some 7), none, (.mov (.t 41)), [], [], 512⟩]) (.seq (.seq (.reg false [⟨(some 42), none, (.mov (.t 7)), [], [], 2752⟩,
  ⟨(some 43), none, (.un .not (.t 42)), [], [], 2816⟩]) (.cond (.t 43) (.seq (.reg true [⟨(some 44), none, (.mov (.t 0)), [], [], 2880⟩,
  ⟨(some 45), none, (.call 17 [(.t 44)]), [0], [0], 2944⟩,
  ⟨(some 46), none, (.fad 4 (.t 3)), [], [], 3008⟩,
  ⟨(some 47), none, (.ld false 1 (.t 46)), [2], [2], 3072⟩,
  ⟨(some 48), none, (.bin .sub (.t 47) (.c (.int .i64 1))), [3], [3, 2], 3136⟩,
  ⟨(some 49), none, (.mm true (.t 48) (.c (.int .i64 0))), [4], [4, 3, 2], 3200⟩,
  ⟨(some 50), none, (.mm false (.t 45) (.t 49)), [1, 5], [1, 5, 0, 4, 3, 2], 3264⟩,
  ⟨(some 51), none, (.fad 4 (.t 5)), [0, 1, 2, 3, 4, 5, 6], [0, 1, 2, 3, 4, 5, 6], 3328⟩,
  ⟨none, none, (.st false 1 (.t 51) (.t 50)), [7, 6, 1, 0, 1, 2, 3, 4, 5, 6], [7, 6, 1, 0, 2, 3, 4, 5], 64⟩]) (.seq (.reg false [⟨(some 52), none, (.ld true 13 (.t 5)), [], [], 3392⟩,
  ⟨(some 53), none, (.mksl 13 1 [(.int .i64 0), (.int .i64 0), (.int .i64 0), (.int .i64 0), (.int .i64 0), (.int .i64 0), (.int .i64 0), (.bool false), (.sl .nil 0 []), (.int .i64 0), (.str []), (.bool false), (.sl .nil 0 [])] [(0, (13, (.t 52)))]), [], [], 3456⟩,
  ⟨(some 4), none, (.mov (.t 53)), [], [], 320⟩]) .ret)) .skip)) (.seq (.reg true [⟨(some 54), none, (.mov (.t 0)), [], [], 3520⟩,
  ⟨(some 55), none, (.mov (.t 0)), [], [], 3584⟩,
  ⟨(some 56), none, (.chk (.t 55)), [1], [1], 3648⟩,
  ⟨(some 57), none, (.fad 10 (.t 56)), [2], [2, 1], 3712⟩,
  ⟨(some 58), none, (.ld false 1 (.t 57)), [3], [3, 2, 1], 3776⟩,
  ⟨(some 59), none, (.fad 6 (.t 3)), [], [], 3840⟩,
  ⟨(some 60), none, (.ld false 1 (.t 59)), [5], [5], 3904⟩,
  ⟨(some 61), none, (.mov (.t 6)), [], [], 3968⟩,
  ⟨(some 62), none, (.mm false (.t 60) (.t 61)), [6, 7], [6, 7, 5], 4032⟩,
  ⟨(some 63), none, (.mm true (.t 58) (.t 62)), [4, 8], [4, 8, 3, 2, 1, 6, 7, 5], 4096⟩,
  ⟨(some 64), none, (.chk (.t 54)), [0, 0, 1, 2, 3, 4, 5, 6, 7, 8, 9], [0, 1, 2, 3, 4, 5, 6, 7, 8, 9], 4160⟩,
  ⟨(some 65), none, (.fad 10 (.t 64)), [10, 0, 1, 2, 3, 4, 5, 6, 7, 8, 9], [10, 0, 1, 2, 3, 4, 5, 6, 7, 8, 9], 4224⟩,
  ⟨none, none, (.st false 1 (.t 65) (.t 63)), [11, 9, 0, 1, 2, 3, 4, 5, 6, 7, 8, 9], [11, 9, 0, 1, 2, 3, 4, 5, 6, 7, 8, 10], 64⟩]) (.seq (.reg false [⟨(some 66), none, (.mov (.t 6)), [], [], 4288⟩,
  ⟨(some 67), none, (.fad 7 (.t 5)), [], [], 4352⟩,
  ⟨none, none, (.st false 1 (.t 67) (.c (.bool true))), [], [], 64⟩,
  ⟨(some 68), none, (.fad 4 (.t 5)), [], [], 4416⟩,
  ⟨none, none, (.st false 1 (.t 68) (.t 66)), [], [], 64⟩]) (.seq (.reg false [⟨(some 69), none, (.ld true 13 (.t 5)), [], [], 4480⟩,
  ⟨(some 70), none, (.mksl 13 1 [(.int .i64 0), (.int .i64 0), (.int .i64 0), (.int .i64 0), (.int .i64 0), (.int .i64 0), (.int .i64 0), (.bool false), (.sl .nil 0 []), (.int .i64 0), (.str []), (.bool false), (.sl .nil 0 [])] [(0, (13, (.t 69)))]), [], [], 4544⟩,
  ⟨(some 4), none, (.mov (.t 70)), [], [], 320⟩]) .ret))))))))), none⟩
theorem ok39 : FnOk Try.prog 39 ir39 := .inl ⟨Try.f39, 0, Try.func39, by kernel_rfl, by kernel_rfl⟩
/-- (*muniment/raft.Node).vote -/
def ir40 : IFun := ⟨2, 61, [(.tmp 4)], (.seq (.reg false [⟨(some 3), none, (.box 13 (.t 1)), [], [], 256⟩,
  ⟨(some 4), none, (.mov (.c (.sl .nil 0 []))), [], [], 320⟩]) (.seq (.reg true [⟨(some 6), none, (.fad 3 (.t 3)), [], [], 448⟩,
  ⟨(some 7), none, (.ld false 1 (.t 6)), [0], [0], 512⟩,
  ⟨(some 8), none, (.mov (.t 0)), [], [], 576⟩,
  ⟨(some 9), none, (.chk (.t 8)), [2], [2], 640⟩,
  ⟨(some 10), none, (.fad 1 (.t 9)), [3], [3, 2], 704⟩,
  ⟨(some 11), none, (.fad 0 (.t 10)), [4], [4, 3, 2], 768⟩,
  ⟨(some 12), none, (.ld false 1 (.t 11)), [5], [5, 4, 3, 2], 832⟩,
  ⟨(some 13), none, (.bin .eql (.t 7) (.t 12)), [1, 6], [1, 6, 0, 5, 4, 3, 2], 896⟩,
  ⟨(some 14), none, (.mov (.t 13)), [7], [7, 1, 6, 0, 5, 4, 3, 2], 960⟩,
  ⟨(some 15), (some (14, true)), (.mov (.t 0)), [8], [8, 7, 1, 6, 0, 5, 4, 3, 2], 1024⟩,
  ⟨(some 16), (some (14, true)), (.chk (.t 15)), [9, 8], [9, 8, 7, 1, 6, 0, 5, 4, 3, 2], 1088⟩,
  ⟨(some 17), (some (14, true)), (.fad 1 (.t 16)), [10, 8], [10, 8, 9, 7, 1, 6, 0, 5, 4, 3, 2], 1152⟩,
  ⟨(some 18), (some (14, true)), (.fad 1 (.t 17)), [11, 8], [11, 8, 10, 9, 7, 1, 6, 0, 5, 4, 3, 2], 1216⟩,
  ⟨(some 19), (some (14, true)), (.ld false 1 (.t 18)), [12, 8], [12, 8, 11, 10, 9, 7, 1, 6, 0, 5, 4, 3, 2], 1280⟩,
  ⟨(some 20), (some (14, true)), (.bin .eql (.t 19) (.c (.int .i64 (-1)))), [13, 8], [13, 8, 12, 11, 10, 9, 7, 1, 6, 0, 5, 4, 3, 2], 1344⟩,
  ⟨(some 21), (some (14, true)), (.mov (.t 20)), [14, 8, 8], [14, 8, 13, 12, 11, 10, 9, 7, 1, 6, 0, 5, 4, 3, 2], 1408⟩,
  ⟨(some 22), (some (21, false)), (.mov (.t 0)), [15], [15, 14, 8, 13, 12, 11, 10, 9, 7, 1, 6, 0, 5, 4, 3, 2], 1472⟩,
  ⟨(some 23), (some (21, false)), (.chk (.t 22)), [16, 15], [16, 15, 14, 8, 13, 12, 11, 10, 9, 7, 1, 6, 0, 5, 4, 3, 2], 1536⟩,
  ⟨(some 24), (some (21, false)), (.fad 1 (.t 23)), [17, 15], [17, 15, 16, 14, 8, 13, 12, 11, 10, 9, 7, 1, 6, 0, 5, 4, 3, 2], 1600⟩,
  ⟨(some 25), (some (21, false)), (.fad 1 (.t 24)), [18, 15], [18, 15, 17, 16, 14, 8, 13, 12, 11, 10, 9, 7, 1, 6, 0, 5, 4, 3, 2], 1664⟩,
  ⟨(some 26), (some (21, false)), (.ld false 1 (.t 25)), [19, 15], [19, 15, 18, 17, 16, 14, 8, 13, 12, 11, 10, 9, 7, 1, 6, 0, 5, 4, 3, 2], 1728⟩,
  ⟨(some 27), (some (21, false)), (.fad 1 (.t 3)), [15], [15, 14, 8, 13, 12, 11, 10, 9, 7, 1, 6, 0, 5, 4, 3, 2], 1792⟩,
  ⟨(some 28), (some (21, false)), (.ld false 1 (.t 27)), [21, 15], [21, 15, 14, 8, 13, 12, 11, 10, 9, 7, 1, 6, 0, 5, 4, 3, 2], 1856⟩,
  ⟨(some 29), (some (21, false)), (.bin .eql (.t 26) (.t 28)), [20, 22, 15], [20, 22, 15, 19, 18, 17, 16, 14, 8, 13, 12, 11, 10, 9, 7, 1, 6, 0, 5, 4, 3, 2, 21], 1920⟩,
  ⟨(some 30), (some (14, true)), (.pick (.t 21) (.c (.bool true)) (.t 29)), [15, 23, 8], [15, 23, 8, 14, 13, 12, 11, 10, 9, 7, 1, 6, 0, 5, 4, 3, 2, 20, 22, 19, 18, 17, 16, 21], 1984⟩,
  ⟨(some 31), none, (.pick (.t 14) (.t 30) (.c (.bool false))), [8, 24], [8, 24, 7, 1, 6, 0, 5, 4, 3, 2, 15, 23, 14, 13, 12, 11, 10, 9, 20, 22, 19, 18, 17, 16, 21], 2048⟩,
  ⟨(some 32), none, (.mov (.t 31)), [25, 15], [25, 15, 8, 24, 7, 1, 6, 0, 5, 4, 3, 2, 23, 14, 13, 12, 11, 10, 9, 20, 22, 19, 18, 17, 16, 21], 2112⟩,
  ⟨(some 33), (some (32, true)), (.mov (.t 0)), [26], [26, 25, 15, 8, 24, 7, 1, 6, 0, 5, 4, 3, 2, 23, 14, 13, 12, 11, 10, 9, 20, 22, 19, 18, 17, 16, 21], 2176⟩,
  ⟨(some 34), (some (32, true)), (.ld true 13 (.t 3)), [26], [26, 25, 15, 8, 24, 7, 1, 6, 0, 5, 4, 3, 2, 23, 14, 13, 12, 11, 10, 9, 20, 22, 19, 18, 17, 16, 21], 2240⟩,
  ⟨(some 35), (some (32, true)), (.call 54 [(.t 33), (.t 34)]), [27, 28, 26, 26], [27, 28, 26, 25, 15, 8, 24, 7, 1, 6, 0, 5, 4, 3, 2, 23, 14, 13, 12, 11, 10, 9, 20, 22, 19, 18, 17, 16, 21], 2304⟩,
  ⟨(some 36), none, (.pick (.t 32) (.t 35) (.c (.bool false))), [26, 29], [26, 29, 25, 15, 8, 24, 7, 1, 6, 0, 5, 4, 3, 2, 23, 14, 13, 12, 11, 10, 9, 20, 22, 19, 18, 17, 16, 21, 27, 28], 2368⟩,
  ⟨(some 5), none, (.mov (.t 36)), [30, 29, 0, 1, 2, 3, 4, 5, 6, 7, 8, 9, 10, 11, 12, 13, 14, 15, 16, 17, 18, 19, 20, 21, 22, 23, 24, 25, 26, 27, 28, 29, 30], [30, 29, 0, 1, 2, 3, 4, 5, 6, 7, 8, 9, 10, 11, 12, 13, 14, 15, 16, 17, 18, 19, 20, 21, 22, 23, 24, 25, 26, 27, 28], 384⟩]) (.seq (.seq (.reg false [⟨(some 37), none, (.mov (.t 5)), [], [], 2432⟩]) (.cond (.t 37) (.seq (.reg false [⟨(some 38), none, (.mov (.t 0)), [], [], 2496⟩,
  ⟨(some 39), none, (.fad 1 (.t 3)), [], [], 2560⟩,
  ⟨(some 40), none, (.ld false 1 (.t 39)), [], [], 2624⟩,
  ⟨(some 41), none, (.chk (.t 38)), [], [], 2688⟩,
  ⟨(some 42), none, (.fad 1 (.t 41)), [], [], 2752⟩,
  ⟨(some 43), none, (.fad 1 (.t 42)), [], [], 2816⟩,
  ⟨none, none, (.st false 1 (.t 43) (.t 40)), [], [], 64⟩]) (.reg false [⟨(some 44), none, (.mov (.t 0)), [], [], 2880⟩,
  ⟨(some 45), none, (.chk (.t 44)), [], [], 2944⟩,
  ⟨(some 46), none, (.fad 11 (.t 45)), [], [], 3008⟩,
  ⟨none, none, (.st false 1 (.t 46) (.c (.int .i64 0))), [], [], 64⟩])) .skip)) (.seq (.reg true [⟨(some 47), none, (.mov (.t 0)), [], [], 3072⟩,
  ⟨(some 48), none, (.chk (.t 47)), [0], [0], 3136⟩,
  ⟨(some 49), none, (.fad 0 (.t 48)), [1], [1, 0], 3200⟩,
  ⟨(some 50), none, (.ld false 1 (.t 49)), [2], [2, 1, 0], 3264⟩,
  ⟨(some 51), none, (.fad 1 (.t 3)), [], [], 3328⟩,
  ⟨(some 52), none, (.ld false 1 (.t 51)), [4], [4], 3392⟩,
  ⟨(some 53), none, (.mov (.t 0)), [], [], 3456⟩,
  ⟨(some 54), none, (.chk (.t 53)), [6], [6], 3520⟩,
  ⟨(some 55), none, (.fad 1 (.t 54)), [7], [7, 6], 3584⟩,
  ⟨(some 56), none, (.fad 0 (.t 55)), [8], [8, 7, 6], 3648⟩,
  ⟨(some 57), none, (.ld false 1 (.t 56)), [9], [9, 8, 7, 6], 3712⟩,
  ⟨(some 58), none, (.mov (.t 5)), [], [], 3776⟩,
  ⟨(some 59), none, (.mk [(.int .i64 0), (.int .i64 0), (.int .i64 0), (.int .i64 0), (.int .i64 0), (.int .i64 0), (.int .i64 0), (.bool false), (.sl .nil 0 []), (.int .i64 0), (.str []), (.bool false), (.sl .nil 0 [])] [(0, (1, (.c (.int .i64 2)))), (1, (1, (.t 50))), (2, (1, (.t 52))), (3, (1, (.t 57))), (7, (1, (.t 58)))]), [3, 5, 10, 11], [3, 5, 10, 11, 2, 1, 0, 4, 9, 8, 7, 6], 3840⟩,
  ⟨(some 60), none, (.mksl 13 1 [(.int .i64 0), (.int .i64 0), (.int .i64 0), (.int .i64 0), (.int .i64 0), (.int .i64 0), (.int .i64 0), (.bool false), (.sl .nil 0 []), (.int .i64 0), (.str []), (.bool false), (.sl .nil 0 [])] [(0, (13, (.t 59)))]), [12], [12, 3, 5, 10, 11, 2, 1, 0, 4, 9, 8, 7, 6], 3904⟩,
  ⟨(some 4), none, (.mov (.t 60)), [13, 0, 1, 2, 3, 4, 5, 6, 7, 8, 9, 10, 11, 12, 13], [13, 0, 1, 2, 3, 4, 5, 6, 7, 8, 9, 10, 11, 12], 320⟩]) .ret)))), none⟩
theorem ok40 : FnOk Try.prog 40 ir40 := .inl ⟨Try.f40, 0, Try.func40, by kernel_rfl, by kernel_rfl⟩
/-- (*muniment/raft.Node).voted -/
def ir41 : IFun := ⟨2, 40, [(.tmp 4)], (.seq (.reg false [⟨(some 3), none, (.box 13 (.t 1)), [], [], 256⟩,
  ⟨(some 4), none, (.mov (.c (.sl .nil 0 []))), [], [], 320⟩]) (.seq (.seq (.reg true [⟨(some 5), none, (.mov (.t 0)), [], [], 384⟩,
  ⟨(some 6), none, (.chk (.t 5)), [0], [0], 448⟩,
  ⟨(some 7), none, (.fad 8 (.t 6)), [1], [1, 0], 512⟩,
  ⟨(some 8), none, (.ld false 1 (.t 7)), [2], [2, 1, 0], 576⟩,
  ⟨(some 9), none, (.bin .neq (.t 8) (.c (.int .i64 2))), [3], [3, 2, 1, 0], 640⟩,
  ⟨(some 10), none, (.mov (.t 9)), [4], [4, 3, 2, 1, 0], 704⟩,
  ⟨(some 11), (some (10, false)), (.fad 3 (.t 3)), [5], [5, 4, 3, 2, 1, 0], 768⟩,
  ⟨(some 12), (some (10, false)), (.ld false 1 (.t 11)), [6, 5], [6, 5, 4, 3, 2, 1, 0], 832⟩,
  ⟨(some 13), (some (10, false)), (.mov (.t 0)), [5], [5, 4, 3, 2, 1, 0], 896⟩,
  ⟨(some 14), (some (10, false)), (.chk (.t 13)), [8, 5], [8, 5, 4, 3, 2, 1, 0], 960⟩,
  ⟨(some 15), (some (10, false)), (.fad 1 (.t 14)), [9, 5], [9, 5, 8, 4, 3, 2, 1, 0], 1024⟩,
  ⟨(some 16), (some (10, false)), (.fad 0 (.t 15)), [10, 5], [10, 5, 9, 8, 4, 3, 2, 1, 0], 1088⟩,
  ⟨(some 17), (some (10, false)), (.ld false 1 (.t 16)), [11, 5], [11, 5, 10, 9, 8, 4, 3, 2, 1, 0], 1152⟩,
  ⟨(some 18), (some (10, false)), (.bin .neq (.t 12) (.t 17)), [7, 12, 5], [7, 12, 5, 6, 4, 3, 2, 1, 0, 11, 10, 9, 8], 1216⟩,
  ⟨(some 19), none, (.pick (.t 10) (.c (.bool true)) (.t 18)), [5, 13], [5, 13, 4, 3, 2, 1, 0, 7, 12, 6, 11, 10, 9, 8], 1280⟩,
  ⟨(some 20), none, (.mov (.t 19)), [14, 5], [14, 5, 13, 4, 3, 2, 1, 0, 7, 12, 6, 11, 10, 9, 8], 1344⟩,
  ⟨(some 21), (some (20, false)), (.fad 7 (.t 3)), [15], [15, 14, 5, 13, 4, 3, 2, 1, 0, 7, 12, 6, 11, 10, 9, 8], 1408⟩,
  ⟨(some 22), (some (20, false)), (.ld false 1 (.t 21)), [16, 15], [16, 15, 14, 5, 13, 4, 3, 2, 1, 0, 7, 12, 6, 11, 10, 9, 8], 1472⟩,
  ⟨(some 23), (some (20, false)), (.un .not (.t 22)), [17, 15], [17, 15, 16, 14, 5, 13, 4, 3, 2, 1, 0, 7, 12, 6, 11, 10, 9, 8], 1536⟩,
  ⟨(some 24), none, (.pick (.t 20) (.c (.bool true)) (.t 23)), [15, 18], [15, 18, 14, 5, 13, 4, 3, 2, 1, 0, 7, 12, 6, 11, 10, 9, 8, 17, 16], 1600⟩]) (.cond (.t 24) (.seq (.reg false [⟨(some 4), none, (.mov (.c (.sl .nil 0 []))), [], [], 320⟩]) .ret) .skip)) (.seq (.reg true [⟨(some 25), none, (.mov (.t 0)), [], [], 1664⟩,
  ⟨(some 26), none, (.chk (.t 25)), [0], [0], 1728⟩,
  ⟨(some 27), none, (.fad 15 (.t 26)), [1], [1, 0], 1792⟩,
  ⟨(some 28), none, (.ld false 1 (.t 27)), [2], [2, 1, 0], 1856⟩,
  ⟨(some 29), none, (.fad 1 (.t 3)), [], [], 1920⟩,
  ⟨(some 30), none, (.ld false 1 (.t 29)), [4], [4], 1984⟩,
  ⟨none, none, (.mset (.one .i) (.t 28) (.t 30) (.c (.bool true))), [3, 5, 0, 1, 2, 3, 4, 5], [3, 5, 0, 1, 2, 4], 64⟩]) (.seq (.seq (.reg true [⟨(some 31), none, (.mov (.t 0)), [], [], 2048⟩,
  ⟨(some 32), none, (.call 24 [(.t 31)]), [0], [0], 2112⟩,
  ⟨(some 33), none, (.mov (.t 0)), [], [], 2176⟩,
  ⟨(some 34), none, (.chk (.t 33)), [2], [2], 2240⟩,
  ⟨(some 35), none, (.fad 15 (.t 34)), [3], [3, 2], 2304⟩,
  ⟨(some 36), none, (.ld false 1 (.t 35)), [4], [4, 3, 2], 2368⟩,
  ⟨(some 37), none, (.call 33 [(.t 32), (.t 36)]), [1, 5, 1], [1, 5, 0, 4, 3, 2], 2432⟩]) (.cond (.t 37) (.seq (.reg false [⟨(some 38), none, (.mov (.t 0)), [], [], 2496⟩,
  ⟨(some 39), none, (.call 34 [(.t 38)]), [], [], 2560⟩,
  ⟨(some 4), none, (.mov (.t 39)), [], [], 320⟩]) .ret) .skip)) (.seq (.reg false [⟨(some 4), none, (.mov (.c (.sl .nil 0 []))), [], [], 320⟩]) .ret))))), none⟩
theorem ok41 : FnOk Try.prog 41 ir41 := .inl ⟨Try.f41, 0, Try.func41, by kernel_rfl, by kernel_rfl⟩
/-- (*muniment/raft.Node).appended -/
def ir42 : IFun := ⟨2, 69, [(.tmp 4)], (.seq (.reg false [⟨(some 3), none, (.box 13 (.t 1)), [], [], 256⟩,
  ⟨(some 4), none, (.mov (.c (.sl .nil 0 []))), [], [], 320⟩]) (.seq (.seq (.reg true [⟨(some 5), none, (.mov (.t 0)), [], [], 384⟩,
  ⟨(some 6), none, (.chk (.t 5)), [0], [0], 448⟩,
  ⟨(some 7), none, (.fad 8 (.t 6)), [1], [1, 0], 512⟩,
  ⟨(some 8), none, (.ld false 1 (.t 7)), [2], [2, 1, 0], 576⟩,
  ⟨(some 9), none, (.bin .neq (.t 8) (.c (.int .i64 3))), [3], [3, 2, 1, 0], 640⟩,
  ⟨(some 10), none, (.mov (.t 9)), [4], [4, 3, 2, 1, 0], 704⟩,
  ⟨(some 11), (some (10, false)), (.fad 3 (.t 3)), [5], [5, 4, 3, 2, 1, 0], 768⟩,
  ⟨(some 12), (some (10, false)), (.ld false 1 (.t 11)), [6, 5], [6, 5, 4, 3, 2, 1, 0], 832⟩,
  ⟨(some 13), (some (10, false)), (.mov (.t 0)), [5], [5, 4, 3, 2, 1, 0], 896⟩,
  ⟨(some 14), (some (10, false)), (.chk (.t 13)), [8, 5], [8, 5, 4, 3, 2, 1, 0], 960⟩,
  ⟨(some 15), (some (10, false)), (.fad 1 (.t 14)), [9, 5], [9, 5, 8, 4, 3, 2, 1, 0], 1024⟩,
  ⟨(some 16), (some (10, false)), (.fad 0 (.t 15)), [10, 5], [10, 5, 9, 8, 4, 3, 2, 1, 0], 1088⟩,
  ⟨(some 17), (some (10, false)), (.ld false 1 (.t 16)), [11, 5], [11, 5, 10, 9, 8, 4, 3, 2, 1, 0], 1152⟩,
  ⟨(some 18), (some (10, false)), (.bin .neq (.t 12) (.t 17)), [7, 12, 5], [7, 12, 5, 6, 4, 3, 2, 1, 0, 11, 10, 9, 8], 1216⟩,
  ⟨(some 19), none, (.pick (.t 10) (.c (.bool true)) (.t 18)), [5, 13], [5, 13, 4, 3, 2, 1, 0, 7, 12, 6, 11, 10, 9, 8], 1280⟩,
  ⟨(some 20), none, (.mov (.t 19)), [14, 5], [14, 5, 13, 4, 3, 2, 1, 0, 7, 12, 6, 11, 10, 9, 8], 1344⟩,
  ⟨(some 21), (some (20, false)), (.mov (.t 0)), [15], [15, 14, 5, 13, 4, 3, 2, 1, 0, 7, 12, 6, 11, 10, 9, 8], 1408⟩,
  ⟨(some 22), (some (20, false)), (.call 29 [(.t 21)]), [16, 15, 15], [16, 15, 14, 5, 13, 4, 3, 2, 1, 0, 7, 12, 6, 11, 10, 9, 8], 1472⟩,
  ⟨(some 23), (some (20, false)), (.fad 1 (.t 3)), [15], [15, 14, 5, 13, 4, 3, 2, 1, 0, 7, 12, 6, 11, 10, 9, 8], 1536⟩,
  ⟨(some 24), (some (20, false)), (.ld false 1 (.t 23)), [18, 15], [18, 15, 14, 5, 13, 4, 3, 2, 1, 0, 7, 12, 6, 11, 10, 9, 8], 1600⟩,
  ⟨(some 25), (some (20, false)), (.call 51 [(.t 22), (.t 24)]), [17, 19, 17, 15], [17, 19, 15, 16, 14, 5, 13, 4, 3, 2, 1, 0, 7, 12, 6, 11, 10, 9, 8, 18], 1664⟩,
  ⟨(some 26), (some (20, false)), (.un .not (.t 25)), [20, 15], [20, 15, 17, 19, 16, 14, 5, 13, 4, 3, 2, 1, 0, 7, 12, 6, 11, 10, 9, 8, 18], 1728⟩,
  ⟨(some 27), none, (.pick (.t 20) (.c (.bool true)) (.t 26)), [15, 21], [15, 21, 14, 5, 13, 4, 3, 2, 1, 0, 7, 12, 6, 11, 10, 9, 8, 20, 17, 19, 16, 18], 1792⟩]) (.cond (.t 27) (.seq (.reg false [⟨(some 4), none, (.mov (.c (.sl .nil 0 []))), [], [], 320⟩]) .ret) .skip)) (.seq (.seq (.reg false [⟨(some 28), none, (.fad 7 (.t 3)), [], [], 1856⟩,
  ⟨(some 29), none, (.ld false 1 (.t 28)), [], [], 1920⟩,
  ⟨(some 30), none, (.un .not (.t 29)), [], [], 1984⟩]) (.cond (.t 30) (.seq (.reg true [⟨(some 31), none, (.mov (.t 0)), [], [], 2048⟩,
  ⟨(some 32), none, (.chk (.t 31)), [0], [0], 2112⟩,
  ⟨(some 33), none, (.fad 16 (.t 32)), [1], [1, 0], 2176⟩,
  ⟨(some 34), none, (.ld false 1 (.t 33)), [2], [2, 1, 0], 2240⟩,
  ⟨(some 35), none, (.fad 1 (.t 3)), [], [], 2304⟩,
  ⟨(some 36), none, (.ld false 1 (.t 35)), [4], [4], 2368⟩,
  ⟨(some 37), none, (.mov (.t 0)), [], [], 2432⟩,
  ⟨(some 38), none, (.chk (.t 37)), [6], [6], 2496⟩,
  ⟨(some 39), none, (.fad 17 (.t 38)), [7], [7, 6], 2560⟩,
  ⟨(some 40), none, (.ld false 1 (.t 39)), [8], [8, 7, 6], 2624⟩,
  ⟨(some 41), none, (.fad 1 (.t 3)), [], [], 2688⟩,
  ⟨(some 42), none, (.ld false 1 (.t 41)), [10], [10], 2752⟩,
  ⟨(some 43), none, (.mget (.one .i) false (.int .i64 0) (.t 40) (.t 42)), [9, 11], [9, 11, 8, 7, 6, 10], 2816⟩,
  ⟨(some 44), none, (.bin .add (.t 43) (.c (.int .i64 1))), [12], [12, 9, 11, 8, 7, 6, 10], 2880⟩,
  ⟨(some 45), none, (.mov (.t 0)), [], [], 2944⟩,
  ⟨(some 46), none, (.chk (.t 45)), [14], [14], 3008⟩,
  ⟨(some 47), none, (.fad 16 (.t 46)), [15], [15, 14], 3072⟩,
  ⟨(some 48), none, (.ld false 1 (.t 47)), [16], [16, 15, 14], 3136⟩,
  ⟨(some 49), none, (.fad 1 (.t 3)), [], [], 3200⟩,
  ⟨(some 50), none, (.ld false 1 (.t 49)), [18], [18], 3264⟩,
  ⟨(some 51), none, (.mget (.one .i) false (.int .i64 0) (.t 48) (.t 50)), [17, 19], [17, 19, 16, 15, 14, 18], 3328⟩,
  ⟨(some 52), none, (.bin .sub (.t 51) (.c (.int .i64 1))), [20], [20, 17, 19, 16, 15, 14, 18], 3392⟩,
  ⟨(some 53), none, (.fad 4 (.t 3)), [], [], 3456⟩,
  ⟨(some 54), none, (.ld false 1 (.t 53)), [22], [22], 3520⟩,
  ⟨(some 55), none, (.bin .add (.t 54) (.c (.int .i64 1))), [23], [23, 22], 3584⟩,
  ⟨(some 56), none, (.mm false (.t 52) (.t 55)), [21, 24], [21, 24, 20, 17, 19, 16, 15, 14, 18, 23, 22], 3648⟩,
  ⟨(some 57), none, (.mm true (.t 44) (.t 56)), [13, 25], [13, 25, 12, 9, 11, 8, 7, 6, 10, 21, 24, 20, 17, 19, 16, 15, 14, 18, 23, 22], 3712⟩,
  ⟨none, none, (.mset (.one .i) (.t 34) (.t 36) (.t 57)), [3, 5, 26, 0, 1, 2, 3, 4, 5, 6, 7, 8, 9, 10, 11, 12, 13, 14, 15, 16, 17, 18, 19, 20, 21, 22, 23, 24, 25, 26], [3, 5, 26, 0, 1, 2, 4, 6, 7, 8, 9, 10, 11, 12, 13, 14, 15, 16, 17, 18, 19, 20, 21, 22, 23, 24, 25], 64⟩]) (.seq (.reg false [⟨(some 58), none, (.mov (.t 0)), [], [], 3776⟩,
  ⟨(some 59), none, (.fad 1 (.t 3)), [], [], 3840⟩,
  ⟨(some 60), none, (.ld false 1 (.t 59)), [], [], 3904⟩,
  ⟨(some 61), none, (.call 30 [(.t 58), (.t 60)]), [], [], 3968⟩,
  ⟨(some 62), none, (.mksl 13 1 [(.int .i64 0), (.int .i64 0), (.int .i64 0), (.int .i64 0), (.int .i64 0), (.int .i64 0), (.int .i64 0), (.bool false), (.sl .nil 0 []), (.int .i64 0), (.str []), (.bool false), (.sl .nil 0 [])] [(0, (13, (.t 61)))]), [], [], 4032⟩,
  ⟨(some 4), none, (.mov (.t 62)), [], [], 320⟩]) .ret)) .skip)) (.seq (.reg false [⟨(some 63), none, (.mov (.t 0)), [], [], 4096⟩,
  ⟨(some 64), none, (.fad 1 (.t 3)), [], [], 4160⟩,
  ⟨(some 65), none, (.ld false 1 (.t 64)), [], [], 4224⟩,
  ⟨(some 66), none, (.fad 4 (.t 3)), [], [], 4288⟩,
  ⟨(some 67), none, (.ld false 1 (.t 66)), [], [], 4352⟩,
  ⟨(some 68), none, (.call 55 [(.t 63), (.t 65), (.t 67)]), [], [], 4416⟩,
  ⟨(some 4), none, (.mov (.t 68)), [], [], 320⟩]) .ret)))), none⟩
theorem ok42 : FnOk Try.prog 42 ir42 := .inl ⟨Try.f42, 0, Try.func42, by kernel_rfl, by kernel_rfl⟩
/-- (*muniment/raft.Node).snap -/
def ir43 : IFun := ⟨2, 118, [(.tmp 4)], (.seq (.reg false [⟨(some 3), none, (.box 13 (.t 1)), [], [], 256⟩,
  ⟨(some 4), none, (.mov (.c (.sl .nil 0 []))), [], [], 320⟩]) (.seq (.reg true [⟨(some 6), none, (.mov (.t 0)), [], [], 448⟩,
  ⟨(some 7), none, (.chk (.t 6)), [0], [0], 512⟩,
  ⟨(some 8), none, (.fad 0 (.t 7)), [1], [1, 0], 576⟩,
  ⟨(some 9), none, (.ld false 1 (.t 8)), [2], [2, 1, 0], 640⟩,
  ⟨(some 10), none, (.fad 1 (.t 3)), [], [], 704⟩,
  ⟨(some 11), none, (.ld false 1 (.t 10)), [4], [4], 768⟩,
  ⟨(some 12), none, (.mov (.t 0)), [], [], 832⟩,
  ⟨(some 13), none, (.chk (.t 12)), [6], [6], 896⟩,
  ⟨(some 14), none, (.fad 1 (.t 13)), [7], [7, 6], 960⟩,
  ⟨(some 15), none, (.fad 0 (.t 14)), [8], [8, 7, 6], 1024⟩,
  ⟨(some 16), none, (.ld false 1 (.t 15)), [9], [9, 8, 7, 6], 1088⟩,
  ⟨(some 17), none, (.fad 4 (.t 3)), [], [], 1152⟩,
  ⟨(some 18), none, (.ld false 1 (.t 17)), [11], [11], 1216⟩,
  ⟨(some 19), none, (.mk [(.int .i64 0), (.int .i64 0), (.int .i64 0), (.int .i64 0), (.int .i64 0), (.int .i64 0), (.int .i64 0), (.bool false), (.sl .nil 0 []), (.int .i64 0), (.str []), (.bool false), (.sl .nil 0 [])] [(0, (1, (.c (.int .i64 6)))), (1, (1, (.t 9))), (2, (1, (.t 11))), (3, (1, (.t 16))), (4, (1, (.t 18)))]), [3, 5, 10, 12], [3, 5, 10, 12, 2, 1, 0, 4, 9, 8, 7, 6, 11], 1280⟩,
  ⟨(some 5), none, (.new [(.int .i64 0), (.int .i64 0), (.int .i64 0), (.int .i64 0), (.int .i64 0), (.int .i64 0), (.int .i64 0), (.bool false), (.sl .nil 0 []), (.int .i64 0), (.str []), (.bool false), (.sl .nil 0 [])]), [], [], 384⟩,
  ⟨none, none, (.st true 13 (.t 5) (.t 19)), [14, 13, 0, 1, 2, 3, 4, 5, 6, 7, 8, 9, 10, 11, 12, 13, 14], [14, 13, 0, 1, 2, 3, 4, 5, 6, 7, 8, 9, 10, 11, 12], 64⟩]) (.seq (.seq (.reg true [⟨(some 20), none, (.fad 3 (.t 3)), [], [], 1344⟩,
  ⟨(some 21), none, (.ld false 1 (.t 20)), [0], [0], 1408⟩,
  ⟨(some 22), none, (.mov (.t 0)), [], [], 1472⟩,
  ⟨(some 23), none, (.chk (.t 22)), [2], [2], 1536⟩,
  ⟨(some 24), none, (.fad 1 (.t 23)), [3], [3, 2], 1600⟩,
  ⟨(some 25), none, (.fad 0 (.t 24)), [4], [4, 3, 2], 1664⟩,
  ⟨(some 26), none, (.ld false 1 (.t 25)), [5], [5, 4, 3, 2], 1728⟩,
  ⟨(some 27), none, (.bin .lss (.t 21) (.t 26)), [1, 6], [1, 6, 0, 5, 4, 3, 2], 1792⟩]) (.cond (.t 27) (.seq (.reg false [⟨(some 28), none, (.ld true 13 (.t 5)), [], [], 1856⟩,
  ⟨(some 29), none, (.mksl 13 1 [(.int .i64 0), (.int .i64 0), (.int .i64 0), (.int .i64 0), (.int .i64 0), (.int .i64 0), (.int .i64 0), (.bool false), (.sl .nil 0 []), (.int .i64 0), (.str []), (.bool false), (.sl .nil 0 [])] [(0, (13, (.t 28)))]), [], [], 1920⟩,
  ⟨(some 4), none, (.mov (.t 29)), [], [], 320⟩]) .ret) .skip)) (.seq (.reg false [⟨(some 30), none, (.mov (.t 0)), [], [], 1984⟩,
  ⟨(some 31), none, (.fad 3 (.t 3)), [], [], 2048⟩,
  ⟨(some 32), none, (.ld false 1 (.t 31)), [], [], 2112⟩,
  ⟨(some 33), none, (.fad 1 (.t 3)), [], [], 2176⟩,
  ⟨(some 34), none, (.ld false 1 (.t 33)), [], [], 2240⟩,
  ⟨(some 35), none, (.call 28 [(.t 30), (.t 32), (.t 34)]), [], [], 2304⟩]) (.seq (.seq (.reg true [⟨(some 36), none, (.fad 4 (.t 3)), [], [], 2368⟩,
  ⟨(some 37), none, (.ld false 1 (.t 36)), [0], [0], 2432⟩,
  ⟨(some 38), none, (.mov (.t 0)), [], [], 2496⟩,
  ⟨(some 39), none, (.chk (.t 38)), [2], [2], 2560⟩,
  ⟨(some 40), none, (.fad 10 (.t 39)), [3], [3, 2], 2624⟩,
  ⟨(some 41), none, (.ld false 1 (.t 40)), [4], [4, 3, 2], 2688⟩,
  ⟨(some 42), none, (.bin .leq (.t 37) (.t 41)), [1, 5], [1, 5, 0, 4, 3, 2], 2752⟩]) (.cond (.t 42) (.seq (.reg false [⟨(some 43), none, (.fad 7 (.t 5)), [], [], 2816⟩,
  ⟨none, none, (.st false 1 (.t 43) (.c (.bool true))), [], [], 64⟩,
  ⟨(some 44), none, (.fad 11 (.t 5)), [], [], 2880⟩,
  ⟨none, none, (.st false 1 (.t 44) (.c (.bool true))), [], [], 64⟩]) (.seq (.reg false [⟨(some 45), none, (.ld true 13 (.t 5)), [], [], 2944⟩,
  ⟨(some 46), none, (.mksl 13 1 [(.int .i64 0), (.int .i64 0), (.int .i64 0), (.int .i64 0), (.int .i64 0), (.int .i64 0), (.int .i64 0), (.bool false), (.sl .nil 0 []), (.int .i64 0), (.str []), (.bool false), (.sl .nil 0 [])] [(0, (13, (.t 45)))]), [], [], 3008⟩,
  ⟨(some 4), none, (.mov (.t 46)), [], [], 320⟩]) .ret)) .skip)) (.seq (.seq (.reg true [⟨(some 47), none, (.mov (.t 0)), [], [], 3072⟩,
  ⟨(some 48), none, (.chk (.t 47)), [0], [0], 3136⟩,
  ⟨(some 49), none, (.fad 19 (.t 48)), [1], [1, 0], 3200⟩,
  ⟨(some 50), none, (.fad 0 (.t 49)), [2], [2, 1, 0], 3264⟩,
  ⟨(some 51), none, (.ld false 1 (.t 50)), [3], [3, 2, 1, 0], 3328⟩,
  ⟨(some 52), none, (.fad 4 (.t 3)), [], [], 3392⟩,
  ⟨(some 53), none, (.ld false 1 (.t 52)), [5], [5], 3456⟩,
  ⟨(some 54), none, (.bin .neq (.t 51) (.t 53)), [4, 6], [4, 6, 3, 2, 1, 0, 5], 3520⟩,
  ⟨(some 55), none, (.mov (.t 54)), [7], [7, 4, 6, 3, 2, 1, 0, 5], 3584⟩,
  ⟨(some 56), (some (55, false)), (.mov (.t 0)), [8], [8, 7, 4, 6, 3, 2, 1, 0, 5], 3648⟩,
  ⟨(some 57), (some (55, false)), (.chk (.t 56)), [9, 8], [9, 8, 7, 4, 6, 3, 2, 1, 0, 5], 3712⟩,
  ⟨(some 58), (some (55, false)), (.fad 19 (.t 57)), [10, 8], [10, 8, 9, 7, 4, 6, 3, 2, 1, 0, 5], 3776⟩,
  ⟨(some 59), (some (55, false)), (.fad 1 (.t 58)), [11, 8], [11, 8, 10, 9, 7, 4, 6, 3, 2, 1, 0, 5], 3840⟩,
  ⟨(some 60), (some (55, false)), (.ld false 1 (.t 59)), [12, 8], [12, 8, 11, 10, 9, 7, 4, 6, 3, 2, 1, 0, 5], 3904⟩,
  ⟨(some 61), (some (55, false)), (.fad 5 (.t 3)), [8], [8, 7, 4, 6, 3, 2, 1, 0, 5], 3968⟩,
  ⟨(some 62), (some (55, false)), (.ld false 1 (.t 61)), [14, 8], [14, 8, 7, 4, 6, 3, 2, 1, 0, 5], 4032⟩,
  ⟨(some 63), (some (55, false)), (.bin .neq (.t 60) (.t 62)), [13, 15, 8], [13, 15, 8, 12, 11, 10, 9, 7, 4, 6, 3, 2, 1, 0, 5, 14], 4096⟩,
  ⟨(some 64), none, (.pick (.t 55) (.c (.bool true)) (.t 63)), [8, 16], [8, 16, 7, 4, 6, 3, 2, 1, 0, 5, 13, 15, 12, 11, 10, 9, 14], 4160⟩]) (.cond (.t 64) (.reg false [⟨(some 65), none, (.mov (.t 0)), [], [], 4224⟩,
  ⟨(some 66), none, (.fad 4 (.t 3)), [], [], 4288⟩,
  ⟨(some 67), none, (.ld false 1 (.t 66)), [], [], 4352⟩,
  ⟨(some 68), none, (.fad 5 (.t 3)), [], [], 4416⟩,
  ⟨(some 69), none, (.ld false 1 (.t 68)), [], [], 4480⟩,
  ⟨(some 70), none, (.mk [(.int .i64 0), (.int .i64 0), (.str [])] [(0, (1, (.t 67))), (1, (1, (.t 69)))]), [], [], 4544⟩,
  ⟨(some 71), none, (.chk (.t 65)), [], [], 4608⟩,
  ⟨(some 72), none, (.fad 19 (.t 71)), [], [], 4672⟩,
  ⟨none, none, (.st true 3 (.t 72) (.t 70)), [], [], 64⟩]) .skip)) (.seq (.seq (.reg true [⟨(some 73), none, (.fad 9 (.t 3)), [], [], 4736⟩,
  ⟨(some 74), none, (.ld false 1 (.t 73)), [0], [0], 4800⟩,
  ⟨(some 75), none, (.mov (.t 0)), [], [], 4864⟩,
  ⟨(some 76), none, (.chk (.t 75)), [2], [2], 4928⟩,
  ⟨(some 77), none, (.fad 19 (.t 76)), [3], [3, 2], 4992⟩,
  ⟨(some 78), none, (.fad 2 (.t 77)), [4], [4, 3, 2], 5056⟩,
  ⟨(some 79), none, (.ld false 1 (.t 78)), [5], [5, 4, 3, 2], 5120⟩,
  ⟨(some 80), none, (.len true (.t 79)), [6], [6, 5, 4, 3, 2], 5184⟩,
  ⟨(some 81), none, (.bin .eql (.t 74) (.t 80)), [1, 7], [1, 7, 0, 6, 5, 4, 3, 2], 5248⟩,
  ⟨(some 82), none, (.mov (.t 81)), [8], [8, 1, 7, 0, 6, 5, 4, 3, 2], 5312⟩,
  ⟨(some 83), (some (82, true)), (.mov (.t 0)), [9], [9, 8, 1, 7, 0, 6, 5, 4, 3, 2], 5376⟩,
  ⟨(some 84), (some (82, true)), (.chk (.t 83)), [10, 9], [10, 9, 8, 1, 7, 0, 6, 5, 4, 3, 2], 5440⟩,
  ⟨(some 85), (some (82, true)), (.fad 19 (.t 84)), [11, 9], [11, 9, 10, 8, 1, 7, 0, 6, 5, 4, 3, 2], 5504⟩,
  ⟨(some 86), (some (82, true)), (.fad 2 (.t 85)), [12, 9], [12, 9, 11, 10, 8, 1, 7, 0, 6, 5, 4, 3, 2], 5568⟩,
  ⟨(some 87), (some (82, true)), (.ld false 1 (.t 86)), [13, 9], [13, 9, 12, 11, 10, 8, 1, 7, 0, 6, 5, 4, 3, 2], 5632⟩,
  ⟨(some 88), (some (82, true)), (.len true (.t 87)), [14, 9], [14, 9, 13, 12, 11, 10, 8, 1, 7, 0, 6, 5, 4, 3, 2], 5696⟩,
  ⟨(some 89), (some (82, true)), (.bin .leq (.t 88) (.c (.int .i64 1048576))), [15, 9], [15, 9, 14, 13, 12, 11, 10, 8, 1, 7, 0, 6, 5, 4, 3, 2], 5760⟩,
  ⟨(some 90), none, (.pick (.t 82) (.t 89) (.c (.bool false))), [9, 16], [9, 16, 8, 1, 7, 0, 6, 5, 4, 3, 2, 15, 14, 13, 12, 11, 10], 5824⟩]) (.cond (.t 90) (.seq (.reg true [⟨(some 91), none, (.mov (.t 0)), [], [], 5888⟩,
  ⟨(some 92), none, (.chk (.t 91)), [0], [0], 5952⟩,
  ⟨(some 93), none, (.fad 19 (.t 92)), [1], [1, 0], 6016⟩,
  ⟨(some 94), none, (.fad 2 (.t 93)), [2], [2, 1, 0], 6080⟩,
  ⟨(some 95), none, (.ld false 1 (.t 94)), [3], [3, 2, 1, 0], 6144⟩,
  ⟨(some 96), none, (.fad 10 (.t 3)), [], [], 6208⟩,
  ⟨(some 97), none, (.ld false 1 (.t 96)), [5], [5], 6272⟩,
  ⟨(some 98), none, (.bin .add (.t 95) (.t 97)), [4, 6], [4, 6, 3, 2, 1, 0, 5], 6336⟩,
  ⟨(some 99), none, (.chk (.t 91)), [0, 0, 1, 2, 3, 4, 5, 6, 7], [0, 1, 2, 3, 4, 5, 6, 7], 6400⟩,
  ⟨(some 100), none, (.fad 19 (.t 99)), [8, 0, 1, 2, 3, 4, 5, 6, 7], [8, 0, 1, 2, 3, 4, 5, 6, 7], 6464⟩,
  ⟨(some 101), none, (.fad 2 (.t 100)), [9, 0, 1, 2, 3, 4, 5, 6, 7], [9, 0, 1, 2, 3, 4, 5, 6, 7, 8], 6528⟩,
  ⟨none, none, (.st false 1 (.t 101) (.t 98)), [10, 7, 0, 1, 2, 3, 4, 5, 6, 7], [10, 7, 0, 1, 2, 3, 4, 5, 6, 9, 8], 64⟩]) (.seq (.reg false [⟨(some 102), none, (.fad 11 (.t 3)), [], [], 6592⟩,
  ⟨(some 103), none, (.ld false 1 (.t 102)), [], [], 6656⟩]) (.cond (.t 103) (.seq (.reg false [⟨(some 104), none, (.mov (.t 0)), [], [], 6720⟩,
  ⟨(some 105), none, (.ld true 13 (.t 3)), [], [], 6784⟩,
  ⟨(some 106), none, (.call 56 [(.t 104), (.t 105)]), [], [], 6848⟩]) (.reg false [⟨(some 107), none, (.fad 11 (.t 5)), [], [], 6912⟩,
  ⟨none, none, (.st false 1 (.t 107) (.c (.bool true))), [], [], 64⟩])) .skip))) .skip)) (.seq (.reg true [⟨(some 108), none, (.mov (.t 0)), [], [], 6976⟩,
  ⟨(some 109), none, (.chk (.t 108)), [0], [0], 7040⟩,
  ⟨(some 110), none, (.fad 19 (.t 109)), [1], [1, 0], 7104⟩,
  ⟨(some 111), none, (.fad 2 (.t 110)), [2], [2, 1, 0], 7168⟩,
  ⟨(some 112), none, (.ld false 1 (.t 111)), [3], [3, 2, 1, 0], 7232⟩,
  ⟨(some 113), none, (.len true (.t 112)), [4], [4, 3, 2, 1, 0], 7296⟩,
  ⟨(some 114), none, (.fad 7 (.t 5)), [], [], 7360⟩,
  ⟨none, none, (.st false 1 (.t 114) (.c (.bool true))), [6], [6], 64⟩,
  ⟨(some 115), none, (.fad 9 (.t 5)), [0, 1, 2, 3, 4, 5, 6, 7], [0, 1, 2, 3, 4, 5, 6, 7], 7424⟩,
  ⟨none, none, (.st false 1 (.t 115) (.t 113)), [8, 5, 7, 0, 1, 2, 3, 4, 5, 6, 7], [8, 5, 7, 0, 1, 2, 3, 4, 6], 64⟩]) (.seq (.reg false [⟨(some 116), none, (.ld true 13 (.t 5)), [], [], 7488⟩,
  ⟨(some 117), none, (.mksl 13 1 [(.int .i64 0), (.int .i64 0), (.int .i64 0), (.int .i64 0), (.int .i64 0), (.int .i64 0), (.int .i64 0), (.bool false), (.sl .nil 0 []), (.int .i64 0), (.str []), (.bool false), (.sl .nil 0 [])] [(0, (13, (.t 116)))]), [], [], 7552⟩,
  ⟨(some 4), none, (.mov (.t 117)), [], [], 320⟩]) .ret))))))))), none⟩
theorem ok43 : FnOk Try.prog 43 ir43 := .inl ⟨Try.f43, 0, Try.func43, by kernel_rfl, by kernel_rfl⟩
/-- (*muniment/raft.Node).snapped -/
def ir44 : IFun := ⟨2, 80, [(.tmp 4)], (.seq (.reg false [⟨(some 3), none, (.box 13 (.t 1)), [], [], 256⟩,
  ⟨(some 4), none, (.mov (.c (.sl .nil 0 []))), [], [], 320⟩]) (.seq (.seq (.reg true [⟨(some 7), none, (.mov (.t 0)), [], [], 512⟩,
  ⟨(some 8), none, (.chk (.t 7)), [0], [0], 576⟩,
  ⟨(some 9), none, (.fad 8 (.t 8)), [1], [1, 0], 640⟩,
  ⟨(some 10), none, (.ld false 1 (.t 9)), [2], [2, 1, 0], 704⟩,
  ⟨(some 11), none, (.bin .neq (.t 10) (.c (.int .i64 3))), [3], [3, 2, 1, 0], 768⟩,
  ⟨(some 12), none, (.mov (.t 11)), [4], [4, 3, 2, 1, 0], 832⟩,
  ⟨(some 13), (some (12, false)), (.fad 3 (.t 3)), [5], [5, 4, 3, 2, 1, 0], 896⟩,
  ⟨(some 14), (some (12, false)), (.ld false 1 (.t 13)), [6, 5], [6, 5, 4, 3, 2, 1, 0], 960⟩,
  ⟨(some 15), (some (12, false)), (.mov (.t 0)), [5], [5, 4, 3, 2, 1, 0], 1024⟩,
  ⟨(some 16), (some (12, false)), (.chk (.t 15)), [8, 5], [8, 5, 4, 3, 2, 1, 0], 1088⟩,
  ⟨(some 17), (some (12, false)), (.fad 1 (.t 16)), [9, 5], [9, 5, 8, 4, 3, 2, 1, 0], 1152⟩,
  ⟨(some 18), (some (12, false)), (.fad 0 (.t 17)), [10, 5], [10, 5, 9, 8, 4, 3, 2, 1, 0], 1216⟩,
  ⟨(some 19), (some (12, false)), (.ld false 1 (.t 18)), [11, 5], [11, 5, 10, 9, 8, 4, 3, 2, 1, 0], 1280⟩,
  ⟨(some 20), (some (12, false)), (.bin .neq (.t 14) (.t 19)), [7, 12, 5], [7, 12, 5, 6, 4, 3, 2, 1, 0, 11, 10, 9, 8], 1344⟩,
  ⟨(some 21), none, (.pick (.t 12) (.c (.bool true)) (.t 20)), [5, 13], [5, 13, 4, 3, 2, 1, 0, 7, 12, 6, 11, 10, 9, 8], 1408⟩,
  ⟨(some 22), none, (.mov (.t 21)), [14, 5], [14, 5, 13, 4, 3, 2, 1, 0, 7, 12, 6, 11, 10, 9, 8], 1472⟩,
  ⟨(some 23), (some (22, false)), (.mov (.t 0)), [15], [15, 14, 5, 13, 4, 3, 2, 1, 0, 7, 12, 6, 11, 10, 9, 8], 1536⟩,
  ⟨(some 24), (some (22, false)), (.call 29 [(.t 23)]), [16, 15, 15], [16, 15, 14, 5, 13, 4, 3, 2, 1, 0, 7, 12, 6, 11, 10, 9, 8], 1600⟩,
  ⟨(some 25), (some (22, false)), (.fad 1 (.t 3)), [15], [15, 14, 5, 13, 4, 3, 2, 1, 0, 7, 12, 6, 11, 10, 9, 8], 1664⟩,
  ⟨(some 26), (some (22, false)), (.ld false 1 (.t 25)), [18, 15], [18, 15, 14, 5, 13, 4, 3, 2, 1, 0, 7, 12, 6, 11, 10, 9, 8], 1728⟩,
  ⟨(some 27), (some (22, false)), (.call 51 [(.t 24), (.t 26)]), [17, 19, 17, 15], [17, 19, 15, 16, 14, 5, 13, 4, 3, 2, 1, 0, 7, 12, 6, 11, 10, 9, 8, 18], 1792⟩,
  ⟨(some 28), (some (22, false)), (.un .not (.t 27)), [20, 15], [20, 15, 17, 19, 16, 14, 5, 13, 4, 3, 2, 1, 0, 7, 12, 6, 11, 10, 9, 8, 18], 1856⟩,
  ⟨(some 29), none, (.pick (.t 22) (.c (.bool true)) (.t 28)), [15, 21], [15, 21, 14, 5, 13, 4, 3, 2, 1, 0, 7, 12, 6, 11, 10, 9, 8, 20, 17, 19, 16, 18], 1920⟩,
  ⟨(some 30), none, (.mov (.t 29)), [22, 20], [22, 20, 15, 21, 14, 5, 13, 4, 3, 2, 1, 0, 7, 12, 6, 11, 10, 9, 8, 17, 19, 16, 18], 1984⟩,
  ⟨(some 31), (some (30, false)), (.fad 7 (.t 3)), [23], [23, 22, 20, 15, 21, 14, 5, 13, 4, 3, 2, 1, 0, 7, 12, 6, 11, 10, 9, 8, 17, 19, 16, 18], 2048⟩,
  ⟨(some 32), (some (30, false)), (.ld false 1 (.t 31)), [24, 23], [24, 23, 22, 20, 15, 21, 14, 5, 13, 4, 3, 2, 1, 0, 7, 12, 6, 11, 10, 9, 8, 17, 19, 16, 18], 2112⟩,
  ⟨(some 33), (some (30, false)), (.un .not (.t 32)), [25, 23], [25, 23, 24, 22, 20, 15, 21, 14, 5, 13, 4, 3, 2, 1, 0, 7, 12, 6, 11, 10, 9, 8, 17, 19, 16, 18], 2176⟩,
  ⟨(some 34), none, (.pick (.t 30) (.c (.bool true)) (.t 33)), [23, 26], [23, 26, 22, 20, 15, 21, 14, 5, 13, 4, 3, 2, 1, 0, 7, 12, 6, 11, 10, 9, 8, 17, 19, 16, 18, 25, 24], 2240⟩,
  ⟨(some 35), none, (.mov (.t 34)), [27, 23], [27, 23, 26, 22, 20, 15, 21, 14, 5, 13, 4, 3, 2, 1, 0, 7, 12, 6, 11, 10, 9, 8, 17, 19, 16, 18, 25, 24], 2304⟩,
  ⟨(some 36), (some (35, false)), (.fad 4 (.t 3)), [28], [28, 27, 23, 26, 22, 20, 15, 21, 14, 5, 13, 4, 3, 2, 1, 0, 7, 12, 6, 11, 10, 9, 8, 17, 19, 16, 18, 25, 24], 2368⟩,
  ⟨(some 37), (some (35, false)), (.ld false 1 (.t 36)), [29, 28], [29, 28, 27, 23, 26, 22, 20, 15, 21, 14, 5, 13, 4, 3, 2, 1, 0, 7, 12, 6, 11, 10, 9, 8, 17, 19, 16, 18, 25, 24], 2432⟩,
  ⟨(some 38), (some (35, false)), (.mov (.t 0)), [28], [28, 27, 23, 26, 22, 20, 15, 21, 14, 5, 13, 4, 3, 2, 1, 0, 7, 12, 6, 11, 10, 9, 8, 17, 19, 16, 18, 25, 24], 2496⟩,
  ⟨(some 39), (some (35, false)), (.chk (.t 38)), [31, 28], [31, 28, 27, 23, 26, 22, 20, 15, 21, 14, 5, 13, 4, 3, 2, 1, 0, 7, 12, 6, 11, 10, 9, 8, 17, 19, 16, 18, 25, 24], 2560⟩,
  ⟨(some 40), (some (35, false)), (.fad 1 (.t 39)), [32, 28], [32, 28, 31, 27, 23, 26, 22, 20, 15, 21, 14, 5, 13, 4, 3, 2, 1, 0, 7, 12, 6, 11, 10, 9, 8, 17, 19, 16, 18, 25, 24], 2624⟩,
  ⟨(some 41), (some (35, false)), (.fad 2 (.t 40)), [33, 28], [33, 28, 32, 31, 27, 23, 26, 22, 20, 15, 21, 14, 5, 13, 4, 3, 2, 1, 0, 7, 12, 6, 11, 10, 9, 8, 17, 19, 16, 18, 25, 24], 2688⟩,
  ⟨(some 42), (some (35, false)), (.ld false 1 (.t 41)), [34, 28], [34, 28, 33, 32, 31, 27, 23, 26, 22, 20, 15, 21, 14, 5, 13, 4, 3, 2, 1, 0, 7, 12, 6, 11, 10, 9, 8, 17, 19, 16, 18, 25, 24], 2752⟩,
  ⟨(some 43), (some (35, false)), (.bin .neq (.t 37) (.t 42)), [30, 35, 28], [30, 35, 28, 29, 27, 23, 26, 22, 20, 15, 21, 14, 5, 13, 4, 3, 2, 1, 0, 7, 12, 6, 11, 10, 9, 8, 17, 19, 16, 18, 25, 24, 34, 33, 32, 31], 2816⟩,
  ⟨(some 44), none, (.pick (.t 35) (.c (.bool true)) (.t 43)), [28, 36], [28, 36, 27, 23, 26, 22, 20, 15, 21, 14, 5, 13, 4, 3, 2, 1, 0, 7, 12, 6, 11, 10, 9, 8, 17, 19, 16, 18, 25, 24, 30, 35, 29, 34, 33, 32, 31], 2880⟩]) (.cond (.t 44) (.seq (.reg false [⟨(some 4), none, (.mov (.c (.sl .nil 0 []))), [], [], 320⟩]) .ret) .skip)) (.seq (.seq (.reg false [⟨(some 45), none, (.fad 11 (.t 3)), [], [], 2944⟩,
  ⟨(some 46), none, (.ld false 1 (.t 45)), [], [], 3008⟩]) (.cond (.t 46) (.seq (.reg false [⟨(some 47), none, (.mov (.t 0)), [], [], 3072⟩,
  ⟨(some 48), none, (.fad 1 (.t 3)), [], [], 3136⟩,
  ⟨(some 49), none, (.ld false 1 (.t 48)), [], [], 3200⟩,
  ⟨(some 50), none, (.fad 4 (.t 3)), [], [], 3264⟩,
  ⟨(some 51), none, (.ld false 1 (.t 50)), [], [], 3328⟩,
  ⟨(some 52), none, (.call 55 [(.t 47), (.t 49), (.t 51)]), [], [], 3392⟩,
  ⟨(some 4), none, (.mov (.t 52)), [], [], 320⟩]) .ret) .skip)) (.seq (.reg true [⟨(some 53), none, (.mov (.t 0)), [], [], 3456⟩,
  ⟨(some 54), none, (.chk (.t 53)), [0], [0], 3520⟩,
  ⟨(some 55), none, (.fad 18 (.t 54)), [1], [1, 0], 3584⟩,
  ⟨(some 56), none, (.ld false 1 (.t 55)), [2], [2, 1, 0], 3648⟩,
  ⟨(some 57), none, (.fad 1 (.t 3)), [], [], 3712⟩,
  ⟨(some 58), none, (.ld false 1 (.t 57)), [4], [4], 3776⟩,
  ⟨(some 59), none, (.fad 9 (.t 3)), [], [], 3840⟩,
  ⟨(some 60), none, (.ld false 1 (.t 59)), [6], [6], 3904⟩,
  ⟨none, none, (.mset (.one .i) (.t 56) (.t 58) (.t 60)), [3, 5, 7, 0, 1, 2, 3, 4, 5, 6, 7], [3, 5, 7, 0, 1, 2, 4, 6], 64⟩]) (.seq (.seq (.reg true [⟨(some 62), none, (.mov (.t 0)), [], [], 4032⟩,
  ⟨(some 63), none, (.mov (.t 0)), [], [], 4096⟩,
  ⟨(some 64), none, (.chk (.t 63)), [1], [1], 4160⟩,
  ⟨(some 65), none, (.fad 16 (.t 64)), [2], [2, 1], 4224⟩,
  ⟨(some 66), none, (.ld false 1 (.t 65)), [3], [3, 2, 1], 4288⟩,
  ⟨(some 67), none, (.fad 1 (.t 3)), [], [], 4352⟩,
  ⟨(some 68), none, (.ld false 1 (.t 67)), [5], [5], 4416⟩,
  ⟨(some 69), none, (.mget (.one .i) false (.int .i64 0) (.t 66) (.t 68)), [4, 6], [4, 6, 3, 2, 1, 5], 4480⟩,
  ⟨(some 70), none, (.bin .sub (.t 69) (.c (.int .i64 1))), [7], [7, 4, 6, 3, 2, 1, 5], 4544⟩,
  ⟨(some 71), none, (.call 35 [(.t 62), (.t 70)]), [0, 8], [0, 8, 7, 4, 6, 3, 2, 1, 5], 4608⟩,
  ⟨(some 61), none, (.mov (.t 71)), [9], [9, 0, 8, 7, 4, 6, 3, 2, 1, 5], 3968⟩,
  ⟨(some 72), none, (.ext 0 (.t 61)), [10], [10, 9, 0, 8, 7, 4, 6, 3, 2, 1, 5], 4672⟩,
  ⟨(some 73), none, (.ext 1 (.t 61)), [10], [10, 9, 0, 8, 7, 4, 6, 3, 2, 1, 5], 4736⟩,
  ⟨(some 5), none, (.mov (.t 72)), [11, 9, 0, 1, 2, 3, 4, 5, 6, 7, 8, 9, 10, 11], [11, 9, 0, 1, 2, 3, 4, 5, 6, 7, 8, 10], 384⟩,
  ⟨(some 6), none, (.mov (.t 73)), [12, 13, 0, 1, 2, 3, 4, 5, 6, 7, 8, 9, 10, 11, 12, 13], [12, 13, 0, 1, 2, 3, 4, 5, 6, 7, 8, 9, 10, 11], 448⟩]) (.seq (.reg false [⟨(some 74), none, (.mov (.t 6)), [], [], 4800⟩]) (.cond (.t 74) (.seq (.reg false [⟨(some 4), none, (.mov (.c (.sl .nil 0 []))), [], [], 320⟩]) .ret) .skip))) (.seq (.reg false [⟨(some 75), none, (.mov (.t 0)), [], [], 4864⟩,
  ⟨(some 76), none, (.fad 1 (.t 3)), [], [], 4928⟩,
  ⟨(some 77), none, (.ld false 1 (.t 76)), [], [], 4992⟩,
  ⟨(some 78), none, (.call 30 [(.t 75), (.t 77)]), [], [], 5056⟩,
  ⟨(some 79), none, (.mksl 13 1 [(.int .i64 0), (.int .i64 0), (.int .i64 0), (.int .i64 0), (.int .i64 0), (.int .i64 0), (.int .i64 0), (.bool false), (.sl .nil 0 []), (.int .i64 0), (.str []), (.bool false), (.sl .nil 0 [])] [(0, (13, (.t 78)))]), [], [], 5120⟩,
  ⟨(some 4), none, (.mov (.t 79)), [], [], 320⟩]) .ret)))))), none⟩
theorem ok44 : FnOk Try.prog 44 ir44 := .inl ⟨Try.f44, 0, Try.func44, by kernel_rfl, by kernel_rfl⟩
/-- muniment/conf.Latest -/
def lp45_0 : IC := (.seq (.seq (.reg false [⟨(some 10), none, (.mov (.t 6)), [], [], 704⟩,
  ⟨(some 11), none, (.bin .geq (.t 10) (.c (.int .i64 0))), [], [], 768⟩]) (.cond (.t 11) .skip (.exit 0))) (.seq (.block 1 (.seq (.reg false [⟨(some 14), none, (.mov (.t 1)), [], [], 960⟩,
  ⟨(some 15), none, (.mov (.t 6)), [], [], 1024⟩,
  ⟨(some 16), none, (.iaL 4 (.t 14) (.t 15)), [], [], 1088⟩,
  ⟨(some 17), none, (.fad 2 (.t 16)), [], [], 1152⟩,
  ⟨(some 18), none, (.ld false 1 (.t 17)), [], [], 1216⟩]) (.cond (.t 18) (.seq (.reg false [⟨(some 19), none, (.mov (.t 1)), [], [], 1280⟩,
  ⟨(some 20), none, (.mov (.t 6)), [], [], 1344⟩,
  ⟨(some 21), none, (.iaL 4 (.t 19) (.t 20)), [], [], 1408⟩,
  ⟨(some 22), none, (.fad 3 (.t 21)), [], [], 1472⟩,
  ⟨(some 23), none, (.ld false 1 (.t 22)), [], [], 1536⟩,
  ⟨(some 24), none, (.call 27 [(.t 23)]), [], [], 1600⟩,
  ⟨(some 25), none, (.mov (.t 6)), [], [], 1664⟩,
  ⟨(some 26), none, (.bin .add (.t 25) (.c (.int .i64 1))), [], [], 1728⟩,
  ⟨(some 4), none, (.mov (.t 24)), [], [], 320⟩,
  ⟨(some 5), none, (.mov (.t 26)), [], [], 384⟩]) .ret) .skip))) (.reg false [⟨(some 12), none, (.mov (.t 6)), [], [], 832⟩,
  ⟨(some 13), none, (.bin .sub (.t 12) (.c (.int .i64 1))), [], [], 896⟩,
  ⟨(some 6), none, (.mov (.t 13)), [], [], 448⟩])))
def ir45 : IFun := ⟨2, 29, [(.tmp 4), (.tmp 5)], (.seq (.reg false [⟨(some 4), none, (.mov (.c (.sl .nil 0 []))), [], [], 320⟩,
  ⟨(some 5), none, (.mov (.c (.int .i64 0))), [], [], 384⟩]) (.seq (.seq (.reg false [⟨(some 7), none, (.mov (.t 1)), [], [], 512⟩,
  ⟨(some 8), none, (.len false (.t 7)), [], [], 576⟩,
  ⟨(some 9), none, (.bin .sub (.t 8) (.c (.int .i64 1))), [], [], 640⟩,
  ⟨(some 6), none, (.mov (.t 9)), [], [], 448⟩]) (.block 0 (.loop lp45_0))) (.seq (.reg false [⟨(some 27), none, (.mov (.t 0)), [], [], 1792⟩,
  ⟨(some 28), none, (.call 27 [(.t 27)]), [], [], 1856⟩,
  ⟨(some 4), none, (.mov (.t 28)), [], [], 320⟩,
  ⟨(some 5), none, (.mov (.c (.int .i64 0))), [], [], 384⟩]) .ret))), none⟩
theorem ok45 : FnOk Try.prog 45 ir45 := .inl ⟨Try.f45, 0, Try.func45, by kernel_rfl, by kernel_rfl⟩
/-- muniment/raft.cloneEntries -/
def lp46_0 : IC := (.seq (.reg false [⟨(some 9), none, (.bin .lss (.t 8) (.t 7)), [], [], 640⟩]) (.seq (.cond (.t 9) .skip (.exit 0)) (.seq (.block 1 (.seq (.reg false [⟨(some 10), none, (.iaL 4 (.t 6) (.t 8)), [], [], 704⟩,
  ⟨(some 11), none, (.ld true 4 (.t 10)), [], [], 768⟩,
  ⟨(some 5), none, (.new [(.int .i64 0), (.str []), (.bool false), (.sl .nil 0 [])]), [], [], 384⟩,
  ⟨none, none, (.st true 4 (.t 5) (.t 11)), [], [], 64⟩]) (.reg false [⟨(some 12), none, (.mov (.t 3)), [], [], 832⟩,
  ⟨(some 13), none, (.ld true 4 (.t 5)), [], [], 896⟩,
  ⟨(some 14), none, (.call 25 [(.t 13)]), [], [], 960⟩,
  ⟨(some 15), none, (.mksl 4 1 [(.int .i64 0), (.str []), (.bool false), (.sl .nil 0 [])] [(0, (4, (.t 14)))]), [], [], 1024⟩,
  ⟨(some 16), none, (.app 4 56 (.t 12) (.t 15)), [], [], 1088⟩,
  ⟨(some 3), none, (.mov (.t 16)), [], [], 256⟩]))) (.reg false [⟨(some 17), none, (.bin .add (.t 8) (.c (.int .i64 1))), [], [], 1152⟩,
  ⟨(some 8), none, (.mov (.t 17)), [], [], 576⟩]))))
def ir46 : IFun := ⟨1, 19, [(.tmp 2)], (.seq (.reg false [⟨(some 2), none, (.mov (.c (.sl .nil 0 []))), [], [], 192⟩]) (.seq (.reg false [⟨(some 3), none, (.mov (.c (.sl .nil 0 []))), [], [], 256⟩]) (.seq (.seq (.reg false [⟨(some 6), none, (.mov (.t 0)), [], [], 448⟩,
  ⟨(some 7), none, (.len false (.t 6)), [], [], 512⟩,
  ⟨(some 8), none, (.mov (.c (.int .i64 0))), [], [], 576⟩]) (.block 0 (.loop lp46_0))) (.seq (.reg false [⟨(some 18), none, (.mov (.t 3)), [], [], 1216⟩,
  ⟨(some 2), none, (.mov (.t 18)), [], [], 192⟩]) .ret)))), none⟩
theorem ok46 : FnOk Try.prog 46 ir46 := .inl ⟨Try.f46, 0, Try.func46, by kernel_rfl, by kernel_rfl⟩
/-- (*muniment/raft.Node).confIndex -/
def ir47 : IFun := ⟨1, 26, [(.tmp 2)], (.seq (.reg false [⟨(some 2), none, (.mov (.c (.int .i64 0))), [], [], 192⟩]) (.seq (.reg true [⟨(some 6), none, (.mov (.t 0)), [], [], 448⟩,
  ⟨(some 7), none, (.chk (.t 6)), [0], [0], 512⟩,
  ⟨(some 8), none, (.fad 1 (.t 7)), [1], [1, 0], 576⟩,
  ⟨(some 9), none, (.fad 5 (.t 8)), [2], [2, 1, 0], 640⟩,
  ⟨(some 10), none, (.ld false 1 (.t 9)), [3], [3, 2, 1, 0], 704⟩,
  ⟨(some 11), none, (.mov (.t 0)), [], [], 768⟩,
  ⟨(some 12), none, (.chk (.t 11)), [5], [5], 832⟩,
  ⟨(some 13), none, (.fad 1 (.t 12)), [6], [6, 5], 896⟩,
  ⟨(some 14), none, (.fad 6 (.t 13)), [7], [7, 6, 5], 960⟩,
  ⟨(some 15), none, (.ld false 1 (.t 14)), [8], [8, 7, 6, 5], 1024⟩,
  ⟨(some 16), none, (.call 45 [(.t 10), (.t 15)]), [4, 9], [4, 9, 3, 2, 1, 0, 8, 7, 6, 5], 1088⟩,
  ⟨(some 5), none, (.mov (.t 16)), [10], [10, 4, 9, 3, 2, 1, 0, 8, 7, 6, 5], 384⟩,
  ⟨(some 17), none, (.ext 0 (.t 5)), [11], [11, 10, 4, 9, 3, 2, 1, 0, 8, 7, 6, 5], 1152⟩,
  ⟨(some 18), none, (.ext 1 (.t 5)), [11], [11, 10, 4, 9, 3, 2, 1, 0, 8, 7, 6, 5], 1216⟩,
  ⟨(some 3), none, (.mov (.t 17)), [12, 10, 0, 1, 2, 3, 4, 5, 6, 7, 8, 9, 10, 11, 12], [12, 10, 0, 1, 2, 3, 4, 5, 6, 7, 8, 9, 11], 256⟩,
  ⟨(some 4), none, (.mov (.t 18)), [13, 14, 0, 1, 2, 3, 4, 5, 6, 7, 8, 9, 10, 11, 12, 13, 14], [13, 14, 0, 1, 2, 3, 4, 5, 6, 7, 8, 9, 10, 11, 12], 320⟩]) (.seq (.reg false [⟨(some 19), none, (.mov (.t 0)), [], [], 1280⟩,
  ⟨(some 20), none, (.chk (.t 19)), [], [], 1344⟩,
  ⟨(some 21), none, (.fad 1 (.t 20)), [], [], 1408⟩,
  ⟨(some 22), none, (.fad 2 (.t 21)), [], [], 1472⟩,
  ⟨(some 23), none, (.ld false 1 (.t 22)), [], [], 1536⟩,
  ⟨(some 24), none, (.mov (.t 4)), [], [], 1600⟩,
  ⟨(some 25), none, (.bin .add (.t 23) (.t 24)), [], [], 1664⟩,
  ⟨(some 2), none, (.mov (.t 25)), [], [], 192⟩]) .ret))), none⟩
theorem ok47 : FnOk Try.prog 47 ir47 := .inl ⟨Try.f47, 0, Try.func47, by kernel_rfl, by kernel_rfl⟩
/-- muniment/conf.Next -/
def ir48 : IFun := ⟨2, 21, [(.tmp 4)], (.seq (.reg false [⟨(some 4), none, (.mov (.c (.bool false))), [], [], 320⟩]) (.seq (.seq (.reg false [⟨(some 5), none, (.mov (.t 0)), [], [], 384⟩,
  ⟨(some 6), none, (.call 57 [(.t 5)]), [], [], 448⟩,
  ⟨(some 7), none, (.un .not (.t 6)), [], [], 512⟩,
  ⟨(some 8), none, (.mov (.t 7)), [], [], 576⟩,
  ⟨(some 9), (some (8, false)), (.mov (.t 1)), [], [], 640⟩,
  ⟨(some 10), (some (8, false)), (.call 57 [(.t 9)]), [], [], 704⟩,
  ⟨(some 11), (some (8, false)), (.un .not (.t 10)), [], [], 768⟩,
  ⟨(some 12), none, (.pick (.t 8) (.c (.bool true)) (.t 11)), [], [], 832⟩]) (.cond (.t 12) (.seq (.reg false [⟨(some 4), none, (.mov (.c (.bool false))), [], [], 320⟩]) .ret) .skip)) (.seq (.reg false [⟨(some 13), none, (.mov (.t 0)), [], [], 896⟩,
  ⟨(some 14), none, (.mov (.t 1)), [], [], 960⟩,
  ⟨(some 15), none, (.call 58 [(.t 13), (.t 14)]), [], [], 1024⟩,
  ⟨(some 16), none, (.mov (.t 1)), [], [], 1088⟩,
  ⟨(some 17), none, (.mov (.t 0)), [], [], 1152⟩,
  ⟨(some 18), none, (.call 58 [(.t 16), (.t 17)]), [], [], 1216⟩,
  ⟨(some 19), none, (.bin .add (.t 15) (.t 18)), [], [], 1280⟩,
  ⟨(some 20), none, (.bin .eql (.t 19) (.c (.int .i64 1))), [], [], 1344⟩,
  ⟨(some 4), none, (.mov (.t 20)), [], [], 320⟩]) .ret))), none⟩
theorem ok48 : FnOk Try.prog 48 ir48 := .inl ⟨Try.f48, 0, Try.func48, by kernel_rfl, by kernel_rfl⟩
/-- muniment/conf.Without -/
def ir49 : IFun := ⟨2, 9, [(.tmp 4)], (.seq (.reg false [⟨(some 3), none, (.box 1 (.t 1)), [], [], 256⟩,
  ⟨(some 4), none, (.mov (.c (.sl .nil 0 []))), [], [], 320⟩]) (.seq (.reg false [⟨(some 5), none, (.mov (.t 0)), [], [], 384⟩,
  ⟨(some 6), none, (.call 27 [(.t 5)]), [], [], 448⟩,
  ⟨(some 7), none, (.clo 60 [(.t 3)]), [], [], 512⟩,
  ⟨(some 8), none, (.call 59 [(.t 6), (.t 7)]), [], [], 576⟩,
  ⟨(some 4), none, (.mov (.t 8)), [], [], 320⟩]) .ret)), none⟩
theorem ok49 : FnOk Try.prog 49 ir49 := .inl ⟨Try.f49, 0, Try.func49, by kernel_rfl, by kernel_rfl⟩
/-- (*muniment/raft.Node).piece -/
def ir50 : IFun := ⟨2, 78, [(.cell 4 true 13)], (.seq (.reg false [⟨(some 4), none, (.new [(.int .i64 0), (.int .i64 0), (.int .i64 0), (.int .i64 0), (.int .i64 0), (.int .i64 0), (.int .i64 0), (.bool false), (.sl .nil 0 []), (.int .i64 0), (.str []), (.bool false), (.sl .nil 0 [])]), [], [], 320⟩]) (.seq (.reg false [⟨(some 7), none, (.mov (.t 0)), [], [], 512⟩,
  ⟨(some 8), none, (.chk (.t 7)), [], [], 576⟩,
  ⟨(some 9), none, (.fad 18 (.t 8)), [], [], 640⟩,
  ⟨(some 10), none, (.ld false 1 (.t 9)), [], [], 704⟩,
  ⟨(some 11), none, (.mov (.t 1)), [], [], 768⟩,
  ⟨(some 12), none, (.mget (.one .i) false (.int .i64 0) (.t 10) (.t 11)), [], [], 832⟩,
  ⟨(some 5), none, (.mov (.t 12)), [], [], 384⟩]) (.seq (.seq (.reg false [⟨(some 13), none, (.mov (.t 5)), [], [], 896⟩,
  ⟨(some 14), none, (.bin .lss (.t 13) (.c (.int .i64 0))), [], [], 960⟩,
  ⟨(some 15), none, (.mov (.t 14)), [], [], 1024⟩,
  ⟨(some 16), (some (15, false)), (.mov (.t 5)), [], [], 1088⟩,
  ⟨(some 17), (some (15, false)), (.mov (.t 0)), [], [], 1152⟩,
  ⟨(some 18), (some (15, false)), (.chk (.t 17)), [], [], 1216⟩,
  ⟨(some 19), (some (15, false)), (.fad 1 (.t 18)), [], [], 1280⟩,
  ⟨(some 20), (some (15, false)), (.fad 4 (.t 19)), [], [], 1344⟩,
  ⟨(some 21), (some (15, false)), (.ld false 1 (.t 20)), [], [], 1408⟩,
  ⟨(some 22), (some (15, false)), (.len true (.t 21)), [], [], 1472⟩,
  ⟨(some 23), (some (15, false)), (.bin .gtr (.t 16) (.t 22)), [], [], 1536⟩,
  ⟨(some 24), none, (.pick (.t 15) (.c (.bool true)) (.t 23)), [], [], 1600⟩]) (.cond (.t 24) (.reg false [⟨(some 5), none, (.mov (.c (.int .i64 0))), [], [], 384⟩]) .skip)) (.seq (.reg false [⟨(some 25), none, (.mov (.t 0)), [], [], 1664⟩,
  ⟨(some 26), none, (.chk (.t 25)), [], [], 1728⟩,
  ⟨(some 27), none, (.fad 1 (.t 26)), [], [], 1792⟩,
  ⟨(some 28), none, (.fad 4 (.t 27)), [], [], 1856⟩,
  ⟨(some 29), none, (.ld false 1 (.t 28)), [], [], 1920⟩,
  ⟨(some 30), none, (.len true (.t 29)), [], [], 1984⟩,
  ⟨(some 31), none, (.mov (.t 5)), [], [], 2048⟩,
  ⟨(some 32), none, (.bin .add (.t 31) (.c (.int .i64 200))), [], [], 2112⟩,
  ⟨(some 33), none, (.mm false (.t 30) (.t 32)), [], [], 2176⟩,
  ⟨(some 6), none, (.mov (.t 33)), [], [], 448⟩]) (.seq (.reg true [⟨(some 34), none, (.mov (.t 0)), [], [], 2240⟩,
  ⟨(some 35), none, (.chk (.t 34)), [0], [0], 2304⟩,
  ⟨(some 36), none, (.fad 0 (.t 35)), [1], [1, 0], 2368⟩,
  ⟨(some 37), none, (.ld false 1 (.t 36)), [2], [2, 1, 0], 2432⟩,
  ⟨(some 38), none, (.mov (.t 1)), [], [], 2496⟩,
  ⟨(some 39), none, (.mov (.t 0)), [], [], 2560⟩,
  ⟨(some 40), none, (.chk (.t 39)), [5], [5], 2624⟩,
  ⟨(some 41), none, (.fad 1 (.t 40)), [6], [6, 5], 2688⟩,
  ⟨(some 42), none, (.fad 0 (.t 41)), [7], [7, 6, 5], 2752⟩,
  ⟨(some 43), none, (.ld false 1 (.t 42)), [8], [8, 7, 6, 5], 2816⟩,
  ⟨(some 44), none, (.mov (.t 0)), [], [], 2880⟩,
  ⟨(some 45), none, (.chk (.t 44)), [10], [10], 2944⟩,
  ⟨(some 46), none, (.fad 1 (.t 45)), [11], [11, 10], 3008⟩,
  ⟨(some 47), none, (.fad 2 (.t 46)), [12], [12, 11, 10], 3072⟩,
  ⟨(some 48), none, (.ld false 1 (.t 47)), [13], [13, 12, 11, 10], 3136⟩,
  ⟨(some 49), none, (.mov (.t 0)), [], [], 3200⟩,
  ⟨(some 50), none, (.chk (.t 49)), [15], [15], 3264⟩,
  ⟨(some 51), none, (.fad 1 (.t 50)), [16], [16, 15], 3328⟩,
  ⟨(some 52), none, (.fad 3 (.t 51)), [17], [17, 16, 15], 3392⟩,
  ⟨(some 53), none, (.ld false 1 (.t 52)), [18], [18, 17, 16, 15], 3456⟩,
  ⟨(some 54), none, (.mov (.t 5)), [], [], 3520⟩,
  ⟨(some 55), none, (.mov (.t 0)), [], [], 3584⟩,
  ⟨(some 56), none, (.chk (.t 55)), [21], [21], 3648⟩,
  ⟨(some 57), none, (.fad 1 (.t 56)), [22], [22, 21], 3712⟩,
  ⟨(some 58), none, (.fad 4 (.t 57)), [23], [23, 22, 21], 3776⟩,
  ⟨(some 59), none, (.ld false 1 (.t 58)), [24], [24, 23, 22, 21], 3840⟩,
  ⟨(some 60), none, (.mov (.t 5)), [], [], 3904⟩,
  ⟨(some 61), none, (.mov (.t 6)), [], [], 3968⟩,
  ⟨(some 62), none, (.slS (.t 59) (some (.t 60)) (some (.t 61))), [25, 26, 27], [25, 26, 27, 24, 23, 22, 21], 4032⟩,
  ⟨(some 63), none, (.mov (.t 6)), [], [], 4096⟩,
  ⟨(some 64), none, (.mov (.t 0)), [], [], 4160⟩,
  ⟨(some 65), none, (.chk (.t 64)), [30], [30], 4224⟩,
  ⟨(some 66), none, (.fad 1 (.t 65)), [31], [31, 30], 4288⟩,
  ⟨(some 67), none, (.fad 4 (.t 66)), [32], [32, 31, 30], 4352⟩,
  ⟨(some 68), none, (.ld false 1 (.t 67)), [33], [33, 32, 31, 30], 4416⟩,
  ⟨(some 69), none, (.len true (.t 68)), [34], [34, 33, 32, 31, 30], 4480⟩,
  ⟨(some 70), none, (.bin .eql (.t 63) (.t 69)), [29, 35], [29, 35, 34, 33, 32, 31, 30], 4544⟩,
  ⟨(some 71), none, (.mov (.t 0)), [], [], 4608⟩,
  ⟨(some 72), none, (.chk (.t 71)), [37], [37], 4672⟩,
  ⟨(some 73), none, (.fad 1 (.t 72)), [38], [38, 37], 4736⟩,
  ⟨(some 74), none, (.fad 5 (.t 73)), [39], [39, 38, 37], 4800⟩,
  ⟨(some 75), none, (.ld false 1 (.t 74)), [40], [40, 39, 38, 37], 4864⟩,
  ⟨(some 76), none, (.call 27 [(.t 75)]), [41], [41, 40, 39, 38, 37], 4928⟩,
  ⟨(some 77), none, (.mk [(.int .i64 0), (.int .i64 0), (.int .i64 0), (.int .i64 0), (.int .i64 0), (.int .i64 0), (.int .i64 0), (.bool false), (.sl .nil 0 []), (.int .i64 0), (.str []), (.bool false), (.sl .nil 0 [])] [(0, (1, (.c (.int .i64 5)))), (1, (1, (.t 37))), (2, (1, (.t 38))), (3, (1, (.t 43))), (4, (1, (.t 48))), (5, (1, (.t 53))), (9, (1, (.t 54))), (10, (1, (.t 62))), (11, (1, (.t 70))), (12, (1, (.t 76)))]), [3, 4, 9, 14, 19, 20, 28, 36, 42], [3, 4, 9, 14, 19, 20, 28, 36, 42, 2, 1, 0, 8, 7, 6, 5, 13, 12, 11, 10, 18, 17, 16, 15, 25, 26, 27, 24, 23, 22, 21, 29, 35, 34, 33, 32, 31, 30, 41, 40, 39, 38, 37], 4992⟩,
  ⟨none, none, (.st true 13 (.t 4) (.t 77)), [43, 42, 0, 1, 2, 3, 4, 5, 6, 7, 8, 9, 10, 11, 12, 13, 14, 15, 16, 17, 18, 19, 20, 21, 22, 23, 24, 25, 26, 27, 28, 29, 30, 31, 32, 33, 34, 35, 36, 37, 38, 39, 40, 41, 42, 43], [43, 42, 0, 1, 2, 3, 4, 5, 6, 7, 8, 9, 10, 11, 12, 13, 14, 15, 16, 17, 18, 19, 20, 21, 22, 23, 24, 25, 26, 27, 28, 29, 30, 31, 32, 33, 34, 35, 36, 37, 38, 39, 40, 41], 64⟩]) .ret))))), none⟩
theorem ok50 : FnOk Try.prog 50 ir50 := .inl ⟨Try.f50, 0, Try.func50, by kernel_rfl, by kernel_rfl⟩
/-- muniment/conf.Has -/
def ir51 : IFun := ⟨2, 14, [(.tmp 4)], (.seq (.reg false [⟨(some 4), none, (.mov (.c (.bool false))), [], [], 320⟩]) (.seq (.reg false [⟨(some 8), none, (.mov (.t 0)), [], [], 576⟩,
  ⟨(some 9), none, (.mov (.t 1)), [], [], 640⟩,
  ⟨(some 10), none, (.call 61 [(.t 8), (.t 9)]), [], [], 704⟩,
  ⟨(some 7), none, (.mov (.t 10)), [], [], 512⟩,
  ⟨(some 11), none, (.ext 0 (.t 7)), [], [], 768⟩,
  ⟨(some 12), none, (.ext 1 (.t 7)), [], [], 832⟩,
  ⟨(some 5), none, (.mov (.t 11)), [], [], 384⟩,
  ⟨(some 6), none, (.mov (.t 12)), [], [], 448⟩]) (.seq (.reg false [⟨(some 13), none, (.mov (.t 6)), [], [], 896⟩,
  ⟨(some 4), none, (.mov (.t 13)), [], [], 320⟩]) .ret))), none⟩
theorem ok51 : FnOk Try.prog 51 ir51 := .inl ⟨Try.f51, 0, Try.func51, by kernel_rfl, by kernel_rfl⟩
/-- muniment/head.Most -/
def ir52 : IFun := ⟨1, 6, [(.tmp 2)], (.seq (.reg false [⟨(some 2), none, (.mov (.c (.int .i64 0))), [], [], 192⟩]) (.seq (.reg false [⟨(some 3), none, (.mov (.t 0)), [], [], 256⟩,
  ⟨(some 4), none, (.bin .quo (.t 3) (.c (.int .i64 2))), [], [], 320⟩,
  ⟨(some 5), none, (.bin .add (.t 4) (.c (.int .i64 1))), [], [], 384⟩,
  ⟨(some 2), none, (.mov (.t 5)), [], [], 192⟩]) .ret)), none⟩
theorem ok52 : FnOk Try.prog 52 ir52 := .inl ⟨Try.f52, 0, Try.func52, by kernel_rfl, by kernel_rfl⟩
/-- (*muniment/raft.Node).taken -/
def lp53_0 : IC := (.seq (.reg false [⟨(some 71), none, (.bin .lss (.t 70) (.t 69)), [], [], 4608⟩]) (.seq (.cond (.t 71) .skip (.exit 0)) (.seq (.block 1 (.seq (.reg false [⟨(some 72), none, (.mov (.t 70)), [], [], 4672⟩,
  ⟨(some 73), none, (.iaL 4 (.t 68) (.t 70)), [], [], 4736⟩,
  ⟨(some 74), none, (.ld true 4 (.t 73)), [], [], 4800⟩,
  ⟨(some 12), none, (.new [(.int .i64 0), (.str []), (.bool false), (.sl .nil 0 [])]), [], [], 832⟩,
  ⟨(some 11), none, (.mov (.t 72)), [], [], 768⟩,
  ⟨none, none, (.st true 4 (.t 12) (.t 74)), [], [], 64⟩]) (.seq (.reg false [⟨(some 75), none, (.mov (.t 7)), [], [], 4864⟩,
  ⟨(some 76), none, (.mov (.t 11)), [], [], 4928⟩,
  ⟨(some 77), none, (.bin .add (.t 75) (.t 76)), [], [], 4992⟩,
  ⟨(some 78), none, (.mov (.t 0)), [], [], 5056⟩,
  ⟨(some 79), none, (.chk (.t 78)), [], [], 5120⟩,
  ⟨(some 80), none, (.fad 1 (.t 79)), [], [], 5184⟩,
  ⟨(some 81), none, (.fad 2 (.t 80)), [], [], 5248⟩,
  ⟨(some 82), none, (.ld false 1 (.t 81)), [], [], 5312⟩,
  ⟨(some 83), none, (.bin .sub (.t 77) (.t 82)), [], [], 5376⟩,
  ⟨(some 13), none, (.mov (.t 83)), [], [], 896⟩]) (.seq (.seq (.reg true [⟨(some 84), none, (.mov (.t 13)), [], [], 5440⟩,
  ⟨(some 85), none, (.mov (.t 0)), [], [], 5504⟩,
  ⟨(some 86), none, (.chk (.t 85)), [1], [1], 5568⟩,
  ⟨(some 87), none, (.fad 10 (.t 86)), [2], [2, 1], 5632⟩,
  ⟨(some 88), none, (.ld false 1 (.t 87)), [3], [3, 2, 1], 5696⟩,
  ⟨(some 89), none, (.mov (.t 0)), [], [], 5760⟩,
  ⟨(some 90), none, (.chk (.t 89)), [5], [5], 5824⟩,
  ⟨(some 91), none, (.fad 1 (.t 90)), [6], [6, 5], 5888⟩,
  ⟨(some 92), none, (.fad 2 (.t 91)), [7], [7, 6, 5], 5952⟩,
  ⟨(some 93), none, (.ld false 1 (.t 92)), [8], [8, 7, 6, 5], 6016⟩,
  ⟨(some 94), none, (.bin .sub (.t 88) (.t 93)), [4, 9], [4, 9, 3, 2, 1, 8, 7, 6, 5], 6080⟩,
  ⟨(some 95), none, (.bin .lss (.t 84) (.t 94)), [0, 10], [0, 10, 4, 9, 3, 2, 1, 8, 7, 6, 5], 6144⟩,
  ⟨(some 96), none, (.mov (.t 95)), [11], [11, 0, 10, 4, 9, 3, 2, 1, 8, 7, 6, 5], 6208⟩,
  ⟨(some 97), (some (96, true)), (.mov (.t 0)), [12], [12, 11, 0, 10, 4, 9, 3, 2, 1, 8, 7, 6, 5], 6272⟩,
  ⟨(some 98), (some (96, true)), (.chk (.t 97)), [13, 12], [13, 12, 11, 0, 10, 4, 9, 3, 2, 1, 8, 7, 6, 5], 6336⟩,
  ⟨(some 99), (some (96, true)), (.fad 1 (.t 98)), [14, 12], [14, 12, 13, 11, 0, 10, 4, 9, 3, 2, 1, 8, 7, 6, 5], 6400⟩,
  ⟨(some 100), (some (96, true)), (.fad 6 (.t 99)), [15, 12], [15, 12, 14, 13, 11, 0, 10, 4, 9, 3, 2, 1, 8, 7, 6, 5], 6464⟩,
  ⟨(some 101), (some (96, true)), (.ld false 1 (.t 100)), [16, 12], [16, 12, 15, 14, 13, 11, 0, 10, 4, 9, 3, 2, 1, 8, 7, 6, 5], 6528⟩,
  ⟨(some 102), (some (96, true)), (.mov (.t 13)), [12], [12, 11, 0, 10, 4, 9, 3, 2, 1, 8, 7, 6, 5], 6592⟩,
  ⟨(some 103), (some (96, true)), (.iaL 4 (.t 101) (.t 102)), [17, 18, 12], [17, 18, 12, 16, 15, 14, 13, 11, 0, 10, 4, 9, 3, 2, 1, 8, 7, 6, 5], 6656⟩,
  ⟨(some 104), (some (96, true)), (.fad 0 (.t 103)), [19, 12], [19, 12, 17, 18, 16, 15, 14, 13, 11, 0, 10, 4, 9, 3, 2, 1, 8, 7, 6, 5], 6720⟩,
  ⟨(some 105), (some (96, true)), (.ld false 1 (.t 104)), [20, 12], [20, 12, 19, 17, 18, 16, 15, 14, 13, 11, 0, 10, 4, 9, 3, 2, 1, 8, 7, 6, 5], 6784⟩,
  ⟨(some 106), (some (96, true)), (.fad 0 (.t 12)), [12], [12, 11, 0, 10, 4, 9, 3, 2, 1, 8, 7, 6, 5], 6848⟩,
  ⟨(some 107), (some (96, true)), (.ld false 1 (.t 106)), [22, 12], [22, 12, 11, 0, 10, 4, 9, 3, 2, 1, 8, 7, 6, 5], 6912⟩,
  ⟨(some 108), (some (96, true)), (.bin .neq (.t 105) (.t 107)), [21, 23, 12], [21, 23, 12, 20, 19, 17, 18, 16, 15, 14, 13, 11, 0, 10, 4, 9, 3, 2, 1, 8, 7, 6, 5, 22], 6976⟩,
  ⟨(some 109), none, (.pick (.t 96) (.t 108) (.c (.bool false))), [12, 24], [12, 24, 11, 0, 10, 4, 9, 3, 2, 1, 8, 7, 6, 5, 21, 23, 20, 19, 17, 18, 16, 15, 14, 13, 22], 7040⟩]) (.cond (.t 109) (.seq (.reg false [⟨(some 4), none, (.mov (.c (.int .i64 0))), [], [], 320⟩,
  ⟨(some 5), none, (.mov (.c (.bool false))), [], [], 384⟩]) .ret) .skip)) (.seq (.seq (.reg true [⟨(some 110), none, (.mov (.t 13)), [], [], 7104⟩,
  ⟨(some 111), none, (.mov (.t 0)), [], [], 7168⟩,
  ⟨(some 112), none, (.chk (.t 111)), [1], [1], 7232⟩,
  ⟨(some 113), none, (.fad 1 (.t 112)), [2], [2, 1], 7296⟩,
  ⟨(some 114), none, (.fad 6 (.t 113)), [3], [3, 2, 1], 7360⟩,
  ⟨(some 115), none, (.ld false 1 (.t 114)), [4], [4, 3, 2, 1], 7424⟩,
  ⟨(some 116), none, (.len false (.t 115)), [5], [5, 4, 3, 2, 1], 7488⟩,
  ⟨(some 117), none, (.bin .lss (.t 110) (.t 116)), [0, 6], [0, 6, 5, 4, 3, 2, 1], 7552⟩,
  ⟨(some 118), none, (.mov (.t 117)), [7], [7, 0, 6, 5, 4, 3, 2, 1], 7616⟩,
  ⟨(some 119), (some (118, true)), (.mov (.t 0)), [8], [8, 7, 0, 6, 5, 4, 3, 2, 1], 7680⟩,
  ⟨(some 120), (some (118, true)), (.chk (.t 119)), [9, 8], [9, 8, 7, 0, 6, 5, 4, 3, 2, 1], 7744⟩,
  ⟨(some 121), (some (118, true)), (.fad 1 (.t 120)), [10, 8], [10, 8, 9, 7, 0, 6, 5, 4, 3, 2, 1], 7808⟩,
  ⟨(some 122), (some (118, true)), (.fad 6 (.t 121)), [11, 8], [11, 8, 10, 9, 7, 0, 6, 5, 4, 3, 2, 1], 7872⟩,
  ⟨(some 123), (some (118, true)), (.ld false 1 (.t 122)), [12, 8], [12, 8, 11, 10, 9, 7, 0, 6, 5, 4, 3, 2, 1], 7936⟩,
  ⟨(some 124), (some (118, true)), (.mov (.t 13)), [8], [8, 7, 0, 6, 5, 4, 3, 2, 1], 8000⟩,
  ⟨(some 125), (some (118, true)), (.iaL 4 (.t 123) (.t 124)), [13, 14, 8], [13, 14, 8, 12, 11, 10, 9, 7, 0, 6, 5, 4, 3, 2, 1], 8064⟩,
  ⟨(some 126), (some (118, true)), (.fad 0 (.t 125)), [15, 8], [15, 8, 13, 14, 12, 11, 10, 9, 7, 0, 6, 5, 4, 3, 2, 1], 8128⟩,
  ⟨(some 127), (some (118, true)), (.ld false 1 (.t 126)), [16, 8], [16, 8, 15, 13, 14, 12, 11, 10, 9, 7, 0, 6, 5, 4, 3, 2, 1], 8192⟩,
  ⟨(some 128), (some (118, true)), (.fad 0 (.t 12)), [8], [8, 7, 0, 6, 5, 4, 3, 2, 1], 8256⟩,
  ⟨(some 129), (some (118, true)), (.ld false 1 (.t 128)), [18, 8], [18, 8, 7, 0, 6, 5, 4, 3, 2, 1], 8320⟩,
  ⟨(some 130), (some (118, true)), (.bin .neq (.t 127) (.t 129)), [17, 19, 8], [17, 19, 8, 16, 15, 13, 14, 12, 11, 10, 9, 7, 0, 6, 5, 4, 3, 2, 1, 18], 8384⟩,
  ⟨(some 131), none, (.pick (.t 118) (.t 130) (.c (.bool false))), [8, 20], [8, 20, 7, 0, 6, 5, 4, 3, 2, 1, 17, 19, 16, 15, 13, 14, 12, 11, 10, 9, 18], 8448⟩]) (.cond (.t 131) (.reg false [⟨(some 132), none, (.mov (.t 0)), [], [], 8512⟩,
  ⟨(some 133), none, (.mov (.t 0)), [], [], 8576⟩,
  ⟨(some 134), none, (.chk (.t 133)), [], [], 8640⟩,
  ⟨(some 135), none, (.fad 1 (.t 134)), [], [], 8704⟩,
  ⟨(some 136), none, (.fad 6 (.t 135)), [], [], 8768⟩,
  ⟨(some 137), none, (.ld false 1 (.t 136)), [], [], 8832⟩,
  ⟨(some 138), none, (.mov (.t 13)), [], [], 8896⟩,
  ⟨(some 139), none, (.mov (.t 13)), [], [], 8960⟩,
  ⟨(some 140), none, (.slL 4 (.t 137) none (some (.t 138)) (some (.t 139))), [], [], 9024⟩,
  ⟨(some 141), none, (.chk (.t 132)), [], [], 9088⟩,
  ⟨(some 142), none, (.fad 1 (.t 141)), [], [], 9152⟩,
  ⟨(some 143), none, (.fad 6 (.t 142)), [], [], 9216⟩,
  ⟨none, none, (.st false 1 (.t 143) (.t 140)), [], [], 64⟩]) .skip)) (.seq (.reg false [⟨(some 144), none, (.mov (.t 13)), [], [], 9280⟩,
  ⟨(some 145), none, (.mov (.t 0)), [], [], 9344⟩,
  ⟨(some 146), none, (.chk (.t 145)), [], [], 9408⟩,
  ⟨(some 147), none, (.fad 1 (.t 146)), [], [], 9472⟩,
  ⟨(some 148), none, (.fad 6 (.t 147)), [], [], 9536⟩,
  ⟨(some 149), none, (.ld false 1 (.t 148)), [], [], 9600⟩,
  ⟨(some 150), none, (.len false (.t 149)), [], [], 9664⟩,
  ⟨(some 151), none, (.bin .geq (.t 144) (.t 150)), [], [], 9728⟩]) (.cond (.t 151) (.reg true [⟨(some 152), none, (.mov (.t 0)), [], [], 9792⟩,
  ⟨(some 153), none, (.mov (.t 0)), [], [], 9856⟩,
  ⟨(some 154), none, (.chk (.t 153)), [1], [1], 9920⟩,
  ⟨(some 155), none, (.fad 1 (.t 154)), [2], [2, 1], 9984⟩,
  ⟨(some 156), none, (.fad 6 (.t 155)), [3], [3, 2, 1], 10048⟩,
  ⟨(some 157), none, (.ld false 1 (.t 156)), [4], [4, 3, 2, 1], 10112⟩,
  ⟨(some 158), none, (.ld true 4 (.t 12)), [], [], 10176⟩,
  ⟨(some 159), none, (.call 25 [(.t 158)]), [6], [6], 10240⟩,
  ⟨(some 160), none, (.mksl 4 1 [(.int .i64 0), (.str []), (.bool false), (.sl .nil 0 [])] [(0, (4, (.t 159)))]), [7], [7, 6], 10304⟩,
  ⟨(some 161), none, (.app 4 56 (.t 157) (.t 160)), [5, 8, 7], [5, 8, 7, 4, 3, 2, 1, 6], 10368⟩,
  ⟨(some 162), none, (.chk (.t 152)), [0, 0, 1, 2, 3, 4, 5, 6, 7, 8, 9], [0, 1, 2, 3, 4, 5, 6, 7, 8, 9], 10432⟩,
  ⟨(some 163), none, (.fad 1 (.t 162)), [10, 0, 1, 2, 3, 4, 5, 6, 7, 8, 9], [10, 0, 1, 2, 3, 4, 5, 6, 7, 8, 9], 10496⟩,
  ⟨(some 164), none, (.fad 6 (.t 163)), [11, 0, 1, 2, 3, 4, 5, 6, 7, 8, 9], [11, 0, 1, 2, 3, 4, 5, 6, 7, 8, 9, 10], 10560⟩,
  ⟨none, none, (.st false 1 (.t 164) (.t 161)), [12, 9, 9, 0, 1, 2, 3, 4, 5, 6, 7, 8, 9], [12, 9, 0, 1, 2, 3, 4, 5, 6, 7, 8, 11, 10], 64⟩]) .skip))))))) (.reg false [⟨(some 165), none, (.bin .add (.t 70) (.c (.int .i64 1))), [], [], 10624⟩,
  ⟨(some 70), none, (.mov (.t 165)), [], [], 4544⟩]))))
def ir53 : IFun := ⟨2, 172, [(.tmp 4), (.tmp 5)], (.seq (.reg false [⟨(some 3), none, (.box 13 (.t 1)), [], [], 256⟩,
  ⟨(some 4), none, (.mov (.c (.int .i64 0))), [], [], 320⟩,
  ⟨(some 5), none, (.mov (.c (.bool false))), [], [], 384⟩]) (.seq (.reg true [⟨(some 14), none, (.fad 8 (.t 3)), [], [], 960⟩,
  ⟨(some 15), none, (.ld false 1 (.t 14)), [0], [0], 1024⟩,
  ⟨(some 16), none, (.fad 4 (.t 3)), [], [], 1088⟩,
  ⟨(some 17), none, (.ld false 1 (.t 16)), [2], [2], 1152⟩,
  ⟨(some 6), none, (.mov (.t 15)), [1, 0, 1], [1, 0], 448⟩,
  ⟨(some 7), none, (.mov (.t 17)), [3, 4, 0, 1, 2, 3, 4], [3, 4, 0, 1, 2], 512⟩]) (.seq (.seq (.reg false [⟨(some 18), none, (.mov (.t 7)), [], [], 1216⟩,
  ⟨(some 19), none, (.mov (.t 0)), [], [], 1280⟩,
  ⟨(some 20), none, (.chk (.t 19)), [], [], 1344⟩,
  ⟨(some 21), none, (.fad 1 (.t 20)), [], [], 1408⟩,
  ⟨(some 22), none, (.fad 2 (.t 21)), [], [], 1472⟩,
  ⟨(some 23), none, (.ld false 1 (.t 22)), [], [], 1536⟩,
  ⟨(some 24), none, (.bin .lss (.t 18) (.t 23)), [], [], 1600⟩]) (.cond (.t 24) (.seq (.reg false [⟨(some 25), none, (.mov (.t 0)), [], [], 1664⟩,
  ⟨(some 26), none, (.chk (.t 25)), [], [], 1728⟩,
  ⟨(some 27), none, (.fad 1 (.t 26)), [], [], 1792⟩,
  ⟨(some 28), none, (.fad 2 (.t 27)), [], [], 1856⟩,
  ⟨(some 29), none, (.ld false 1 (.t 28)), [], [], 1920⟩,
  ⟨(some 30), none, (.mov (.t 7)), [], [], 1984⟩,
  ⟨(some 31), none, (.bin .sub (.t 29) (.t 30)), [], [], 2048⟩,
  ⟨(some 32), none, (.mov (.t 6)), [], [], 2112⟩,
  ⟨(some 33), none, (.len false (.t 32)), [], [], 2176⟩,
  ⟨(some 34), none, (.mm false (.t 31) (.t 33)), [], [], 2240⟩,
  ⟨(some 8), none, (.mov (.t 34)), [], [], 576⟩]) (.seq (.reg false [⟨(some 35), none, (.mov (.t 6)), [], [], 2304⟩,
  ⟨(some 36), none, (.mov (.t 8)), [], [], 2368⟩,
  ⟨(some 37), none, (.slL 4 (.t 35) (some (.t 36)) none none), [], [], 2432⟩,
  ⟨(some 38), none, (.mov (.t 7)), [], [], 2496⟩,
  ⟨(some 39), none, (.mov (.t 8)), [], [], 2560⟩,
  ⟨(some 40), none, (.bin .add (.t 38) (.t 39)), [], [], 2624⟩,
  ⟨(some 6), none, (.mov (.t 37)), [], [], 448⟩,
  ⟨(some 7), none, (.mov (.t 40)), [], [], 512⟩]) (.seq (.reg false [⟨(some 41), none, (.mov (.t 7)), [], [], 2688⟩,
  ⟨(some 42), none, (.mov (.t 0)), [], [], 2752⟩,
  ⟨(some 43), none, (.chk (.t 42)), [], [], 2816⟩,
  ⟨(some 44), none, (.fad 1 (.t 43)), [], [], 2880⟩,
  ⟨(some 45), none, (.fad 2 (.t 44)), [], [], 2944⟩,
  ⟨(some 46), none, (.ld false 1 (.t 45)), [], [], 3008⟩,
  ⟨(some 47), none, (.bin .lss (.t 41) (.t 46)), [], [], 3072⟩]) (.cond (.t 47) (.seq (.reg false [⟨(some 48), none, (.fad 4 (.t 3)), [], [], 3136⟩,
  ⟨(some 49), none, (.ld false 1 (.t 48)), [], [], 3200⟩,
  ⟨(some 50), none, (.fad 8 (.t 3)), [], [], 3264⟩,
  ⟨(some 51), none, (.ld false 1 (.t 50)), [], [], 3328⟩,
  ⟨(some 52), none, (.len false (.t 51)), [], [], 3392⟩,
  ⟨(some 53), none, (.bin .add (.t 49) (.t 52)), [], [], 3456⟩,
  ⟨(some 4), none, (.mov (.t 53)), [], [], 320⟩,
  ⟨(some 5), none, (.mov (.c (.bool true))), [], [], 384⟩]) .ret) .skip)))) (.seq (.reg false [⟨(some 55), none, (.mov (.t 0)), [], [], 3584⟩,
  ⟨(some 56), none, (.mov (.t 7)), [], [], 3648⟩,
  ⟨(some 57), none, (.call 35 [(.t 55), (.t 56)]), [], [], 3712⟩,
  ⟨(some 54), none, (.mov (.t 57)), [], [], 3520⟩,
  ⟨(some 58), none, (.ext 0 (.t 54)), [], [], 3776⟩,
  ⟨(some 59), none, (.ext 1 (.t 54)), [], [], 3840⟩,
  ⟨(some 9), none, (.mov (.t 58)), [], [], 640⟩,
  ⟨(some 10), none, (.mov (.t 59)), [], [], 704⟩]) (.seq (.reg false [⟨(some 60), none, (.mov (.t 10)), [], [], 3904⟩,
  ⟨(some 61), none, (.un .not (.t 60)), [], [], 3968⟩,
  ⟨(some 62), none, (.mov (.t 61)), [], [], 4032⟩,
  ⟨(some 63), (some (62, false)), (.mov (.t 9)), [], [], 4096⟩,
  ⟨(some 64), (some (62, false)), (.fad 5 (.t 3)), [], [], 4160⟩,
  ⟨(some 65), (some (62, false)), (.ld false 1 (.t 64)), [], [], 4224⟩,
  ⟨(some 66), (some (62, false)), (.bin .neq (.t 63) (.t 65)), [], [], 4288⟩,
  ⟨(some 67), none, (.pick (.t 62) (.c (.bool true)) (.t 66)), [], [], 4352⟩]) (.cond (.t 67) (.seq (.reg false [⟨(some 4), none, (.mov (.c (.int .i64 0))), [], [], 320⟩,
  ⟨(some 5), none, (.mov (.c (.bool false))), [], [], 384⟩]) .ret) .skip))))) (.seq (.seq (.reg false [⟨(some 68), none, (.mov (.t 6)), [], [], 4416⟩,
  ⟨(some 69), none, (.len false (.t 68)), [], [], 4480⟩,
  ⟨(some 70), none, (.mov (.c (.int .i64 0))), [], [], 4544⟩]) (.block 0 (.loop lp53_0))) (.seq (.reg false [⟨(some 166), none, (.fad 4 (.t 3)), [], [], 10688⟩,
  ⟨(some 167), none, (.ld false 1 (.t 166)), [], [], 10752⟩,
  ⟨(some 168), none, (.fad 8 (.t 3)), [], [], 10816⟩,
  ⟨(some 169), none, (.ld false 1 (.t 168)), [], [], 10880⟩,
  ⟨(some 170), none, (.len false (.t 169)), [], [], 10944⟩,
  ⟨(some 171), none, (.bin .add (.t 167) (.t 170)), [], [], 11008⟩,
  ⟨(some 4), none, (.mov (.t 171)), [], [], 320⟩,
  ⟨(some 5), none, (.mov (.c (.bool true))), [], [], 384⟩]) .ret))))), none⟩
theorem ok53 : FnOk Try.prog 53 ir53 := .inl ⟨Try.f53, 0, Try.func53, by kernel_rfl, by kernel_rfl⟩
/-- (*muniment/raft.Node).newer -/
def ir54 : IFun := ⟨2, 31, [(.tmp 4)], (.seq (.reg false [⟨(some 3), none, (.box 13 (.t 1)), [], [], 256⟩,
  ⟨(some 4), none, (.mov (.c (.bool false))), [], [], 320⟩]) (.seq (.reg false [⟨(some 8), none, (.mov (.t 0)), [], [], 576⟩,
  ⟨(some 9), none, (.mov (.t 0)), [], [], 640⟩,
  ⟨(some 10), none, (.call 17 [(.t 9)]), [], [], 704⟩,
  ⟨(some 11), none, (.call 35 [(.t 8), (.t 10)]), [], [], 768⟩,
  ⟨(some 7), none, (.mov (.t 11)), [], [], 512⟩,
  ⟨(some 12), none, (.ext 0 (.t 7)), [], [], 832⟩,
  ⟨(some 13), none, (.ext 1 (.t 7)), [], [], 896⟩,
  ⟨(some 5), none, (.mov (.t 12)), [], [], 384⟩,
  ⟨(some 6), none, (.mov (.t 13)), [], [], 448⟩]) (.seq (.reg true [⟨(some 14), none, (.fad 5 (.t 3)), [], [], 960⟩,
  ⟨(some 15), none, (.ld false 1 (.t 14)), [0], [0], 1024⟩,
  ⟨(some 16), none, (.mov (.t 5)), [], [], 1088⟩,
  ⟨(some 17), none, (.bin .gtr (.t 15) (.t 16)), [1, 2], [1, 2, 0], 1152⟩,
  ⟨(some 18), none, (.mov (.t 17)), [3], [3, 1, 2, 0], 1216⟩,
  ⟨(some 19), (some (18, false)), (.fad 5 (.t 3)), [4], [4, 3, 1, 2, 0], 1280⟩,
  ⟨(some 20), (some (18, false)), (.ld false 1 (.t 19)), [5, 4], [5, 4, 3, 1, 2, 0], 1344⟩,
  ⟨(some 21), (some (18, false)), (.mov (.t 5)), [4], [4, 3, 1, 2, 0], 1408⟩,
  ⟨(some 22), (some (18, false)), (.bin .eql (.t 20) (.t 21)), [6, 7, 4], [6, 7, 4, 5, 3, 1, 2, 0], 1472⟩,
  ⟨(some 23), (some (18, false)), (.mov (.t 22)), [8, 4, 4], [8, 4, 6, 7, 5, 3, 1, 2, 0], 1536⟩,
  ⟨(some 24), (some (23, true)), (.fad 4 (.t 3)), [9], [9, 8, 4, 6, 7, 5, 3, 1, 2, 0], 1600⟩,
  ⟨(some 25), (some (23, true)), (.ld false 1 (.t 24)), [10, 9], [10, 9, 8, 4, 6, 7, 5, 3, 1, 2, 0], 1664⟩,
  ⟨(some 26), (some (23, true)), (.mov (.t 0)), [9], [9, 8, 4, 6, 7, 5, 3, 1, 2, 0], 1728⟩,
  ⟨(some 27), (some (23, true)), (.call 17 [(.t 26)]), [12, 9, 9], [12, 9, 8, 4, 6, 7, 5, 3, 1, 2, 0], 1792⟩,
  ⟨(some 28), (some (23, true)), (.bin .geq (.t 25) (.t 27)), [11, 13, 9], [11, 13, 9, 10, 8, 4, 6, 7, 5, 3, 1, 2, 0, 12], 1856⟩,
  ⟨(some 29), (some (18, false)), (.pick (.t 23) (.t 28) (.c (.bool false))), [9, 14, 4], [9, 14, 4, 8, 6, 7, 5, 3, 1, 2, 0, 11, 13, 10, 12], 1920⟩,
  ⟨(some 30), none, (.pick (.t 18) (.c (.bool true)) (.t 29)), [4, 15], [4, 15, 3, 1, 2, 0, 9, 14, 8, 6, 7, 5, 11, 13, 10, 12], 1984⟩,
  ⟨(some 4), none, (.mov (.t 30)), [16, 13, 0, 1, 2, 3, 4, 5, 6, 7, 8, 9, 10, 11, 12, 13, 14, 15, 16], [16, 13, 0, 1, 2, 3, 4, 5, 6, 7, 8, 9, 10, 11, 12, 14, 15], 320⟩]) .ret))), none⟩
theorem ok54 : FnOk Try.prog 54 ir54 := .inl ⟨Try.f54, 0, Try.func54, by kernel_rfl, by kernel_rfl⟩
/-- (*muniment/raft.Node).has -/
def ir55 : IFun := ⟨3, 66, [(.tmp 6)], (.seq (.reg false [⟨(some 6), none, (.mov (.c (.sl .nil 0 []))), [], [], 448⟩]) (.seq (.reg true [⟨(some 7), none, (.mov (.t 0)), [], [], 512⟩,
  ⟨(some 8), none, (.chk (.t 7)), [0], [0], 576⟩,
  ⟨(some 9), none, (.fad 17 (.t 8)), [1], [1, 0], 640⟩,
  ⟨(some 10), none, (.ld false 1 (.t 9)), [2], [2, 1, 0], 704⟩,
  ⟨(some 11), none, (.mov (.t 1)), [], [], 768⟩,
  ⟨(some 12), none, (.mov (.t 0)), [], [], 832⟩,
  ⟨(some 13), none, (.chk (.t 12)), [5], [5], 896⟩,
  ⟨(some 14), none, (.fad 17 (.t 13)), [6], [6, 5], 960⟩,
  ⟨(some 15), none, (.ld false 1 (.t 14)), [7], [7, 6, 5], 1024⟩,
  ⟨(some 16), none, (.mov (.t 1)), [], [], 1088⟩,
  ⟨(some 17), none, (.mget (.one .i) false (.int .i64 0) (.t 15) (.t 16)), [8, 9], [8, 9, 7, 6, 5], 1152⟩,
  ⟨(some 18), none, (.mov (.t 2)), [], [], 1216⟩,
  ⟨(some 19), none, (.mov (.t 0)), [], [], 1280⟩,
  ⟨(some 20), none, (.call 17 [(.t 19)]), [12], [12], 1344⟩,
  ⟨(some 21), none, (.mm false (.t 18) (.t 20)), [11, 13], [11, 13, 12], 1408⟩,
  ⟨(some 22), none, (.mm true (.t 17) (.t 21)), [10, 14], [10, 14, 8, 9, 7, 6, 5, 11, 13, 12], 1472⟩,
  ⟨none, none, (.mset (.one .i) (.t 10) (.t 11) (.t 22)), [3, 4, 15, 13, 0, 1, 2, 3, 4, 5, 6, 7, 8, 9, 10, 11, 12, 13, 14, 15], [3, 4, 15, 13, 0, 1, 2, 5, 6, 7, 8, 9, 10, 11, 12, 14], 64⟩]) (.seq (.reg true [⟨(some 23), none, (.mov (.t 0)), [], [], 1536⟩,
  ⟨(some 24), none, (.chk (.t 23)), [0], [0], 1600⟩,
  ⟨(some 25), none, (.fad 16 (.t 24)), [1], [1, 0], 1664⟩,
  ⟨(some 26), none, (.ld false 1 (.t 25)), [2], [2, 1, 0], 1728⟩,
  ⟨(some 27), none, (.mov (.t 1)), [], [], 1792⟩,
  ⟨(some 28), none, (.mov (.t 0)), [], [], 1856⟩,
  ⟨(some 29), none, (.chk (.t 28)), [5], [5], 1920⟩,
  ⟨(some 30), none, (.fad 16 (.t 29)), [6], [6, 5], 1984⟩,
  ⟨(some 31), none, (.ld false 1 (.t 30)), [7], [7, 6, 5], 2048⟩,
  ⟨(some 32), none, (.mov (.t 1)), [], [], 2112⟩,
  ⟨(some 33), none, (.mget (.one .i) false (.int .i64 0) (.t 31) (.t 32)), [8, 9], [8, 9, 7, 6, 5], 2176⟩,
  ⟨(some 34), none, (.mov (.t 0)), [], [], 2240⟩,
  ⟨(some 35), none, (.chk (.t 34)), [11], [11], 2304⟩,
  ⟨(some 36), none, (.fad 17 (.t 35)), [12], [12, 11], 2368⟩,
  ⟨(some 37), none, (.ld false 1 (.t 36)), [13], [13, 12, 11], 2432⟩,
  ⟨(some 38), none, (.mov (.t 1)), [], [], 2496⟩,
  ⟨(some 39), none, (.mget (.one .i) false (.int .i64 0) (.t 37) (.t 38)), [14, 15], [14, 15, 13, 12, 11], 2560⟩,
  ⟨(some 40), none, (.bin .add (.t 39) (.c (.int .i64 1))), [16], [16, 14, 15, 13, 12, 11], 2624⟩,
  ⟨(some 41), none, (.mm true (.t 33) (.t 40)), [10, 17], [10, 17, 8, 9, 7, 6, 5, 16, 14, 15, 13, 12, 11], 2688⟩,
  ⟨none, none, (.mset (.one .i) (.t 26) (.t 27) (.t 41)), [3, 4, 18, 0, 1, 2, 3, 4, 5, 6, 7, 8, 9, 10, 11, 12, 13, 14, 15, 16, 17, 18], [3, 4, 18, 0, 1, 2, 5, 6, 7, 8, 9, 10, 11, 12, 13, 14, 15, 16, 17], 64⟩]) (.seq (.reg false [⟨(some 42), none, (.mov (.t 0)), [], [], 2752⟩,
  ⟨(some 43), none, (.call 36 [(.t 42)]), [], [], 2816⟩]) (.seq (.reg false [⟨(some 44), none, (.mov (.t 0)), [], [], 2880⟩,
  ⟨(some 45), none, (.call 37 [(.t 44)]), [], [], 2944⟩]) (.seq (.seq (.reg true [⟨(some 46), none, (.mov (.t 0)), [], [], 3008⟩,
  ⟨(some 47), none, (.chk (.t 46)), [0], [0], 3072⟩,
  ⟨(some 48), none, (.fad 8 (.t 47)), [1], [1, 0], 3136⟩,
  ⟨(some 49), none, (.ld false 1 (.t 48)), [2], [2, 1, 0], 3200⟩,
  ⟨(some 50), none, (.bin .eql (.t 49) (.c (.int .i64 3))), [3], [3, 2, 1, 0], 3264⟩,
  ⟨(some 51), none, (.mov (.t 50)), [4], [4, 3, 2, 1, 0], 3328⟩,
  ⟨(some 52), (some (51, true)), (.mov (.t 0)), [5], [5, 4, 3, 2, 1, 0], 3392⟩,
  ⟨(some 53), (some (51, true)), (.chk (.t 52)), [6, 5], [6, 5, 4, 3, 2, 1, 0], 3456⟩,
  ⟨(some 54), (some (51, true)), (.fad 16 (.t 53)), [7, 5], [7, 5, 6, 4, 3, 2, 1, 0], 3520⟩,
  ⟨(some 55), (some (51, true)), (.ld false 1 (.t 54)), [8, 5], [8, 5, 7, 6, 4, 3, 2, 1, 0], 3584⟩,
  ⟨(some 56), (some (51, true)), (.mov (.t 1)), [5], [5, 4, 3, 2, 1, 0], 3648⟩,
  ⟨(some 57), (some (51, true)), (.mget (.one .i) false (.int .i64 0) (.t 55) (.t 56)), [9, 10, 5], [9, 10, 5, 8, 7, 6, 4, 3, 2, 1, 0], 3712⟩,
  ⟨(some 58), (some (51, true)), (.mov (.t 0)), [5], [5, 4, 3, 2, 1, 0], 3776⟩,
  ⟨(some 59), (some (51, true)), (.call 17 [(.t 58)]), [12, 5, 5], [12, 5, 4, 3, 2, 1, 0], 3840⟩,
  ⟨(some 60), (some (51, true)), (.bin .leq (.t 57) (.t 59)), [11, 13, 5], [11, 13, 5, 9, 10, 8, 7, 6, 4, 3, 2, 1, 0, 12], 3904⟩,
  ⟨(some 61), none, (.pick (.t 51) (.t 60) (.c (.bool false))), [5, 14], [5, 14, 4, 3, 2, 1, 0, 11, 13, 9, 10, 8, 7, 6, 12], 3968⟩]) (.cond (.t 61) (.seq (.reg false [⟨(some 62), none, (.mov (.t 0)), [], [], 4032⟩,
  ⟨(some 63), none, (.mov (.t 1)), [], [], 4096⟩,
  ⟨(some 64), none, (.call 30 [(.t 62), (.t 63)]), [], [], 4160⟩,
  ⟨(some 65), none, (.mksl 13 1 [(.int .i64 0), (.int .i64 0), (.int .i64 0), (.int .i64 0), (.int .i64 0), (.int .i64 0), (.int .i64 0), (.bool false), (.sl .nil 0 []), (.int .i64 0), (.str []), (.bool false), (.sl .nil 0 [])] [(0, (13, (.t 64)))]), [], [], 4224⟩,
  ⟨(some 6), none, (.mov (.t 65)), [], [], 448⟩]) .ret) .skip)) (.seq (.reg false [⟨(some 6), none, (.mov (.c (.sl .nil 0 []))), [], [], 448⟩]) .ret))))))), none⟩
theorem ok55 : FnOk Try.prog 55 ir55 := .inl ⟨Try.f55, 0, Try.func55, by kernel_rfl, by kernel_rfl⟩
/-- (*muniment/raft.Node).install -/
def ir56 : IFun := ⟨2, 80, [], (.seq (.reg false [⟨(some 3), none, (.box 13 (.t 1)), [], [], 256⟩]) (.seq (.seq (.reg false [⟨(some 7), none, (.mov (.t 0)), [], [], 512⟩,
  ⟨(some 8), none, (.fad 4 (.t 3)), [], [], 576⟩,
  ⟨(some 9), none, (.ld false 1 (.t 8)), [], [], 640⟩,
  ⟨(some 10), none, (.call 35 [(.t 7), (.t 9)]), [], [], 704⟩,
  ⟨(some 6), none, (.mov (.t 10)), [], [], 448⟩,
  ⟨(some 11), none, (.ext 0 (.t 6)), [], [], 768⟩,
  ⟨(some 12), none, (.ext 1 (.t 6)), [], [], 832⟩,
  ⟨(some 4), none, (.mov (.t 11)), [], [], 320⟩,
  ⟨(some 5), none, (.mov (.t 12)), [], [], 384⟩]) (.seq (.reg false [⟨(some 13), none, (.mov (.t 5)), [], [], 896⟩,
  ⟨(some 14), none, (.mov (.t 13)), [], [], 960⟩,
  ⟨(some 15), (some (14, true)), (.mov (.t 4)), [], [], 1024⟩,
  ⟨(some 16), (some (14, true)), (.fad 5 (.t 3)), [], [], 1088⟩,
  ⟨(some 17), (some (14, true)), (.ld false 1 (.t 16)), [], [], 1152⟩,
  ⟨(some 18), (some (14, true)), (.bin .eql (.t 15) (.t 17)), [], [], 1216⟩,
  ⟨(some 19), none, (.pick (.t 14) (.t 18) (.c (.bool false))), [], [], 1280⟩]) (.cond (.t 19) (.reg true [⟨(some 20), none, (.mov (.t 0)), [], [], 1344⟩,
  ⟨(some 21), none, (.mov (.t 0)), [], [], 1408⟩,
  ⟨(some 22), none, (.chk (.t 21)), [1], [1], 1472⟩,
  ⟨(some 23), none, (.fad 1 (.t 22)), [2], [2, 1], 1536⟩,
  ⟨(some 24), none, (.fad 6 (.t 23)), [3], [3, 2, 1], 1600⟩,
  ⟨(some 25), none, (.ld false 1 (.t 24)), [4], [4, 3, 2, 1], 1664⟩,
  ⟨(some 26), none, (.fad 4 (.t 3)), [], [], 1728⟩,
  ⟨(some 27), none, (.ld false 1 (.t 26)), [6], [6], 1792⟩,
  ⟨(some 28), none, (.mov (.t 0)), [], [], 1856⟩,
  ⟨(some 29), none, (.chk (.t 28)), [8], [8], 1920⟩,
  ⟨(some 30), none, (.fad 1 (.t 29)), [9], [9, 8], 1984⟩,
  ⟨(some 31), none, (.fad 2 (.t 30)), [10], [10, 9, 8], 2048⟩,
  ⟨(some 32), none, (.ld false 1 (.t 31)), [11], [11, 10, 9, 8], 2112⟩,
  ⟨(some 33), none, (.bin .sub (.t 27) (.t 32)), [7, 12], [7, 12, 6, 11, 10, 9, 8], 2176⟩,
  ⟨(some 34), none, (.slL 4 (.t 25) (some (.t 33)) none none), [5, 13], [5, 13, 4, 3, 2, 1, 7, 12, 6, 11, 10, 9, 8], 2240⟩,
  ⟨(some 35), none, (.call 46 [(.t 34)]), [14], [14, 5, 13, 4, 3, 2, 1, 7, 12, 6, 11, 10, 9, 8], 2304⟩,
  ⟨(some 36), none, (.chk (.t 20)), [0, 0, 1, 2, 3, 4, 5, 6, 7, 8, 9, 10, 11, 12, 13, 14, 15], [0, 1, 2, 3, 4, 5, 6, 7, 8, 9, 10, 11, 12, 13, 14, 15], 2368⟩,
  ⟨(some 37), none, (.fad 1 (.t 36)), [16, 0, 1, 2, 3, 4, 5, 6, 7, 8, 9, 10, 11, 12, 13, 14, 15], [16, 0, 1, 2, 3, 4, 5, 6, 7, 8, 9, 10, 11, 12, 13, 14, 15], 2432⟩,
  ⟨(some 38), none, (.fad 6 (.t 37)), [17, 0, 1, 2, 3, 4, 5, 6, 7, 8, 9, 10, 11, 12, 13, 14, 15], [17, 0, 1, 2, 3, 4, 5, 6, 7, 8, 9, 10, 11, 12, 13, 14, 15, 16], 2496⟩,
  ⟨none, none, (.st false 1 (.t 38) (.t 35)), [18, 15, 15, 0, 1, 2, 3, 4, 5, 6, 7, 8, 9, 10, 11, 12, 13, 14, 15], [18, 15, 0, 1, 2, 3, 4, 5, 6, 7, 8, 9, 10, 11, 12, 13, 14, 17, 16], 64⟩]) (.reg false [⟨(some 39), none, (.mov (.t 0)), [], [], 2560⟩,
  ⟨(some 40), none, (.chk (.t 39)), [], [], 2624⟩,
  ⟨(some 41), none, (.fad 1 (.t 40)), [], [], 2688⟩,
  ⟨(some 42), none, (.fad 6 (.t 41)), [], [], 2752⟩,
  ⟨none, none, (.st false 1 (.t 42) (.c (.sl .nil 0 []))), [], [], 64⟩])))) (.seq (.reg true [⟨(some 43), none, (.mov (.t 0)), [], [], 2816⟩,
  ⟨(some 44), none, (.mov (.t 0)), [], [], 2880⟩,
  ⟨(some 45), none, (.mov (.t 0)), [], [], 2944⟩,
  ⟨(some 46), none, (.mov (.t 0)), [], [], 3008⟩,
  ⟨(some 47), none, (.fad 4 (.t 3)), [], [], 3072⟩,
  ⟨(some 48), none, (.ld false 1 (.t 47)), [4], [4], 3136⟩,
  ⟨(some 49), none, (.fad 5 (.t 3)), [], [], 3200⟩,
  ⟨(some 50), none, (.ld false 1 (.t 49)), [6], [6], 3264⟩,
  ⟨(some 51), none, (.mov (.t 0)), [], [], 3328⟩,
  ⟨(some 52), none, (.chk (.t 51)), [8], [8], 3392⟩,
  ⟨(some 53), none, (.fad 19 (.t 52)), [9], [9, 8], 3456⟩,
  ⟨(some 54), none, (.fad 2 (.t 53)), [10], [10, 9, 8], 3520⟩,
  ⟨(some 55), none, (.ld false 1 (.t 54)), [11], [11, 10, 9, 8], 3584⟩,
  ⟨(some 56), none, (.fad 12 (.t 3)), [], [], 3648⟩,
  ⟨(some 57), none, (.ld false 1 (.t 56)), [13], [13], 3712⟩,
  ⟨(some 58), none, (.call 27 [(.t 57)]), [14], [14, 13], 3776⟩,
  ⟨(some 59), none, (.chk (.t 43)), [0, 0, 4, 5, 12, 15], [0, 4, 5, 12, 15, 11, 10, 9, 8, 14, 13], 3840⟩,
  ⟨(some 60), none, (.fad 1 (.t 59)), [16, 0, 4, 5, 12, 15], [16, 0, 4, 5, 12, 15, 11, 10, 9, 8, 14, 13], 3904⟩,
  ⟨(some 61), none, (.fad 2 (.t 60)), [17, 0, 4, 5, 12, 15], [17, 0, 4, 5, 12, 15, 16, 11, 10, 9, 8, 14, 13], 3968⟩,
  ⟨none, none, (.st false 1 (.t 61) (.t 48)), [18, 5, 15, 0, 4, 5, 12, 15], [18, 5, 15, 0, 4, 12, 17, 16, 11, 10, 9, 8, 14, 13], 64⟩,
  ⟨(some 62), none, (.chk (.t 44)), [1, 0, 1, 4, 5, 6, 7, 12, 15, 16, 17, 18, 19], [1, 0, 4, 5, 6, 7, 12, 15, 16, 17, 18, 19, 11, 10, 9, 8, 14, 13], 4032⟩,
  ⟨(some 63), none, (.fad 1 (.t 62)), [20, 0, 1, 4, 5, 6, 7, 12, 15, 16, 17, 18, 19], [20, 0, 1, 4, 5, 6, 7, 12, 15, 16, 17, 18, 19, 11, 10, 9, 8, 14, 13], 4096⟩,
  ⟨(some 64), none, (.fad 3 (.t 63)), [21, 0, 1, 4, 5, 6, 7, 12, 15, 16, 17, 18, 19], [21, 0, 1, 4, 5, 6, 7, 12, 15, 16, 17, 18, 19, 20, 11, 10, 9, 8, 14, 13], 4160⟩,
  ⟨none, none, (.st false 1 (.t 64) (.t 50)), [22, 7, 19, 0, 1, 4, 5, 6, 7, 12, 15, 16, 17, 18, 19], [22, 7, 19, 0, 1, 4, 5, 6, 12, 15, 16, 17, 18, 21, 20, 11, 10, 9, 8, 14, 13], 64⟩,
  ⟨(some 65), none, (.chk (.t 45)), [2, 0, 1, 2, 4, 5, 6, 7, 8, 9, 10, 11, 12, 15, 16, 17, 18, 19, 20, 21, 22, 23], [2, 0, 1, 4, 5, 6, 7, 8, 9, 10, 11, 12, 15, 16, 17, 18, 19, 20, 21, 22, 23, 14, 13], 4224⟩,
  ⟨(some 66), none, (.fad 1 (.t 65)), [24, 0, 1, 2, 4, 5, 6, 7, 8, 9, 10, 11, 12, 15, 16, 17, 18, 19, 20, 21, 22, 23], [24, 0, 1, 2, 4, 5, 6, 7, 8, 9, 10, 11, 12, 15, 16, 17, 18, 19, 20, 21, 22, 23, 14, 13], 4288⟩,
  ⟨(some 67), none, (.fad 4 (.t 66)), [25, 0, 1, 2, 4, 5, 6, 7, 8, 9, 10, 11, 12, 15, 16, 17, 18, 19, 20, 21, 22, 23], [25, 0, 1, 2, 4, 5, 6, 7, 8, 9, 10, 11, 12, 15, 16, 17, 18, 19, 20, 21, 22, 23, 24, 14, 13], 4352⟩,
  ⟨none, none, (.st false 1 (.t 67) (.t 55)), [26, 12, 23, 0, 1, 2, 4, 5, 6, 7, 8, 9, 10, 11, 12, 15, 16, 17, 18, 19, 20, 21, 22, 23], [26, 12, 23, 0, 1, 2, 4, 5, 6, 7, 8, 9, 10, 11, 15, 16, 17, 18, 19, 20, 21, 22, 25, 24, 14, 13], 64⟩,
  ⟨(some 68), none, (.chk (.t 46)), [3, 0, 1, 2, 3, 4, 5, 6, 7, 8, 9, 10, 11, 12, 13, 14, 15, 16, 17, 18, 19, 20, 21, 22, 23, 24, 25, 26, 27], [3, 0, 1, 2, 4, 5, 6, 7, 8, 9, 10, 11, 12, 13, 14, 15, 16, 17, 18, 19, 20, 21, 22, 23, 24, 25, 26, 27], 4416⟩,
  ⟨(some 69), none, (.fad 1 (.t 68)), [28, 0, 1, 2, 3, 4, 5, 6, 7, 8, 9, 10, 11, 12, 13, 14, 15, 16, 17, 18, 19, 20, 21, 22, 23, 24, 25, 26, 27], [28, 0, 1, 2, 3, 4, 5, 6, 7, 8, 9, 10, 11, 12, 13, 14, 15, 16, 17, 18, 19, 20, 21, 22, 23, 24, 25, 26, 27], 4480⟩,
  ⟨(some 70), none, (.fad 5 (.t 69)), [29, 0, 1, 2, 3, 4, 5, 6, 7, 8, 9, 10, 11, 12, 13, 14, 15, 16, 17, 18, 19, 20, 21, 22, 23, 24, 25, 26, 27], [29, 0, 1, 2, 3, 4, 5, 6, 7, 8, 9, 10, 11, 12, 13, 14, 15, 16, 17, 18, 19, 20, 21, 22, 23, 24, 25, 26, 27, 28], 4544⟩,
  ⟨none, none, (.st false 1 (.t 70) (.t 58)), [30, 15, 27, 0, 1, 2, 3, 4, 5, 6, 7, 8, 9, 10, 11, 12, 13, 14, 15, 16, 17, 18, 19, 20, 21, 22, 23, 24, 25, 26, 27], [30, 15, 27, 0, 1, 2, 3, 4, 5, 6, 7, 8, 9, 10, 11, 12, 13, 14, 16, 17, 18, 19, 20, 21, 22, 23, 24, 25, 26, 29, 28], 64⟩]) (.reg false [⟨(some 71), none, (.mov (.t 0)), [], [], 4608⟩,
  ⟨(some 72), none, (.mov (.t 0)), [], [], 4672⟩,
  ⟨(some 73), none, (.fad 4 (.t 3)), [], [], 4736⟩,
  ⟨(some 74), none, (.ld false 1 (.t 73)), [], [], 4800⟩,
  ⟨(some 75), none, (.mk [(.int .i64 0), (.int .i64 0), (.str [])] []), [], [], 4864⟩,
  ⟨(some 76), none, (.chk (.t 71)), [], [], 4928⟩,
  ⟨(some 77), none, (.fad 10 (.t 76)), [], [], 4992⟩,
  ⟨none, none, (.st false 1 (.t 77) (.t 74)), [], [], 64⟩,
  ⟨(some 78), none, (.chk (.t 72)), [], [], 5056⟩,
  ⟨(some 79), none, (.fad 19 (.t 78)), [], [], 5120⟩,
  ⟨none, none, (.st true 3 (.t 79) (.t 75)), [], [], 64⟩])))), none⟩
theorem ok56 : FnOk Try.prog 56 ir56 := .inl ⟨Try.f56, 0, Try.func56, by kernel_rfl, by kernel_rfl⟩
/-- muniment/head.Members -/
def lp57_0 : IC := (.seq (.reg false [⟨(some 8), none, (.bin .lss (.t 7) (.t 6)), [], [], 576⟩]) (.seq (.cond (.t 8) .skip (.exit 0)) (.seq (.block 1 (.seq (.reg false [⟨(some 9), none, (.mov (.t 7)), [], [], 640⟩,
  ⟨(some 10), none, (.iaL 1 (.t 5) (.t 7)), [], [], 704⟩,
  ⟨(some 11), none, (.ld false 1 (.t 10)), [], [], 768⟩,
  ⟨(some 3), none, (.mov (.t 9)), [], [], 256⟩,
  ⟨(some 4), none, (.mov (.t 11)), [], [], 320⟩]) (.seq (.reg false [⟨(some 12), none, (.mov (.t 4)), [], [], 832⟩,
  ⟨(some 13), none, (.bin .lss (.t 12) (.c (.int .i64 0))), [], [], 896⟩,
  ⟨(some 14), none, (.mov (.t 13)), [], [], 960⟩,
  ⟨(some 15), (some (14, false)), (.mov (.t 4)), [], [], 1024⟩,
  ⟨(some 16), (some (14, false)), (.bin .geq (.t 15) (.c (.int .i64 16))), [], [], 1088⟩,
  ⟨(some 17), none, (.pick (.t 14) (.c (.bool true)) (.t 16)), [], [], 1152⟩,
  ⟨(some 18), none, (.mov (.t 17)), [], [], 1216⟩,
  ⟨(some 19), (some (18, false)), (.mov (.t 3)), [], [], 1280⟩,
  ⟨(some 20), (some (18, false)), (.bin .gtr (.t 19) (.c (.int .i64 0))), [], [], 1344⟩,
  ⟨(some 21), (some (18, false)), (.mov (.t 20)), [], [], 1408⟩,
  ⟨(some 22), (some (21, true)), (.mov (.t 0)), [], [], 1472⟩,
  ⟨(some 23), (some (21, true)), (.mov (.t 3)), [], [], 1536⟩,
  ⟨(some 24), (some (21, true)), (.bin .sub (.t 23) (.c (.int .i64 1))), [], [], 1600⟩,
  ⟨(some 25), (some (21, true)), (.iaL 1 (.t 22) (.t 24)), [], [], 1664⟩,
  ⟨(some 26), (some (21, true)), (.ld false 1 (.t 25)), [], [], 1728⟩,
  ⟨(some 27), (some (21, true)), (.mov (.t 4)), [], [], 1792⟩,
  ⟨(some 28), (some (21, true)), (.bin .geq (.t 26) (.t 27)), [], [], 1856⟩,
  ⟨(some 29), (some (18, false)), (.pick (.t 21) (.t 28) (.c (.bool false))), [], [], 1920⟩,
  ⟨(some 30), none, (.pick (.t 18) (.c (.bool true)) (.t 29)), [], [], 1984⟩]) (.cond (.t 30) (.seq (.reg false [⟨(some 2), none, (.mov (.c (.bool false))), [], [], 192⟩]) .ret) .skip)))) (.reg false [⟨(some 31), none, (.bin .add (.t 7) (.c (.int .i64 1))), [], [], 2048⟩,
  ⟨(some 7), none, (.mov (.t 31)), [], [], 512⟩]))))
def ir57 : IFun := ⟨1, 35, [(.tmp 2)], (.seq (.reg false [⟨(some 2), none, (.mov (.c (.bool false))), [], [], 192⟩]) (.seq (.seq (.reg false [⟨(some 5), none, (.mov (.t 0)), [], [], 384⟩,
  ⟨(some 6), none, (.len false (.t 5)), [], [], 448⟩,
  ⟨(some 7), none, (.mov (.c (.int .i64 0))), [], [], 512⟩]) (.block 0 (.loop lp57_0))) (.seq (.reg false [⟨(some 32), none, (.mov (.t 0)), [], [], 2112⟩,
  ⟨(some 33), none, (.len false (.t 32)), [], [], 2176⟩,
  ⟨(some 34), none, (.bin .geq (.t 33) (.c (.int .i64 1))), [], [], 2240⟩,
  ⟨(some 2), none, (.mov (.t 34)), [], [], 192⟩]) .ret))), none⟩
theorem ok57 : FnOk Try.prog 57 ir57 := .inl ⟨Try.f57, 0, Try.func57, by kernel_rfl, by kernel_rfl⟩
/-- muniment/conf.lacks[int] -/
def lp58_0 : IC := (.seq (.reg false [⟨(some 11), none, (.bin .lss (.t 10) (.t 9)), [], [], 768⟩]) (.seq (.cond (.t 11) .skip (.exit 0)) (.seq (.block 1 (.seq (.reg false [⟨(some 12), none, (.iaL 1 (.t 8) (.t 10)), [], [], 832⟩,
  ⟨(some 13), none, (.ld false 1 (.t 12)), [], [], 896⟩,
  ⟨(some 7), none, (.mov (.t 13)), [], [], 512⟩]) (.seq (.reg false [⟨(some 14), none, (.mov (.t 1)), [], [], 960⟩,
  ⟨(some 15), none, (.mov (.t 7)), [], [], 1024⟩,
  ⟨(some 16), none, (.call 62 [(.t 14), (.t 15)]), [], [], 1088⟩,
  ⟨(some 17), none, (.un .not (.t 16)), [], [], 1152⟩]) (.cond (.t 17) (.reg false [⟨(some 18), none, (.mov (.t 5)), [], [], 1216⟩,
  ⟨(some 19), none, (.bin .add (.t 18) (.c (.int .i64 1))), [], [], 1280⟩,
  ⟨(some 5), none, (.mov (.t 19)), [], [], 384⟩]) .skip)))) (.reg false [⟨(some 20), none, (.bin .add (.t 10) (.c (.int .i64 1))), [], [], 1344⟩,
  ⟨(some 10), none, (.mov (.t 20)), [], [], 704⟩]))))
def ir58 : IFun := ⟨2, 22, [(.tmp 4)], (.seq (.reg false [⟨(some 4), none, (.mov (.c (.int .i64 0))), [], [], 320⟩]) (.seq (.reg false [⟨(some 5), none, (.mov (.c (.int .i64 0))), [], [], 384⟩]) (.seq (.seq (.reg false [⟨(some 8), none, (.mov (.t 0)), [], [], 576⟩,
  ⟨(some 9), none, (.len false (.t 8)), [], [], 640⟩,
  ⟨(some 10), none, (.mov (.c (.int .i64 0))), [], [], 704⟩]) (.block 0 (.loop lp58_0))) (.seq (.reg false [⟨(some 21), none, (.mov (.t 5)), [], [], 1408⟩,
  ⟨(some 4), none, (.mov (.t 21)), [], [], 320⟩]) .ret)))), none⟩
theorem ok58 : FnOk Try.prog 58 ir58 := .inl ⟨Try.f58, 0, Try.func58, by kernel_rfl, by kernel_rfl⟩
/-- slices.DeleteFunc[[]int,int] -/
def lp59_0 : IC := (.seq (.seq (.reg false [⟨(some 16), none, (.mov (.t 6)), [], [], 1088⟩,
  ⟨(some 17), none, (.mov (.t 0)), [], [], 1152⟩,
  ⟨(some 18), none, (.len false (.t 17)), [], [], 1216⟩,
  ⟨(some 19), none, (.bin .lss (.t 16) (.t 18)), [], [], 1280⟩]) (.cond (.t 19) .skip (.exit 0))) (.seq (.block 1 (.seq (.reg false [⟨(some 22), none, (.mov (.t 0)), [], [], 1472⟩,
  ⟨(some 23), none, (.mov (.t 6)), [], [], 1536⟩,
  ⟨(some 24), none, (.iaL 1 (.t 22) (.t 23)), [], [], 1600⟩,
  ⟨(some 25), none, (.ld false 1 (.t 24)), [], [], 1664⟩,
  ⟨(some 7), none, (.mov (.t 25)), [], [], 512⟩]) (.seq (.reg false [⟨(some 26), none, (.mov (.t 1)), [], [], 1728⟩,
  ⟨(some 27), none, (.mov (.t 7)), [], [], 1792⟩,
  ⟨(some 28), none, (.callv (.t 26) [(.t 27)]), [], [], 1856⟩,
  ⟨(some 29), none, (.un .not (.t 28)), [], [], 1920⟩]) (.cond (.t 29) (.seq (.reg false [⟨(some 30), none, (.mov (.t 0)), [], [], 1984⟩,
  ⟨(some 31), none, (.mov (.t 5)), [], [], 2048⟩,
  ⟨(some 32), none, (.mov (.t 7)), [], [], 2112⟩,
  ⟨(some 33), none, (.iaL 1 (.t 30) (.t 31)), [], [], 2176⟩,
  ⟨none, none, (.st false 1 (.t 33) (.t 32)), [], [], 64⟩]) (.reg false [⟨(some 34), none, (.mov (.t 5)), [], [], 2240⟩,
  ⟨(some 35), none, (.bin .add (.t 34) (.c (.int .i64 1))), [], [], 2304⟩,
  ⟨(some 5), none, (.mov (.t 35)), [], [], 384⟩])) .skip)))) (.reg false [⟨(some 20), none, (.mov (.t 6)), [], [], 1344⟩,
  ⟨(some 21), none, (.bin .add (.t 20) (.c (.int .i64 1))), [], [], 1408⟩,
  ⟨(some 6), none, (.mov (.t 21)), [], [], 448⟩])))
def ir59 : IFun := ⟨2, 42, [(.tmp 4)], (.seq (.reg false [⟨(some 4), none, (.mov (.c (.sl .nil 0 []))), [], [], 320⟩]) (.seq (.reg false [⟨(some 8), none, (.mov (.t 0)), [], [], 576⟩,
  ⟨(some 9), none, (.mov (.t 1)), [], [], 640⟩,
  ⟨(some 10), none, (.call 63 [(.t 8), (.t 9)]), [], [], 704⟩,
  ⟨(some 5), none, (.mov (.t 10)), [], [], 384⟩]) (.seq (.seq (.reg false [⟨(some 11), none, (.mov (.t 5)), [], [], 768⟩,
  ⟨(some 12), none, (.bin .eql (.t 11) (.c (.int .i64 (-1)))), [], [], 832⟩]) (.cond (.t 12) (.seq (.reg false [⟨(some 13), none, (.mov (.t 0)), [], [], 896⟩,
  ⟨(some 4), none, (.mov (.t 13)), [], [], 320⟩]) .ret) .skip)) (.seq (.seq (.reg false [⟨(some 14), none, (.mov (.t 5)), [], [], 960⟩,
  ⟨(some 15), none, (.bin .add (.t 14) (.c (.int .i64 1))), [], [], 1024⟩,
  ⟨(some 6), none, (.mov (.t 15)), [], [], 448⟩]) (.block 0 (.loop lp59_0))) (.seq (.reg false [⟨(some 36), none, (.mov (.t 0)), [], [], 2368⟩,
  ⟨(some 37), none, (.mov (.t 5)), [], [], 2432⟩,
  ⟨(some 38), none, (.slL 1 (.t 36) (some (.t 37)) none none), [], [], 2496⟩,
  ⟨none, none, (.clr 1 [(.int .i64 0)] (.t 38)), [], [], 64⟩]) (.seq (.reg false [⟨(some 39), none, (.mov (.t 0)), [], [], 2560⟩,
  ⟨(some 40), none, (.mov (.t 5)), [], [], 2624⟩,
  ⟨(some 41), none, (.slL 1 (.t 39) none (some (.t 40)) none), [], [], 2688⟩,
  ⟨(some 4), none, (.mov (.t 41)), [], [], 320⟩]) .ret)))))), none⟩
theorem ok59 : FnOk Try.prog 59 ir59 := .inl ⟨Try.f59, 0, Try.func59, by kernel_rfl, by kernel_rfl⟩
/-- muniment/conf.Without$1 -/
def ir60 : IFun := ⟨2, 7, [(.tmp 3)], (.seq (.reg false [⟨(some 3), none, (.mov (.c (.bool false))), [], [], 256⟩]) (.seq (.reg false [⟨(some 4), none, (.mov (.t 0)), [], [], 320⟩,
  ⟨(some 5), none, (.ld false 1 (.t 1)), [], [], 384⟩,
  ⟨(some 6), none, (.bin .eql (.t 4) (.t 5)), [], [], 448⟩,
  ⟨(some 3), none, (.mov (.t 6)), [], [], 256⟩]) .ret)), none⟩
theorem ok60 : FnOk Try.prog 60 ir60 := .inl ⟨Try.f60, 0, Try.func60, by kernel_rfl, by kernel_rfl⟩
/-- slices.BinarySearch[[]int,int] -/
def lp61_0 : IC := (.seq (.seq (.reg false [⟨(some 13), none, (.mov (.t 7)), [], [], 896⟩,
  ⟨(some 14), none, (.mov (.t 8)), [], [], 960⟩,
  ⟨(some 15), none, (.bin .lss (.t 13) (.t 14)), [], [], 1024⟩]) (.cond (.t 15) .skip (.exit 0))) (.block 1 (.seq (.reg false [⟨(some 16), none, (.mov (.t 7)), [], [], 1088⟩,
  ⟨(some 17), none, (.mov (.t 8)), [], [], 1152⟩,
  ⟨(some 18), none, (.bin .add (.t 16) (.t 17)), [], [], 1216⟩,
  ⟨(some 19), none, (.toInt .u64 (.t 18)), [], [], 1280⟩,
  ⟨(some 20), none, (.bin .shr (.t 19) (.c (.int .u64 1))), [], [], 1344⟩,
  ⟨(some 21), none, (.toInt .i64 (.t 20)), [], [], 1408⟩,
  ⟨(some 9), none, (.mov (.t 21)), [], [], 640⟩]) (.seq (.reg false [⟨(some 22), none, (.mov (.t 0)), [], [], 1472⟩,
  ⟨(some 23), none, (.mov (.t 9)), [], [], 1536⟩,
  ⟨(some 24), none, (.iaL 1 (.t 22) (.t 23)), [], [], 1600⟩,
  ⟨(some 25), none, (.ld false 1 (.t 24)), [], [], 1664⟩,
  ⟨(some 26), none, (.mov (.t 1)), [], [], 1728⟩,
  ⟨(some 27), none, (.call 64 [(.t 25), (.t 26)]), [], [], 1792⟩]) (.cond (.t 27) (.reg false [⟨(some 28), none, (.mov (.t 9)), [], [], 1856⟩,
  ⟨(some 29), none, (.bin .add (.t 28) (.c (.int .i64 1))), [], [], 1920⟩,
  ⟨(some 7), none, (.mov (.t 29)), [], [], 512⟩]) (.reg false [⟨(some 30), none, (.mov (.t 9)), [], [], 1984⟩,
  ⟨(some 8), none, (.mov (.t 30)), [], [], 576⟩]))))))
def ir61 : IFun := ⟨2, 54, [(.tmp 4), (.tmp 5)], (.seq (.reg false [⟨(some 4), none, (.mov (.c (.int .i64 0))), [], [], 320⟩,
  ⟨(some 5), none, (.mov (.c (.bool false))), [], [], 384⟩]) (.seq (.reg false [⟨(some 10), none, (.mov (.t 0)), [], [], 704⟩,
  ⟨(some 11), none, (.len false (.t 10)), [], [], 768⟩,
  ⟨(some 6), none, (.mov (.t 11)), [], [], 448⟩]) (.seq (.reg false [⟨(some 12), none, (.mov (.t 6)), [], [], 832⟩,
  ⟨(some 7), none, (.mov (.c (.int .i64 0))), [], [], 512⟩,
  ⟨(some 8), none, (.mov (.t 12)), [], [], 576⟩]) (.seq (.block 0 (.loop lp61_0)) (.seq (.reg false [⟨(some 31), none, (.mov (.t 7)), [], [], 2048⟩,
  ⟨(some 32), none, (.mov (.t 7)), [], [], 2112⟩,
  ⟨(some 33), none, (.mov (.t 6)), [], [], 2176⟩,
  ⟨(some 34), none, (.bin .lss (.t 32) (.t 33)), [], [], 2240⟩,
  ⟨(some 35), none, (.mov (.t 34)), [], [], 2304⟩,
  ⟨(some 36), (some (35, true)), (.mov (.t 0)), [], [], 2368⟩,
  ⟨(some 37), (some (35, true)), (.mov (.t 7)), [], [], 2432⟩,
  ⟨(some 38), (some (35, true)), (.iaL 1 (.t 36) (.t 37)), [], [], 2496⟩,
  ⟨(some 39), (some (35, true)), (.ld false 1 (.t 38)), [], [], 2560⟩,
  ⟨(some 40), (some (35, true)), (.mov (.t 1)), [], [], 2624⟩,
  ⟨(some 41), (some (35, true)), (.bin .eql (.t 39) (.t 40)), [], [], 2688⟩,
  ⟨(some 42), (some (35, true)), (.mov (.t 41)), [], [], 2752⟩,
  ⟨(some 43), (some (42, false)), (.mov (.t 0)), [], [], 2816⟩,
  ⟨(some 44), (some (42, false)), (.mov (.t 7)), [], [], 2880⟩,
  ⟨(some 45), (some (42, false)), (.iaL 1 (.t 43) (.t 44)), [], [], 2944⟩,
  ⟨(some 46), (some (42, false)), (.ld false 1 (.t 45)), [], [], 3008⟩,
  ⟨(some 47), (some (42, false)), (.call 65 [(.t 46)]), [], [], 3072⟩,
  ⟨(some 48), (some (42, false)), (.mov (.t 47)), [], [], 3136⟩,
  ⟨(some 49), (some (48, true)), (.mov (.t 1)), [], [], 3200⟩,
  ⟨(some 50), (some (48, true)), (.call 65 [(.t 49)]), [], [], 3264⟩,
  ⟨(some 51), (some (42, false)), (.pick (.t 48) (.t 50) (.c (.bool false))), [], [], 3328⟩,
  ⟨(some 52), (some (35, true)), (.pick (.t 42) (.c (.bool true)) (.t 51)), [], [], 3392⟩,
  ⟨(some 53), none, (.pick (.t 35) (.t 52) (.c (.bool false))), [], [], 3456⟩,
  ⟨(some 4), none, (.mov (.t 31)), [], [], 320⟩,
  ⟨(some 5), none, (.mov (.t 53)), [], [], 384⟩]) .ret))))), none⟩
theorem ok61 : FnOk Try.prog 61 ir61 := .inl ⟨Try.f61, 0, Try.func61, by kernel_rfl, by kernel_rfl⟩
/-- slices.Contains[[]int,int] -/
def ir62 : IFun := ⟨2, 9, [(.tmp 4)], (.seq (.reg false [⟨(some 4), none, (.mov (.c (.bool false))), [], [], 320⟩]) (.seq (.reg false [⟨(some 5), none, (.mov (.t 0)), [], [], 384⟩,
  ⟨(some 6), none, (.mov (.t 1)), [], [], 448⟩,
  ⟨(some 7), none, (.call 66 [(.t 5), (.t 6)]), [], [], 512⟩,
  ⟨(some 8), none, (.bin .geq (.t 7) (.c (.int .i64 0))), [], [], 576⟩,
  ⟨(some 4), none, (.mov (.t 8)), [], [], 320⟩]) .ret)), none⟩
theorem ok62 : FnOk Try.prog 62 ir62 := .inl ⟨Try.f62, 0, Try.func62, by kernel_rfl, by kernel_rfl⟩
/-- slices.IndexFunc[[]int,int] -/
def lp63_0 : IC := (.seq (.reg false [⟨(some 9), none, (.bin .lss (.t 8) (.t 7)), [], [], 640⟩]) (.seq (.cond (.t 9) .skip (.exit 0)) (.seq (.block 1 (.seq (.reg false [⟨(some 10), none, (.mov (.t 8)), [], [], 704⟩,
  ⟨(some 5), none, (.mov (.t 10)), [], [], 384⟩]) (.seq (.reg false [⟨(some 11), none, (.mov (.t 1)), [], [], 768⟩,
  ⟨(some 12), none, (.mov (.t 0)), [], [], 832⟩,
  ⟨(some 13), none, (.mov (.t 5)), [], [], 896⟩,
  ⟨(some 14), none, (.iaL 1 (.t 12) (.t 13)), [], [], 960⟩,
  ⟨(some 15), none, (.ld false 1 (.t 14)), [], [], 1024⟩,
  ⟨(some 16), none, (.callv (.t 11) [(.t 15)]), [], [], 1088⟩]) (.cond (.t 16) (.seq (.reg false [⟨(some 17), none, (.mov (.t 5)), [], [], 1152⟩,
  ⟨(some 4), none, (.mov (.t 17)), [], [], 320⟩]) .ret) .skip)))) (.reg false [⟨(some 18), none, (.bin .add (.t 8) (.c (.int .i64 1))), [], [], 1216⟩,
  ⟨(some 8), none, (.mov (.t 18)), [], [], 576⟩]))))
def ir63 : IFun := ⟨2, 19, [(.tmp 4)], (.seq (.reg false [⟨(some 4), none, (.mov (.c (.int .i64 0))), [], [], 320⟩]) (.seq (.seq (.reg false [⟨(some 6), none, (.mov (.t 0)), [], [], 448⟩,
  ⟨(some 7), none, (.len false (.t 6)), [], [], 512⟩,
  ⟨(some 8), none, (.mov (.c (.int .i64 0))), [], [], 576⟩]) (.block 0 (.loop lp63_0))) (.seq (.reg false [⟨(some 4), none, (.mov (.c (.int .i64 (-1)))), [], [], 320⟩]) .ret))), none⟩
theorem ok63 : FnOk Try.prog 63 ir63 := .inl ⟨Try.f63, 0, Try.func63, by kernel_rfl, by kernel_rfl⟩
/-- cmp.Less[int] -/
def ir64 : IFun := ⟨2, 17, [(.tmp 4)], (.seq (.reg false [⟨(some 4), none, (.mov (.c (.bool false))), [], [], 320⟩]) (.seq (.reg false [⟨(some 5), none, (.mov (.t 0)), [], [], 384⟩,
  ⟨(some 6), none, (.call 67 [(.t 5)]), [], [], 448⟩,
  ⟨(some 7), none, (.mov (.t 6)), [], [], 512⟩,
  ⟨(some 8), (some (7, true)), (.mov (.t 1)), [], [], 576⟩,
  ⟨(some 9), (some (7, true)), (.call 67 [(.t 8)]), [], [], 640⟩,
  ⟨(some 10), (some (7, true)), (.un .not (.t 9)), [], [], 704⟩,
  ⟨(some 11), none, (.pick (.t 7) (.t 10) (.c (.bool false))), [], [], 768⟩,
  ⟨(some 12), none, (.mov (.t 11)), [], [], 832⟩,
  ⟨(some 13), (some (12, false)), (.mov (.t 0)), [], [], 896⟩,
  ⟨(some 14), (some (12, false)), (.mov (.t 1)), [], [], 960⟩,
  ⟨(some 15), (some (12, false)), (.bin .lss (.t 13) (.t 14)), [], [], 1024⟩,
  ⟨(some 16), none, (.pick (.t 12) (.c (.bool true)) (.t 15)), [], [], 1088⟩,
  ⟨(some 4), none, (.mov (.t 16)), [], [], 320⟩]) .ret)), none⟩
theorem ok64 : FnOk Try.prog 64 ir64 := .inl ⟨Try.f64, 0, Try.func64, by kernel_rfl, by kernel_rfl⟩
/-- slices.isNaN[int] -/
def ir65 : IFun := ⟨1, 6, [(.tmp 2)], (.seq (.reg false [⟨(some 2), none, (.mov (.c (.bool false))), [], [], 192⟩]) (.seq (.reg false [⟨(some 3), none, (.mov (.t 0)), [], [], 256⟩,
  ⟨(some 4), none, (.mov (.t 0)), [], [], 320⟩,
  ⟨(some 5), none, (.bin .neq (.t 3) (.t 4)), [], [], 384⟩,
  ⟨(some 2), none, (.mov (.t 5)), [], [], 192⟩]) .ret)), none⟩
theorem ok65 : FnOk Try.prog 65 ir65 := .inl ⟨Try.f65, 0, Try.func65, by kernel_rfl, by kernel_rfl⟩
/-- slices.Index[[]int,int] -/
def lp66_0 : IC := (.seq (.reg false [⟨(some 9), none, (.bin .lss (.t 8) (.t 7)), [], [], 640⟩]) (.seq (.cond (.t 9) .skip (.exit 0)) (.seq (.block 1 (.seq (.reg false [⟨(some 10), none, (.mov (.t 8)), [], [], 704⟩,
  ⟨(some 5), none, (.mov (.t 10)), [], [], 384⟩]) (.seq (.reg false [⟨(some 11), none, (.mov (.t 1)), [], [], 768⟩,
  ⟨(some 12), none, (.mov (.t 0)), [], [], 832⟩,
  ⟨(some 13), none, (.mov (.t 5)), [], [], 896⟩,
  ⟨(some 14), none, (.iaL 1 (.t 12) (.t 13)), [], [], 960⟩,
  ⟨(some 15), none, (.ld false 1 (.t 14)), [], [], 1024⟩,
  ⟨(some 16), none, (.bin .eql (.t 11) (.t 15)), [], [], 1088⟩]) (.cond (.t 16) (.seq (.reg false [⟨(some 17), none, (.mov (.t 5)), [], [], 1152⟩,
  ⟨(some 4), none, (.mov (.t 17)), [], [], 320⟩]) .ret) .skip)))) (.reg false [⟨(some 18), none, (.bin .add (.t 8) (.c (.int .i64 1))), [], [], 1216⟩,
  ⟨(some 8), none, (.mov (.t 18)), [], [], 576⟩]))))
def ir66 : IFun := ⟨2, 19, [(.tmp 4)], (.seq (.reg false [⟨(some 4), none, (.mov (.c (.int .i64 0))), [], [], 320⟩]) (.seq (.seq (.reg false [⟨(some 6), none, (.mov (.t 0)), [], [], 448⟩,
  ⟨(some 7), none, (.len false (.t 6)), [], [], 512⟩,
  ⟨(some 8), none, (.mov (.c (.int .i64 0))), [], [], 576⟩]) (.block 0 (.loop lp66_0))) (.seq (.reg false [⟨(some 4), none, (.mov (.c (.int .i64 (-1)))), [], [], 320⟩]) .ret))), none⟩
theorem ok66 : FnOk Try.prog 66 ir66 := .inl ⟨Try.f66, 0, Try.func66, by kernel_rfl, by kernel_rfl⟩
/-- cmp.isNaN[int] -/
def ir67 : IFun := ⟨1, 6, [(.tmp 2)], (.seq (.reg false [⟨(some 2), none, (.mov (.c (.bool false))), [], [], 192⟩]) (.seq (.reg false [⟨(some 3), none, (.mov (.t 0)), [], [], 256⟩,
  ⟨(some 4), none, (.mov (.t 0)), [], [], 320⟩,
  ⟨(some 5), none, (.bin .neq (.t 3) (.t 4)), [], [], 384⟩,
  ⟨(some 2), none, (.mov (.t 5)), [], [], 192⟩]) .ret)), none⟩
theorem ok67 : FnOk Try.prog 67 ir67 := .inl ⟨Try.f67, 0, Try.func67, by kernel_rfl, by kernel_rfl⟩
def fnsL : List (Nat × Option (List Mode) × IFun) := [(3, some [.bor], ir3),
  (4, none, ir4),
  (5, some [.io], ir5),
  (6, some [], ir6),
  (7, some [.bor], ir7),
  (8, some [.bor], ir8),
  (9, some [.bor], ir9),
  (10, some [.io, .bor], ir10),
  (11, some [.bor], ir11),
  (12, none, ir12),
  (13, some [.bor, .bor], ir13),
  (14, some [.bor, .bor, .bor], ir14),
  (15, some [.io], ir15),
  (16, some [.io], ir16),
  (17, some [.bor], ir17),
  (18, some [.io, .bor], ir18),
  (19, some [.io, .bor], ir19),
  (20, some [.io], ir20),
  (21, some [.io, .bor, .bor], ir21),
  (22, some [.io, .bor], ir22),
  (23, some [.bor, .bor], ir23),
  (24, some [.bor], ir24),
  (25, some [.bor], ir25),
  (26, some [.bor], ir26),
  (27, some [.bor], ir27),
  (28, some [.io, .bor, .bor], ir28),
  (29, some [.bor], ir29),
  (30, some [.io, .bor], ir30),
  (31, some [.bor], ir31),
  (32, some [.io], ir32),
  (33, some [.bor, .bor], ir33),
  (34, some [.io], ir34),
  (35, some [.bor, .bor], ir35),
  (36, some [.io], ir36),
  (37, some [.io], ir37),
  (38, some [.bor], ir38),
  (39, some [.io, .bor], ir39),
  (40, some [.io, .bor], ir40),
  (41, some [.io, .bor], ir41),
  (42, some [.io, .bor], ir42),
  (43, some [.io, .bor], ir43),
  (44, some [.io, .bor], ir44),
  (45, some [.bor, .bor], ir45),
  (46, some [.bor], ir46),
  (47, some [.bor], ir47),
  (48, some [.bor, .bor], ir48),
  (49, some [.bor, .bor], ir49),
  (50, some [.bor, .bor], ir50),
  (51, some [.bor, .bor], ir51),
  (52, some [.bor], ir52),
  (53, some [.io, .bor], ir53),
  (54, some [.bor, .bor], ir54),
  (55, some [.io, .bor, .bor], ir55),
  (56, some [.io, .bor], ir56),
  (57, some [.bor], ir57),
  (58, some [.bor, .bor], ir58),
  (59, some [.mov, .bor], ir59),
  (60, some [.bor, .bor], ir60),
  (61, some [.bor, .bor], ir61),
  (62, some [.bor, .bor], ir62),
  (63, some [.bor, .bor], ir63),
  (64, some [.bor, .bor], ir64),
  (65, some [.bor], ir65),
  (66, some [.bor, .bor], ir66),
  (67, some [.bor], ir67)]
def fns : Fns := fun f => (fnsL.find? fun q => q.1 == f).map (·.2)
theorem fnsL_ok : ∀ q ∈ fnsL, FnOk Try.prog q.1 q.2.2 := by
  unfold fnsL
  repeat rw [List.forall_mem_cons]
  exact ⟨ok3, ok4, ok5, ok6, ok7, ok8, ok9, ok10, ok11, ok12, ok13, ok14, ok15, ok16, ok17, ok18, ok19, ok20, ok21, ok22, ok23, ok24, ok25, ok26, ok27, ok28, ok29, ok30, ok31, ok32, ok33, ok34, ok35, ok36, ok37, ok38, ok39, ok40, ok41, ok42, ok43, ok44, ok45, ok46, ok47, ok48, ok49, ok50, ok51, ok52, ok53, ok54, ok55, ok56, ok57, ok58, ok59, ok60, ok61, ok62, ok63, ok64, ok65, ok66, ok67, by simp⟩
theorem fns_ok (f : Nat) (p : Option (List Mode) × IFun) (h : fns f = some p) : FnOk Try.prog f p.2 := by
  obtain ⟨q, h1, rfl⟩ := Option.map_eq_some_iff.1 h
  have h2 := List.find?_some h1
  rw [← beq_iff_eq.1 h2]
  exact fnsL_ok q (List.mem_of_find?_eq_some h1)
theorem mixed : Try.prog.follows .mixedOrders = true := by kernel_rfl
theorem laid : laidOutB Try.prog = true := by kernel_rfl
theorem T_ok : TblOk Try.prog (tabW fns) := tabW_ok mixed fns_ok
variable {σ : Store} {base : Nat}
theorem at3 : fns 3 = some (some [.bor], ir3) := rfl
@[go_sem] theorem call3 (vs : List V) : callV (tabW fns) σ base 3 vs = callP σ base [.bor] vs (Gf fns 3) (passV σ [.bor] vs) := callV_T at3 vs
@[go_sem] theorem callr3 (vs : List V) : callR (tabW fns) σ base 3 vs = outS σ (callP σ base [.bor] vs (Gf fns 3) (passV σ [.bor] vs)) := callR_T at3 vs
theorem at4 : fns 4 = some (none, ir4) := rfl
@[go_sem] theorem call4 (vs : List V) : callR (tabW fns) σ base 4 vs = Hf fns 4 vs σ := callR_H at4 vs
@[go_sem] theorem lcall4 (vs : List V) : callV (tabW fns) σ base 4 vs = callP σ base [.bor, .bor, .bor] vs (Gf fns 4) (passV σ [.bor, .bor, .bor] vs) := callV_H at4 vs
theorem at5 : fns 5 = some (some [.io], ir5) := rfl
theorem call5 (vs : List V) : callV (tabW fns) σ base 5 vs = callP σ base [.io] vs (Gf fns 5) (passV σ [.io] vs) := callV_T at5 vs
theorem callr5 (vs : List V) : callR (tabW fns) σ base 5 vs = outS σ (callP σ base [.io] vs (Gf fns 5) (passV σ [.io] vs)) := callR_T at5 vs
theorem at6 : fns 6 = some (some [], ir6) := rfl
@[go_sem] theorem call6 (vs : List V) : callV (tabW fns) σ base 6 vs = callP σ base [] vs (Gf fns 6) (passV σ [] vs) := callV_T at6 vs
@[go_sem] theorem callr6 (vs : List V) : callR (tabW fns) σ base 6 vs = outS σ (callP σ base [] vs (Gf fns 6) (passV σ [] vs)) := callR_T at6 vs
theorem at7 : fns 7 = some (some [.bor], ir7) := rfl
@[go_sem] theorem call7 (vs : List V) : callV (tabW fns) σ base 7 vs = callP σ base [.bor] vs (Gf fns 7) (passV σ [.bor] vs) := callV_T at7 vs
@[go_sem] theorem callr7 (vs : List V) : callR (tabW fns) σ base 7 vs = outS σ (callP σ base [.bor] vs (Gf fns 7) (passV σ [.bor] vs)) := callR_T at7 vs
theorem at8 : fns 8 = some (some [.bor], ir8) := rfl
@[go_sem] theorem call8 (vs : List V) : callV (tabW fns) σ base 8 vs = callP σ base [.bor] vs (Gf fns 8) (passV σ [.bor] vs) := callV_T at8 vs
@[go_sem] theorem callr8 (vs : List V) : callR (tabW fns) σ base 8 vs = outS σ (callP σ base [.bor] vs (Gf fns 8) (passV σ [.bor] vs)) := callR_T at8 vs
theorem at9 : fns 9 = some (some [.bor], ir9) := rfl
theorem call9 (vs : List V) : callV (tabW fns) σ base 9 vs = callP σ base [.bor] vs (Gf fns 9) (passV σ [.bor] vs) := callV_T at9 vs
theorem callr9 (vs : List V) : callR (tabW fns) σ base 9 vs = outS σ (callP σ base [.bor] vs (Gf fns 9) (passV σ [.bor] vs)) := callR_T at9 vs
theorem at10 : fns 10 = some (some [.io, .bor], ir10) := rfl
theorem call10 (vs : List V) : callV (tabW fns) σ base 10 vs = callP σ base [.io, .bor] vs (Gf fns 10) (passV σ [.io, .bor] vs) := callV_T at10 vs
theorem callr10 (vs : List V) : callR (tabW fns) σ base 10 vs = outS σ (callP σ base [.io, .bor] vs (Gf fns 10) (passV σ [.io, .bor] vs)) := callR_T at10 vs
theorem at11 : fns 11 = some (some [.bor], ir11) := rfl
@[go_sem] theorem call11 (vs : List V) : callV (tabW fns) σ base 11 vs = callP σ base [.bor] vs (Gf fns 11) (passV σ [.bor] vs) := callV_T at11 vs
@[go_sem] theorem callr11 (vs : List V) : callR (tabW fns) σ base 11 vs = outS σ (callP σ base [.bor] vs (Gf fns 11) (passV σ [.bor] vs)) := callR_T at11 vs
theorem at12 : fns 12 = some (none, ir12) := rfl
@[go_sem] theorem call12 (vs : List V) : callR (tabW fns) σ base 12 vs = Hf fns 12 vs σ := callR_H at12 vs
@[go_sem] theorem lcall12 (vs : List V) : callV (tabW fns) σ base 12 vs = callP σ base [.bor, .bor, .bor] vs (Gf fns 12) (passV σ [.bor, .bor, .bor] vs) := callV_H at12 vs
theorem at13 : fns 13 = some (some [.bor, .bor], ir13) := rfl
@[go_sem] theorem call13 (vs : List V) : callV (tabW fns) σ base 13 vs = callP σ base [.bor, .bor] vs (Gf fns 13) (passV σ [.bor, .bor] vs) := callV_T at13 vs
@[go_sem] theorem callr13 (vs : List V) : callR (tabW fns) σ base 13 vs = outS σ (callP σ base [.bor, .bor] vs (Gf fns 13) (passV σ [.bor, .bor] vs)) := callR_T at13 vs
theorem at14 : fns 14 = some (some [.bor, .bor, .bor], ir14) := rfl
theorem call14 (vs : List V) : callV (tabW fns) σ base 14 vs = callP σ base [.bor, .bor, .bor] vs (Gf fns 14) (passV σ [.bor, .bor, .bor] vs) := callV_T at14 vs
theorem callr14 (vs : List V) : callR (tabW fns) σ base 14 vs = outS σ (callP σ base [.bor, .bor, .bor] vs (Gf fns 14) (passV σ [.bor, .bor, .bor] vs)) := callR_T at14 vs
theorem at15 : fns 15 = some (some [.io], ir15) := rfl
theorem call15 (vs : List V) : callV (tabW fns) σ base 15 vs = callP σ base [.io] vs (Gf fns 15) (passV σ [.io] vs) := callV_T at15 vs
theorem callr15 (vs : List V) : callR (tabW fns) σ base 15 vs = outS σ (callP σ base [.io] vs (Gf fns 15) (passV σ [.io] vs)) := callR_T at15 vs
theorem at16 : fns 16 = some (some [.io], ir16) := rfl
theorem call16 (vs : List V) : callV (tabW fns) σ base 16 vs = callP σ base [.io] vs (Gf fns 16) (passV σ [.io] vs) := callV_T at16 vs
theorem callr16 (vs : List V) : callR (tabW fns) σ base 16 vs = outS σ (callP σ base [.io] vs (Gf fns 16) (passV σ [.io] vs)) := callR_T at16 vs
theorem at17 : fns 17 = some (some [.bor], ir17) := rfl
@[go_sem] theorem call17 (vs : List V) : callV (tabW fns) σ base 17 vs = callP σ base [.bor] vs (Gf fns 17) (passV σ [.bor] vs) := callV_T at17 vs
@[go_sem] theorem callr17 (vs : List V) : callR (tabW fns) σ base 17 vs = outS σ (callP σ base [.bor] vs (Gf fns 17) (passV σ [.bor] vs)) := callR_T at17 vs
theorem at18 : fns 18 = some (some [.io, .bor], ir18) := rfl
theorem call18 (vs : List V) : callV (tabW fns) σ base 18 vs = callP σ base [.io, .bor] vs (Gf fns 18) (passV σ [.io, .bor] vs) := callV_T at18 vs
theorem callr18 (vs : List V) : callR (tabW fns) σ base 18 vs = outS σ (callP σ base [.io, .bor] vs (Gf fns 18) (passV σ [.io, .bor] vs)) := callR_T at18 vs
theorem at19 : fns 19 = some (some [.io, .bor], ir19) := rfl
theorem call19 (vs : List V) : callV (tabW fns) σ base 19 vs = callP σ base [.io, .bor] vs (Gf fns 19) (passV σ [.io, .bor] vs) := callV_T at19 vs
theorem callr19 (vs : List V) : callR (tabW fns) σ base 19 vs = outS σ (callP σ base [.io, .bor] vs (Gf fns 19) (passV σ [.io, .bor] vs)) := callR_T at19 vs
theorem at20 : fns 20 = some (some [.io], ir20) := rfl
theorem call20 (vs : List V) : callV (tabW fns) σ base 20 vs = callP σ base [.io] vs (Gf fns 20) (passV σ [.io] vs) := callV_T at20 vs
theorem callr20 (vs : List V) : callR (tabW fns) σ base 20 vs = outS σ (callP σ base [.io] vs (Gf fns 20) (passV σ [.io] vs)) := callR_T at20 vs
theorem at21 : fns 21 = some (some [.io, .bor, .bor], ir21) := rfl
theorem call21 (vs : List V) : callV (tabW fns) σ base 21 vs = callP σ base [.io, .bor, .bor] vs (Gf fns 21) (passV σ [.io, .bor, .bor] vs) := callV_T at21 vs
theorem callr21 (vs : List V) : callR (tabW fns) σ base 21 vs = outS σ (callP σ base [.io, .bor, .bor] vs (Gf fns 21) (passV σ [.io, .bor, .bor] vs)) := callR_T at21 vs
theorem at22 : fns 22 = some (some [.io, .bor], ir22) := rfl
theorem call22 (vs : List V) : callV (tabW fns) σ base 22 vs = callP σ base [.io, .bor] vs (Gf fns 22) (passV σ [.io, .bor] vs) := callV_T at22 vs
theorem callr22 (vs : List V) : callR (tabW fns) σ base 22 vs = outS σ (callP σ base [.io, .bor] vs (Gf fns 22) (passV σ [.io, .bor] vs)) := callR_T at22 vs
theorem at23 : fns 23 = some (some [.bor, .bor], ir23) := rfl
@[go_sem] theorem call23 (vs : List V) : callV (tabW fns) σ base 23 vs = callP σ base [.bor, .bor] vs (Gf fns 23) (passV σ [.bor, .bor] vs) := callV_T at23 vs
@[go_sem] theorem callr23 (vs : List V) : callR (tabW fns) σ base 23 vs = outS σ (callP σ base [.bor, .bor] vs (Gf fns 23) (passV σ [.bor, .bor] vs)) := callR_T at23 vs
theorem at24 : fns 24 = some (some [.bor], ir24) := rfl
@[go_sem] theorem call24 (vs : List V) : callV (tabW fns) σ base 24 vs = callP σ base [.bor] vs (Gf fns 24) (passV σ [.bor] vs) := callV_T at24 vs
@[go_sem] theorem callr24 (vs : List V) : callR (tabW fns) σ base 24 vs = outS σ (callP σ base [.bor] vs (Gf fns 24) (passV σ [.bor] vs)) := callR_T at24 vs
theorem at25 : fns 25 = some (some [.bor], ir25) := rfl
@[go_sem] theorem call25 (vs : List V) : callV (tabW fns) σ base 25 vs = callP σ base [.bor] vs (Gf fns 25) (passV σ [.bor] vs) := callV_T at25 vs
@[go_sem] theorem callr25 (vs : List V) : callR (tabW fns) σ base 25 vs = outS σ (callP σ base [.bor] vs (Gf fns 25) (passV σ [.bor] vs)) := callR_T at25 vs
theorem at26 : fns 26 = some (some [.bor], ir26) := rfl
@[go_sem] theorem call26 (vs : List V) : callV (tabW fns) σ base 26 vs = callP σ base [.bor] vs (Gf fns 26) (passV σ [.bor] vs) := callV_T at26 vs
@[go_sem] theorem callr26 (vs : List V) : callR (tabW fns) σ base 26 vs = outS σ (callP σ base [.bor] vs (Gf fns 26) (passV σ [.bor] vs)) := callR_T at26 vs
theorem at27 : fns 27 = some (some [.bor], ir27) := rfl
@[go_sem] theorem call27 (vs : List V) : callV (tabW fns) σ base 27 vs = callP σ base [.bor] vs (Gf fns 27) (passV σ [.bor] vs) := callV_T at27 vs
@[go_sem] theorem callr27 (vs : List V) : callR (tabW fns) σ base 27 vs = outS σ (callP σ base [.bor] vs (Gf fns 27) (passV σ [.bor] vs)) := callR_T at27 vs
theorem at28 : fns 28 = some (some [.io, .bor, .bor], ir28) := rfl
theorem call28 (vs : List V) : callV (tabW fns) σ base 28 vs = callP σ base [.io, .bor, .bor] vs (Gf fns 28) (passV σ [.io, .bor, .bor] vs) := callV_T at28 vs
theorem callr28 (vs : List V) : callR (tabW fns) σ base 28 vs = outS σ (callP σ base [.io, .bor, .bor] vs (Gf fns 28) (passV σ [.io, .bor, .bor] vs)) := callR_T at28 vs
theorem at29 : fns 29 = some (some [.bor], ir29) := rfl
@[go_sem] theorem call29 (vs : List V) : callV (tabW fns) σ base 29 vs = callP σ base [.bor] vs (Gf fns 29) (passV σ [.bor] vs) := callV_T at29 vs
@[go_sem] theorem callr29 (vs : List V) : callR (tabW fns) σ base 29 vs = outS σ (callP σ base [.bor] vs (Gf fns 29) (passV σ [.bor] vs)) := callR_T at29 vs
theorem at30 : fns 30 = some (some [.io, .bor], ir30) := rfl
theorem call30 (vs : List V) : callV (tabW fns) σ base 30 vs = callP σ base [.io, .bor] vs (Gf fns 30) (passV σ [.io, .bor] vs) := callV_T at30 vs
theorem callr30 (vs : List V) : callR (tabW fns) σ base 30 vs = outS σ (callP σ base [.io, .bor] vs (Gf fns 30) (passV σ [.io, .bor] vs)) := callR_T at30 vs
theorem at31 : fns 31 = some (some [.bor], ir31) := rfl
@[go_sem] theorem call31 (vs : List V) : callV (tabW fns) σ base 31 vs = callP σ base [.bor] vs (Gf fns 31) (passV σ [.bor] vs) := callV_T at31 vs
@[go_sem] theorem callr31 (vs : List V) : callR (tabW fns) σ base 31 vs = outS σ (callP σ base [.bor] vs (Gf fns 31) (passV σ [.bor] vs)) := callR_T at31 vs
theorem at32 : fns 32 = some (some [.io], ir32) := rfl
theorem call32 (vs : List V) : callV (tabW fns) σ base 32 vs = callP σ base [.io] vs (Gf fns 32) (passV σ [.io] vs) := callV_T at32 vs
theorem callr32 (vs : List V) : callR (tabW fns) σ base 32 vs = outS σ (callP σ base [.io] vs (Gf fns 32) (passV σ [.io] vs)) := callR_T at32 vs
theorem at33 : fns 33 = some (some [.bor, .bor], ir33) := rfl
@[go_sem] theorem call33 (vs : List V) : callV (tabW fns) σ base 33 vs = callP σ base [.bor, .bor] vs (Gf fns 33) (passV σ [.bor, .bor] vs) := callV_T at33 vs
@[go_sem] theorem callr33 (vs : List V) : callR (tabW fns) σ base 33 vs = outS σ (callP σ base [.bor, .bor] vs (Gf fns 33) (passV σ [.bor, .bor] vs)) := callR_T at33 vs
theorem at34 : fns 34 = some (some [.io], ir34) := rfl
theorem call34 (vs : List V) : callV (tabW fns) σ base 34 vs = callP σ base [.io] vs (Gf fns 34) (passV σ [.io] vs) := callV_T at34 vs
theorem callr34 (vs : List V) : callR (tabW fns) σ base 34 vs = outS σ (callP σ base [.io] vs (Gf fns 34) (passV σ [.io] vs)) := callR_T at34 vs
theorem at35 : fns 35 = some (some [.bor, .bor], ir35) := rfl
@[go_sem] theorem call35 (vs : List V) : callV (tabW fns) σ base 35 vs = callP σ base [.bor, .bor] vs (Gf fns 35) (passV σ [.bor, .bor] vs) := callV_T at35 vs
@[go_sem] theorem callr35 (vs : List V) : callR (tabW fns) σ base 35 vs = outS σ (callP σ base [.bor, .bor] vs (Gf fns 35) (passV σ [.bor, .bor] vs)) := callR_T at35 vs
theorem at36 : fns 36 = some (some [.io], ir36) := rfl
theorem call36 (vs : List V) : callV (tabW fns) σ base 36 vs = callP σ base [.io] vs (Gf fns 36) (passV σ [.io] vs) := callV_T at36 vs
theorem callr36 (vs : List V) : callR (tabW fns) σ base 36 vs = outS σ (callP σ base [.io] vs (Gf fns 36) (passV σ [.io] vs)) := callR_T at36 vs
theorem at37 : fns 37 = some (some [.io], ir37) := rfl
theorem call37 (vs : List V) : callV (tabW fns) σ base 37 vs = callP σ base [.io] vs (Gf fns 37) (passV σ [.io] vs) := callV_T at37 vs
theorem callr37 (vs : List V) : callR (tabW fns) σ base 37 vs = outS σ (callP σ base [.io] vs (Gf fns 37) (passV σ [.io] vs)) := callR_T at37 vs
theorem at38 : fns 38 = some (some [.bor], ir38) := rfl
@[go_sem] theorem call38 (vs : List V) : callV (tabW fns) σ base 38 vs = callP σ base [.bor] vs (Gf fns 38) (passV σ [.bor] vs) := callV_T at38 vs
@[go_sem] theorem callr38 (vs : List V) : callR (tabW fns) σ base 38 vs = outS σ (callP σ base [.bor] vs (Gf fns 38) (passV σ [.bor] vs)) := callR_T at38 vs
theorem at39 : fns 39 = some (some [.io, .bor], ir39) := rfl
theorem call39 (vs : List V) : callV (tabW fns) σ base 39 vs = callP σ base [.io, .bor] vs (Gf fns 39) (passV σ [.io, .bor] vs) := callV_T at39 vs
theorem callr39 (vs : List V) : callR (tabW fns) σ base 39 vs = outS σ (callP σ base [.io, .bor] vs (Gf fns 39) (passV σ [.io, .bor] vs)) := callR_T at39 vs
theorem at40 : fns 40 = some (some [.io, .bor], ir40) := rfl
theorem call40 (vs : List V) : callV (tabW fns) σ base 40 vs = callP σ base [.io, .bor] vs (Gf fns 40) (passV σ [.io, .bor] vs) := callV_T at40 vs
theorem callr40 (vs : List V) : callR (tabW fns) σ base 40 vs = outS σ (callP σ base [.io, .bor] vs (Gf fns 40) (passV σ [.io, .bor] vs)) := callR_T at40 vs
theorem at41 : fns 41 = some (some [.io, .bor], ir41) := rfl
theorem call41 (vs : List V) : callV (tabW fns) σ base 41 vs = callP σ base [.io, .bor] vs (Gf fns 41) (passV σ [.io, .bor] vs) := callV_T at41 vs
theorem callr41 (vs : List V) : callR (tabW fns) σ base 41 vs = outS σ (callP σ base [.io, .bor] vs (Gf fns 41) (passV σ [.io, .bor] vs)) := callR_T at41 vs
theorem at42 : fns 42 = some (some [.io, .bor], ir42) := rfl
theorem call42 (vs : List V) : callV (tabW fns) σ base 42 vs = callP σ base [.io, .bor] vs (Gf fns 42) (passV σ [.io, .bor] vs) := callV_T at42 vs
theorem callr42 (vs : List V) : callR (tabW fns) σ base 42 vs = outS σ (callP σ base [.io, .bor] vs (Gf fns 42) (passV σ [.io, .bor] vs)) := callR_T at42 vs
theorem at43 : fns 43 = some (some [.io, .bor], ir43) := rfl
theorem call43 (vs : List V) : callV (tabW fns) σ base 43 vs = callP σ base [.io, .bor] vs (Gf fns 43) (passV σ [.io, .bor] vs) := callV_T at43 vs
theorem callr43 (vs : List V) : callR (tabW fns) σ base 43 vs = outS σ (callP σ base [.io, .bor] vs (Gf fns 43) (passV σ [.io, .bor] vs)) := callR_T at43 vs
theorem at44 : fns 44 = some (some [.io, .bor], ir44) := rfl
theorem call44 (vs : List V) : callV (tabW fns) σ base 44 vs = callP σ base [.io, .bor] vs (Gf fns 44) (passV σ [.io, .bor] vs) := callV_T at44 vs
theorem callr44 (vs : List V) : callR (tabW fns) σ base 44 vs = outS σ (callP σ base [.io, .bor] vs (Gf fns 44) (passV σ [.io, .bor] vs)) := callR_T at44 vs
theorem at45 : fns 45 = some (some [.bor, .bor], ir45) := rfl
@[go_sem] theorem call45 (vs : List V) : callV (tabW fns) σ base 45 vs = callP σ base [.bor, .bor] vs (Gf fns 45) (passV σ [.bor, .bor] vs) := callV_T at45 vs
@[go_sem] theorem callr45 (vs : List V) : callR (tabW fns) σ base 45 vs = outS σ (callP σ base [.bor, .bor] vs (Gf fns 45) (passV σ [.bor, .bor] vs)) := callR_T at45 vs
theorem at46 : fns 46 = some (some [.bor], ir46) := rfl
@[go_sem] theorem call46 (vs : List V) : callV (tabW fns) σ base 46 vs = callP σ base [.bor] vs (Gf fns 46) (passV σ [.bor] vs) := callV_T at46 vs
@[go_sem] theorem callr46 (vs : List V) : callR (tabW fns) σ base 46 vs = outS σ (callP σ base [.bor] vs (Gf fns 46) (passV σ [.bor] vs)) := callR_T at46 vs
theorem at47 : fns 47 = some (some [.bor], ir47) := rfl
@[go_sem] theorem call47 (vs : List V) : callV (tabW fns) σ base 47 vs = callP σ base [.bor] vs (Gf fns 47) (passV σ [.bor] vs) := callV_T at47 vs
@[go_sem] theorem callr47 (vs : List V) : callR (tabW fns) σ base 47 vs = outS σ (callP σ base [.bor] vs (Gf fns 47) (passV σ [.bor] vs)) := callR_T at47 vs
theorem at48 : fns 48 = some (some [.bor, .bor], ir48) := rfl
@[go_sem] theorem call48 (vs : List V) : callV (tabW fns) σ base 48 vs = callP σ base [.bor, .bor] vs (Gf fns 48) (passV σ [.bor, .bor] vs) := callV_T at48 vs
@[go_sem] theorem callr48 (vs : List V) : callR (tabW fns) σ base 48 vs = outS σ (callP σ base [.bor, .bor] vs (Gf fns 48) (passV σ [.bor, .bor] vs)) := callR_T at48 vs
theorem at49 : fns 49 = some (some [.bor, .bor], ir49) := rfl
@[go_sem] theorem call49 (vs : List V) : callV (tabW fns) σ base 49 vs = callP σ base [.bor, .bor] vs (Gf fns 49) (passV σ [.bor, .bor] vs) := callV_T at49 vs
@[go_sem] theorem callr49 (vs : List V) : callR (tabW fns) σ base 49 vs = outS σ (callP σ base [.bor, .bor] vs (Gf fns 49) (passV σ [.bor, .bor] vs)) := callR_T at49 vs
theorem at50 : fns 50 = some (some [.bor, .bor], ir50) := rfl
@[go_sem] theorem call50 (vs : List V) : callV (tabW fns) σ base 50 vs = callP σ base [.bor, .bor] vs (Gf fns 50) (passV σ [.bor, .bor] vs) := callV_T at50 vs
@[go_sem] theorem callr50 (vs : List V) : callR (tabW fns) σ base 50 vs = outS σ (callP σ base [.bor, .bor] vs (Gf fns 50) (passV σ [.bor, .bor] vs)) := callR_T at50 vs
theorem at51 : fns 51 = some (some [.bor, .bor], ir51) := rfl
@[go_sem] theorem call51 (vs : List V) : callV (tabW fns) σ base 51 vs = callP σ base [.bor, .bor] vs (Gf fns 51) (passV σ [.bor, .bor] vs) := callV_T at51 vs
@[go_sem] theorem callr51 (vs : List V) : callR (tabW fns) σ base 51 vs = outS σ (callP σ base [.bor, .bor] vs (Gf fns 51) (passV σ [.bor, .bor] vs)) := callR_T at51 vs
theorem at52 : fns 52 = some (some [.bor], ir52) := rfl
@[go_sem] theorem call52 (vs : List V) : callV (tabW fns) σ base 52 vs = callP σ base [.bor] vs (Gf fns 52) (passV σ [.bor] vs) := callV_T at52 vs
@[go_sem] theorem callr52 (vs : List V) : callR (tabW fns) σ base 52 vs = outS σ (callP σ base [.bor] vs (Gf fns 52) (passV σ [.bor] vs)) := callR_T at52 vs
theorem at53 : fns 53 = some (some [.io, .bor], ir53) := rfl
theorem call53 (vs : List V) : callV (tabW fns) σ base 53 vs = callP σ base [.io, .bor] vs (Gf fns 53) (passV σ [.io, .bor] vs) := callV_T at53 vs
theorem callr53 (vs : List V) : callR (tabW fns) σ base 53 vs = outS σ (callP σ base [.io, .bor] vs (Gf fns 53) (passV σ [.io, .bor] vs)) := callR_T at53 vs
theorem at54 : fns 54 = some (some [.bor, .bor], ir54) := rfl
@[go_sem] theorem call54 (vs : List V) : callV (tabW fns) σ base 54 vs = callP σ base [.bor, .bor] vs (Gf fns 54) (passV σ [.bor, .bor] vs) := callV_T at54 vs
@[go_sem] theorem callr54 (vs : List V) : callR (tabW fns) σ base 54 vs = outS σ (callP σ base [.bor, .bor] vs (Gf fns 54) (passV σ [.bor, .bor] vs)) := callR_T at54 vs
theorem at55 : fns 55 = some (some [.io, .bor, .bor], ir55) := rfl
theorem call55 (vs : List V) : callV (tabW fns) σ base 55 vs = callP σ base [.io, .bor, .bor] vs (Gf fns 55) (passV σ [.io, .bor, .bor] vs) := callV_T at55 vs
theorem callr55 (vs : List V) : callR (tabW fns) σ base 55 vs = outS σ (callP σ base [.io, .bor, .bor] vs (Gf fns 55) (passV σ [.io, .bor, .bor] vs)) := callR_T at55 vs
theorem at56 : fns 56 = some (some [.io, .bor], ir56) := rfl
theorem call56 (vs : List V) : callV (tabW fns) σ base 56 vs = callP σ base [.io, .bor] vs (Gf fns 56) (passV σ [.io, .bor] vs) := callV_T at56 vs
theorem callr56 (vs : List V) : callR (tabW fns) σ base 56 vs = outS σ (callP σ base [.io, .bor] vs (Gf fns 56) (passV σ [.io, .bor] vs)) := callR_T at56 vs
theorem at57 : fns 57 = some (some [.bor], ir57) := rfl
@[go_sem] theorem call57 (vs : List V) : callV (tabW fns) σ base 57 vs = callP σ base [.bor] vs (Gf fns 57) (passV σ [.bor] vs) := callV_T at57 vs
@[go_sem] theorem callr57 (vs : List V) : callR (tabW fns) σ base 57 vs = outS σ (callP σ base [.bor] vs (Gf fns 57) (passV σ [.bor] vs)) := callR_T at57 vs
theorem at58 : fns 58 = some (some [.bor, .bor], ir58) := rfl
@[go_sem] theorem call58 (vs : List V) : callV (tabW fns) σ base 58 vs = callP σ base [.bor, .bor] vs (Gf fns 58) (passV σ [.bor, .bor] vs) := callV_T at58 vs
@[go_sem] theorem callr58 (vs : List V) : callR (tabW fns) σ base 58 vs = outS σ (callP σ base [.bor, .bor] vs (Gf fns 58) (passV σ [.bor, .bor] vs)) := callR_T at58 vs
theorem at59 : fns 59 = some (some [.mov, .bor], ir59) := rfl
@[go_sem] theorem call59 (vs : List V) : callV (tabW fns) σ base 59 vs = callP σ base [.mov, .bor] vs (Gf fns 59) (passV σ [.mov, .bor] vs) := callV_T at59 vs
@[go_sem] theorem callr59 (vs : List V) : callR (tabW fns) σ base 59 vs = outS σ (callP σ base [.mov, .bor] vs (Gf fns 59) (passV σ [.mov, .bor] vs)) := callR_T at59 vs
theorem at60 : fns 60 = some (some [.bor, .bor], ir60) := rfl
@[go_sem] theorem call60 (vs : List V) : callV (tabW fns) σ base 60 vs = callP σ base [.bor, .bor] vs (Gf fns 60) (passV σ [.bor, .bor] vs) := callV_T at60 vs
@[go_sem] theorem callr60 (vs : List V) : callR (tabW fns) σ base 60 vs = outS σ (callP σ base [.bor, .bor] vs (Gf fns 60) (passV σ [.bor, .bor] vs)) := callR_T at60 vs
theorem at61 : fns 61 = some (some [.bor, .bor], ir61) := rfl
@[go_sem] theorem call61 (vs : List V) : callV (tabW fns) σ base 61 vs = callP σ base [.bor, .bor] vs (Gf fns 61) (passV σ [.bor, .bor] vs) := callV_T at61 vs
@[go_sem] theorem callr61 (vs : List V) : callR (tabW fns) σ base 61 vs = outS σ (callP σ base [.bor, .bor] vs (Gf fns 61) (passV σ [.bor, .bor] vs)) := callR_T at61 vs
theorem at62 : fns 62 = some (some [.bor, .bor], ir62) := rfl
@[go_sem] theorem call62 (vs : List V) : callV (tabW fns) σ base 62 vs = callP σ base [.bor, .bor] vs (Gf fns 62) (passV σ [.bor, .bor] vs) := callV_T at62 vs
@[go_sem] theorem callr62 (vs : List V) : callR (tabW fns) σ base 62 vs = outS σ (callP σ base [.bor, .bor] vs (Gf fns 62) (passV σ [.bor, .bor] vs)) := callR_T at62 vs
theorem at63 : fns 63 = some (some [.bor, .bor], ir63) := rfl
@[go_sem] theorem call63 (vs : List V) : callV (tabW fns) σ base 63 vs = callP σ base [.bor, .bor] vs (Gf fns 63) (passV σ [.bor, .bor] vs) := callV_T at63 vs
@[go_sem] theorem callr63 (vs : List V) : callR (tabW fns) σ base 63 vs = outS σ (callP σ base [.bor, .bor] vs (Gf fns 63) (passV σ [.bor, .bor] vs)) := callR_T at63 vs
theorem at64 : fns 64 = some (some [.bor, .bor], ir64) := rfl
@[go_sem] theorem call64 (vs : List V) : callV (tabW fns) σ base 64 vs = callP σ base [.bor, .bor] vs (Gf fns 64) (passV σ [.bor, .bor] vs) := callV_T at64 vs
@[go_sem] theorem callr64 (vs : List V) : callR (tabW fns) σ base 64 vs = outS σ (callP σ base [.bor, .bor] vs (Gf fns 64) (passV σ [.bor, .bor] vs)) := callR_T at64 vs
theorem at65 : fns 65 = some (some [.bor], ir65) := rfl
@[go_sem] theorem call65 (vs : List V) : callV (tabW fns) σ base 65 vs = callP σ base [.bor] vs (Gf fns 65) (passV σ [.bor] vs) := callV_T at65 vs
@[go_sem] theorem callr65 (vs : List V) : callR (tabW fns) σ base 65 vs = outS σ (callP σ base [.bor] vs (Gf fns 65) (passV σ [.bor] vs)) := callR_T at65 vs
theorem at66 : fns 66 = some (some [.bor, .bor], ir66) := rfl
@[go_sem] theorem call66 (vs : List V) : callV (tabW fns) σ base 66 vs = callP σ base [.bor, .bor] vs (Gf fns 66) (passV σ [.bor, .bor] vs) := callV_T at66 vs
@[go_sem] theorem callr66 (vs : List V) : callR (tabW fns) σ base 66 vs = outS σ (callP σ base [.bor, .bor] vs (Gf fns 66) (passV σ [.bor, .bor] vs)) := callR_T at66 vs
theorem at67 : fns 67 = some (some [.bor], ir67) := rfl
@[go_sem] theorem call67 (vs : List V) : callV (tabW fns) σ base 67 vs = callP σ base [.bor] vs (Gf fns 67) (passV σ [.bor] vs) := callV_T at67 vs
@[go_sem] theorem callr67 (vs : List V) : callR (tabW fns) σ base 67 vs = outS σ (callP σ base [.bor] vs (Gf fns 67) (passV σ [.bor] vs)) := callR_T at67 vs
end Go.Vm.Ytmcbceppgaljnaa
