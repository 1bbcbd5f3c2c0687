/- Written by wip/vm/irtext.py. -/
import Derived.Test.YtjpbkodooglapaaVmEval
import Derived.Test.YtjpbkodooglapaaProg
set_option linter.unusedSectionVars false
set_option linter.unusedSimpArgs false
set_option linter.unusedVariables false
namespace Go.Vm.Ytjpbkodooglapaa
open Go.Proofs
/-- muniment/munimentlaw13.list -/
def ir14 : IFun := ⟨1, 21, [(.tmp 2)], (.seq (.reg false [⟨(some 2), none, (.mov (.c (.sl .nil 0 []))), [], []⟩]) (.seq (.reg false [⟨(some 5), none, (.mksl 1 0 [] []), [], []⟩,
  ⟨(some 3), none, (.mov (.t 5)), [], []⟩]) (.seq (.seq (.reg false [⟨(some 4), none, (.mov (.c (.int .i64 0))), [], []⟩]) (.block 0 (.loop (.seq (.seq (.reg false [⟨(some 6), none, (.mov (.t 4)), [], []⟩,
  ⟨(some 7), none, (.bin .lss (.t 6) (.c (.int .i64 16))), [], []⟩]) (.cond (.t 7) .skip (.exit 0))) (.seq (.block 1 (.seq (.reg false [⟨(some 10), none, (.mov (.t 0)), [], []⟩,
  ⟨(some 11), none, (.mov (.t 4)), [], []⟩,
  ⟨(some 12), none, (.toInt .u64 (.t 11)), [], []⟩,
  ⟨(some 13), none, (.bin .shr (.t 10) (.t 12)), [], []⟩,
  ⟨(some 14), none, (.bin .and (.t 13) (.c (.int .i64 1))), [], []⟩,
  ⟨(some 15), none, (.bin .eql (.t 14) (.c (.int .i64 1))), [], []⟩]) (.cond (.t 15) (.reg false [⟨(some 16), none, (.mov (.t 3)), [], []⟩,
  ⟨(some 17), none, (.mov (.t 4)), [], []⟩,
  ⟨(some 18), none, (.mksl 1 1 [(.int .i64 0)] [(0, (1, (.t 17)))]), [], []⟩,
  ⟨(some 19), none, (.app 1 8 (.t 16) (.t 18)), [], []⟩,
  ⟨(some 3), none, (.mov (.t 19)), [], []⟩]) .skip))) (.reg false [⟨(some 8), none, (.mov (.t 4)), [], []⟩,
  ⟨(some 9), none, (.bin .add (.t 8) (.c (.int .i64 1))), [], []⟩,
  ⟨(some 4), none, (.mov (.t 9)), [], []⟩])))))) (.seq (.reg false [⟨(some 20), none, (.mov (.t 3)), [], []⟩,
  ⟨(some 2), none, (.mov (.t 20)), [], []⟩]) .ret))))⟩
theorem comp14 : compF Try.prog Try.f14 = some ir14 := by kernel_rfl
theorem name14 : (Try.f14.name == "runtime.NumGoroutine") = false := by kernel_rfl
/-- slices.Clone[[]int,int] -/
def ir44 : IFun := ⟨1, 8, [(.tmp 2)], (.seq (.reg false [⟨(some 2), none, (.mov (.c (.sl .nil 0 []))), [], []⟩]) (.seq (.seq (.reg false [⟨(some 3), none, (.mov (.t 0)), [], []⟩,
  ⟨(some 4), none, (.eqn false .sl (.t 3) (.c (.sl .nil 0 []))), [], []⟩]) (.cond (.t 4) (.seq (.reg false [⟨(some 2), none, (.mov (.c (.sl .nil 0 []))), [], []⟩]) .ret) .skip)) (.seq (.reg false [⟨(some 5), none, (.mksl 1 0 [] []), [], []⟩,
  ⟨(some 6), none, (.mov (.t 0)), [], []⟩,
  ⟨(some 7), none, (.app 1 8 (.t 5) (.t 6)), [], []⟩,
  ⟨(some 2), none, (.mov (.t 7)), [], []⟩]) .ret)))⟩
theorem comp44 : compF Try.prog Try.f44 = some ir44 := by kernel_rfl
theorem name44 : (Try.f44.name == "runtime.NumGoroutine") = false := by kernel_rfl
/-- muniment/conf.Latest -/
def ir22 : IFun := ⟨2, 29, [(.tmp 4), (.tmp 5)], (.seq (.reg false [⟨(some 4), none, (.mov (.c (.sl .nil 0 []))), [], []⟩,
  ⟨(some 5), none, (.mov (.c (.int .i64 0))), [], []⟩]) (.seq (.seq (.reg false [⟨(some 7), none, (.mov (.t 1)), [], []⟩,
  ⟨(some 8), none, (.len false (.t 7)), [], []⟩,
  ⟨(some 9), none, (.bin .sub (.t 8) (.c (.int .i64 1))), [], []⟩,
  ⟨(some 6), none, (.mov (.t 9)), [], []⟩]) (.block 0 (.loop (.seq (.seq (.reg false [⟨(some 10), none, (.mov (.t 6)), [], []⟩,
  ⟨(some 11), none, (.bin .geq (.t 10) (.c (.int .i64 0))), [], []⟩]) (.cond (.t 11) .skip (.exit 0))) (.seq (.block 1 (.seq (.reg false [⟨(some 14), none, (.mov (.t 1)), [], []⟩,
  ⟨(some 15), none, (.mov (.t 6)), [], []⟩,
  ⟨(some 16), none, (.iaL 4 (.t 14) (.t 15)), [], []⟩,
  ⟨(some 17), none, (.fad 2 (.t 16)), [], []⟩,
  ⟨(some 18), none, (.ld false 1 (.t 17)), [], []⟩]) (.cond (.t 18) (.seq (.reg false [⟨(some 19), none, (.mov (.t 1)), [], []⟩,
  ⟨(some 20), none, (.mov (.t 6)), [], []⟩,
  ⟨(some 21), none, (.iaL 4 (.t 19) (.t 20)), [], []⟩,
  ⟨(some 22), none, (.fad 3 (.t 21)), [], []⟩,
  ⟨(some 23), none, (.ld false 1 (.t 22)), [], []⟩,
  ⟨(some 24), none, (.call 44 [(.t 23)]), [], []⟩,
  ⟨(some 25), none, (.mov (.t 6)), [], []⟩,
  ⟨(some 26), none, (.bin .add (.t 25) (.c (.int .i64 1))), [], []⟩,
  ⟨(some 4), none, (.mov (.t 24)), [], []⟩,
  ⟨(some 5), none, (.mov (.t 26)), [], []⟩]) .ret) .skip))) (.reg false [⟨(some 12), none, (.mov (.t 6)), [], []⟩,
  ⟨(some 13), none, (.bin .sub (.t 12) (.c (.int .i64 1))), [], []⟩,
  ⟨(some 6), none, (.mov (.t 13)), [], []⟩])))))) (.seq (.reg false [⟨(some 27), none, (.mov (.t 0)), [], []⟩,
  ⟨(some 28), none, (.call 44 [(.t 27)]), [], []⟩,
  ⟨(some 4), none, (.mov (.t 28)), [], []⟩,
  ⟨(some 5), none, (.mov (.c (.int .i64 0))), [], []⟩]) .ret)))⟩
theorem comp22 : compF Try.prog Try.f22 = some ir22 := by kernel_rfl
theorem name22 : (Try.f22.name == "runtime.NumGoroutine") = false := by kernel_rfl
/-- muniment/munimentlaw13.same -/
def ir23 : IFun := ⟨2, 26, [(.tmp 4)], (.seq (.reg false [⟨(some 4), none, (.mov (.c (.bool false))), [], []⟩]) (.seq (.seq (.reg false [⟨(some 6), none, (.mov (.t 0)), [], []⟩,
  ⟨(some 7), none, (.len false (.t 6)), [], []⟩,
  ⟨(some 8), none, (.mov (.t 1)), [], []⟩,
  ⟨(some 9), none, (.len false (.t 8)), [], []⟩,
  ⟨(some 10), none, (.bin .neq (.t 7) (.t 9)), [], []⟩]) (.cond (.t 10) (.seq (.reg false [⟨(some 4), none, (.mov (.c (.bool false))), [], []⟩]) .ret) .skip)) (.seq (.seq (.reg false [⟨(some 5), none, (.mov (.c (.int .i64 0))), [], []⟩]) (.block 0 (.loop (.seq (.seq (.reg false [⟨(some 11), none, (.mov (.t 5)), [], []⟩,
  ⟨(some 12), none, (.mov (.t 0)), [], []⟩,
  ⟨(some 13), none, (.len false (.t 12)), [], []⟩,
  ⟨(some 14), none, (.bin .lss (.t 11) (.t 13)), [], []⟩]) (.cond (.t 14) .skip (.exit 0))) (.seq (.block 1 (.seq (.reg true [⟨(some 17), none, (.mov (.t 0)), [], []⟩,
  ⟨(some 18), none, (.mov (.t 5)), [], []⟩,
  ⟨(some 19), none, (.iaL 1 (.t 17) (.t 18)), [0, 1], [0, 1]⟩,
  ⟨(some 20), none, (.ld false 1 (.t 19)), [2], [2, 0, 1]⟩,
  ⟨(some 21), none, (.mov (.t 1)), [], []⟩,
  ⟨(some 22), none, (.mov (.t 5)), [], []⟩,
  ⟨(some 23), none, (.iaL 1 (.t 21) (.t 22)), [4, 5], [4, 5]⟩,
  ⟨(some 24), none, (.ld false 1 (.t 23)), [6], [6, 4, 5]⟩,
  ⟨(some 25), none, (.bin .neq (.t 20) (.t 24)), [3, 7], [3, 7, 2, 0, 1, 6, 4, 5]⟩]) (.cond (.t 25) (.seq (.reg false [⟨(some 4), none, (.mov (.c (.bool false))), [], []⟩]) .ret) .skip))) (.reg false [⟨(some 15), none, (.mov (.t 5)), [], []⟩,
  ⟨(some 16), none, (.bin .add (.t 15) (.c (.int .i64 1))), [], []⟩,
  ⟨(some 5), none, (.mov (.t 16)), [], []⟩])))))) (.seq (.reg false [⟨(some 4), none, (.mov (.c (.bool true))), [], []⟩]) .ret))))⟩
theorem comp23 : compF Try.prog Try.f23 = some ir23 := by kernel_rfl
theorem name23 : (Try.f23.name == "runtime.NumGoroutine") = false := by kernel_rfl
/-- muniment/munimentlaw13.awake -/
def ir12 : IFun := ⟨0, 10, [(.tmp 0)], (.seq (.reg false [⟨(some 0), none, (.mov (.c (.bool false))), [], []⟩]) (.seq (.reg false [⟨(some 1), none, (.mksl 1 2 [(.int .i64 0), (.int .i64 0)] [(0, (1, (.c (.int .i64 0)))), (1, (1, (.c (.int .i64 1))))]), [], []⟩,
  ⟨(some 2), none, (.mksl 1 3 [(.int .i64 0), (.int .i64 0), (.int .i64 0)] [(0, (1, (.c (.int .i64 0)))), (1, (1, (.c (.int .i64 1)))), (2, (1, (.c (.int .i64 2))))]), [], []⟩,
  ⟨(some 3), none, (.call 13 [(.t 1), (.t 2)]), [], []⟩,
  ⟨(some 4), none, (.mov (.t 3)), [], []⟩,
  ⟨(some 5), (some (4, true)), (.mksl 1 2 [(.int .i64 0), (.int .i64 0)] [(0, (1, (.c (.int .i64 0)))), (1, (1, (.c (.int .i64 1))))]), [], []⟩,
  ⟨(some 6), (some (4, true)), (.mksl 1 2 [(.int .i64 0), (.int .i64 0)] [(0, (1, (.c (.int .i64 0)))), (1, (1, (.c (.int .i64 2))))]), [], []⟩,
  ⟨(some 7), (some (4, true)), (.call 13 [(.t 5), (.t 6)]), [], []⟩,
  ⟨(some 8), (some (4, true)), (.un .not (.t 7)), [], []⟩,
  ⟨(some 9), none, (.pick (.t 4) (.t 8) (.c (.bool false))), [], []⟩,
  ⟨(some 0), none, (.mov (.t 9)), [], []⟩]) .ret))⟩
theorem comp12 : compF Try.prog Try.f12 = some ir12 := by kernel_rfl
theorem name12 : (Try.f12.name == "runtime.NumGoroutine") = false := by kernel_rfl
/-- muniment/conf.Next -/
def ir13 : IFun := ⟨2, 21, [(.tmp 4)], (.seq (.reg false [⟨(some 4), none, (.mov (.c (.bool false))), [], []⟩]) (.seq (.seq (.reg false [⟨(some 5), none, (.mov (.t 0)), [], []⟩,
  ⟨(some 6), none, (.call 41 [(.t 5)]), [], []⟩,
  ⟨(some 7), none, (.un .not (.t 6)), [], []⟩,
  ⟨(some 8), none, (.mov (.t 7)), [], []⟩,
  ⟨(some 9), (some (8, false)), (.mov (.t 1)), [], []⟩,
  ⟨(some 10), (some (8, false)), (.call 41 [(.t 9)]), [], []⟩,
  ⟨(some 11), (some (8, false)), (.un .not (.t 10)), [], []⟩,
  ⟨(some 12), none, (.pick (.t 8) (.c (.bool true)) (.t 11)), [], []⟩]) (.cond (.t 12) (.seq (.reg false [⟨(some 4), none, (.mov (.c (.bool false))), [], []⟩]) .ret) .skip)) (.seq (.reg false [⟨(some 13), none, (.mov (.t 0)), [], []⟩,
  ⟨(some 14), none, (.mov (.t 1)), [], []⟩,
  ⟨(some 15), none, (.call 42 [(.t 13), (.t 14)]), [], []⟩,
  ⟨(some 16), none, (.mov (.t 1)), [], []⟩,
  ⟨(some 17), none, (.mov (.t 0)), [], []⟩,
  ⟨(some 18), none, (.call 42 [(.t 16), (.t 17)]), [], []⟩,
  ⟨(some 19), none, (.bin .add (.t 15) (.t 18)), [], []⟩,
  ⟨(some 20), none, (.bin .eql (.t 19) (.c (.int .i64 1))), [], []⟩,
  ⟨(some 4), none, (.mov (.t 20)), [], []⟩]) .ret)))⟩
theorem comp13 : compF Try.prog Try.f13 = some ir13 := by kernel_rfl
theorem name13 : (Try.f13.name == "runtime.NumGoroutine") = false := by kernel_rfl
/-- muniment/head.Members -/
def ir41 : IFun := ⟨1, 35, [(.tmp 2)], (.seq (.reg false [⟨(some 2), none, (.mov (.c (.bool false))), [], []⟩]) (.seq (.seq (.reg false [⟨(some 5), none, (.mov (.t 0)), [], []⟩,
  ⟨(some 6), none, (.len false (.t 5)), [], []⟩,
  ⟨(some 7), none, (.mov (.c (.int .i64 0))), [], []⟩]) (.block 0 (.loop (.seq (.reg false [⟨(some 8), none, (.bin .lss (.t 7) (.t 6)), [], []⟩]) (.seq (.cond (.t 8) .skip (.exit 0)) (.seq (.block 1 (.seq (.reg false [⟨(some 9), none, (.mov (.t 7)), [], []⟩,
  ⟨(some 10), none, (.iaL 1 (.t 5) (.t 7)), [], []⟩,
  ⟨(some 11), none, (.ld false 1 (.t 10)), [], []⟩,
  ⟨(some 3), none, (.mov (.t 9)), [], []⟩,
  ⟨(some 4), none, (.mov (.t 11)), [], []⟩]) (.seq (.reg false [⟨(some 12), none, (.mov (.t 4)), [], []⟩,
  ⟨(some 13), none, (.bin .lss (.t 12) (.c (.int .i64 0))), [], []⟩,
  ⟨(some 14), none, (.mov (.t 13)), [], []⟩,
  ⟨(some 15), (some (14, false)), (.mov (.t 4)), [], []⟩,
  ⟨(some 16), (some (14, false)), (.bin .geq (.t 15) (.c (.int .i64 16))), [], []⟩,
  ⟨(some 17), none, (.pick (.t 14) (.c (.bool true)) (.t 16)), [], []⟩,
  ⟨(some 18), none, (.mov (.t 17)), [], []⟩,
  ⟨(some 19), (some (18, false)), (.mov (.t 3)), [], []⟩,
  ⟨(some 20), (some (18, false)), (.bin .gtr (.t 19) (.c (.int .i64 0))), [], []⟩,
  ⟨(some 21), (some (18, false)), (.mov (.t 20)), [], []⟩,
  ⟨(some 22), (some (21, true)), (.mov (.t 0)), [], []⟩,
  ⟨(some 23), (some (21, true)), (.mov (.t 3)), [], []⟩,
  ⟨(some 24), (some (21, true)), (.bin .sub (.t 23) (.c (.int .i64 1))), [], []⟩,
  ⟨(some 25), (some (21, true)), (.iaL 1 (.t 22) (.t 24)), [], []⟩,
  ⟨(some 26), (some (21, true)), (.ld false 1 (.t 25)), [], []⟩,
  ⟨(some 27), (some (21, true)), (.mov (.t 4)), [], []⟩,
  ⟨(some 28), (some (21, true)), (.bin .geq (.t 26) (.t 27)), [], []⟩,
  ⟨(some 29), (some (18, false)), (.pick (.t 21) (.t 28) (.c (.bool false))), [], []⟩,
  ⟨(some 30), none, (.pick (.t 18) (.c (.bool true)) (.t 29)), [], []⟩]) (.cond (.t 30) (.seq (.reg false [⟨(some 2), none, (.mov (.c (.bool false))), [], []⟩]) .ret) .skip)))) (.reg false [⟨(some 31), none, (.bin .add (.t 7) (.c (.int .i64 1))), [], []⟩,
  ⟨(some 7), none, (.mov (.t 31)), [], []⟩]))))))) (.seq (.reg false [⟨(some 32), none, (.mov (.t 0)), [], []⟩,
  ⟨(some 33), none, (.len false (.t 32)), [], []⟩,
  ⟨(some 34), none, (.bin .geq (.t 33) (.c (.int .i64 1))), [], []⟩,
  ⟨(some 2), none, (.mov (.t 34)), [], []⟩]) .ret)))⟩
theorem comp41 : compF Try.prog Try.f41 = some ir41 := by kernel_rfl
theorem name41 : (Try.f41.name == "runtime.NumGoroutine") = false := by kernel_rfl
/-- muniment/conf.lacks[int] -/
def ir42 : IFun := ⟨2, 22, [(.tmp 4)], (.seq (.reg false [⟨(some 4), none, (.mov (.c (.int .i64 0))), [], []⟩]) (.seq (.reg false [⟨(some 5), none, (.mov (.c (.int .i64 0))), [], []⟩]) (.seq (.seq (.reg false [⟨(some 8), none, (.mov (.t 0)), [], []⟩,
  ⟨(some 9), none, (.len false (.t 8)), [], []⟩,
  ⟨(some 10), none, (.mov (.c (.int .i64 0))), [], []⟩]) (.block 0 (.loop (.seq (.reg false [⟨(some 11), none, (.bin .lss (.t 10) (.t 9)), [], []⟩]) (.seq (.cond (.t 11) .skip (.exit 0)) (.seq (.block 1 (.seq (.reg false [⟨(some 12), none, (.iaL 1 (.t 8) (.t 10)), [], []⟩,
  ⟨(some 13), none, (.ld false 1 (.t 12)), [], []⟩,
  ⟨(some 7), none, (.mov (.t 13)), [], []⟩]) (.seq (.reg false [⟨(some 14), none, (.mov (.t 1)), [], []⟩,
  ⟨(some 15), none, (.mov (.t 7)), [], []⟩,
  ⟨(some 16), none, (.call 59 [(.t 14), (.t 15)]), [], []⟩,
  ⟨(some 17), none, (.un .not (.t 16)), [], []⟩]) (.cond (.t 17) (.reg false [⟨(some 18), none, (.mov (.t 5)), [], []⟩,
  ⟨(some 19), none, (.bin .add (.t 18) (.c (.int .i64 1))), [], []⟩,
  ⟨(some 5), none, (.mov (.t 19)), [], []⟩]) .skip)))) (.reg false [⟨(some 20), none, (.bin .add (.t 10) (.c (.int .i64 1))), [], []⟩,
  ⟨(some 10), none, (.mov (.t 20)), [], []⟩]))))))) (.seq (.reg false [⟨(some 21), none, (.mov (.t 5)), [], []⟩,
  ⟨(some 4), none, (.mov (.t 21)), [], []⟩]) .ret))))⟩
theorem comp42 : compF Try.prog Try.f42 = some ir42 := by kernel_rfl
theorem name42 : (Try.f42.name == "runtime.NumGoroutine") = false := by kernel_rfl
/-- slices.Contains[[]int,int] -/
def ir59 : IFun := ⟨2, 9, [(.tmp 4)], (.seq (.reg false [⟨(some 4), none, (.mov (.c (.bool false))), [], []⟩]) (.seq (.reg false [⟨(some 5), none, (.mov (.t 0)), [], []⟩,
  ⟨(some 6), none, (.mov (.t 1)), [], []⟩,
  ⟨(some 7), none, (.call 74 [(.t 5), (.t 6)]), [], []⟩,
  ⟨(some 8), none, (.bin .geq (.t 7) (.c (.int .i64 0))), [], []⟩,
  ⟨(some 4), none, (.mov (.t 8)), [], []⟩]) .ret))⟩
theorem comp59 : compF Try.prog Try.f59 = some ir59 := by kernel_rfl
theorem name59 : (Try.f59.name == "runtime.NumGoroutine") = false := by kernel_rfl
/-- muniment/munimentlaw13.ConfLatest -/
def ir6 : IFun := ⟨2, 55, [(.tmp 4)], (.seq (.reg false [⟨(some 4), none, (.mov (.c (.bool false))), [], []⟩]) (.seq (.seq (.reg false [⟨(some 10), none, (.mov (.t 1)), [], []⟩,
  ⟨(some 11), none, (.len false (.t 10)), [], []⟩,
  ⟨(some 12), none, (.bin .gtr (.t 11) (.c (.int .i64 60))), [], []⟩]) (.cond (.t 12) (.reg false [⟨(some 13), none, (.mov (.t 1)), [], []⟩,
  ⟨(some 14), none, (.slL 4 (.t 13) none (some (.c (.int .i64 60))) none), [], []⟩,
  ⟨(some 1), none, (.mov (.t 14)), [], []⟩]) .skip)) (.seq (.reg false [⟨(some 15), none, (.mov (.t 0)), [], []⟩,
  ⟨(some 16), none, (.bin .and (.t 15) (.c (.int .i64 65535))), [], []⟩,
  ⟨(some 17), none, (.call 14 [(.t 16)]), [], []⟩,
  ⟨(some 5), none, (.mov (.t 17)), [], []⟩,
  ⟨(some 6), none, (.mov (.c (.int .i64 0))), [], []⟩]) (.seq (.seq (.reg false [⟨(some 7), none, (.mov (.c (.int .i64 0))), [], []⟩]) (.block 0 (.loop (.seq (.seq (.reg false [⟨(some 18), none, (.mov (.t 7)), [], []⟩,
  ⟨(some 19), none, (.mov (.t 1)), [], []⟩,
  ⟨(some 20), none, (.len false (.t 19)), [], []⟩,
  ⟨(some 21), none, (.bin .lss (.t 18) (.t 20)), [], []⟩]) (.cond (.t 21) .skip (.exit 0))) (.seq (.block 1 (.seq (.reg false [⟨(some 24), none, (.mov (.t 1)), [], []⟩,
  ⟨(some 25), none, (.mov (.t 7)), [], []⟩,
  ⟨(some 26), none, (.iaL 4 (.t 24) (.t 25)), [], []⟩,
  ⟨(some 27), none, (.fad 2 (.t 26)), [], []⟩,
  ⟨(some 28), none, (.ld false 1 (.t 27)), [], []⟩]) (.cond (.t 28) (.reg false [⟨(some 29), none, (.mov (.t 1)), [], []⟩,
  ⟨(some 30), none, (.mov (.t 7)), [], []⟩,
  ⟨(some 31), none, (.iaL 4 (.t 29) (.t 30)), [], []⟩,
  ⟨(some 32), none, (.fad 3 (.t 31)), [], []⟩,
  ⟨(some 33), none, (.ld false 1 (.t 32)), [], []⟩,
  ⟨(some 34), none, (.mov (.t 7)), [], []⟩,
  ⟨(some 35), none, (.bin .add (.t 34) (.c (.int .i64 1))), [], []⟩,
  ⟨(some 5), none, (.mov (.t 33)), [], []⟩,
  ⟨(some 6), none, (.mov (.t 35)), [], []⟩]) .skip))) (.reg false [⟨(some 22), none, (.mov (.t 7)), [], []⟩,
  ⟨(some 23), none, (.bin .add (.t 22) (.c (.int .i64 1))), [], []⟩,
  ⟨(some 7), none, (.mov (.t 23)), [], []⟩])))))) (.seq (.reg false [⟨(some 37), none, (.mov (.t 0)), [], []⟩,
  ⟨(some 38), none, (.bin .and (.t 37) (.c (.int .i64 65535))), [], []⟩,
  ⟨(some 39), none, (.call 14 [(.t 38)]), [], []⟩,
  ⟨(some 40), none, (.mov (.t 1)), [], []⟩,
  ⟨(some 41), none, (.call 22 [(.t 39), (.t 40)]), [], []⟩,
  ⟨(some 36), none, (.mov (.t 41)), [], []⟩,
  ⟨(some 42), none, (.ext 0 (.t 36)), [], []⟩,
  ⟨(some 43), none, (.ext 1 (.t 36)), [], []⟩,
  ⟨(some 8), none, (.mov (.t 42)), [], []⟩,
  ⟨(some 9), none, (.mov (.t 43)), [], []⟩]) (.seq (.reg false [⟨(some 44), none, (.call 12 []), [], []⟩,
  ⟨(some 45), none, (.mov (.t 44)), [], []⟩,
  ⟨(some 46), (some (45, true)), (.mov (.t 8)), [], []⟩,
  ⟨(some 47), (some (45, true)), (.mov (.t 5)), [], []⟩,
  ⟨(some 48), (some (45, true)), (.call 23 [(.t 46), (.t 47)]), [], []⟩,
  ⟨(some 49), none, (.pick (.t 45) (.t 48) (.c (.bool false))), [], []⟩,
  ⟨(some 50), none, (.mov (.t 49)), [], []⟩,
  ⟨(some 51), (some (50, true)), (.mov (.t 9)), [], []⟩,
  ⟨(some 52), (some (50, true)), (.mov (.t 6)), [], []⟩,
  ⟨(some 53), (some (50, true)), (.bin .eql (.t 51) (.t 52)), [], []⟩,
  ⟨(some 54), none, (.pick (.t 50) (.t 53) (.c (.bool false))), [], []⟩,
  ⟨(some 4), none, (.mov (.t 54)), [], []⟩]) .ret))))))⟩
theorem comp6 : compF Try.prog Try.f6 = some ir6 := by kernel_rfl
theorem name6 : (Try.f6.name == "runtime.NumGoroutine") = false := by kernel_rfl
/-- slices.Index[[]int,int] -/
def ir74 : IFun := ⟨2, 19, [(.tmp 4)], (.seq (.reg false [⟨(some 4), none, (.mov (.c (.int .i64 0))), [], []⟩]) (.seq (.seq (.reg false [⟨(some 6), none, (.mov (.t 0)), [], []⟩,
  ⟨(some 7), none, (.len false (.t 6)), [], []⟩,
  ⟨(some 8), none, (.mov (.c (.int .i64 0))), [], []⟩]) (.block 0 (.loop (.seq (.reg false [⟨(some 9), none, (.bin .lss (.t 8) (.t 7)), [], []⟩]) (.seq (.cond (.t 9) .skip (.exit 0)) (.seq (.block 1 (.seq (.reg false [⟨(some 10), none, (.mov (.t 8)), [], []⟩,
  ⟨(some 5), none, (.mov (.t 10)), [], []⟩]) (.seq (.reg false [⟨(some 11), none, (.mov (.t 1)), [], []⟩,
  ⟨(some 12), none, (.mov (.t 0)), [], []⟩,
  ⟨(some 13), none, (.mov (.t 5)), [], []⟩,
  ⟨(some 14), none, (.iaL 1 (.t 12) (.t 13)), [], []⟩,
  ⟨(some 15), none, (.ld false 1 (.t 14)), [], []⟩,
  ⟨(some 16), none, (.bin .eql (.t 11) (.t 15)), [], []⟩]) (.cond (.t 16) (.seq (.reg false [⟨(some 17), none, (.mov (.t 5)), [], []⟩,
  ⟨(some 4), none, (.mov (.t 17)), [], []⟩]) .ret) .skip)))) (.reg false [⟨(some 18), none, (.bin .add (.t 8) (.c (.int .i64 1))), [], []⟩,
  ⟨(some 8), none, (.mov (.t 18)), [], []⟩]))))))) (.seq (.reg false [⟨(some 4), none, (.mov (.c (.int .i64 (-1)))), [], []⟩]) .ret)))⟩
theorem comp74 : compF Try.prog Try.f74 = some ir74 := by kernel_rfl
theorem name74 : (Try.f74.name == "runtime.NumGoroutine") = false := by kernel_rfl
theorem mixed : Try.prog.follows .mixedOrders = true := by kernel_rfl
theorem laid : laidOutB Try.prog = true := by kernel_rfl
end Go.Vm.Ytjpbkodooglapaa
