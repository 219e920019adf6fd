/- The functions' code, as the evaluator takes it (part 0), and that it is what the evaluator's compiler makes of the program. -/
import Derived.Test.YtfahfccbiolheaaAbsJ
import Derived.Test.YtfahfccbiolheaaRows
set_option maxRecDepth 100000
namespace Go.Proofs.Ytfahfccbiolheaa.DT
open Go.Proofs.Ytfahfccbiolheaa.Abs
/-- sodality/sodalitylaw27.DiffTells -/
noncomputable def c3 : FnI := ⟨39, [.tmp 4],
(.seq (.reg (⟨(some 2), .box (.t 0), none⟩ :: ⟨(some 3), .box (.t 1), none⟩ :: ⟨(some 4), .mov (.c (.bool false)), none⟩ :: []))
(.seq (.dreg (⟨⟨(some 6), .load true 5 (.t 2), none⟩, .load, 0, 0⟩ :: ⟨⟨(some 7), .call 5 [(.t 6)], none⟩, .loud, 1, 1⟩ :: ⟨⟨(some 8), .load true 5 (.t 3), none⟩, .load, 2, 0⟩ :: ⟨⟨(some 9), .call 5 [(.t 8)], none⟩, .loud, 3, 7⟩ :: ⟨⟨none, .store 5 (.t 2) (.t 7), none⟩, .loud, 4, 15⟩ :: ⟨⟨none, .store 5 (.t 3) (.t 9), none⟩, .loud, 5, 31⟩ :: []))
(.seq (.seq (.reg (⟨(some 10), .load true 5 (.t 2), none⟩ :: ⟨(some 11), .call 6 [(.t 10)], none⟩ :: ⟨(some 12), .un .not (.t 11), none⟩ :: ⟨(some 13), .mov (.t 12), none⟩ :: ⟨(some 14), .load true 5 (.t 3), (some (13, false))⟩ :: ⟨(some 15), .call 6 [(.t 14)], (some (13, false))⟩ :: ⟨(some 16), .un .not (.t 15), (some (13, false))⟩ :: ⟨(some 17), .pick (.t 13) (.c (.bool true)) (.t 16), none⟩ :: []))
(.cond (.t 17) (.seq (.reg (⟨(some 18), .call 7 [], none⟩ :: ⟨(some 4), .mov (.t 18), none⟩ :: []))
.ret) .skip))
(.seq (.reg (⟨(some 19), .load true 5 (.t 2), none⟩ :: ⟨(some 20), .load true 5 (.t 3), none⟩ :: ⟨(some 21), .call 8 [(.t 19), (.t 20)], none⟩ :: ⟨(some 5), .mov (.t 21), none⟩ :: []))
(.seq (.reg (⟨(some 22), .load true 5 (.t 2), none⟩ :: ⟨(some 23), .load true 5 (.t 3), none⟩ :: ⟨(some 24), .call 10 [(.t 22), (.t 23)], none⟩ :: ⟨(some 25), .mov (.t 5), none⟩ :: ⟨(some 26), .call 9 [(.t 24), (.t 25)], none⟩ :: ⟨(some 27), .mov (.t 26), none⟩ :: ⟨(some 28), .load true 5 (.t 2), (some (27, true))⟩ :: ⟨(some 29), .load true 5 (.t 3), (some (27, true))⟩ :: ⟨(some 30), .call 11 [(.t 28), (.t 29)], (some (27, true))⟩ :: ⟨(some 31), .mov (.t 5), (some (27, true))⟩ :: ⟨(some 32), .len false (.t 31), (some (27, true))⟩ :: ⟨(some 33), .bin .eql (.t 32) (.c (.int .i64 (.ofNat 0))), (some (27, true))⟩ :: ⟨(some 34), .eq false .bool (.t 30) (.t 33), (some (27, true))⟩ :: ⟨(some 35), .pick (.t 27) (.t 34) (.c (.bool false)), none⟩ :: ⟨(some 36), .mov (.t 35), none⟩ :: ⟨(some 37), .call 7 [], (some (36, true))⟩ :: ⟨(some 38), .pick (.t 36) (.t 37) (.c (.bool false)), none⟩ :: ⟨(some 4), .mov (.t 38), none⟩ :: []))
.ret)))))⟩
theorem c3_eq : compFn Try.prog 3 = some c3 := by kernel_rfl
/-- sodality/sodalitylaw27.few -/
noncomputable def c5 : FnI := ⟨20, [.cell 2 true 5],
(.seq (.reg (⟨(some 1), .box (.t 0), none⟩ :: ⟨(some 2), .alloc [(.bool false), (.int .i64 (.ofNat 0)), (.str []), .nilsl, .nilsl], none⟩ :: []))
(.seq (.seq (.reg (⟨(some 3), .faddr 3 (.t 1), none⟩ :: ⟨(some 4), .load false 1 (.t 3), none⟩ :: ⟨(some 5), .len false (.t 4), none⟩ :: ⟨(some 6), .bin .gtr (.t 5) (.c (.int .i64 (.ofNat 30))), none⟩ :: []))
(.cond (.t 6) (.reg (⟨(some 7), .faddr 3 (.t 1), none⟩ :: ⟨(some 8), .load false 1 (.t 7), none⟩ :: ⟨(some 9), .slS 7 (.t 8) none (some (.c (.int .i64 (.ofNat 30)))) none, none⟩ :: ⟨(some 10), .faddr 3 (.t 1), none⟩ :: ⟨none, .store 1 (.t 10) (.t 9), none⟩ :: [])) .skip))
(.seq (.seq (.reg (⟨(some 11), .faddr 4 (.t 1), none⟩ :: ⟨(some 12), .load false 1 (.t 11), none⟩ :: ⟨(some 13), .len false (.t 12), none⟩ :: ⟨(some 14), .bin .gtr (.t 13) (.c (.int .i64 (.ofNat 30))), none⟩ :: []))
(.cond (.t 14) (.reg (⟨(some 15), .faddr 4 (.t 1), none⟩ :: ⟨(some 16), .load false 1 (.t 15), none⟩ :: ⟨(some 17), .slS 7 (.t 16) none (some (.c (.int .i64 (.ofNat 30)))) none, none⟩ :: ⟨(some 18), .faddr 4 (.t 1), none⟩ :: ⟨none, .store 1 (.t 18) (.t 17), none⟩ :: [])) .skip))
(.seq (.reg (⟨(some 19), .load true 5 (.t 1), none⟩ :: ⟨none, .store 5 (.t 2) (.t 19), none⟩ :: []))
.ret))))⟩
theorem c5_eq : compFn Try.prog 5 = some c5 := by kernel_rfl
/-- sodality/sodalityref27.Rising -/
noncomputable def c6 : FnI := ⟨47, [.tmp 2],
(.seq (.reg (⟨(some 1), .box (.t 0), none⟩ :: ⟨(some 2), .mov (.c (.bool false)), none⟩ :: []))
(.seq (.seq (.reg (⟨(some 3), .mov (.c (.int .i64 (.ofNat 1))), none⟩ :: []))
(.block 0 (.loop (.seq (.seq (.reg (⟨(some 5), .mov (.t 3), none⟩ :: ⟨(some 6), .faddr 3 (.t 1), none⟩ :: ⟨(some 7), .load false 1 (.t 6), none⟩ :: ⟨(some 8), .len false (.t 7), none⟩ :: ⟨(some 9), .bin .lss (.t 5) (.t 8), none⟩ :: []))
(.cond (.t 9) .skip (.exit 0)))
(.seq (.block 1 (.seq (.dreg (⟨⟨(some 12), .faddr 3 (.t 1), none⟩, .quiet, 0, 0⟩ :: ⟨⟨(some 13), .load false 1 (.t 12), none⟩, .load, 1, 1⟩ :: ⟨⟨(some 14), .mov (.t 3), none⟩, .quiet, 2, 0⟩ :: ⟨⟨(some 15), .bin .sub (.t 14) (.c (.int .i64 (.ofNat 1))), none⟩, .quiet, 3, 4⟩ :: ⟨⟨(some 16), .idxS 7 (.t 13) (.t 15), none⟩, .quiet, 4, 15⟩ :: ⟨⟨(some 17), .faddr 1 (.t 16), none⟩, .quiet, 5, 31⟩ :: ⟨⟨(some 18), .load false 1 (.t 17), none⟩, .load, 6, 63⟩ :: ⟨⟨(some 19), .faddr 3 (.t 1), none⟩, .quiet, 7, 0⟩ :: ⟨⟨(some 20), .load false 1 (.t 19), none⟩, .load, 8, 128⟩ :: ⟨⟨(some 21), .mov (.t 3), none⟩, .quiet, 9, 0⟩ :: ⟨⟨(some 22), .idxS 7 (.t 20) (.t 21), none⟩, .quiet, 10, 896⟩ :: ⟨⟨(some 23), .faddr 1 (.t 22), none⟩, .quiet, 11, 1920⟩ :: ⟨⟨(some 24), .load false 1 (.t 23), none⟩, .load, 12, 3968⟩ :: ⟨⟨(some 25), .bin .geq (.t 18) (.t 24), none⟩, .quiet, 13, 8191⟩ :: []))
(.cond (.t 25) (.seq (.reg (⟨(some 2), .mov (.c (.bool false)), none⟩ :: []))
.ret) .skip)))
(.reg (⟨(some 10), .mov (.t 3), none⟩ :: ⟨(some 11), .bin .add (.t 10) (.c (.int .i64 (.ofNat 1))), none⟩ :: ⟨(some 3), .mov (.t 11), none⟩ :: [])))))))
(.seq (.seq (.reg (⟨(some 4), .mov (.c (.int .i64 (.ofNat 1))), none⟩ :: []))
(.block 2 (.loop (.seq (.seq (.reg (⟨(some 26), .mov (.t 4), none⟩ :: ⟨(some 27), .faddr 4 (.t 1), none⟩ :: ⟨(some 28), .load false 1 (.t 27), none⟩ :: ⟨(some 29), .len false (.t 28), none⟩ :: ⟨(some 30), .bin .lss (.t 26) (.t 29), none⟩ :: []))
(.cond (.t 30) .skip (.exit 2)))
(.seq (.block 3 (.seq (.dreg (⟨⟨(some 33), .faddr 4 (.t 1), none⟩, .quiet, 0, 0⟩ :: ⟨⟨(some 34), .load false 1 (.t 33), none⟩, .load, 1, 1⟩ :: ⟨⟨(some 35), .mov (.t 4), none⟩, .quiet, 2, 0⟩ :: ⟨⟨(some 36), .bin .sub (.t 35) (.c (.int .i64 (.ofNat 1))), none⟩, .quiet, 3, 4⟩ :: ⟨⟨(some 37), .idxS 7 (.t 34) (.t 36), none⟩, .quiet, 4, 15⟩ :: ⟨⟨(some 38), .faddr 1 (.t 37), none⟩, .quiet, 5, 31⟩ :: ⟨⟨(some 39), .load false 1 (.t 38), none⟩, .load, 6, 63⟩ :: ⟨⟨(some 40), .faddr 4 (.t 1), none⟩, .quiet, 7, 0⟩ :: ⟨⟨(some 41), .load false 1 (.t 40), none⟩, .load, 8, 128⟩ :: ⟨⟨(some 42), .mov (.t 4), none⟩, .quiet, 9, 0⟩ :: ⟨⟨(some 43), .idxS 7 (.t 41) (.t 42), none⟩, .quiet, 10, 896⟩ :: ⟨⟨(some 44), .faddr 1 (.t 43), none⟩, .quiet, 11, 1920⟩ :: ⟨⟨(some 45), .load false 1 (.t 44), none⟩, .load, 12, 3968⟩ :: ⟨⟨(some 46), .bin .geq (.t 39) (.t 45), none⟩, .quiet, 13, 8191⟩ :: []))
(.cond (.t 46) (.seq (.reg (⟨(some 2), .mov (.c (.bool false)), none⟩ :: []))
.ret) .skip)))
(.reg (⟨(some 31), .mov (.t 4), none⟩ :: ⟨(some 32), .bin .add (.t 31) (.c (.int .i64 (.ofNat 1))), none⟩ :: ⟨(some 4), .mov (.t 32), none⟩ :: [])))))))
(.seq (.reg (⟨(some 2), .mov (.c (.bool true)), none⟩ :: []))
.ret))))⟩
theorem c6_eq : compFn Try.prog 6 = some c6 := by kernel_rfl
/-- sodality/sodalitylaw27.works -/
noncomputable def c7 : FnI := ⟨29, [.tmp 0],
(.seq (.reg (⟨(some 0), .mov (.c (.bool false)), none⟩ :: []))
(.seq (.reg (⟨(some 2), .build [(.bool false), (.int .i64 (.ofNat 0)), (.str []), .nilsl, .nilsl] [(1, 1, (.c (.int .i64 (.ofNat 1)))), (2, 1, (.c (.str [120])))], none⟩ :: ⟨(some 3), .build [(.bool false), (.int .i64 (.ofNat 0)), (.str []), .nilsl, .nilsl] [], none⟩ :: ⟨(some 4), .call 10 [(.t 2), (.t 3)], none⟩ :: ⟨(some 1), .mov (.t 4), none⟩ :: []))
(.seq (.reg (⟨(some 5), .mov (.t 1), none⟩ :: ⟨(some 6), .len false (.t 5), none⟩ :: ⟨(some 7), .bin .eql (.t 6) (.c (.int .i64 (.ofNat 1))), none⟩ :: ⟨(some 8), .mov (.t 7), none⟩ :: ⟨(some 9), .mov (.t 1), (some (8, true))⟩ :: ⟨(some 10), .idxS 17 (.t 9) (.c (.int .i64 (.ofNat 0))), (some (8, true))⟩ :: ⟨(some 11), .faddr 0 (.t 10), (some (8, true))⟩ :: ⟨(some 12), .load false 1 (.t 11), (some (8, true))⟩ :: ⟨(some 13), .bin .eql (.t 12) (.c (.int .i64 (.ofNat 1))), (some (8, true))⟩ :: ⟨(some 14), .pick (.t 8) (.t 13) (.c (.bool false)), none⟩ :: ⟨(some 15), .mov (.t 14), none⟩ :: ⟨(some 16), .mov (.t 1), (some (15, true))⟩ :: ⟨(some 17), .idxS 17 (.t 16) (.c (.int .i64 (.ofNat 0))), (some (15, true))⟩ :: ⟨(some 18), .faddr 1 (.t 17), (some (15, true))⟩ :: ⟨(some 19), .load false 1 (.t 18), (some (15, true))⟩ :: ⟨(some 20), .bin .eql (.t 19) (.c (.int .i64 (.ofNat 1))), (some (15, true))⟩ :: ⟨(some 21), .pick (.t 15) (.t 20) (.c (.bool false)), none⟩ :: ⟨(some 22), .mov (.t 21), none⟩ :: ⟨(some 23), .mov (.t 1), (some (22, true))⟩ :: ⟨(some 24), .idxS 17 (.t 23) (.c (.int .i64 (.ofNat 0))), (some (22, true))⟩ :: ⟨(some 25), .faddr 7 (.t 24), (some (22, true))⟩ :: ⟨(some 26), .load false 1 (.t 25), (some (22, true))⟩ :: ⟨(some 27), .bin .eql (.t 26) (.c (.str [120])), (some (22, true))⟩ :: ⟨(some 28), .pick (.t 22) (.t 27) (.c (.bool false)), none⟩ :: ⟨(some 0), .mov (.t 28), none⟩ :: []))
.ret)))⟩
theorem c7_eq : compFn Try.prog 7 = some c7 := by kernel_rfl
/-- sodality/sodalityref27.Diff -/
noncomputable def c8 : FnI := ⟨228, [.tmp 4],
(.seq (.reg (⟨(some 2), .box (.t 0), none⟩ :: ⟨(some 3), .box (.t 1), none⟩ :: ⟨(some 4), .mov (.c .nilsl), none⟩ :: []))
(.seq (.reg (⟨(some 5), .mov (.c .nilsl), none⟩ :: []))
(.seq (.seq (.reg (⟨(some 14), .faddr 0 (.t 3), none⟩ :: ⟨(some 15), .load false 1 (.t 14), none⟩ :: ⟨(some 16), .un .not (.t 15), none⟩ :: []))
(.cond (.t 16) (.seq (.reg (⟨(some 17), .faddr 3 (.t 3), none⟩ :: ⟨none, .store 1 (.t 17) (.c .nilsl), none⟩ :: []))
(.reg (⟨(some 18), .faddr 4 (.t 3), none⟩ :: ⟨none, .store 1 (.t 18) (.c .nilsl), none⟩ :: []))) .skip))
(.seq (.seq (.reg (⟨(some 19), .faddr 0 (.t 3), none⟩ :: ⟨(some 20), .load false 1 (.t 19), none⟩ :: ⟨(some 21), .un .not (.t 20), none⟩ :: ⟨(some 22), .mov (.t 21), none⟩ :: ⟨(some 23), .faddr 2 (.t 3), (some (22, false))⟩ :: ⟨(some 24), .load false 1 (.t 23), (some (22, false))⟩ :: ⟨(some 25), .faddr 2 (.t 2), (some (22, false))⟩ :: ⟨(some 26), .load false 1 (.t 25), (some (22, false))⟩ :: ⟨(some 27), .bin .neq (.t 24) (.t 26), (some (22, false))⟩ :: ⟨(some 28), .pick (.t 22) (.c (.bool true)) (.t 27), none⟩ :: []))
(.cond (.t 28) (.reg (⟨(some 29), .mov (.t 5), none⟩ :: ⟨(some 30), .faddr 1 (.t 2), none⟩ :: ⟨(some 31), .load false 1 (.t 30), none⟩ :: ⟨(some 32), .faddr 2 (.t 2), none⟩ :: ⟨(some 33), .load false 1 (.t 32), none⟩ :: ⟨(some 34), .build [(.int .i64 (.ofNat 0)), (.int .i64 (.ofNat 0)), (.int .i64 (.ofNat 0)), (.int .i64 (.ofNat 0)), (.str []), (.str []), (.str []), (.str []), (.str []), (.str []), (.str []), (.str []), .nilsl, (.bool false), (.int .u64 (.ofNat 0)), (.int .u64 (.ofNat 0)), .nilsl] [(0, 1, (.c (.int .i64 (.ofNat 1)))), (1, 1, (.t 31)), (7, 1, (.t 33))], none⟩ :: ⟨(some 35), .buildSl 17 1 [(.int .i64 (.ofNat 0)), (.int .i64 (.ofNat 0)), (.int .i64 (.ofNat 0)), (.int .i64 (.ofNat 0)), (.str []), (.str []), (.str []), (.str []), (.str []), (.str []), (.str []), (.str []), .nilsl, (.bool false), (.int .u64 (.ofNat 0)), (.int .u64 (.ofNat 0)), .nilsl] [(0, 17, (.t 34))], none⟩ :: ⟨(some 36), .append 17 232 (.t 29) (.t 35), none⟩ :: ⟨(some 5), .mov (.t 36), none⟩ :: [])) .skip))
(.seq (.seq (.reg (⟨(some 6), .mov (.c (.int .i64 (.ofNat 0))), none⟩ :: []))
(.block 0 (.loop (.seq (.seq (.reg (⟨(some 37), .mov (.t 6), none⟩ :: ⟨(some 38), .faddr 4 (.t 3), none⟩ :: ⟨(some 39), .load false 1 (.t 38), none⟩ :: ⟨(some 40), .len false (.t 39), none⟩ :: ⟨(some 41), .bin .lss (.t 37) (.t 40), none⟩ :: []))
(.cond (.t 41) .skip (.exit 0)))
(.seq (.block 1 (.seq (.dreg (⟨⟨(some 44), .faddr 4 (.t 2), none⟩, .quiet, 0, 0⟩ :: ⟨⟨(some 45), .load false 1 (.t 44), none⟩, .load, 1, 1⟩ :: ⟨⟨(some 46), .faddr 4 (.t 3), none⟩, .quiet, 2, 0⟩ :: ⟨⟨(some 47), .load false 1 (.t 46), none⟩, .load, 3, 4⟩ :: ⟨⟨(some 48), .mov (.t 6), none⟩, .quiet, 4, 0⟩ :: ⟨⟨(some 49), .idxS 7 (.t 47) (.t 48), none⟩, .quiet, 5, 28⟩ :: ⟨⟨(some 50), .faddr 1 (.t 49), none⟩, .quiet, 6, 60⟩ :: ⟨⟨(some 51), .load false 1 (.t 50), none⟩, .load, 7, 124⟩ :: ⟨⟨(some 52), .call 14 [(.t 45), (.t 51)], none⟩, .loud, 8, 255⟩ :: ⟨⟨(some 53), .bin .lss (.t 52) (.c (.int .i64 (.ofNat 0))), none⟩, .quiet, 9, 511⟩ :: []))
(.cond (.t 53) (.dreg (⟨⟨(some 54), .mov (.t 5), none⟩, .quiet, 0, 0⟩ :: ⟨⟨(some 55), .faddr 1 (.t 2), none⟩, .quiet, 1, 0⟩ :: ⟨⟨(some 56), .load false 1 (.t 55), none⟩, .load, 2, 2⟩ :: ⟨⟨(some 57), .faddr 4 (.t 3), none⟩, .quiet, 3, 0⟩ :: ⟨⟨(some 58), .load false 1 (.t 57), none⟩, .load, 4, 8⟩ :: ⟨⟨(some 59), .mov (.t 6), none⟩, .quiet, 5, 0⟩ :: ⟨⟨(some 60), .idxS 7 (.t 58) (.t 59), none⟩, .quiet, 6, 56⟩ :: ⟨⟨(some 61), .faddr 1 (.t 60), none⟩, .quiet, 7, 120⟩ :: ⟨⟨(some 62), .load false 1 (.t 61), none⟩, .load, 8, 248⟩ :: ⟨⟨(some 63), .build [(.int .i64 (.ofNat 0)), (.int .i64 (.ofNat 0)), (.int .i64 (.ofNat 0)), (.int .i64 (.ofNat 0)), (.str []), (.str []), (.str []), (.str []), (.str []), (.str []), (.str []), (.str []), .nilsl, (.bool false), (.int .u64 (.ofNat 0)), (.int .u64 (.ofNat 0)), .nilsl] [(0, 1, (.c (.int .i64 (.ofNat 6)))), (1, 1, (.t 56)), (4, 1, (.t 62))], none⟩, .quiet, 9, 510⟩ :: ⟨⟨(some 64), .buildSl 17 1 [(.int .i64 (.ofNat 0)), (.int .i64 (.ofNat 0)), (.int .i64 (.ofNat 0)), (.int .i64 (.ofNat 0)), (.str []), (.str []), (.str []), (.str []), (.str []), (.str []), (.str []), (.str []), .nilsl, (.bool false), (.int .u64 (.ofNat 0)), (.int .u64 (.ofNat 0)), .nilsl] [(0, 17, (.t 63))], none⟩, .quiet, 10, 1022⟩ :: ⟨⟨(some 65), .append 17 232 (.t 54) (.t 64), none⟩, .loud, 11, 2047⟩ :: ⟨⟨(some 5), .mov (.t 65), none⟩, .quiet, 12, 4095⟩ :: [])) .skip)))
(.reg (⟨(some 42), .mov (.t 6), none⟩ :: ⟨(some 43), .bin .add (.t 42) (.c (.int .i64 (.ofNat 1))), none⟩ :: ⟨(some 6), .mov (.t 43), none⟩ :: [])))))))
(.seq (.seq (.reg (⟨(some 7), .mov (.c (.int .i64 (.ofNat 0))), none⟩ :: []))
(.block 2 (.loop (.seq (.seq (.reg (⟨(some 66), .mov (.t 7), none⟩ :: ⟨(some 67), .faddr 3 (.t 3), none⟩ :: ⟨(some 68), .load false 1 (.t 67), none⟩ :: ⟨(some 69), .len false (.t 68), none⟩ :: ⟨(some 70), .bin .lss (.t 66) (.t 69), none⟩ :: []))
(.cond (.t 70) .skip (.exit 2)))
(.seq (.block 3 (.seq (.dreg (⟨⟨(some 73), .faddr 3 (.t 2), none⟩, .quiet, 0, 0⟩ :: ⟨⟨(some 74), .load false 1 (.t 73), none⟩, .load, 1, 1⟩ :: ⟨⟨(some 75), .faddr 3 (.t 3), none⟩, .quiet, 2, 0⟩ :: ⟨⟨(some 76), .load false 1 (.t 75), none⟩, .load, 3, 4⟩ :: ⟨⟨(some 77), .mov (.t 7), none⟩, .quiet, 4, 0⟩ :: ⟨⟨(some 78), .idxS 7 (.t 76) (.t 77), none⟩, .quiet, 5, 28⟩ :: ⟨⟨(some 79), .faddr 1 (.t 78), none⟩, .quiet, 6, 60⟩ :: ⟨⟨(some 80), .load false 1 (.t 79), none⟩, .load, 7, 124⟩ :: ⟨⟨(some 81), .call 15 [(.t 74), (.t 80)], none⟩, .loud, 8, 255⟩ :: ⟨⟨(some 82), .bin .lss (.t 81) (.c (.int .i64 (.ofNat 0))), none⟩, .quiet, 9, 511⟩ :: []))
(.cond (.t 82) (.dreg (⟨⟨(some 83), .mov (.t 5), none⟩, .quiet, 0, 0⟩ :: ⟨⟨(some 84), .faddr 1 (.t 2), none⟩, .quiet, 1, 0⟩ :: ⟨⟨(some 85), .load false 1 (.t 84), none⟩, .load, 2, 2⟩ :: ⟨⟨(some 86), .faddr 3 (.t 3), none⟩, .quiet, 3, 0⟩ :: ⟨⟨(some 87), .load false 1 (.t 86), none⟩, .load, 4, 8⟩ :: ⟨⟨(some 88), .mov (.t 7), none⟩, .quiet, 5, 0⟩ :: ⟨⟨(some 89), .idxS 7 (.t 87) (.t 88), none⟩, .quiet, 6, 56⟩ :: ⟨⟨(some 90), .faddr 1 (.t 89), none⟩, .quiet, 7, 120⟩ :: ⟨⟨(some 91), .load false 1 (.t 90), none⟩, .load, 8, 248⟩ :: ⟨⟨(some 92), .build [(.int .i64 (.ofNat 0)), (.int .i64 (.ofNat 0)), (.int .i64 (.ofNat 0)), (.int .i64 (.ofNat 0)), (.str []), (.str []), (.str []), (.str []), (.str []), (.str []), (.str []), (.str []), .nilsl, (.bool false), (.int .u64 (.ofNat 0)), (.int .u64 (.ofNat 0)), .nilsl] [(0, 1, (.c (.int .i64 (.ofNat 4)))), (1, 1, (.t 85)), (4, 1, (.t 91))], none⟩, .quiet, 9, 510⟩ :: ⟨⟨(some 93), .buildSl 17 1 [(.int .i64 (.ofNat 0)), (.int .i64 (.ofNat 0)), (.int .i64 (.ofNat 0)), (.int .i64 (.ofNat 0)), (.str []), (.str []), (.str []), (.str []), (.str []), (.str []), (.str []), (.str []), .nilsl, (.bool false), (.int .u64 (.ofNat 0)), (.int .u64 (.ofNat 0)), .nilsl] [(0, 17, (.t 92))], none⟩, .quiet, 10, 1022⟩ :: ⟨⟨(some 94), .append 17 232 (.t 83) (.t 93), none⟩, .loud, 11, 2047⟩ :: ⟨⟨(some 5), .mov (.t 94), none⟩, .quiet, 12, 4095⟩ :: [])) .skip)))
(.reg (⟨(some 71), .mov (.t 7), none⟩ :: ⟨(some 72), .bin .add (.t 71) (.c (.int .i64 (.ofNat 1))), none⟩ :: ⟨(some 7), .mov (.t 72), none⟩ :: [])))))))
(.seq (.seq (.reg (⟨(some 8), .mov (.c (.int .i64 (.ofNat 0))), none⟩ :: []))
(.block 4 (.loop (.seq (.seq (.reg (⟨(some 95), .mov (.t 8), none⟩ :: ⟨(some 96), .faddr 3 (.t 2), none⟩ :: ⟨(some 97), .load false 1 (.t 96), none⟩ :: ⟨(some 98), .len false (.t 97), none⟩ :: ⟨(some 99), .bin .lss (.t 95) (.t 98), none⟩ :: []))
(.cond (.t 99) .skip (.exit 4)))
(.seq (.block 5 (.seq (.reg (⟨(some 102), .faddr 3 (.t 2), none⟩ :: ⟨(some 103), .load false 1 (.t 102), none⟩ :: ⟨(some 104), .mov (.t 8), none⟩ :: ⟨(some 105), .idxS 7 (.t 103) (.t 104), none⟩ :: ⟨(some 106), .load true 7 (.t 105), none⟩ :: ⟨(some 9), .alloc [(.int .i64 (.ofNat 0)), (.str []), (.str []), .nilsl, (.int .i64 (.ofNat 0)), (.int .u64 (.ofNat 0)), (.int .u64 (.ofNat 0))], none⟩ :: ⟨none, .store 7 (.t 9) (.t 106), none⟩ :: []))
(.seq (.reg (⟨(some 107), .faddr 3 (.t 3), none⟩ :: ⟨(some 108), .load false 1 (.t 107), none⟩ :: ⟨(some 109), .faddr 1 (.t 9), none⟩ :: ⟨(some 110), .load false 1 (.t 109), none⟩ :: ⟨(some 111), .call 15 [(.t 108), (.t 110)], none⟩ :: ⟨(some 10), .mov (.t 111), none⟩ :: []))
(.seq (.seq (.dreg (⟨⟨(some 112), .mov (.t 10), none⟩, .quiet, 0, 0⟩ :: ⟨⟨(some 113), .bin .geq (.t 112) (.c (.int .i64 (.ofNat 0))), none⟩, .quiet, 1, 1⟩ :: ⟨⟨(some 114), .mov (.t 113), none⟩, .quiet, 2, 3⟩ :: ⟨⟨(some 115), .faddr 3 (.t 3), (some (114, true))⟩, .quiet, 3, 7⟩ :: ⟨⟨(some 116), .load false 1 (.t 115), (some (114, true))⟩, .load, 4, 15⟩ :: ⟨⟨(some 117), .mov (.t 10), (some (114, true))⟩, .quiet, 5, 7⟩ :: ⟨⟨(some 118), .idxS 7 (.t 116) (.t 117), (some (114, true))⟩, .quiet, 6, 63⟩ :: ⟨⟨(some 119), .faddr 2 (.t 118), (some (114, true))⟩, .quiet, 7, 127⟩ :: ⟨⟨(some 120), .load false 1 (.t 119), (some (114, true))⟩, .load, 8, 255⟩ :: ⟨⟨(some 121), .faddr 2 (.t 9), (some (114, true))⟩, .quiet, 9, 7⟩ :: ⟨⟨(some 122), .load false 1 (.t 121), (some (114, true))⟩, .load, 10, 519⟩ :: ⟨⟨(some 123), .bin .eql (.t 120) (.t 122), (some (114, true))⟩, .quiet, 11, 2047⟩ :: ⟨⟨(some 124), .pick (.t 114) (.t 123) (.c (.bool false)), none⟩, .quiet, 12, 4095⟩ :: ⟨⟨(some 125), .mov (.t 124), none⟩, .quiet, 13, 8191⟩ :: ⟨⟨(some 126), .faddr 3 (.t 3), (some (125, true))⟩, .quiet, 14, 16383⟩ :: ⟨⟨(some 127), .load false 1 (.t 126), (some (125, true))⟩, .load, 15, 32767⟩ :: ⟨⟨(some 128), .mov (.t 10), (some (125, true))⟩, .quiet, 16, 16383⟩ :: ⟨⟨(some 129), .idxS 7 (.t 127) (.t 128), (some (125, true))⟩, .quiet, 17, 131071⟩ :: ⟨⟨(some 130), .faddr 4 (.t 129), (some (125, true))⟩, .quiet, 18, 262143⟩ :: ⟨⟨(some 131), .load false 1 (.t 130), (some (125, true))⟩, .load, 19, 524287⟩ :: ⟨⟨(some 132), .faddr 4 (.t 9), (some (125, true))⟩, .quiet, 20, 16383⟩ :: ⟨⟨(some 133), .load false 1 (.t 132), (some (125, true))⟩, .load, 21, 1064959⟩ :: ⟨⟨(some 134), .bin .eql (.t 131) (.t 133), (some (125, true))⟩, .quiet, 22, 4194303⟩ :: ⟨⟨(some 135), .pick (.t 125) (.t 134) (.c (.bool false)), none⟩, .quiet, 23, 8388607⟩ :: ⟨⟨(some 136), .mov (.t 135), none⟩, .quiet, 24, 16777215⟩ :: ⟨⟨(some 137), .faddr 3 (.t 3), (some (136, true))⟩, .quiet, 25, 33554431⟩ :: ⟨⟨(some 138), .load false 1 (.t 137), (some (136, true))⟩, .load, 26, 67108863⟩ :: ⟨⟨(some 139), .mov (.t 10), (some (136, true))⟩, .quiet, 27, 33554431⟩ :: ⟨⟨(some 140), .idxS 7 (.t 138) (.t 139), (some (136, true))⟩, .quiet, 28, 268435455⟩ :: ⟨⟨(some 141), .faddr 3 (.t 140), (some (136, true))⟩, .quiet, 29, 536870911⟩ :: ⟨⟨(some 142), .load false 1 (.t 141), (some (136, true))⟩, .load, 30, 1073741823⟩ :: ⟨⟨(some 143), .faddr 3 (.t 9), (some (136, true))⟩, .quiet, 31, 33554431⟩ :: ⟨⟨(some 144), .load false 1 (.t 143), (some (136, true))⟩, .load, 32, 2181038079⟩ :: ⟨⟨(some 145), .call 16 [(.t 142), (.t 144)], (some (136, true))⟩, .loud, 33, 8589934591⟩ :: ⟨⟨(some 146), .pick (.t 136) (.t 145) (.c (.bool false)), none⟩, .quiet, 34, 17179869183⟩ :: []))
(.cond (.t 146) (.exit 5) .skip))
(.reg (⟨(some 147), .mov (.t 5), none⟩ :: ⟨(some 148), .faddr 1 (.t 2), none⟩ :: ⟨(some 149), .load false 1 (.t 148), none⟩ :: ⟨(some 150), .faddr 1 (.t 9), none⟩ :: ⟨(some 151), .load false 1 (.t 150), none⟩ :: ⟨(some 152), .faddr 2 (.t 9), none⟩ :: ⟨(some 153), .load false 1 (.t 152), none⟩ :: ⟨(some 154), .faddr 3 (.t 9), none⟩ :: ⟨(some 155), .load false 1 (.t 154), none⟩ :: ⟨(some 156), .faddr 4 (.t 9), none⟩ :: ⟨(some 157), .load false 1 (.t 156), none⟩ :: ⟨(some 158), .build [(.int .i64 (.ofNat 0)), (.int .i64 (.ofNat 0)), (.int .i64 (.ofNat 0)), (.int .i64 (.ofNat 0)), (.str []), (.str []), (.str []), (.str []), (.str []), (.str []), (.str []), (.str []), .nilsl, (.bool false), (.int .u64 (.ofNat 0)), (.int .u64 (.ofNat 0)), .nilsl] [(0, 1, (.c (.int .i64 (.ofNat 3)))), (1, 1, (.t 149)), (4, 1, (.t 151)), (5, 1, (.t 153)), (12, 1, (.t 155)), (2, 1, (.t 157))], none⟩ :: ⟨(some 159), .buildSl 17 1 [(.int .i64 (.ofNat 0)), (.int .i64 (.ofNat 0)), (.int .i64 (.ofNat 0)), (.int .i64 (.ofNat 0)), (.str []), (.str []), (.str []), (.str []), (.str []), (.str []), (.str []), (.str []), .nilsl, (.bool false), (.int .u64 (.ofNat 0)), (.int .u64 (.ofNat 0)), .nilsl] [(0, 17, (.t 158))], none⟩ :: ⟨(some 160), .append 17 232 (.t 147) (.t 159), none⟩ :: ⟨(some 5), .mov (.t 160), none⟩ :: []))))))
(.reg (⟨(some 100), .mov (.t 8), none⟩ :: ⟨(some 101), .bin .add (.t 100) (.c (.int .i64 (.ofNat 1))), none⟩ :: ⟨(some 8), .mov (.t 101), none⟩ :: [])))))))
(.seq (.seq (.reg (⟨(some 11), .mov (.c (.int .i64 (.ofNat 0))), none⟩ :: []))
(.block 6 (.loop (.seq (.seq (.reg (⟨(some 161), .mov (.t 11), none⟩ :: ⟨(some 162), .faddr 4 (.t 2), none⟩ :: ⟨(some 163), .load false 1 (.t 162), none⟩ :: ⟨(some 164), .len false (.t 163), none⟩ :: ⟨(some 165), .bin .lss (.t 161) (.t 164), none⟩ :: []))
(.cond (.t 165) .skip (.exit 6)))
(.seq (.block 7 (.seq (.reg (⟨(some 168), .faddr 4 (.t 2), none⟩ :: ⟨(some 169), .load false 1 (.t 168), none⟩ :: ⟨(some 170), .mov (.t 11), none⟩ :: ⟨(some 171), .idxS 7 (.t 169) (.t 170), none⟩ :: ⟨(some 172), .load true 7 (.t 171), none⟩ :: ⟨(some 12), .alloc [(.int .i64 (.ofNat 0)), (.str []), (.str []), (.str []), (.int .i64 (.ofNat 0)), (.int .u64 (.ofNat 0)), (.int .u64 (.ofNat 0))], none⟩ :: ⟨none, .store 7 (.t 12) (.t 172), none⟩ :: []))
(.seq (.reg (⟨(some 173), .faddr 4 (.t 3), none⟩ :: ⟨(some 174), .load false 1 (.t 173), none⟩ :: ⟨(some 175), .faddr 1 (.t 12), none⟩ :: ⟨(some 176), .load false 1 (.t 175), none⟩ :: ⟨(some 177), .call 14 [(.t 174), (.t 176)], none⟩ :: ⟨(some 13), .mov (.t 177), none⟩ :: []))
(.seq (.seq (.dreg (⟨⟨(some 178), .mov (.t 13), none⟩, .quiet, 0, 0⟩ :: ⟨⟨(some 179), .bin .geq (.t 178) (.c (.int .i64 (.ofNat 0))), none⟩, .quiet, 1, 1⟩ :: ⟨⟨(some 180), .mov (.t 179), none⟩, .quiet, 2, 3⟩ :: ⟨⟨(some 181), .faddr 4 (.t 3), (some (180, true))⟩, .quiet, 3, 7⟩ :: ⟨⟨(some 182), .load false 1 (.t 181), (some (180, true))⟩, .load, 4, 15⟩ :: ⟨⟨(some 183), .mov (.t 13), (some (180, true))⟩, .quiet, 5, 7⟩ :: ⟨⟨(some 184), .idxS 7 (.t 182) (.t 183), (some (180, true))⟩, .quiet, 6, 63⟩ :: ⟨⟨(some 185), .faddr 2 (.t 184), (some (180, true))⟩, .quiet, 7, 127⟩ :: ⟨⟨(some 186), .load false 1 (.t 185), (some (180, true))⟩, .load, 8, 255⟩ :: ⟨⟨(some 187), .faddr 2 (.t 12), (some (180, true))⟩, .quiet, 9, 7⟩ :: ⟨⟨(some 188), .load false 1 (.t 187), (some (180, true))⟩, .load, 10, 519⟩ :: ⟨⟨(some 189), .bin .eql (.t 186) (.t 188), (some (180, true))⟩, .quiet, 11, 2047⟩ :: ⟨⟨(some 190), .pick (.t 180) (.t 189) (.c (.bool false)), none⟩, .quiet, 12, 4095⟩ :: ⟨⟨(some 191), .mov (.t 190), none⟩, .quiet, 13, 8191⟩ :: ⟨⟨(some 192), .faddr 4 (.t 3), (some (191, true))⟩, .quiet, 14, 16383⟩ :: ⟨⟨(some 193), .load false 1 (.t 192), (some (191, true))⟩, .load, 15, 32767⟩ :: ⟨⟨(some 194), .mov (.t 13), (some (191, true))⟩, .quiet, 16, 16383⟩ :: ⟨⟨(some 195), .idxS 7 (.t 193) (.t 194), (some (191, true))⟩, .quiet, 17, 131071⟩ :: ⟨⟨(some 196), .faddr 3 (.t 195), (some (191, true))⟩, .quiet, 18, 262143⟩ :: ⟨⟨(some 197), .load false 1 (.t 196), (some (191, true))⟩, .load, 19, 524287⟩ :: ⟨⟨(some 198), .faddr 3 (.t 12), (some (191, true))⟩, .quiet, 20, 16383⟩ :: ⟨⟨(some 199), .load false 1 (.t 198), (some (191, true))⟩, .load, 21, 1064959⟩ :: ⟨⟨(some 200), .bin .eql (.t 197) (.t 199), (some (191, true))⟩, .quiet, 22, 4194303⟩ :: ⟨⟨(some 201), .pick (.t 191) (.t 200) (.c (.bool false)), none⟩, .quiet, 23, 8388607⟩ :: ⟨⟨(some 202), .mov (.t 201), none⟩, .quiet, 24, 16777215⟩ :: ⟨⟨(some 203), .faddr 4 (.t 3), (some (202, true))⟩, .quiet, 25, 33554431⟩ :: ⟨⟨(some 204), .load false 1 (.t 203), (some (202, true))⟩, .load, 26, 67108863⟩ :: ⟨⟨(some 205), .mov (.t 13), (some (202, true))⟩, .quiet, 27, 33554431⟩ :: ⟨⟨(some 206), .idxS 7 (.t 204) (.t 205), (some (202, true))⟩, .quiet, 28, 268435455⟩ :: ⟨⟨(some 207), .faddr 4 (.t 206), (some (202, true))⟩, .quiet, 29, 536870911⟩ :: ⟨⟨(some 208), .load false 1 (.t 207), (some (202, true))⟩, .load, 30, 1073741823⟩ :: ⟨⟨(some 209), .faddr 4 (.t 12), (some (202, true))⟩, .quiet, 31, 33554431⟩ :: ⟨⟨(some 210), .load false 1 (.t 209), (some (202, true))⟩, .load, 32, 2181038079⟩ :: ⟨⟨(some 211), .bin .eql (.t 208) (.t 210), (some (202, true))⟩, .quiet, 33, 8589934591⟩ :: ⟨⟨(some 212), .pick (.t 202) (.t 211) (.c (.bool false)), none⟩, .quiet, 34, 17179869183⟩ :: []))
(.cond (.t 212) (.exit 7) .skip))
(.reg (⟨(some 213), .mov (.t 5), none⟩ :: ⟨(some 214), .faddr 1 (.t 2), none⟩ :: ⟨(some 215), .load false 1 (.t 214), none⟩ :: ⟨(some 216), .faddr 1 (.t 12), none⟩ :: ⟨(some 217), .load false 1 (.t 216), none⟩ :: ⟨(some 218), .faddr 2 (.t 12), none⟩ :: ⟨(some 219), .load false 1 (.t 218), none⟩ :: ⟨(some 220), .faddr 3 (.t 12), none⟩ :: ⟨(some 221), .load false 1 (.t 220), none⟩ :: ⟨(some 222), .faddr 4 (.t 12), none⟩ :: ⟨(some 223), .load false 1 (.t 222), none⟩ :: ⟨(some 224), .build [(.int .i64 (.ofNat 0)), (.int .i64 (.ofNat 0)), (.int .i64 (.ofNat 0)), (.int .i64 (.ofNat 0)), (.str []), (.str []), (.str []), (.str []), (.str []), (.str []), (.str []), (.str []), .nilsl, (.bool false), (.int .u64 (.ofNat 0)), (.int .u64 (.ofNat 0)), .nilsl] [(0, 1, (.c (.int .i64 (.ofNat 5)))), (1, 1, (.t 215)), (4, 1, (.t 217)), (6, 1, (.t 219)), (7, 1, (.t 221)), (3, 1, (.t 223))], none⟩ :: ⟨(some 225), .buildSl 17 1 [(.int .i64 (.ofNat 0)), (.int .i64 (.ofNat 0)), (.int .i64 (.ofNat 0)), (.int .i64 (.ofNat 0)), (.str []), (.str []), (.str []), (.str []), (.str []), (.str []), (.str []), (.str []), .nilsl, (.bool false), (.int .u64 (.ofNat 0)), (.int .u64 (.ofNat 0)), .nilsl] [(0, 17, (.t 224))], none⟩ :: ⟨(some 226), .append 17 232 (.t 213) (.t 225), none⟩ :: ⟨(some 5), .mov (.t 226), none⟩ :: []))))))
(.reg (⟨(some 166), .mov (.t 11), none⟩ :: ⟨(some 167), .bin .add (.t 166) (.c (.int .i64 (.ofNat 1))), none⟩ :: ⟨(some 11), .mov (.t 167), none⟩ :: [])))))))
(.seq (.reg (⟨(some 227), .mov (.t 5), none⟩ :: ⟨(some 4), .mov (.t 227), none⟩ :: []))
.ret)))))))))⟩
theorem c8_eq : compFn Try.prog 8 = some c8 := by kernel_rfl
/-- sodality/sodalitylaw27.cmds -/
noncomputable def c9 : FnI := ⟨27, [.tmp 4],
(.seq (.reg (⟨(some 4), .mov (.c (.bool false)), none⟩ :: []))
(.seq (.seq (.reg (⟨(some 6), .mov (.t 0), none⟩ :: ⟨(some 7), .len false (.t 6), none⟩ :: ⟨(some 8), .mov (.t 1), none⟩ :: ⟨(some 9), .len false (.t 8), none⟩ :: ⟨(some 10), .bin .neq (.t 7) (.t 9), none⟩ :: []))
(.cond (.t 10) (.seq (.reg (⟨(some 4), .mov (.c (.bool false)), none⟩ :: []))
.ret) .skip))
(.seq (.seq (.reg (⟨(some 5), .mov (.c (.int .i64 (.ofNat 0))), none⟩ :: []))
(.block 0 (.loop (.seq (.seq (.reg (⟨(some 11), .mov (.t 5), none⟩ :: ⟨(some 12), .mov (.t 0), none⟩ :: ⟨(some 13), .len false (.t 12), none⟩ :: ⟨(some 14), .bin .lss (.t 11) (.t 13), none⟩ :: []))
(.cond (.t 14) .skip (.exit 0)))
(.seq (.block 1 (.seq (.dreg (⟨⟨(some 17), .mov (.t 0), none⟩, .quiet, 0, 0⟩ :: ⟨⟨(some 18), .mov (.t 5), none⟩, .quiet, 1, 0⟩ :: ⟨⟨(some 19), .idxS 17 (.t 17) (.t 18), none⟩, .quiet, 2, 3⟩ :: ⟨⟨(some 20), .load true 17 (.t 19), none⟩, .load, 3, 7⟩ :: ⟨⟨(some 21), .mov (.t 1), none⟩, .quiet, 4, 0⟩ :: ⟨⟨(some 22), .mov (.t 5), none⟩, .quiet, 5, 0⟩ :: ⟨⟨(some 23), .idxS 17 (.t 21) (.t 22), none⟩, .quiet, 6, 48⟩ :: ⟨⟨(some 24), .load true 17 (.t 23), none⟩, .load, 7, 112⟩ :: ⟨⟨(some 25), .call 17 [(.t 20), (.t 24)], none⟩, .loud, 8, 255⟩ :: ⟨⟨(some 26), .un .not (.t 25), none⟩, .quiet, 9, 511⟩ :: []))
(.cond (.t 26) (.seq (.reg (⟨(some 4), .mov (.c (.bool false)), none⟩ :: []))
.ret) .skip)))
(.reg (⟨(some 15), .mov (.t 5), none⟩ :: ⟨(some 16), .bin .add (.t 15) (.c (.int .i64 (.ofNat 1))), none⟩ :: ⟨(some 5), .mov (.t 16), none⟩ :: [])))))))
(.seq (.reg (⟨(some 4), .mov (.c (.bool true)), none⟩ :: []))
.ret))))⟩
theorem c9_eq : compFn Try.prog 9 = some c9 := by kernel_rfl
/-- sodality/diff.Diff -/
noncomputable def c10 : FnI := ⟨69, [.tmp 4],
(.seq (.reg (⟨(some 2), .box (.t 0), none⟩ :: ⟨(some 3), .box (.t 1), none⟩ :: ⟨(some 4), .mov (.c .nilsl), none⟩ :: []))
(.seq (.reg (⟨(some 5), .mov (.c .nilsl), none⟩ :: []))
(.seq (.seq (.reg (⟨(some 8), .faddr 0 (.t 3), none⟩ :: ⟨(some 9), .load false 1 (.t 8), none⟩ :: ⟨(some 10), .un .not (.t 9), none⟩ :: []))
(.cond (.t 10) (.reg (⟨(some 11), .faddr 3 (.t 3), none⟩ :: ⟨none, .store 1 (.t 11) (.c .nilsl), none⟩ :: ⟨(some 12), .faddr 4 (.t 3), none⟩ :: ⟨none, .store 1 (.t 12) (.c .nilsl), none⟩ :: [])) .skip))
(.seq (.seq (.reg (⟨(some 13), .faddr 0 (.t 3), none⟩ :: ⟨(some 14), .load false 1 (.t 13), none⟩ :: ⟨(some 15), .un .not (.t 14), none⟩ :: ⟨(some 16), .mov (.t 15), none⟩ :: ⟨(some 17), .faddr 2 (.t 2), (some (16, false))⟩ :: ⟨(some 18), .load false 1 (.t 17), (some (16, false))⟩ :: ⟨(some 19), .faddr 2 (.t 3), (some (16, false))⟩ :: ⟨(some 20), .load false 1 (.t 19), (some (16, false))⟩ :: ⟨(some 21), .bin .neq (.t 18) (.t 20), (some (16, false))⟩ :: ⟨(some 22), .pick (.t 16) (.c (.bool true)) (.t 21), none⟩ :: []))
(.cond (.t 22) (.reg (⟨(some 23), .mov (.t 5), none⟩ :: ⟨(some 24), .faddr 1 (.t 2), none⟩ :: ⟨(some 25), .load false 1 (.t 24), none⟩ :: ⟨(some 26), .faddr 2 (.t 2), none⟩ :: ⟨(some 27), .load false 1 (.t 26), none⟩ :: ⟨(some 28), .build [(.int .i64 (.ofNat 0)), (.int .i64 (.ofNat 0)), (.int .i64 (.ofNat 0)), (.int .i64 (.ofNat 0)), (.str []), (.str []), (.str []), (.str []), (.str []), (.str []), (.str []), (.str []), .nilsl, (.bool false), (.int .u64 (.ofNat 0)), (.int .u64 (.ofNat 0)), .nilsl] [(0, 1, (.c (.int .i64 (.ofNat 1)))), (1, 1, (.t 25)), (7, 1, (.t 27))], none⟩ :: ⟨(some 29), .buildSl 17 1 [(.int .i64 (.ofNat 0)), (.int .i64 (.ofNat 0)), (.int .i64 (.ofNat 0)), (.int .i64 (.ofNat 0)), (.str []), (.str []), (.str []), (.str []), (.str []), (.str []), (.str []), (.str []), .nilsl, (.bool false), (.int .u64 (.ofNat 0)), (.int .u64 (.ofNat 0)), .nilsl] [(0, 17, (.t 28))], none⟩ :: ⟨(some 30), .append 17 232 (.t 23) (.t 29), none⟩ :: ⟨(some 5), .mov (.t 30), none⟩ :: [])) .skip))
(.seq (.dreg (⟨⟨(some 31), .faddr 1 (.t 2), none⟩, .quiet, 0, 0⟩ :: ⟨⟨(some 32), .load false 1 (.t 31), none⟩, .load, 1, 1⟩ :: ⟨⟨(some 33), .call 18 [(.t 32)], none⟩, .loud, 2, 3⟩ :: ⟨⟨(some 34), .faddr 1 (.t 2), none⟩, .quiet, 3, 0⟩ :: ⟨⟨(some 35), .load false 1 (.t 34), none⟩, .load, 4, 8⟩ :: ⟨⟨(some 36), .call 19 [(.t 35)], none⟩, .loud, 5, 31⟩ :: ⟨⟨(some 6), .alloc [.nilfn, .nilfn, .nilfn, .nilfn], none⟩, .quiet, 6, 0⟩ :: ⟨⟨(some 7), .alloc [.nilfn, .nilfn, .nilfn, .nilfn], none⟩, .quiet, 7, 0⟩ :: ⟨⟨none, .store 4 (.t 6) (.t 33), none⟩, .loud, 8, 255⟩ :: ⟨⟨none, .store 4 (.t 7) (.t 36), none⟩, .loud, 9, 511⟩ :: []))
(.seq (.reg (⟨(some 37), .mov (.t 5), none⟩ :: ⟨(some 38), .faddr 4 (.t 2), none⟩ :: ⟨(some 39), .load false 1 (.t 38), none⟩ :: ⟨(some 40), .faddr 4 (.t 3), none⟩ :: ⟨(some 41), .load false 1 (.t 40), none⟩ :: ⟨(some 42), .load true 4 (.t 7), none⟩ :: ⟨(some 43), .call 20 [(.t 39), (.t 41), (.t 42)], none⟩ :: ⟨(some 44), .append 17 232 (.t 37) (.t 43), none⟩ :: ⟨(some 5), .mov (.t 44), none⟩ :: []))
(.seq (.reg (⟨(some 45), .mov (.t 5), none⟩ :: ⟨(some 46), .faddr 3 (.t 2), none⟩ :: ⟨(some 47), .load false 1 (.t 46), none⟩ :: ⟨(some 48), .faddr 3 (.t 3), none⟩ :: ⟨(some 49), .load false 1 (.t 48), none⟩ :: ⟨(some 50), .load true 4 (.t 6), none⟩ :: ⟨(some 51), .call 21 [(.t 47), (.t 49), (.t 50)], none⟩ :: ⟨(some 52), .append 17 232 (.t 45) (.t 51), none⟩ :: ⟨(some 5), .mov (.t 52), none⟩ :: []))
(.seq (.reg (⟨(some 53), .mov (.t 5), none⟩ :: ⟨(some 54), .faddr 3 (.t 2), none⟩ :: ⟨(some 55), .load false 1 (.t 54), none⟩ :: ⟨(some 56), .faddr 3 (.t 3), none⟩ :: ⟨(some 57), .load false 1 (.t 56), none⟩ :: ⟨(some 58), .load true 4 (.t 6), none⟩ :: ⟨(some 59), .call 22 [(.t 55), (.t 57), (.t 58)], none⟩ :: ⟨(some 60), .append 17 232 (.t 53) (.t 59), none⟩ :: ⟨(some 5), .mov (.t 60), none⟩ :: []))
(.seq (.reg (⟨(some 61), .mov (.t 5), none⟩ :: ⟨(some 62), .faddr 4 (.t 2), none⟩ :: ⟨(some 63), .load false 1 (.t 62), none⟩ :: ⟨(some 64), .faddr 4 (.t 3), none⟩ :: ⟨(some 65), .load false 1 (.t 64), none⟩ :: ⟨(some 66), .load true 4 (.t 7), none⟩ :: ⟨(some 67), .call 23 [(.t 63), (.t 65), (.t 66)], none⟩ :: ⟨(some 68), .append 17 232 (.t 61) (.t 67), none⟩ :: ⟨(some 4), .mov (.t 68), none⟩ :: []))
.ret)))))))))⟩
theorem c10_eq : compFn Try.prog 10 = some c10 := by kernel_rfl
/-- sodality/diff.Same -/
noncomputable def c11 : FnI := ⟨10, [.tmp 4],
(.seq (.reg (⟨(some 2), .box (.t 0), none⟩ :: ⟨(some 3), .box (.t 1), none⟩ :: ⟨(some 4), .mov (.c (.bool false)), none⟩ :: []))
(.seq (.reg (⟨(some 5), .load true 5 (.t 2), none⟩ :: ⟨(some 6), .load true 5 (.t 3), none⟩ :: ⟨(some 7), .call 10 [(.t 5), (.t 6)], none⟩ :: ⟨(some 8), .len false (.t 7), none⟩ :: ⟨(some 9), .bin .eql (.t 8) (.c (.int .i64 (.ofNat 0))), none⟩ :: ⟨(some 4), .mov (.t 9), none⟩ :: []))
.ret))⟩
theorem c11_eq : compFn Try.prog 11 = some c11 := by kernel_rfl
/-- sodality/sodalityref27.check -/
noncomputable def c14 : FnI := ⟨20, [.tmp 4],
(.seq (.reg (⟨(some 4), .mov (.c (.int .i64 (.ofNat 0))), none⟩ :: []))
(.seq (.seq (.reg (⟨(some 5), .mov (.c (.int .i64 (.ofNat 0))), none⟩ :: []))
(.block 0 (.loop (.seq (.seq (.reg (⟨(some 6), .mov (.t 5), none⟩ :: ⟨(some 7), .mov (.t 0), none⟩ :: ⟨(some 8), .len false (.t 7), none⟩ :: ⟨(some 9), .bin .lss (.t 6) (.t 8), none⟩ :: []))
(.cond (.t 9) .skip (.exit 0)))
(.seq (.block 1 (.seq (.reg (⟨(some 12), .mov (.t 0), none⟩ :: ⟨(some 13), .mov (.t 5), none⟩ :: ⟨(some 14), .idxS 7 (.t 12) (.t 13), none⟩ :: ⟨(some 15), .faddr 1 (.t 14), none⟩ :: ⟨(some 16), .load false 1 (.t 15), none⟩ :: ⟨(some 17), .mov (.t 1), none⟩ :: ⟨(some 18), .bin .eql (.t 16) (.t 17), none⟩ :: []))
(.cond (.t 18) (.seq (.reg (⟨(some 19), .mov (.t 5), none⟩ :: ⟨(some 4), .mov (.t 19), none⟩ :: []))
.ret) .skip)))
(.reg (⟨(some 10), .mov (.t 5), none⟩ :: ⟨(some 11), .bin .add (.t 10) (.c (.int .i64 (.ofNat 1))), none⟩ :: ⟨(some 5), .mov (.t 11), none⟩ :: [])))))))
(.seq (.reg (⟨(some 4), .mov (.c (.int .i64 (.negSucc 0))), none⟩ :: []))
.ret)))⟩
theorem c14_eq : compFn Try.prog 14 = some c14 := by kernel_rfl
/-- sodality/sodalityref27.service -/
noncomputable def c15 : FnI := ⟨20, [.tmp 4],
(.seq (.reg (⟨(some 4), .mov (.c (.int .i64 (.ofNat 0))), none⟩ :: []))
(.seq (.seq (.reg (⟨(some 5), .mov (.c (.int .i64 (.ofNat 0))), none⟩ :: []))
(.block 0 (.loop (.seq (.seq (.reg (⟨(some 6), .mov (.t 5), none⟩ :: ⟨(some 7), .mov (.t 0), none⟩ :: ⟨(some 8), .len false (.t 7), none⟩ :: ⟨(some 9), .bin .lss (.t 6) (.t 8), none⟩ :: []))
(.cond (.t 9) .skip (.exit 0)))
(.seq (.block 1 (.seq (.reg (⟨(some 12), .mov (.t 0), none⟩ :: ⟨(some 13), .mov (.t 5), none⟩ :: ⟨(some 14), .idxS 7 (.t 12) (.t 13), none⟩ :: ⟨(some 15), .faddr 1 (.t 14), none⟩ :: ⟨(some 16), .load false 1 (.t 15), none⟩ :: ⟨(some 17), .mov (.t 1), none⟩ :: ⟨(some 18), .bin .eql (.t 16) (.t 17), none⟩ :: []))
(.cond (.t 18) (.seq (.reg (⟨(some 19), .mov (.t 5), none⟩ :: ⟨(some 4), .mov (.t 19), none⟩ :: []))
.ret) .skip)))
(.reg (⟨(some 10), .mov (.t 5), none⟩ :: ⟨(some 11), .bin .add (.t 10) (.c (.int .i64 (.ofNat 1))), none⟩ :: ⟨(some 5), .mov (.t 11), none⟩ :: [])))))))
(.seq (.reg (⟨(some 4), .mov (.c (.int .i64 (.negSucc 0))), none⟩ :: []))
.ret)))⟩
theorem c15_eq : compFn Try.prog 15 = some c15 := by kernel_rfl
/-- sodality/sodalityref01.Same -/
noncomputable def c16 : FnI := ⟨26, [.tmp 4],
(.seq (.reg (⟨(some 4), .mov (.c (.bool false)), none⟩ :: []))
(.seq (.seq (.reg (⟨(some 6), .mov (.t 0), none⟩ :: ⟨(some 7), .len false (.t 6), none⟩ :: ⟨(some 8), .mov (.t 1), none⟩ :: ⟨(some 9), .len false (.t 8), none⟩ :: ⟨(some 10), .bin .neq (.t 7) (.t 9), none⟩ :: []))
(.cond (.t 10) (.seq (.reg (⟨(some 4), .mov (.c (.bool false)), none⟩ :: []))
.ret) .skip))
(.seq (.seq (.reg (⟨(some 5), .mov (.c (.int .i64 (.ofNat 0))), none⟩ :: []))
(.block 0 (.loop (.seq (.seq (.reg (⟨(some 11), .mov (.t 5), none⟩ :: ⟨(some 12), .mov (.t 0), none⟩ :: ⟨(some 13), .len false (.t 12), none⟩ :: ⟨(some 14), .bin .lss (.t 11) (.t 13), none⟩ :: []))
(.cond (.t 14) .skip (.exit 0)))
(.seq (.block 1 (.seq (.dreg (⟨⟨(some 17), .mov (.t 0), none⟩, .quiet, 0, 0⟩ :: ⟨⟨(some 18), .mov (.t 5), none⟩, .quiet, 1, 0⟩ :: ⟨⟨(some 19), .idxS 1 (.t 17) (.t 18), none⟩, .quiet, 2, 3⟩ :: ⟨⟨(some 20), .load false 1 (.t 19), none⟩, .load, 3, 7⟩ :: ⟨⟨(some 21), .mov (.t 1), none⟩, .quiet, 4, 0⟩ :: ⟨⟨(some 22), .mov (.t 5), none⟩, .quiet, 5, 0⟩ :: ⟨⟨(some 23), .idxS 1 (.t 21) (.t 22), none⟩, .quiet, 6, 48⟩ :: ⟨⟨(some 24), .load false 1 (.t 23), none⟩, .load, 7, 112⟩ :: ⟨⟨(some 25), .bin .neq (.t 20) (.t 24), none⟩, .quiet, 8, 255⟩ :: []))
(.cond (.t 25) (.seq (.reg (⟨(some 4), .mov (.c (.bool false)), none⟩ :: []))
.ret) .skip)))
(.reg (⟨(some 15), .mov (.t 5), none⟩ :: ⟨(some 16), .bin .add (.t 15) (.c (.int .i64 (.ofNat 1))), none⟩ :: ⟨(some 5), .mov (.t 16), none⟩ :: [])))))))
(.seq (.reg (⟨(some 4), .mov (.c (.bool true)), none⟩ :: []))
.ret))))⟩
theorem c16_eq : compFn Try.prog 16 = some c16 := by kernel_rfl
/-- sodality/sodalityref20.Same -/
noncomputable def c17 : FnI := ⟨95, [.tmp 4],
(.seq (.reg (⟨(some 2), .box (.t 0), none⟩ :: ⟨(some 3), .box (.t 1), none⟩ :: ⟨(some 4), .mov (.c (.bool false)), none⟩ :: []))
(.seq (.seq (.reg (⟨(some 6), .faddr 0 (.t 2), none⟩ :: ⟨(some 7), .load false 1 (.t 6), none⟩ :: ⟨(some 8), .faddr 0 (.t 3), none⟩ :: ⟨(some 9), .load false 1 (.t 8), none⟩ :: ⟨(some 10), .bin .neq (.t 7) (.t 9), none⟩ :: ⟨(some 11), .mov (.t 10), none⟩ :: ⟨(some 12), .faddr 1 (.t 2), (some (11, false))⟩ :: ⟨(some 13), .load false 1 (.t 12), (some (11, false))⟩ :: ⟨(some 14), .faddr 1 (.t 3), (some (11, false))⟩ :: ⟨(some 15), .load false 1 (.t 14), (some (11, false))⟩ :: ⟨(some 16), .bin .neq (.t 13) (.t 15), (some (11, false))⟩ :: ⟨(some 17), .pick (.t 11) (.c (.bool true)) (.t 16), none⟩ :: ⟨(some 18), .mov (.t 17), none⟩ :: ⟨(some 19), .faddr 2 (.t 2), (some (18, false))⟩ :: ⟨(some 20), .load false 1 (.t 19), (some (18, false))⟩ :: ⟨(some 21), .faddr 2 (.t 3), (some (18, false))⟩ :: ⟨(some 22), .load false 1 (.t 21), (some (18, false))⟩ :: ⟨(some 23), .bin .neq (.t 20) (.t 22), (some (18, false))⟩ :: ⟨(some 24), .pick (.t 18) (.c (.bool true)) (.t 23), none⟩ :: ⟨(some 25), .mov (.t 24), none⟩ :: ⟨(some 26), .faddr 3 (.t 2), (some (25, false))⟩ :: ⟨(some 27), .load false 1 (.t 26), (some (25, false))⟩ :: ⟨(some 28), .faddr 3 (.t 3), (some (25, false))⟩ :: ⟨(some 29), .load false 1 (.t 28), (some (25, false))⟩ :: ⟨(some 30), .bin .neq (.t 27) (.t 29), (some (25, false))⟩ :: ⟨(some 31), .pick (.t 25) (.c (.bool true)) (.t 30), none⟩ :: ⟨(some 32), .mov (.t 31), none⟩ :: ⟨(some 33), .faddr 13 (.t 2), (some (32, false))⟩ :: ⟨(some 34), .load false 1 (.t 33), (some (32, false))⟩ :: ⟨(some 35), .faddr 13 (.t 3), (some (32, false))⟩ :: ⟨(some 36), .load false 1 (.t 35), (some (32, false))⟩ :: ⟨(some 37), .eq true .bool (.t 34) (.t 36), (some (32, false))⟩ :: ⟨(some 38), .pick (.t 32) (.c (.bool true)) (.t 37), none⟩ :: ⟨(some 39), .mov (.t 38), none⟩ :: ⟨(some 40), .faddr 14 (.t 2), (some (39, false))⟩ :: ⟨(some 41), .load false 1 (.t 40), (some (39, false))⟩ :: ⟨(some 42), .faddr 14 (.t 3), (some (39, false))⟩ :: ⟨(some 43), .load false 1 (.t 42), (some (39, false))⟩ :: ⟨(some 44), .bin .neq (.t 41) (.t 43), (some (39, false))⟩ :: ⟨(some 45), .pick (.t 39) (.c (.bool true)) (.t 44), none⟩ :: ⟨(some 46), .mov (.t 45), none⟩ :: ⟨(some 47), .faddr 15 (.t 2), (some (46, false))⟩ :: ⟨(some 48), .load false 1 (.t 47), (some (46, false))⟩ :: ⟨(some 49), .faddr 15 (.t 3), (some (46, false))⟩ :: ⟨(some 50), .load false 1 (.t 49), (some (46, false))⟩ :: ⟨(some 51), .bin .neq (.t 48) (.t 50), (some (46, false))⟩ :: ⟨(some 52), .pick (.t 46) (.c (.bool true)) (.t 51), none⟩ :: []))
(.cond (.t 52) (.seq (.reg (⟨(some 4), .mov (.c (.bool false)), none⟩ :: []))
.ret) .skip))
(.seq (.seq (.dreg (⟨⟨(some 53), .load true 17 (.t 2), none⟩, .load, 0, 0⟩ :: ⟨⟨(some 54), .call 26 [(.t 53)], none⟩, .loud, 1, 1⟩ :: ⟨⟨(some 55), .load true 17 (.t 3), none⟩, .load, 2, 0⟩ :: ⟨⟨(some 56), .call 26 [(.t 55)], none⟩, .loud, 3, 7⟩ :: ⟨⟨(some 57), .call 16 [(.t 54), (.t 56)], none⟩, .loud, 4, 15⟩ :: ⟨⟨(some 58), .un .not (.t 57), none⟩, .quiet, 5, 31⟩ :: ⟨⟨(some 59), .mov (.t 58), none⟩, .quiet, 6, 63⟩ :: ⟨⟨(some 60), .faddr 12 (.t 2), (some (59, false))⟩, .quiet, 7, 127⟩ :: ⟨⟨(some 61), .load false 1 (.t 60), (some (59, false))⟩, .load, 8, 255⟩ :: ⟨⟨(some 62), .faddr 12 (.t 3), (some (59, false))⟩, .quiet, 9, 127⟩ :: ⟨⟨(some 63), .load false 1 (.t 62), (some (59, false))⟩, .load, 10, 639⟩ :: ⟨⟨(some 64), .call 16 [(.t 61), (.t 63)], (some (59, false))⟩, .loud, 11, 2047⟩ :: ⟨⟨(some 65), .un .not (.t 64), (some (59, false))⟩, .quiet, 12, 4095⟩ :: ⟨⟨(some 66), .pick (.t 59) (.c (.bool true)) (.t 65), none⟩, .quiet, 13, 8191⟩ :: ⟨⟨(some 67), .mov (.t 66), none⟩, .quiet, 14, 16383⟩ :: ⟨⟨(some 68), .faddr 16 (.t 2), (some (67, false))⟩, .quiet, 15, 32767⟩ :: ⟨⟨(some 69), .load false 1 (.t 68), (some (67, false))⟩, .load, 16, 65535⟩ :: ⟨⟨(some 70), .len false (.t 69), (some (67, false))⟩, .quiet, 17, 131071⟩ :: ⟨⟨(some 71), .faddr 16 (.t 3), (some (67, false))⟩, .quiet, 18, 32767⟩ :: ⟨⟨(some 72), .load false 1 (.t 71), (some (67, false))⟩, .load, 19, 294911⟩ :: ⟨⟨(some 73), .len false (.t 72), (some (67, false))⟩, .quiet, 20, 819199⟩ :: ⟨⟨(some 74), .bin .neq (.t 70) (.t 73), (some (67, false))⟩, .quiet, 21, 2097151⟩ :: ⟨⟨(some 75), .pick (.t 67) (.c (.bool true)) (.t 74), none⟩, .quiet, 22, 4194303⟩ :: []))
(.cond (.t 75) (.seq (.reg (⟨(some 4), .mov (.c (.bool false)), none⟩ :: []))
.ret) .skip))
(.seq (.seq (.reg (⟨(some 5), .mov (.c (.int .i64 (.ofNat 0))), none⟩ :: []))
(.block 0 (.loop (.seq (.seq (.reg (⟨(some 76), .mov (.t 5), none⟩ :: ⟨(some 77), .faddr 16 (.t 2), none⟩ :: ⟨(some 78), .load false 1 (.t 77), none⟩ :: ⟨(some 79), .len false (.t 78), none⟩ :: ⟨(some 80), .bin .lss (.t 76) (.t 79), none⟩ :: []))
(.cond (.t 80) .skip (.exit 0)))
(.seq (.block 1 (.seq (.dreg (⟨⟨(some 83), .faddr 16 (.t 2), none⟩, .quiet, 0, 0⟩ :: ⟨⟨(some 84), .load false 1 (.t 83), none⟩, .load, 1, 1⟩ :: ⟨⟨(some 85), .mov (.t 5), none⟩, .quiet, 2, 0⟩ :: ⟨⟨(some 86), .idxS 17 (.t 84) (.t 85), none⟩, .quiet, 3, 7⟩ :: ⟨⟨(some 87), .load true 17 (.t 86), none⟩, .load, 4, 15⟩ :: ⟨⟨(some 88), .faddr 16 (.t 3), none⟩, .quiet, 5, 0⟩ :: ⟨⟨(some 89), .load false 1 (.t 88), none⟩, .load, 6, 32⟩ :: ⟨⟨(some 90), .mov (.t 5), none⟩, .quiet, 7, 0⟩ :: ⟨⟨(some 91), .idxS 17 (.t 89) (.t 90), none⟩, .quiet, 8, 224⟩ :: ⟨⟨(some 92), .load true 17 (.t 91), none⟩, .load, 9, 480⟩ :: ⟨⟨(some 93), .call 17 [(.t 87), (.t 92)], none⟩, .loud, 10, 1023⟩ :: ⟨⟨(some 94), .un .not (.t 93), none⟩, .quiet, 11, 2047⟩ :: []))
(.cond (.t 94) (.seq (.reg (⟨(some 4), .mov (.c (.bool false)), none⟩ :: []))
.ret) .skip)))
(.reg (⟨(some 81), .mov (.t 5), none⟩ :: ⟨(some 82), .bin .add (.t 81) (.c (.int .i64 (.ofNat 1))), none⟩ :: ⟨(some 5), .mov (.t 82), none⟩ :: [])))))))
(.seq (.reg (⟨(some 4), .mov (.c (.bool true)), none⟩ :: []))
.ret)))))⟩
theorem c17_eq : compFn Try.prog 17 = some c17 := by kernel_rfl
/-- sodality/diff.services -/
noncomputable def c18 : FnI := ⟨6, [.cell 2 true 4],
(.seq (.reg (⟨(some 1), .box (.t 0), none⟩ :: ⟨(some 2), .alloc [.nilfn, .nilfn, .nilfn, .nilfn], none⟩ :: []))
(.seq (.reg (⟨(some 3), .mkfn 30 [] [(.t 1)], none⟩ :: ⟨(some 4), .mkfn 31 [] [(.t 1)], none⟩ :: ⟨(some 5), .build [.nilfn, .nilfn, .nilfn, .nilfn] [(0, 1, (.c (.fn (.func 27) [] []))), (1, 1, (.c (.fn (.func 28) [] []))), (2, 1, (.t 3)), (3, 1, (.t 4))], none⟩ :: ⟨none, .store 4 (.t 2) (.t 5), none⟩ :: []))
.ret))⟩
theorem c18_eq : compFn Try.prog 18 = some c18 := by kernel_rfl
/-- sodality/diff.checks -/
noncomputable def c19 : FnI := ⟨6, [.cell 2 true 4],
(.seq (.reg (⟨(some 1), .box (.t 0), none⟩ :: ⟨(some 2), .alloc [.nilfn, .nilfn, .nilfn, .nilfn], none⟩ :: []))
(.seq (.reg (⟨(some 3), .mkfn 35 [] [(.t 1)], none⟩ :: ⟨(some 4), .mkfn 36 [] [(.t 1)], none⟩ :: ⟨(some 5), .build [.nilfn, .nilfn, .nilfn, .nilfn] [(0, 1, (.c (.fn (.func 33) [] []))), (1, 1, (.c (.fn (.func 34) [] []))), (2, 1, (.t 3)), (3, 1, (.t 4))], none⟩ :: ⟨none, .store 4 (.t 2) (.t 5), none⟩ :: []))
.ret))⟩
theorem c19_eq : compFn Try.prog 19 = some c19 := by kernel_rfl
/-- sodality/diff.drops[sodality/api.Check] -/
noncomputable def c20 : FnI := ⟨45, [.tmp 6],
(.seq (.reg (⟨(some 5), .box (.t 2), none⟩ :: ⟨(some 6), .mov (.c .nilsl), none⟩ :: []))
(.seq (.reg (⟨(some 13), .mov (.t 0), none⟩ :: ⟨(some 14), .load true 4 (.t 5), none⟩ :: ⟨(some 15), .call 37 [(.t 13), (.t 14)], none⟩ :: ⟨(some 7), .mov (.t 15), none⟩ :: []))
(.seq (.reg (⟨(some 8), .mov (.c .nilsl), none⟩ :: []))
(.seq (.seq (.reg (⟨(some 16), .mov (.t 1), none⟩ :: ⟨(some 17), .len false (.t 16), none⟩ :: ⟨(some 18), .mov (.c (.int .i64 (.ofNat 0))), none⟩ :: []))
(.block 0 (.loop (.seq (.reg (⟨(some 19), .bin .lss (.t 18) (.t 17), none⟩ :: []))
(.seq (.cond (.t 19) .skip (.exit 0))
(.seq (.block 1 (.seq (.reg (⟨(some 20), .idxS 7 (.t 16) (.t 18), none⟩ :: ⟨(some 21), .load true 7 (.t 20), none⟩ :: ⟨(some 10), .alloc [(.int .i64 (.ofNat 0)), (.str []), (.str []), (.str []), (.int .i64 (.ofNat 0)), (.int .u64 (.ofNat 0)), (.int .u64 (.ofNat 0))], none⟩ :: ⟨none, .store 7 (.t 10) (.t 21), none⟩ :: []))
(.seq (.reg (⟨(some 23), .mov (.t 7), none⟩ :: ⟨(some 24), .faddr 0 (.t 5), none⟩ :: ⟨(some 25), .load false 1 (.t 24), none⟩ :: ⟨(some 26), .load true 7 (.t 10), none⟩ :: ⟨(some 27), .callv (.t 25) [(.t 26)], none⟩ :: ⟨(some 28), .lookup true .str (.agg [(.int .i64 (.ofNat 0)), (.str []), (.str []), (.str []), (.int .i64 (.ofNat 0)), (.int .u64 (.ofNat 0)), (.int .u64 (.ofNat 0))]) (.t 23) (.t 27), none⟩ :: ⟨(some 22), .mov (.t 28), none⟩ :: ⟨(some 29), .extract (.t 22) 0, none⟩ :: ⟨(some 30), .extract (.t 22) 1, none⟩ :: ⟨(some 11), .alloc [(.int .i64 (.ofNat 0)), (.str []), (.str []), (.str []), (.int .i64 (.ofNat 0)), (.int .u64 (.ofNat 0)), (.int .u64 (.ofNat 0))], none⟩ :: ⟨none, .store 7 (.t 11) (.t 29), none⟩ :: ⟨(some 12), .mov (.t 30), none⟩ :: []))
(.seq (.reg (⟨(some 31), .mov (.t 12), none⟩ :: ⟨(some 32), .un .not (.t 31), none⟩ :: []))
(.cond (.t 32) (.dreg (⟨⟨(some 36), .faddr 0 (.t 5), none⟩, .quiet, 3, 0⟩ :: ⟨⟨(some 37), .load false 1 (.t 36), none⟩, .load, 4, 8⟩ :: ⟨⟨(some 38), .load true 7 (.t 10), none⟩, .load, 5, 0⟩ :: ⟨⟨(some 39), .callv (.t 37) [(.t 38)], none⟩, .loud, 6, 56⟩ :: ⟨⟨(some 34), .faddr 2 (.t 5), none⟩, .quiet, 1, 0⟩ :: ⟨⟨(some 35), .load false 1 (.t 34), none⟩, .load, 2, 2⟩ :: ⟨⟨(some 40), .callv (.t 35) [(.t 39)], none⟩, .loud, 7, 126⟩ :: ⟨⟨(some 33), .mov (.t 8), none⟩, .quiet, 0, 0⟩ :: ⟨⟨(some 41), .buildSl 17 1 [(.int .i64 (.ofNat 0)), (.int .i64 (.ofNat 0)), (.int .i64 (.ofNat 0)), (.int .i64 (.ofNat 0)), (.str []), (.str []), (.str []), (.str []), (.str []), (.str []), (.str []), (.str []), .nilsl, (.bool false), (.int .u64 (.ofNat 0)), (.int .u64 (.ofNat 0)), .nilsl] [(0, 17, (.t 40))], none⟩, .quiet, 8, 254⟩ :: ⟨⟨(some 42), .append 17 232 (.t 33) (.t 41), none⟩, .loud, 9, 511⟩ :: ⟨⟨(some 8), .mov (.t 42), none⟩, .quiet, 10, 1023⟩ :: [])) .skip)))))
(.reg (⟨(some 43), .bin .add (.t 18) (.c (.int .i64 (.ofNat 1))), none⟩ :: ⟨(some 18), .mov (.t 43), none⟩ :: []))))))))
(.seq (.reg (⟨(some 44), .mov (.t 8), none⟩ :: ⟨(some 6), .mov (.t 44), none⟩ :: []))
.ret)))))⟩
theorem c20_eq : compFn Try.prog 20 = some c20 := by kernel_rfl
/-- sodality/diff.drops[sodality/api.Service] -/
noncomputable def c21 : FnI := ⟨45, [.tmp 6],
(.seq (.reg (⟨(some 5), .box (.t 2), none⟩ :: ⟨(some 6), .mov (.c .nilsl), none⟩ :: []))
(.seq (.reg (⟨(some 13), .mov (.t 0), none⟩ :: ⟨(some 14), .load true 4 (.t 5), none⟩ :: ⟨(some 15), .call 38 [(.t 13), (.t 14)], none⟩ :: ⟨(some 7), .mov (.t 15), none⟩ :: []))
(.seq (.reg (⟨(some 8), .mov (.c .nilsl), none⟩ :: []))
(.seq (.seq (.reg (⟨(some 16), .mov (.t 1), none⟩ :: ⟨(some 17), .len false (.t 16), none⟩ :: ⟨(some 18), .mov (.c (.int .i64 (.ofNat 0))), none⟩ :: []))
(.block 0 (.loop (.seq (.reg (⟨(some 19), .bin .lss (.t 18) (.t 17), none⟩ :: []))
(.seq (.cond (.t 19) .skip (.exit 0))
(.seq (.block 1 (.seq (.reg (⟨(some 20), .idxS 7 (.t 16) (.t 18), none⟩ :: ⟨(some 21), .load true 7 (.t 20), none⟩ :: ⟨(some 10), .alloc [(.int .i64 (.ofNat 0)), (.str []), (.str []), .nilsl, (.int .i64 (.ofNat 0)), (.int .u64 (.ofNat 0)), (.int .u64 (.ofNat 0))], none⟩ :: ⟨none, .store 7 (.t 10) (.t 21), none⟩ :: []))
(.seq (.reg (⟨(some 23), .mov (.t 7), none⟩ :: ⟨(some 24), .faddr 0 (.t 5), none⟩ :: ⟨(some 25), .load false 1 (.t 24), none⟩ :: ⟨(some 26), .load true 7 (.t 10), none⟩ :: ⟨(some 27), .callv (.t 25) [(.t 26)], none⟩ :: ⟨(some 28), .lookup true .str (.agg [(.int .i64 (.ofNat 0)), (.str []), (.str []), .nilsl, (.int .i64 (.ofNat 0)), (.int .u64 (.ofNat 0)), (.int .u64 (.ofNat 0))]) (.t 23) (.t 27), none⟩ :: ⟨(some 22), .mov (.t 28), none⟩ :: ⟨(some 29), .extract (.t 22) 0, none⟩ :: ⟨(some 30), .extract (.t 22) 1, none⟩ :: ⟨(some 11), .alloc [(.int .i64 (.ofNat 0)), (.str []), (.str []), .nilsl, (.int .i64 (.ofNat 0)), (.int .u64 (.ofNat 0)), (.int .u64 (.ofNat 0))], none⟩ :: ⟨none, .store 7 (.t 11) (.t 29), none⟩ :: ⟨(some 12), .mov (.t 30), none⟩ :: []))
(.seq (.reg (⟨(some 31), .mov (.t 12), none⟩ :: ⟨(some 32), .un .not (.t 31), none⟩ :: []))
(.cond (.t 32) (.dreg (⟨⟨(some 36), .faddr 0 (.t 5), none⟩, .quiet, 3, 0⟩ :: ⟨⟨(some 37), .load false 1 (.t 36), none⟩, .load, 4, 8⟩ :: ⟨⟨(some 38), .load true 7 (.t 10), none⟩, .load, 5, 0⟩ :: ⟨⟨(some 39), .callv (.t 37) [(.t 38)], none⟩, .loud, 6, 56⟩ :: ⟨⟨(some 34), .faddr 2 (.t 5), none⟩, .quiet, 1, 0⟩ :: ⟨⟨(some 35), .load false 1 (.t 34), none⟩, .load, 2, 2⟩ :: ⟨⟨(some 40), .callv (.t 35) [(.t 39)], none⟩, .loud, 7, 126⟩ :: ⟨⟨(some 33), .mov (.t 8), none⟩, .quiet, 0, 0⟩ :: ⟨⟨(some 41), .buildSl 17 1 [(.int .i64 (.ofNat 0)), (.int .i64 (.ofNat 0)), (.int .i64 (.ofNat 0)), (.int .i64 (.ofNat 0)), (.str []), (.str []), (.str []), (.str []), (.str []), (.str []), (.str []), (.str []), .nilsl, (.bool false), (.int .u64 (.ofNat 0)), (.int .u64 (.ofNat 0)), .nilsl] [(0, 17, (.t 40))], none⟩, .quiet, 8, 254⟩ :: ⟨⟨(some 42), .append 17 232 (.t 33) (.t 41), none⟩, .loud, 9, 511⟩ :: ⟨⟨(some 8), .mov (.t 42), none⟩, .quiet, 10, 1023⟩ :: [])) .skip)))))
(.reg (⟨(some 43), .bin .add (.t 18) (.c (.int .i64 (.ofNat 1))), none⟩ :: ⟨(some 18), .mov (.t 43), none⟩ :: []))))))))
(.seq (.reg (⟨(some 44), .mov (.t 8), none⟩ :: ⟨(some 6), .mov (.t 44), none⟩ :: []))
.ret)))))⟩
theorem c21_eq : compFn Try.prog 21 = some c21 := by kernel_rfl
/-- sodality/diff.lays[sodality/api.Service] -/
noncomputable def c22 : FnI := ⟨50, [.tmp 6],
(.seq (.reg (⟨(some 5), .box (.t 2), none⟩ :: ⟨(some 6), .mov (.c .nilsl), none⟩ :: []))
(.seq (.reg (⟨(some 13), .mov (.t 1), none⟩ :: ⟨(some 14), .load true 4 (.t 5), none⟩ :: ⟨(some 15), .call 38 [(.t 13), (.t 14)], none⟩ :: ⟨(some 7), .mov (.t 15), none⟩ :: []))
(.seq (.reg (⟨(some 8), .mov (.c .nilsl), none⟩ :: []))
(.seq (.seq (.reg (⟨(some 16), .mov (.t 0), none⟩ :: ⟨(some 17), .len false (.t 16), none⟩ :: ⟨(some 18), .mov (.c (.int .i64 (.ofNat 0))), none⟩ :: []))
(.block 0 (.loop (.seq (.reg (⟨(some 19), .bin .lss (.t 18) (.t 17), none⟩ :: []))
(.seq (.cond (.t 19) .skip (.exit 0))
(.seq (.block 1 (.seq (.reg (⟨(some 20), .idxS 7 (.t 16) (.t 18), none⟩ :: ⟨(some 21), .load true 7 (.t 20), none⟩ :: ⟨(some 10), .alloc [(.int .i64 (.ofNat 0)), (.str []), (.str []), .nilsl, (.int .i64 (.ofNat 0)), (.int .u64 (.ofNat 0)), (.int .u64 (.ofNat 0))], none⟩ :: ⟨none, .store 7 (.t 10) (.t 21), none⟩ :: []))
(.seq (.reg (⟨(some 23), .mov (.t 7), none⟩ :: ⟨(some 24), .faddr 0 (.t 5), none⟩ :: ⟨(some 25), .load false 1 (.t 24), none⟩ :: ⟨(some 26), .load true 7 (.t 10), none⟩ :: ⟨(some 27), .callv (.t 25) [(.t 26)], none⟩ :: ⟨(some 28), .lookup true .str (.agg [(.int .i64 (.ofNat 0)), (.str []), (.str []), .nilsl, (.int .i64 (.ofNat 0)), (.int .u64 (.ofNat 0)), (.int .u64 (.ofNat 0))]) (.t 23) (.t 27), none⟩ :: ⟨(some 22), .mov (.t 28), none⟩ :: ⟨(some 29), .extract (.t 22) 0, none⟩ :: ⟨(some 30), .extract (.t 22) 1, none⟩ :: ⟨(some 11), .alloc [(.int .i64 (.ofNat 0)), (.str []), (.str []), .nilsl, (.int .i64 (.ofNat 0)), (.int .u64 (.ofNat 0)), (.int .u64 (.ofNat 0))], none⟩ :: ⟨none, .store 7 (.t 11) (.t 29), none⟩ :: ⟨(some 12), .mov (.t 30), none⟩ :: []))
(.seq (.reg (⟨(some 31), .mov (.t 12), none⟩ :: ⟨(some 32), .un .not (.t 31), none⟩ :: ⟨(some 33), .mov (.t 32), none⟩ :: ⟨(some 34), .faddr 1 (.t 5), (some (33, false))⟩ :: ⟨(some 35), .load false 1 (.t 34), (some (33, false))⟩ :: ⟨(some 36), .load true 7 (.t 10), (some (33, false))⟩ :: ⟨(some 37), .load true 7 (.t 11), (some (33, false))⟩ :: ⟨(some 38), .callv (.t 35) [(.t 36), (.t 37)], (some (33, false))⟩ :: ⟨(some 39), .un .not (.t 38), (some (33, false))⟩ :: ⟨(some 40), .pick (.t 33) (.c (.bool true)) (.t 39), none⟩ :: []))
(.cond (.t 40) (.reg (⟨(some 41), .mov (.t 8), none⟩ :: ⟨(some 42), .faddr 3 (.t 5), none⟩ :: ⟨(some 43), .load false 1 (.t 42), none⟩ :: ⟨(some 44), .load true 7 (.t 10), none⟩ :: ⟨(some 45), .callv (.t 43) [(.t 44)], none⟩ :: ⟨(some 46), .buildSl 17 1 [(.int .i64 (.ofNat 0)), (.int .i64 (.ofNat 0)), (.int .i64 (.ofNat 0)), (.int .i64 (.ofNat 0)), (.str []), (.str []), (.str []), (.str []), (.str []), (.str []), (.str []), (.str []), .nilsl, (.bool false), (.int .u64 (.ofNat 0)), (.int .u64 (.ofNat 0)), .nilsl] [(0, 17, (.t 45))], none⟩ :: ⟨(some 47), .append 17 232 (.t 41) (.t 46), none⟩ :: ⟨(some 8), .mov (.t 47), none⟩ :: [])) .skip)))))
(.reg (⟨(some 48), .bin .add (.t 18) (.c (.int .i64 (.ofNat 1))), none⟩ :: ⟨(some 18), .mov (.t 48), none⟩ :: []))))))))
(.seq (.reg (⟨(some 49), .mov (.t 8), none⟩ :: ⟨(some 6), .mov (.t 49), none⟩ :: []))
.ret)))))⟩
theorem c22_eq : compFn Try.prog 22 = some c22 := by kernel_rfl
/-- sodality/diff.lays[sodality/api.Check] -/
noncomputable def c23 : FnI := ⟨50, [.tmp 6],
(.seq (.reg (⟨(some 5), .box (.t 2), none⟩ :: ⟨(some 6), .mov (.c .nilsl), none⟩ :: []))
(.seq (.reg (⟨(some 13), .mov (.t 1), none⟩ :: ⟨(some 14), .load true 4 (.t 5), none⟩ :: ⟨(some 15), .call 37 [(.t 13), (.t 14)], none⟩ :: ⟨(some 7), .mov (.t 15), none⟩ :: []))
(.seq (.reg (⟨(some 8), .mov (.c .nilsl), none⟩ :: []))
(.seq (.seq (.reg (⟨(some 16), .mov (.t 0), none⟩ :: ⟨(some 17), .len false (.t 16), none⟩ :: ⟨(some 18), .mov (.c (.int .i64 (.ofNat 0))), none⟩ :: []))
(.block 0 (.loop (.seq (.reg (⟨(some 19), .bin .lss (.t 18) (.t 17), none⟩ :: []))
(.seq (.cond (.t 19) .skip (.exit 0))
(.seq (.block 1 (.seq (.reg (⟨(some 20), .idxS 7 (.t 16) (.t 18), none⟩ :: ⟨(some 21), .load true 7 (.t 20), none⟩ :: ⟨(some 10), .alloc [(.int .i64 (.ofNat 0)), (.str []), (.str []), (.str []), (.int .i64 (.ofNat 0)), (.int .u64 (.ofNat 0)), (.int .u64 (.ofNat 0))], none⟩ :: ⟨none, .store 7 (.t 10) (.t 21), none⟩ :: []))
(.seq (.reg (⟨(some 23), .mov (.t 7), none⟩ :: ⟨(some 24), .faddr 0 (.t 5), none⟩ :: ⟨(some 25), .load false 1 (.t 24), none⟩ :: ⟨(some 26), .load true 7 (.t 10), none⟩ :: ⟨(some 27), .callv (.t 25) [(.t 26)], none⟩ :: ⟨(some 28), .lookup true .str (.agg [(.int .i64 (.ofNat 0)), (.str []), (.str []), (.str []), (.int .i64 (.ofNat 0)), (.int .u64 (.ofNat 0)), (.int .u64 (.ofNat 0))]) (.t 23) (.t 27), none⟩ :: ⟨(some 22), .mov (.t 28), none⟩ :: ⟨(some 29), .extract (.t 22) 0, none⟩ :: ⟨(some 30), .extract (.t 22) 1, none⟩ :: ⟨(some 11), .alloc [(.int .i64 (.ofNat 0)), (.str []), (.str []), (.str []), (.int .i64 (.ofNat 0)), (.int .u64 (.ofNat 0)), (.int .u64 (.ofNat 0))], none⟩ :: ⟨none, .store 7 (.t 11) (.t 29), none⟩ :: ⟨(some 12), .mov (.t 30), none⟩ :: []))
(.seq (.reg (⟨(some 31), .mov (.t 12), none⟩ :: ⟨(some 32), .un .not (.t 31), none⟩ :: ⟨(some 33), .mov (.t 32), none⟩ :: ⟨(some 34), .faddr 1 (.t 5), (some (33, false))⟩ :: ⟨(some 35), .load false 1 (.t 34), (some (33, false))⟩ :: ⟨(some 36), .load true 7 (.t 10), (some (33, false))⟩ :: ⟨(some 37), .load true 7 (.t 11), (some (33, false))⟩ :: ⟨(some 38), .callv (.t 35) [(.t 36), (.t 37)], (some (33, false))⟩ :: ⟨(some 39), .un .not (.t 38), (some (33, false))⟩ :: ⟨(some 40), .pick (.t 33) (.c (.bool true)) (.t 39), none⟩ :: []))
(.cond (.t 40) (.reg (⟨(some 41), .mov (.t 8), none⟩ :: ⟨(some 42), .faddr 3 (.t 5), none⟩ :: ⟨(some 43), .load false 1 (.t 42), none⟩ :: ⟨(some 44), .load true 7 (.t 10), none⟩ :: ⟨(some 45), .callv (.t 43) [(.t 44)], none⟩ :: ⟨(some 46), .buildSl 17 1 [(.int .i64 (.ofNat 0)), (.int .i64 (.ofNat 0)), (.int .i64 (.ofNat 0)), (.int .i64 (.ofNat 0)), (.str []), (.str []), (.str []), (.str []), (.str []), (.str []), (.str []), (.str []), .nilsl, (.bool false), (.int .u64 (.ofNat 0)), (.int .u64 (.ofNat 0)), .nilsl] [(0, 17, (.t 45))], none⟩ :: ⟨(some 47), .append 17 232 (.t 41) (.t 46), none⟩ :: ⟨(some 8), .mov (.t 47), none⟩ :: [])) .skip)))))
(.reg (⟨(some 48), .bin .add (.t 18) (.c (.int .i64 (.ofNat 1))), none⟩ :: ⟨(some 18), .mov (.t 48), none⟩ :: []))))))))
(.seq (.reg (⟨(some 49), .mov (.t 8), none⟩ :: ⟨(some 6), .mov (.t 49), none⟩ :: []))
.ret)))))⟩
theorem c23_eq : compFn Try.prog 23 = some c23 := by kernel_rfl
/-- sodality/sodalityref20.texts -/
noncomputable def c26 : FnI := ⟨20, [.tmp 2],
(.seq (.reg (⟨(some 1), .box (.t 0), none⟩ :: ⟨(some 2), .mov (.c .nilsl), none⟩ :: []))
(.seq (.reg (⟨(some 3), .faddr 4 (.t 1), none⟩ :: ⟨(some 4), .load false 1 (.t 3), none⟩ :: ⟨(some 5), .faddr 5 (.t 1), none⟩ :: ⟨(some 6), .load false 1 (.t 5), none⟩ :: ⟨(some 7), .faddr 6 (.t 1), none⟩ :: ⟨(some 8), .load false 1 (.t 7), none⟩ :: ⟨(some 9), .faddr 7 (.t 1), none⟩ :: ⟨(some 10), .load false 1 (.t 9), none⟩ :: ⟨(some 11), .faddr 8 (.t 1), none⟩ :: ⟨(some 12), .load false 1 (.t 11), none⟩ :: ⟨(some 13), .faddr 9 (.t 1), none⟩ :: ⟨(some 14), .load false 1 (.t 13), none⟩ :: ⟨(some 15), .faddr 10 (.t 1), none⟩ :: ⟨(some 16), .load false 1 (.t 15), none⟩ :: ⟨(some 17), .faddr 11 (.t 1), none⟩ :: ⟨(some 18), .load false 1 (.t 17), none⟩ :: ⟨(some 19), .buildSl 1 8 [(.str []), (.str []), (.str []), (.str []), (.str []), (.str []), (.str []), (.str [])] [(0, 1, (.t 4)), (1, 1, (.t 6)), (2, 1, (.t 8)), (3, 1, (.t 10)), (4, 1, (.t 12)), (5, 1, (.t 14)), (6, 1, (.t 16)), (7, 1, (.t 18))], none⟩ :: ⟨(some 2), .mov (.t 19), none⟩ :: []))
.ret))⟩
theorem c26_eq : compFn Try.prog 26 = some c26 := by kernel_rfl
/-- sodality/diff.services$1 -/
noncomputable def c27 : FnI := ⟨5, [.tmp 2],
(.seq (.reg (⟨(some 1), .box (.t 0), none⟩ :: ⟨(some 2), .mov (.c (.str [])), none⟩ :: []))
(.seq (.reg (⟨(some 3), .faddr 1 (.t 1), none⟩ :: ⟨(some 4), .load false 1 (.t 3), none⟩ :: ⟨(some 2), .mov (.t 4), none⟩ :: []))
.ret))⟩
theorem c27_eq : compFn Try.prog 27 = some c27 := by kernel_rfl
/-- sodality/diff.services$2 -/
noncomputable def c28 : FnI := ⟨24, [.tmp 4],
(.seq (.reg (⟨(some 2), .box (.t 0), none⟩ :: ⟨(some 3), .box (.t 1), none⟩ :: ⟨(some 4), .mov (.c (.bool false)), none⟩ :: []))
(.seq (.reg (⟨(some 5), .faddr 2 (.t 2), none⟩ :: ⟨(some 6), .load false 1 (.t 5), none⟩ :: ⟨(some 7), .faddr 2 (.t 3), none⟩ :: ⟨(some 8), .load false 1 (.t 7), none⟩ :: ⟨(some 9), .bin .eql (.t 6) (.t 8), none⟩ :: ⟨(some 10), .mov (.t 9), none⟩ :: ⟨(some 11), .faddr 3 (.t 2), (some (10, true))⟩ :: ⟨(some 12), .load false 1 (.t 11), (some (10, true))⟩ :: ⟨(some 13), .faddr 3 (.t 3), (some (10, true))⟩ :: ⟨(some 14), .load false 1 (.t 13), (some (10, true))⟩ :: ⟨(some 15), .call 29 [(.t 12), (.t 14)], (some (10, true))⟩ :: ⟨(some 16), .pick (.t 10) (.t 15) (.c (.bool false)), none⟩ :: ⟨(some 17), .mov (.t 16), none⟩ :: ⟨(some 18), .faddr 4 (.t 2), (some (17, true))⟩ :: ⟨(some 19), .load false 1 (.t 18), (some (17, true))⟩ :: ⟨(some 20), .faddr 4 (.t 3), (some (17, true))⟩ :: ⟨(some 21), .load false 1 (.t 20), (some (17, true))⟩ :: ⟨(some 22), .bin .eql (.t 19) (.t 21), (some (17, true))⟩ :: ⟨(some 23), .pick (.t 17) (.t 22) (.c (.bool false)), none⟩ :: ⟨(some 4), .mov (.t 23), none⟩ :: []))
.ret))⟩
theorem c28_eq : compFn Try.prog 28 = some c28 := by kernel_rfl
/-- slices.Equal[[]string,string] -/
noncomputable def c29 : FnI := ⟨26, [.tmp 4],
(.seq (.reg (⟨(some 4), .mov (.c (.bool false)), none⟩ :: []))
(.seq (.seq (.reg (⟨(some 6), .mov (.t 0), none⟩ :: ⟨(some 7), .len false (.t 6), none⟩ :: ⟨(some 8), .mov (.t 1), none⟩ :: ⟨(some 9), .len false (.t 8), none⟩ :: ⟨(some 10), .bin .neq (.t 7) (.t 9), none⟩ :: []))
(.cond (.t 10) (.seq (.reg (⟨(some 4), .mov (.c (.bool false)), none⟩ :: []))
.ret) .skip))
(.seq (.seq (.reg (⟨(some 11), .mov (.t 0), none⟩ :: ⟨(some 12), .len false (.t 11), none⟩ :: ⟨(some 13), .mov (.c (.int .i64 (.ofNat 0))), none⟩ :: []))
(.block 0 (.loop (.seq (.reg (⟨(some 14), .bin .lss (.t 13) (.t 12), none⟩ :: []))
(.seq (.cond (.t 14) .skip (.exit 0))
(.seq (.block 1 (.seq (.reg (⟨(some 15), .mov (.t 13), none⟩ :: ⟨(some 5), .mov (.t 15), none⟩ :: []))
(.seq (.dreg (⟨⟨(some 16), .mov (.t 0), none⟩, .quiet, 0, 0⟩ :: ⟨⟨(some 17), .mov (.t 5), none⟩, .quiet, 1, 0⟩ :: ⟨⟨(some 18), .idxS 1 (.t 16) (.t 17), none⟩, .quiet, 2, 3⟩ :: ⟨⟨(some 19), .load false 1 (.t 18), none⟩, .load, 3, 7⟩ :: ⟨⟨(some 20), .mov (.t 1), none⟩, .quiet, 4, 0⟩ :: ⟨⟨(some 21), .mov (.t 5), none⟩, .quiet, 5, 0⟩ :: ⟨⟨(some 22), .idxS 1 (.t 20) (.t 21), none⟩, .quiet, 6, 48⟩ :: ⟨⟨(some 23), .load false 1 (.t 22), none⟩, .load, 7, 112⟩ :: ⟨⟨(some 24), .bin .neq (.t 19) (.t 23), none⟩, .quiet, 8, 255⟩ :: []))
(.cond (.t 24) (.seq (.reg (⟨(some 4), .mov (.c (.bool false)), none⟩ :: []))
.ret) .skip))))
(.reg (⟨(some 25), .bin .add (.t 13) (.c (.int .i64 (.ofNat 1))), none⟩ :: ⟨(some 13), .mov (.t 25), none⟩ :: []))))))))
(.seq (.reg (⟨(some 4), .mov (.c (.bool true)), none⟩ :: []))
.ret))))⟩
theorem c29_eq : compFn Try.prog 29 = some c29 := by kernel_rfl
/-- sodality/diff.services$3 -/
noncomputable def c30 : FnI := ⟨7, [.cell 3 true 17],
(.seq (.reg (⟨(some 3), .alloc [(.int .i64 (.ofNat 0)), (.int .i64 (.ofNat 0)), (.int .i64 (.ofNat 0)), (.int .i64 (.ofNat 0)), (.str []), (.str []), (.str []), (.str []), (.str []), (.str []), (.str []), (.str []), .nilsl, (.bool false), (.int .u64 (.ofNat 0)), (.int .u64 (.ofNat 0)), .nilsl], none⟩ :: []))
(.seq (.reg (⟨(some 4), .load false 1 (.t 1), none⟩ :: ⟨(some 5), .mov (.t 0), none⟩ :: ⟨(some 6), .build [(.int .i64 (.ofNat 0)), (.int .i64 (.ofNat 0)), (.int .i64 (.ofNat 0)), (.int .i64 (.ofNat 0)), (.str []), (.str []), (.str []), (.str []), (.str []), (.str []), (.str []), (.str []), .nilsl, (.bool false), (.int .u64 (.ofNat 0)), (.int .u64 (.ofNat 0)), .nilsl] [(0, 1, (.c (.int .i64 (.ofNat 4)))), (1, 1, (.t 4)), (4, 1, (.t 5))], none⟩ :: ⟨none, .store 17 (.t 3) (.t 6), none⟩ :: []))
.ret))⟩
theorem c30_eq : compFn Try.prog 30 = some c30 := by kernel_rfl
/-- sodality/diff.services$4 -/
noncomputable def c31 : FnI := ⟨15, [.cell 3 true 17],
(.seq (.reg (⟨(some 2), .box (.t 0), none⟩ :: ⟨(some 3), .alloc [(.int .i64 (.ofNat 0)), (.int .i64 (.ofNat 0)), (.int .i64 (.ofNat 0)), (.int .i64 (.ofNat 0)), (.str []), (.str []), (.str []), (.str []), (.str []), (.str []), (.str []), (.str []), .nilsl, (.bool false), (.int .u64 (.ofNat 0)), (.int .u64 (.ofNat 0)), .nilsl], none⟩ :: []))
(.seq (.dreg (⟨⟨(some 9), .faddr 3 (.t 2), none⟩, .quiet, 5, 0⟩ :: ⟨⟨(some 10), .load false 1 (.t 9), none⟩, .load, 6, 32⟩ :: ⟨⟨(some 11), .call 32 [(.t 10)], none⟩, .loud, 7, 96⟩ :: ⟨⟨(some 4), .load false 1 (.t 1), none⟩, .load, 0, 0⟩ :: ⟨⟨(some 5), .faddr 1 (.t 2), none⟩, .quiet, 1, 0⟩ :: ⟨⟨(some 6), .load false 1 (.t 5), none⟩, .load, 2, 2⟩ :: ⟨⟨(some 7), .faddr 2 (.t 2), none⟩, .quiet, 3, 0⟩ :: ⟨⟨(some 8), .load false 1 (.t 7), none⟩, .load, 4, 8⟩ :: ⟨⟨(some 12), .faddr 4 (.t 2), none⟩, .quiet, 8, 0⟩ :: ⟨⟨(some 13), .load false 1 (.t 12), none⟩, .load, 9, 256⟩ :: ⟨⟨(some 14), .build [(.int .i64 (.ofNat 0)), (.int .i64 (.ofNat 0)), (.int .i64 (.ofNat 0)), (.int .i64 (.ofNat 0)), (.str []), (.str []), (.str []), (.str []), (.str []), (.str []), (.str []), (.str []), .nilsl, (.bool false), (.int .u64 (.ofNat 0)), (.int .u64 (.ofNat 0)), .nilsl] [(0, 1, (.c (.int .i64 (.ofNat 3)))), (1, 1, (.t 4)), (4, 1, (.t 6)), (5, 1, (.t 8)), (12, 1, (.t 11)), (2, 1, (.t 13))], none⟩, .quiet, 10, 1023⟩ :: ⟨⟨none, .store 17 (.t 3) (.t 14), none⟩, .loud, 11, 2047⟩ :: []))
.ret))⟩
theorem c31_eq : compFn Try.prog 31 = some c31 := by kernel_rfl
/-- slices.Clone[[]string,string] -/
noncomputable def c32 : FnI := ⟨8, [.tmp 2],
(.seq (.reg (⟨(some 2), .mov (.c .nilsl), none⟩ :: []))
(.seq (.seq (.reg (⟨(some 3), .mov (.t 0), none⟩ :: ⟨(some 4), .eq false .sl (.t 3) (.c .nilsl), none⟩ :: []))
(.cond (.t 4) (.seq (.reg (⟨(some 2), .mov (.c .nilsl), none⟩ :: []))
.ret) .skip))
(.seq (.reg (⟨(some 5), .buildSl 1 0 [] [], none⟩ :: ⟨(some 6), .mov (.t 0), none⟩ :: ⟨(some 7), .append 1 16 (.t 5) (.t 6), none⟩ :: ⟨(some 2), .mov (.t 7), none⟩ :: []))
.ret)))⟩
theorem c32_eq : compFn Try.prog 32 = some c32 := by kernel_rfl
/-- sodality/diff.checks$1 -/
noncomputable def c33 : FnI := ⟨5, [.tmp 2],
(.seq (.reg (⟨(some 1), .box (.t 0), none⟩ :: ⟨(some 2), .mov (.c (.str [])), none⟩ :: []))
(.seq (.reg (⟨(some 3), .faddr 1 (.t 1), none⟩ :: ⟨(some 4), .load false 1 (.t 3), none⟩ :: ⟨(some 2), .mov (.t 4), none⟩ :: []))
.ret))⟩
theorem c33_eq : compFn Try.prog 33 = some c33 := by kernel_rfl
/-- sodality/diff.checks$2 -/
noncomputable def c34 : FnI := ⟨24, [.tmp 4],
(.seq (.reg (⟨(some 2), .box (.t 0), none⟩ :: ⟨(some 3), .box (.t 1), none⟩ :: ⟨(some 4), .mov (.c (.bool false)), none⟩ :: []))
(.seq (.reg (⟨(some 5), .faddr 2 (.t 2), none⟩ :: ⟨(some 6), .load false 1 (.t 5), none⟩ :: ⟨(some 7), .faddr 2 (.t 3), none⟩ :: ⟨(some 8), .load false 1 (.t 7), none⟩ :: ⟨(some 9), .bin .eql (.t 6) (.t 8), none⟩ :: ⟨(some 10), .mov (.t 9), none⟩ :: ⟨(some 11), .faddr 3 (.t 2), (some (10, true))⟩ :: ⟨(some 12), .load false 1 (.t 11), (some (10, true))⟩ :: ⟨(some 13), .faddr 3 (.t 3), (some (10, true))⟩ :: ⟨(some 14), .load false 1 (.t 13), (some (10, true))⟩ :: ⟨(some 15), .bin .eql (.t 12) (.t 14), (some (10, true))⟩ :: ⟨(some 16), .pick (.t 10) (.t 15) (.c (.bool false)), none⟩ :: ⟨(some 17), .mov (.t 16), none⟩ :: ⟨(some 18), .faddr 4 (.t 2), (some (17, true))⟩ :: ⟨(some 19), .load false 1 (.t 18), (some (17, true))⟩ :: ⟨(some 20), .faddr 4 (.t 3), (some (17, true))⟩ :: ⟨(some 21), .load false 1 (.t 20), (some (17, true))⟩ :: ⟨(some 22), .bin .eql (.t 19) (.t 21), (some (17, true))⟩ :: ⟨(some 23), .pick (.t 17) (.t 22) (.c (.bool false)), none⟩ :: ⟨(some 4), .mov (.t 23), none⟩ :: []))
.ret))⟩
theorem c34_eq : compFn Try.prog 34 = some c34 := by kernel_rfl
/-- sodality/diff.checks$3 -/
noncomputable def c35 : FnI := ⟨7, [.cell 3 true 17],
(.seq (.reg (⟨(some 3), .alloc [(.int .i64 (.ofNat 0)), (.int .i64 (.ofNat 0)), (.int .i64 (.ofNat 0)), (.int .i64 (.ofNat 0)), (.str []), (.str []), (.str []), (.str []), (.str []), (.str []), (.str []), (.str []), .nilsl, (.bool false), (.int .u64 (.ofNat 0)), (.int .u64 (.ofNat 0)), .nilsl], none⟩ :: []))
(.seq (.reg (⟨(some 4), .load false 1 (.t 1), none⟩ :: ⟨(some 5), .mov (.t 0), none⟩ :: ⟨(some 6), .build [(.int .i64 (.ofNat 0)), (.int .i64 (.ofNat 0)), (.int .i64 (.ofNat 0)), (.int .i64 (.ofNat 0)), (.str []), (.str []), (.str []), (.str []), (.str []), (.str []), (.str []), (.str []), .nilsl, (.bool false), (.int .u64 (.ofNat 0)), (.int .u64 (.ofNat 0)), .nilsl] [(0, 1, (.c (.int .i64 (.ofNat 6)))), (1, 1, (.t 4)), (4, 1, (.t 5))], none⟩ :: ⟨none, .store 17 (.t 3) (.t 6), none⟩ :: []))
.ret))⟩
theorem c35_eq : compFn Try.prog 35 = some c35 := by kernel_rfl
/-- sodality/diff.checks$4 -/
noncomputable def c36 : FnI := ⟨14, [.cell 3 true 17],
(.seq (.reg (⟨(some 2), .box (.t 0), none⟩ :: ⟨(some 3), .alloc [(.int .i64 (.ofNat 0)), (.int .i64 (.ofNat 0)), (.int .i64 (.ofNat 0)), (.int .i64 (.ofNat 0)), (.str []), (.str []), (.str []), (.str []), (.str []), (.str []), (.str []), (.str []), .nilsl, (.bool false), (.int .u64 (.ofNat 0)), (.int .u64 (.ofNat 0)), .nilsl], none⟩ :: []))
(.seq (.reg (⟨(some 4), .load false 1 (.t 1), none⟩ :: ⟨(some 5), .faddr 1 (.t 2), none⟩ :: ⟨(some 6), .load false 1 (.t 5), none⟩ :: ⟨(some 7), .faddr 2 (.t 2), none⟩ :: ⟨(some 8), .load false 1 (.t 7), none⟩ :: ⟨(some 9), .faddr 3 (.t 2), none⟩ :: ⟨(some 10), .load false 1 (.t 9), none⟩ :: ⟨(some 11), .faddr 4 (.t 2), none⟩ :: ⟨(some 12), .load false 1 (.t 11), none⟩ :: ⟨(some 13), .build [(.int .i64 (.ofNat 0)), (.int .i64 (.ofNat 0)), (.int .i64 (.ofNat 0)), (.int .i64 (.ofNat 0)), (.str []), (.str []), (.str []), (.str []), (.str []), (.str []), (.str []), (.str []), .nilsl, (.bool false), (.int .u64 (.ofNat 0)), (.int .u64 (.ofNat 0)), .nilsl] [(0, 1, (.c (.int .i64 (.ofNat 5)))), (1, 1, (.t 4)), (4, 1, (.t 6)), (6, 1, (.t 8)), (7, 1, (.t 10)), (3, 1, (.t 12))], none⟩ :: ⟨none, .store 17 (.t 3) (.t 13), none⟩ :: []))
.ret))⟩
theorem c36_eq : compFn Try.prog 36 = some c36 := by kernel_rfl
/-- sodality/diff.known[sodality/api.Check] -/
noncomputable def c37 : FnI := ⟨23, [.tmp 4],
(.seq (.reg (⟨(some 3), .box (.t 1), none⟩ :: ⟨(some 4), .mov (.c .nilmap), none⟩ :: []))
(.seq (.reg (⟨(some 8), .mkmap, none⟩ :: ⟨(some 5), .mov (.t 8), none⟩ :: []))
(.seq (.seq (.reg (⟨(some 9), .mov (.t 0), none⟩ :: ⟨(some 10), .len false (.t 9), none⟩ :: ⟨(some 11), .mov (.c (.int .i64 (.ofNat 0))), none⟩ :: []))
(.block 0 (.loop (.seq (.reg (⟨(some 12), .bin .lss (.t 11) (.t 10), none⟩ :: []))
(.seq (.cond (.t 12) .skip (.exit 0))
(.seq (.block 1 (.seq (.reg (⟨(some 13), .idxS 7 (.t 9) (.t 11), none⟩ :: ⟨(some 14), .load true 7 (.t 13), none⟩ :: ⟨(some 7), .alloc [(.int .i64 (.ofNat 0)), (.str []), (.str []), (.str []), (.int .i64 (.ofNat 0)), (.int .u64 (.ofNat 0)), (.int .u64 (.ofNat 0))], none⟩ :: ⟨none, .store 7 (.t 7) (.t 14), none⟩ :: []))
(.dreg (⟨⟨(some 16), .faddr 0 (.t 3), none⟩, .quiet, 1, 0⟩ :: ⟨⟨(some 17), .load false 1 (.t 16), none⟩, .load, 2, 2⟩ :: ⟨⟨(some 18), .load true 7 (.t 7), none⟩, .load, 3, 0⟩ :: ⟨⟨(some 19), .callv (.t 17) [(.t 18)], none⟩, .loud, 4, 14⟩ :: ⟨⟨(some 15), .mov (.t 5), none⟩, .quiet, 0, 0⟩ :: ⟨⟨(some 20), .load true 7 (.t 7), none⟩, .load, 5, 0⟩ :: ⟨⟨none, .mapup .str (.t 15) (.t 19) (.t 20), none⟩, .loud, 6, 63⟩ :: []))))
(.reg (⟨(some 21), .bin .add (.t 11) (.c (.int .i64 (.ofNat 1))), none⟩ :: ⟨(some 11), .mov (.t 21), none⟩ :: []))))))))
(.seq (.reg (⟨(some 22), .mov (.t 5), none⟩ :: ⟨(some 4), .mov (.t 22), none⟩ :: []))
.ret))))⟩
theorem c37_eq : compFn Try.prog 37 = some c37 := by kernel_rfl
/-- sodality/diff.known[sodality/api.Service] -/
noncomputable def c38 : FnI := ⟨23, [.tmp 4],
(.seq (.reg (⟨(some 3), .box (.t 1), none⟩ :: ⟨(some 4), .mov (.c .nilmap), none⟩ :: []))
(.seq (.reg (⟨(some 8), .mkmap, none⟩ :: ⟨(some 5), .mov (.t 8), none⟩ :: []))
(.seq (.seq (.reg (⟨(some 9), .mov (.t 0), none⟩ :: ⟨(some 10), .len false (.t 9), none⟩ :: ⟨(some 11), .mov (.c (.int .i64 (.ofNat 0))), none⟩ :: []))
(.block 0 (.loop (.seq (.reg (⟨(some 12), .bin .lss (.t 11) (.t 10), none⟩ :: []))
(.seq (.cond (.t 12) .skip (.exit 0))
(.seq (.block 1 (.seq (.reg (⟨(some 13), .idxS 7 (.t 9) (.t 11), none⟩ :: ⟨(some 14), .load true 7 (.t 13), none⟩ :: ⟨(some 7), .alloc [(.int .i64 (.ofNat 0)), (.str []), (.str []), .nilsl, (.int .i64 (.ofNat 0)), (.int .u64 (.ofNat 0)), (.int .u64 (.ofNat 0))], none⟩ :: ⟨none, .store 7 (.t 7) (.t 14), none⟩ :: []))
(.dreg (⟨⟨(some 16), .faddr 0 (.t 3), none⟩, .quiet, 1, 0⟩ :: ⟨⟨(some 17), .load false 1 (.t 16), none⟩, .load, 2, 2⟩ :: ⟨⟨(some 18), .load true 7 (.t 7), none⟩, .load, 3, 0⟩ :: ⟨⟨(some 19), .callv (.t 17) [(.t 18)], none⟩, .loud, 4, 14⟩ :: ⟨⟨(some 15), .mov (.t 5), none⟩, .quiet, 0, 0⟩ :: ⟨⟨(some 20), .load true 7 (.t 7), none⟩, .load, 5, 0⟩ :: ⟨⟨none, .mapup .str (.t 15) (.t 19) (.t 20), none⟩, .loud, 6, 63⟩ :: []))))
(.reg (⟨(some 21), .bin .add (.t 11) (.c (.int .i64 (.ofNat 1))), none⟩ :: ⟨(some 11), .mov (.t 21), none⟩ :: []))))))))
(.seq (.reg (⟨(some 22), .mov (.t 5), none⟩ :: ⟨(some 4), .mov (.t 22), none⟩ :: []))
.ret))))⟩
theorem c38_eq : compFn Try.prog 38 = some c38 := by kernel_rfl
end Go.Proofs.Ytfahfccbiolheaa.DT
