/- The functions' code, as the evaluator takes it (part 0), and that it is what the evaluator's compiler makes of the program. -/
import Derived.Test.YthjmnmbmkpefbaaGreatAbsK
import Derived.Test.YthjmnmbmkpefbaaGreatRows
set_option maxRecDepth 100000
namespace Go.Proofs.YthjmnmbmkpefbaaGreat.AbsStateNone
open Go.Proofs.YthjmnmbmkpefbaaGreat.Abs
noncomputable def c3 : FnI := ⟨73, [.tmp 2],
(.seq (.reg [⟨(some 1), .box (.t 0), none⟩, ⟨(some 2), .mov (.c (.bool false)), none⟩])
(.seq (.reg [⟨(some 3), .mov (.c .nilp), none⟩])
(.seq (.reg [⟨(some 9), .mov (.t 3), none⟩, ⟨(some 10), .build [.nilp, .nilp, .nilp, .nilp, (.int .u64 (.ofNat 0)), (.bool false), (.int .u32 (.ofNat 0)), (.int .u64 (.ofNat 0)), (.bool false), (.int .u32 (.ofNat 0)), (.int .u64 (.ofNat 0)), (.bool false), (.int .u32 (.ofNat 0)), (.int .u64 (.ofNat 0)), (.bool false), (.int .u32 (.ofNat 0)), (.int .u64 (.ofNat 0)), (.bool false), (.int .u32 (.ofNat 0)), (.int .u64 (.ofNat 0)), (.bool false), (.int .u32 (.ofNat 0)), (.int .u64 (.ofNat 0)), (.bool false), (.int .u32 (.ofNat 0)), (.int .u64 (.ofNat 0)), (.bool false), (.int .u32 (.ofNat 0)), (.int .u64 (.ofNat 0)), (.bool false), (.int .u32 (.ofNat 0)), (.int .u64 (.ofNat 0)), (.bool false), (.int .u32 (.ofNat 0)), (.int .u64 (.ofNat 0)), (.bool false), (.int .u32 (.ofNat 0)), (.int .u64 (.ofNat 0)), (.bool false), (.int .u32 (.ofNat 0)), (.int .u64 (.ofNat 0)), (.bool false), (.int .u32 (.ofNat 0)), (.int .u64 (.ofNat 0)), (.bool false), (.int .u32 (.ofNat 0)), (.int .u64 (.ofNat 0)), (.bool false), (.int .u32 (.ofNat 0)), (.int .u64 (.ofNat 0)), (.bool false), (.int .u32 (.ofNat 0)), (.int .u64 (.ofNat 0))] [], none⟩, ⟨(some 11), .box (.t 10), none⟩, ⟨(some 12), .buildSl 1 2 [.nilp, .nilp] [(0, 1, (.t 9)), (1, 1, (.t 11))], none⟩, ⟨(some 4), .mov (.t 12), none⟩])
(.seq (.seq (.reg [⟨(some 5), .mov (.c (.int .i64 (.ofNat 0))), none⟩])
(.block 0 (.loop (.seq (.seq (.reg [⟨(some 13), .mov (.t 5), none⟩, ⟨(some 14), .mov (.t 4), none⟩, ⟨(some 15), .len false (.t 14), none⟩, ⟨(some 16), .bin .lss (.t 13) (.t 15), none⟩])
(.cond (.t 16) .skip (.exit 0)))
(.seq (.block 1 (.seq (.reg [⟨(some 19), .mov (.t 4), none⟩, ⟨(some 20), .mov (.t 5), none⟩, ⟨(some 21), .idxS 1 (.t 19) (.t 20), none⟩, ⟨(some 22), .load false 1 (.t 21), none⟩, ⟨(some 6), .mov (.t 22), none⟩])
(.seq (.reg [⟨(some 24), .mov (.t 6), none⟩, ⟨(some 25), .load true 19 (.t 1), none⟩, ⟨(some 26), .call 6 [(.t 24), (.t 25)], none⟩, ⟨(some 23), .mov (.t 26), none⟩, ⟨(some 27), .extract (.t 23) 0, none⟩, ⟨(some 28), .extract (.t 23) 1, none⟩, ⟨(some 7), .alloc [(.int .i64 (.ofNat 0)), (.int .u64 (.ofNat 0)), (.int .i64 (.ofNat 0))], none⟩, ⟨none, .store 3 (.t 7) (.t 27), none⟩, ⟨(some 8), .mov (.t 28), none⟩])
(.seq (.reg [⟨(some 29), .load true 3 (.t 7), none⟩, ⟨(some 30), .build [(.int .i64 (.ofNat 0)), (.int .u64 (.ofNat 0)), (.int .i64 (.ofNat 0))] [(0, 1, (.c (.int .i64 (.ofNat 1))))], none⟩, ⟨(some 31), .eq true (.str0 [(0, 1, false), (1, 1, false), (2, 1, false)] [.int, .int, .int]) (.t 29) (.t 30), none⟩, ⟨(some 32), .mov (.t 31), none⟩, ⟨(some 33), .mov (.t 8), (some (32, false))⟩, ⟨(some 34), .pick (.t 32) (.c (.bool true)) (.t 33), none⟩, ⟨(some 35), .mov (.t 34), none⟩, ⟨(some 36), .mov (.t 6), (some (35, false))⟩, ⟨(some 37), .call 7 [(.t 36)], (some (35, false))⟩, ⟨(some 38), .bin .neq (.t 37) (.c (.int .u64 (.ofNat 0))), (some (35, false))⟩, ⟨(some 39), .pick (.t 35) (.c (.bool true)) (.t 38), none⟩, ⟨(some 40), .mov (.t 39), none⟩, ⟨(some 41), .mov (.t 6), (some (40, false))⟩, ⟨(some 42), .call 9 [(.t 41)], (some (40, false))⟩, ⟨(some 43), .build [(.int .u64 (.ofNat 0)), .nilsl, .nilsl, .nilsl, .nilsl, .nilsl, .nilsl, (.int .u64 (.ofNat 0)), (.int .u64 (.ofNat 0)), (.int .u64 (.ofNat 0)), (.int .u64 (.ofNat 0)), (.int .u64 (.ofNat 0)), (.int .u64 (.ofNat 0)), .nilsl] [], (some (40, false))⟩, ⟨(some 44), .call 8 [(.t 42), (.t 43)], (some (40, false))⟩, ⟨(some 45), .un .not (.t 44), (some (40, false))⟩, ⟨(some 46), .pick (.t 40) (.c (.bool true)) (.t 45), none⟩, ⟨(some 47), .mov (.t 46), none⟩, ⟨(some 48), .mov (.t 6), (some (47, false))⟩, ⟨(some 49), .call 10 [(.t 48)], (some (47, false))⟩, ⟨(some 50), .eq true .ptr (.t 49) (.c .nilp), (some (47, false))⟩, ⟨(some 51), .pick (.t 47) (.c (.bool true)) (.t 50), none⟩, ⟨(some 52), .mov (.t 51), none⟩, ⟨(some 53), .mov (.t 6), (some (52, false))⟩, ⟨(some 54), .call 11 [(.t 53)], (some (52, false))⟩, ⟨(some 55), .eq true .ptr (.t 54) (.c .nilp), (some (52, false))⟩, ⟨(some 56), .pick (.t 52) (.c (.bool true)) (.t 55), none⟩, ⟨(some 57), .mov (.t 56), none⟩, ⟨(some 58), .mov (.t 6), (some (57, false))⟩, ⟨(some 59), .call 12 [(.t 58)], (some (57, false))⟩, ⟨(some 60), .eq true .ptr (.t 59) (.c .nilp), (some (57, false))⟩, ⟨(some 61), .pick (.t 57) (.c (.bool true)) (.t 60), none⟩, ⟨(some 62), .mov (.t 61), none⟩, ⟨(some 63), .mov (.t 6), (some (62, false))⟩, ⟨(some 64), .call 13 [(.t 63)], (some (62, false))⟩, ⟨(some 65), .eq true .ptr (.t 64) (.c .nilp), (some (62, false))⟩, ⟨(some 66), .pick (.t 62) (.c (.bool true)) (.t 65), none⟩, ⟨(some 67), .mov (.t 66), none⟩, ⟨(some 68), .mov (.t 6), (some (67, false))⟩, ⟨(some 69), .call 14 [(.t 68)], (some (67, false))⟩, ⟨(some 70), .eq true .ptr (.t 69) (.c .nilp), (some (67, false))⟩, ⟨(some 71), .pick (.t 67) (.c (.bool true)) (.t 70), none⟩])
(.cond (.t 71) (.seq (.reg [⟨(some 2), .mov (.c (.bool false)), none⟩])
.ret) .skip)))))
(.reg [⟨(some 17), .mov (.t 5), none⟩, ⟨(some 18), .bin .add (.t 17) (.c (.int .i64 (.ofNat 1))), none⟩, ⟨(some 5), .mov (.t 18), none⟩]))))))
(.seq (.reg [⟨(some 72), .call 15 [], none⟩, ⟨(some 2), .mov (.t 72), none⟩])
.ret)))))⟩
theorem c3_eq : compFn Tryz.prog 3 = some c3 := by kernel_rfl
noncomputable def c6 : FnI := ⟨112, [.cell 4 true 3, .tmp 5],
(.seq (.reg [⟨(some 3), .box (.t 1), none⟩, ⟨(some 4), .alloc [(.int .i64 (.ofNat 0)), (.int .u64 (.ofNat 0)), (.int .i64 (.ofNat 0))], none⟩, ⟨(some 5), .mov (.c (.bool false)), none⟩])
(.seq (.block 0 (.seq (.reg [⟨(some 11), .mov (.t 0), none⟩, ⟨(some 12), .call 27 [(.t 11)], none⟩, ⟨(some 10), .mov (.t 12), none⟩])
(.cond (.t 10) (.seq (.reg [⟨(some 13), .build [(.int .i64 (.ofNat 0)), (.int .u64 (.ofNat 0)), (.int .i64 (.ofNat 0))] [(0, 1, (.c (.int .i64 (.ofNat 1))))], none⟩, ⟨none, .store 3 (.t 4) (.t 13), none⟩, ⟨(some 5), .mov (.c (.bool false)), none⟩])
.ret) (.seq (.reg [⟨(some 15), .faddr 2 (.t 3), none⟩, ⟨(some 16), .load true 17 (.t 15), none⟩, ⟨(some 17), .call 28 [(.t 16)], none⟩, ⟨(some 18), .un .not (.t 17), none⟩, ⟨(some 19), .mov (.t 18), none⟩, ⟨(some 20), .faddr 0 (.t 3), (some (19, false))⟩, ⟨(some 21), .load false 1 (.t 20), (some (19, false))⟩, ⟨(some 22), .bin .lss (.t 21) (.c (.int .i64 (.ofNat 0))), (some (19, false))⟩, ⟨(some 23), .pick (.t 19) (.c (.bool true)) (.t 22), none⟩, ⟨(some 24), .mov (.t 23), none⟩, ⟨(some 25), .faddr 0 (.t 3), (some (24, false))⟩, ⟨(some 26), .load false 1 (.t 25), (some (24, false))⟩, ⟨(some 27), .bin .gtr (.t 26) (.c (.int .i64 (.ofNat 15))), (some (24, false))⟩, ⟨(some 28), .pick (.t 24) (.c (.bool true)) (.t 27), none⟩, ⟨(some 14), .mov (.t 28), none⟩])
(.cond (.t 14) (.seq (.reg [⟨(some 29), .build [(.int .i64 (.ofNat 0)), (.int .u64 (.ofNat 0)), (.int .i64 (.ofNat 0))] [(0, 1, (.c (.int .i64 (.ofNat 2))))], none⟩, ⟨none, .store 3 (.t 4) (.t 29), none⟩, ⟨(some 5), .mov (.c (.bool false)), none⟩])
.ret) .skip)))))
(.seq (.dreg [⟨⟨(some 30), .mov (.t 0), none⟩, .quiet, 0, 0⟩, ⟨⟨(some 31), .faddr 0 (.t 3), none⟩, .quiet, 1, 0⟩, ⟨⟨(some 32), .load false 1 (.t 31), none⟩, .load, 2, 2⟩, ⟨⟨(some 33), .nilchk (.t 30), none⟩, .quiet, 3, 1⟩, ⟨⟨(some 34), .faddr 5 (.t 33), none⟩, .quiet, 4, 9⟩, ⟨⟨(some 35), .idxA 16 3 (.t 34) (.t 32), none⟩, .quiet, 5, 31⟩, ⟨⟨(some 36), .load true 3 (.t 35), none⟩, .load, 6, 63⟩, ⟨⟨(some 6), .alloc [(.bool false), (.int .u32 (.ofNat 0)), (.int .u64 (.ofNat 0))], none⟩, .quiet, 7, 0⟩, ⟨⟨none, .store 3 (.t 6) (.t 36), none⟩, .loud, 8, 255⟩])
(.seq (.block 1 (.seq (.reg [⟨(some 38), .faddr 0 (.t 6), none⟩, ⟨(some 39), .load false 1 (.t 38), none⟩, ⟨(some 40), .mov (.t 39), none⟩, ⟨(some 41), .faddr 1 (.t 6), (some (40, true))⟩, ⟨(some 42), .load false 1 (.t 41), (some (40, true))⟩, ⟨(some 43), .faddr 1 (.t 3), (some (40, true))⟩, ⟨(some 44), .load false 1 (.t 43), (some (40, true))⟩, ⟨(some 45), .bin .eql (.t 42) (.t 44), (some (40, true))⟩, ⟨(some 46), .pick (.t 40) (.t 45) (.c (.bool false)), none⟩, ⟨(some 37), .mov (.t 46), none⟩])
(.cond (.t 37) (.seq (.reg [⟨(some 47), .faddr 2 (.t 6), none⟩, ⟨(some 48), .load false 1 (.t 47), none⟩, ⟨(some 49), .build [(.int .i64 (.ofNat 0)), (.int .u64 (.ofNat 0)), (.int .i64 (.ofNat 0))] [(1, 1, (.t 48))], none⟩, ⟨none, .store 3 (.t 4) (.t 49), none⟩, ⟨(some 5), .mov (.c (.bool true)), none⟩])
.ret) (.seq (.reg [⟨(some 51), .faddr 0 (.t 6), none⟩, ⟨(some 52), .load false 1 (.t 51), none⟩, ⟨(some 53), .mov (.t 52), none⟩, ⟨(some 54), .faddr 1 (.t 6), (some (53, true))⟩, ⟨(some 55), .load false 1 (.t 54), (some (53, true))⟩, ⟨(some 56), .faddr 1 (.t 3), (some (53, true))⟩, ⟨(some 57), .load false 1 (.t 56), (some (53, true))⟩, ⟨(some 58), .bin .gtr (.t 55) (.t 57), (some (53, true))⟩, ⟨(some 59), .pick (.t 53) (.t 58) (.c (.bool false)), none⟩, ⟨(some 50), .mov (.t 59), none⟩])
(.cond (.t 50) (.seq (.reg [⟨(some 60), .build [(.int .i64 (.ofNat 0)), (.int .u64 (.ofNat 0)), (.int .i64 (.ofNat 0))] [(0, 1, (.c (.int .i64 (.ofNat 23))))], none⟩, ⟨none, .store 3 (.t 4) (.t 60), none⟩, ⟨(some 5), .mov (.c (.bool false)), none⟩])
.ret) .skip)))))
(.seq (.reg [⟨(some 61), .mov (.t 0), none⟩, ⟨(some 62), .nilchk (.t 61), none⟩, ⟨(some 63), .faddr 0 (.t 62), none⟩, ⟨(some 64), .load true 4 (.t 63), none⟩, ⟨(some 65), .call 29 [(.t 64)], none⟩, ⟨(some 7), .alloc [.nilp, .nilp, .nilp, .nilp], none⟩, ⟨none, .store 4 (.t 7) (.t 65), none⟩])
(.seq (.dreg [⟨⟨(some 67), .load true 4 (.t 7), none⟩, .load, 0, 0⟩, ⟨⟨(some 68), .faddr 2 (.t 3), none⟩, .quiet, 1, 0⟩, ⟨⟨(some 69), .load true 17 (.t 68), none⟩, .load, 2, 2⟩, ⟨⟨(some 70), .mov (.t 0), none⟩, .quiet, 3, 0⟩, ⟨⟨(some 71), .nilchk (.t 70), none⟩, .quiet, 4, 8⟩, ⟨⟨(some 72), .faddr 4 (.t 71), none⟩, .quiet, 5, 24⟩, ⟨⟨(some 73), .load false 1 (.t 72), none⟩, .load, 6, 56⟩, ⟨⟨(some 74), .bin .add (.t 73) (.c (.int .u64 (.ofNat 1))), none⟩, .quiet, 7, 120⟩, ⟨⟨(some 75), .call 30 [(.t 67), (.t 69), (.t 74)], none⟩, .loud, 8, 255⟩, ⟨⟨(some 66), .mov (.t 75), none⟩, .quiet, 9, 511⟩, ⟨⟨(some 76), .extract (.t 66) 0, none⟩, .quiet, 10, 1023⟩, ⟨⟨(some 77), .extract (.t 66) 1, none⟩, .quiet, 11, 1023⟩, ⟨⟨(some 8), .mov (.t 76), none⟩, .quiet, 12, 2047⟩, ⟨⟨(some 9), .mov (.t 77), none⟩, .quiet, 13, 8191⟩])
(.seq (.seq (.reg [⟨(some 78), .mov (.t 9), none⟩, ⟨(some 79), .bin .neq (.t 78) (.c (.int .i64 (.ofNat 0))), none⟩])
(.cond (.t 79) (.seq (.reg [⟨(some 80), .mov (.t 9), none⟩, ⟨(some 81), .mov (.t 8), none⟩, ⟨(some 82), .build [(.int .i64 (.ofNat 0)), (.int .u64 (.ofNat 0)), (.int .i64 (.ofNat 0))] [(0, 1, (.t 80)), (2, 1, (.t 81))], none⟩, ⟨none, .store 3 (.t 4) (.t 82), none⟩, ⟨(some 5), .mov (.c (.bool false)), none⟩])
.ret) .skip))
(.seq (.reg [⟨(some 83), .mov (.t 0), none⟩, ⟨(some 84), .load true 4 (.t 7), none⟩, ⟨(some 85), .nilchk (.t 83), none⟩, ⟨(some 86), .faddr 0 (.t 85), none⟩, ⟨none, .store 4 (.t 86) (.t 84), none⟩])
(.seq (.reg [⟨(some 87), .mov (.t 0), none⟩, ⟨(some 88), .nilchk (.t 87), none⟩, ⟨(some 89), .faddr 4 (.t 88), none⟩, ⟨(some 90), .load false 1 (.t 89), none⟩, ⟨(some 91), .bin .add (.t 90) (.c (.int .u64 (.ofNat 1))), none⟩, ⟨(some 92), .nilchk (.t 87), none⟩, ⟨(some 93), .faddr 4 (.t 92), none⟩, ⟨none, .store 1 (.t 93) (.t 91), none⟩])
(.seq (.dreg [⟨⟨(some 94), .mov (.t 0), none⟩, .quiet, 0, 0⟩, ⟨⟨(some 95), .faddr 0 (.t 3), none⟩, .quiet, 1, 0⟩, ⟨⟨(some 96), .load false 1 (.t 95), none⟩, .load, 2, 2⟩, ⟨⟨(some 97), .faddr 1 (.t 3), none⟩, .quiet, 3, 0⟩, ⟨⟨(some 98), .load false 1 (.t 97), none⟩, .load, 4, 8⟩, ⟨⟨(some 99), .mov (.t 0), none⟩, .quiet, 5, 0⟩, ⟨⟨(some 100), .nilchk (.t 99), none⟩, .quiet, 6, 32⟩, ⟨⟨(some 101), .faddr 4 (.t 100), none⟩, .quiet, 7, 96⟩, ⟨⟨(some 102), .load false 1 (.t 101), none⟩, .load, 8, 224⟩, ⟨⟨(some 103), .build [(.bool false), (.int .u32 (.ofNat 0)), (.int .u64 (.ofNat 0))] [(0, 1, (.c (.bool true))), (1, 1, (.t 98)), (2, 1, (.t 102))], none⟩, .quiet, 9, 504⟩, ⟨⟨(some 104), .nilchk (.t 94), none⟩, .quiet, 10, 1⟩, ⟨⟨(some 105), .faddr 5 (.t 104), none⟩, .quiet, 11, 1025⟩, ⟨⟨(some 106), .idxA 16 3 (.t 105) (.t 96), none⟩, .quiet, 12, 4095⟩, ⟨⟨none, .store 3 (.t 106) (.t 103), none⟩, .loud, 13, 8191⟩])
(.seq (.reg [⟨(some 107), .mov (.t 0), none⟩, ⟨(some 108), .nilchk (.t 107), none⟩, ⟨(some 109), .faddr 4 (.t 108), none⟩, ⟨(some 110), .load false 1 (.t 109), none⟩, ⟨(some 111), .build [(.int .i64 (.ofNat 0)), (.int .u64 (.ofNat 0)), (.int .i64 (.ofNat 0))] [(1, 1, (.t 110))], none⟩, ⟨none, .store 3 (.t 4) (.t 111), none⟩, ⟨(some 5), .mov (.c (.bool false)), none⟩])
.ret)))))))))))⟩
theorem c6_eq : compFn Tryz.prog 6 = some c6 := by kernel_rfl
noncomputable def c7 : FnI := ⟨9, [.tmp 2],
(.seq (.reg [⟨(some 2), .mov (.c (.int .u64 (.ofNat 0))), none⟩])
(.seq (.seq (.reg [⟨(some 3), .mov (.t 0), none⟩, ⟨(some 4), .call 27 [(.t 3)], none⟩])
(.cond (.t 4) (.seq (.reg [⟨(some 2), .mov (.c (.int .u64 (.ofNat 0))), none⟩])
.ret) .skip))
(.seq (.reg [⟨(some 5), .mov (.t 0), none⟩, ⟨(some 6), .nilchk (.t 5), none⟩, ⟨(some 7), .faddr 4 (.t 6), none⟩, ⟨(some 8), .load false 1 (.t 7), none⟩, ⟨(some 2), .mov (.t 8), none⟩])
.ret)))⟩
theorem c7_eq : compFn Tryz.prog 7 = some c7 := by kernel_rfl
noncomputable def c8 : FnI := ⟨86, [.tmp 4],
(.seq (.reg [⟨(some 2), .box (.t 0), none⟩, ⟨(some 3), .box (.t 1), none⟩, ⟨(some 4), .mov (.c (.bool false)), none⟩])
(.seq (.seq (.reg [⟨(some 6), .faddr 0 (.t 2), none⟩, ⟨(some 7), .load false 1 (.t 6), none⟩, ⟨(some 8), .faddr 0 (.t 3), none⟩, ⟨(some 9), .load false 1 (.t 8), none⟩, ⟨(some 10), .bin .neq (.t 7) (.t 9), none⟩, ⟨(some 11), .mov (.t 10), none⟩, ⟨(some 12), .faddr 7 (.t 2), (some (11, false))⟩, ⟨(some 13), .load true 6 (.t 12), (some (11, false))⟩, ⟨(some 14), .faddr 7 (.t 3), (some (11, false))⟩, ⟨(some 15), .load true 6 (.t 14), (some (11, false))⟩, ⟨(some 16), .eq true (.arr 6 1 false .int) (.t 13) (.t 15), (some (11, false))⟩, ⟨(some 17), .pick (.t 11) (.c (.bool true)) (.t 16), none⟩, ⟨(some 18), .mov (.t 17), none⟩, ⟨(some 19), .faddr 13 (.t 2), (some (18, false))⟩, ⟨(some 20), .load false 1 (.t 19), (some (18, false))⟩, ⟨(some 21), .len false (.t 20), (some (18, false))⟩, ⟨(some 22), .faddr 13 (.t 3), (some (18, false))⟩, ⟨(some 23), .load false 1 (.t 22), (some (18, false))⟩, ⟨(some 24), .len false (.t 23), (some (18, false))⟩, ⟨(some 25), .bin .neq (.t 21) (.t 24), (some (18, false))⟩, ⟨(some 26), .pick (.t 18) (.c (.bool true)) (.t 25), none⟩])
(.cond (.t 26) (.seq (.reg [⟨(some 4), .mov (.c (.bool false)), none⟩])
.ret) .skip))
(.seq (.seq (.reg [⟨(some 5), .mov (.c (.int .i64 (.ofNat 0))), none⟩])
(.block 0 (.loop (.seq (.seq (.reg [⟨(some 27), .mov (.t 5), none⟩, ⟨(some 28), .faddr 13 (.t 2), none⟩, ⟨(some 29), .load false 1 (.t 28), none⟩, ⟨(some 30), .len false (.t 29), none⟩, ⟨(some 31), .bin .lss (.t 27) (.t 30), none⟩])
(.cond (.t 31) .skip (.exit 0)))
(.seq (.block 1 (.seq (.dreg [⟨⟨(some 34), .faddr 13 (.t 2), none⟩, .quiet, 0, 0⟩, ⟨⟨(some 35), .load false 1 (.t 34), none⟩, .load, 1, 1⟩, ⟨⟨(some 36), .mov (.t 5), none⟩, .quiet, 2, 0⟩, ⟨⟨(some 37), .idxS 3 (.t 35) (.t 36), none⟩, .quiet, 3, 7⟩, ⟨⟨(some 38), .load true 3 (.t 37), none⟩, .load, 4, 15⟩, ⟨⟨(some 39), .faddr 13 (.t 3), none⟩, .quiet, 5, 0⟩, ⟨⟨(some 40), .load false 1 (.t 39), none⟩, .load, 6, 32⟩, ⟨⟨(some 41), .mov (.t 5), none⟩, .quiet, 7, 0⟩, ⟨⟨(some 42), .idxS 3 (.t 40) (.t 41), none⟩, .quiet, 8, 224⟩, ⟨⟨(some 43), .load true 3 (.t 42), none⟩, .load, 9, 480⟩, ⟨⟨(some 44), .eq true (.str0 [(0, 1, false), (1, 1, false), (2, 1, false)] [.int, .int, .int]) (.t 38) (.t 43), none⟩, .quiet, 10, 1023⟩])
(.cond (.t 44) (.seq (.reg [⟨(some 4), .mov (.c (.bool false)), none⟩])
.ret) .skip)))
(.reg [⟨(some 32), .mov (.t 5), none⟩, ⟨(some 33), .bin .add (.t 32) (.c (.int .i64 (.ofNat 1))), none⟩, ⟨(some 5), .mov (.t 33), none⟩]))))))
(.seq (.seq (.reg [⟨(some 45), .faddr 1 (.t 2), none⟩, ⟨(some 46), .load false 1 (.t 45), none⟩, ⟨(some 47), .faddr 1 (.t 3), none⟩, ⟨(some 48), .load false 1 (.t 47), none⟩, ⟨(some 49), .call 31 [(.t 46), (.t 48)], none⟩, ⟨(some 50), .un .not (.t 49), none⟩, ⟨(some 51), .mov (.t 50), none⟩, ⟨(some 52), .faddr 2 (.t 2), (some (51, false))⟩, ⟨(some 53), .load false 1 (.t 52), (some (51, false))⟩, ⟨(some 54), .faddr 2 (.t 3), (some (51, false))⟩, ⟨(some 55), .load false 1 (.t 54), (some (51, false))⟩, ⟨(some 56), .call 32 [(.t 53), (.t 55)], (some (51, false))⟩, ⟨(some 57), .un .not (.t 56), (some (51, false))⟩, ⟨(some 58), .pick (.t 51) (.c (.bool true)) (.t 57), none⟩, ⟨(some 59), .mov (.t 58), none⟩, ⟨(some 60), .faddr 3 (.t 2), (some (59, false))⟩, ⟨(some 61), .load false 1 (.t 60), (some (59, false))⟩, ⟨(some 62), .faddr 3 (.t 3), (some (59, false))⟩, ⟨(some 63), .load false 1 (.t 62), (some (59, false))⟩, ⟨(some 64), .call 33 [(.t 61), (.t 63)], (some (59, false))⟩, ⟨(some 65), .un .not (.t 64), (some (59, false))⟩, ⟨(some 66), .pick (.t 59) (.c (.bool true)) (.t 65), none⟩])
(.cond (.t 66) (.seq (.reg [⟨(some 4), .mov (.c (.bool false)), none⟩])
.ret) .skip))
(.seq (.reg [⟨(some 67), .faddr 4 (.t 2), none⟩, ⟨(some 68), .load false 1 (.t 67), none⟩, ⟨(some 69), .faddr 4 (.t 3), none⟩, ⟨(some 70), .load false 1 (.t 69), none⟩, ⟨(some 71), .call 34 [(.t 68), (.t 70)], none⟩, ⟨(some 72), .mov (.t 71), none⟩, ⟨(some 73), .faddr 5 (.t 2), (some (72, true))⟩, ⟨(some 74), .load false 1 (.t 73), (some (72, true))⟩, ⟨(some 75), .faddr 5 (.t 3), (some (72, true))⟩, ⟨(some 76), .load false 1 (.t 75), (some (72, true))⟩, ⟨(some 77), .call 35 [(.t 74), (.t 76)], (some (72, true))⟩, ⟨(some 78), .pick (.t 72) (.t 77) (.c (.bool false)), none⟩, ⟨(some 79), .mov (.t 78), none⟩, ⟨(some 80), .faddr 6 (.t 2), (some (79, true))⟩, ⟨(some 81), .load false 1 (.t 80), (some (79, true))⟩, ⟨(some 82), .faddr 6 (.t 3), (some (79, true))⟩, ⟨(some 83), .load false 1 (.t 82), (some (79, true))⟩, ⟨(some 84), .call 36 [(.t 81), (.t 83)], (some (79, true))⟩, ⟨(some 85), .pick (.t 79) (.t 84) (.c (.bool false)), none⟩, ⟨(some 4), .mov (.t 85), none⟩])
.ret)))))⟩
theorem c8_eq : compFn Tryz.prog 8 = some c8 := by kernel_rfl
noncomputable def c9 : FnI := ⟨105, [.cell 2 true 14],
(.seq (.reg [⟨(some 2), .alloc [(.int .u64 (.ofNat 0)), .nilsl, .nilsl, .nilsl, .nilsl, .nilsl, .nilsl, (.int .u64 (.ofNat 0)), (.int .u64 (.ofNat 0)), (.int .u64 (.ofNat 0)), (.int .u64 (.ofNat 0)), (.int .u64 (.ofNat 0)), (.int .u64 (.ofNat 0)), .nilsl], none⟩])
(.seq (.seq (.reg [⟨(some 7), .mov (.t 0), none⟩, ⟨(some 8), .call 27 [(.t 7)], none⟩])
(.cond (.t 8) (.seq (.reg [⟨(some 9), .build [(.int .u64 (.ofNat 0)), .nilsl, .nilsl, .nilsl, .nilsl, .nilsl, .nilsl, (.int .u64 (.ofNat 0)), (.int .u64 (.ofNat 0)), (.int .u64 (.ofNat 0)), (.int .u64 (.ofNat 0)), (.int .u64 (.ofNat 0)), (.int .u64 (.ofNat 0)), .nilsl] [], none⟩, ⟨none, .store 14 (.t 2) (.t 9), none⟩])
.ret) .skip))
(.seq (.reg [⟨(some 10), .mov (.t 0), none⟩, ⟨(some 11), .nilchk (.t 10), none⟩, ⟨(some 12), .faddr 0 (.t 11), none⟩, ⟨(some 13), .faddr 2 (.t 12), none⟩, ⟨(some 14), .load false 1 (.t 13), none⟩, ⟨(some 15), .call 37 [(.t 14)], none⟩, ⟨(some 3), .alloc [(.int .u64 (.ofNat 0)), (.int .u64 (.ofNat 0)), (.int .u64 (.ofNat 0))], none⟩, ⟨none, .store 3 (.t 3) (.t 15), none⟩])
(.seq (.dreg [⟨⟨(some 20), .mov (.t 0), none⟩, .quiet, 4, 0⟩, ⟨⟨(some 21), .nilchk (.t 20), none⟩, .quiet, 5, 16⟩, ⟨⟨(some 22), .faddr 0 (.t 21), none⟩, .quiet, 6, 48⟩, ⟨⟨(some 23), .faddr 2 (.t 22), none⟩, .quiet, 7, 112⟩, ⟨⟨(some 24), .load false 1 (.t 23), none⟩, .load, 8, 240⟩, ⟨⟨(some 25), .call 38 [(.t 24)], none⟩, .loud, 9, 496⟩, ⟨⟨(some 26), .mov (.t 0), none⟩, .quiet, 10, 0⟩, ⟨⟨(some 27), .nilchk (.t 26), none⟩, .quiet, 11, 1024⟩, ⟨⟨(some 28), .faddr 0 (.t 27), none⟩, .quiet, 12, 3072⟩, ⟨⟨(some 29), .faddr 2 (.t 28), none⟩, .quiet, 13, 7168⟩, ⟨⟨(some 30), .load false 1 (.t 29), none⟩, .load, 14, 15360⟩, ⟨⟨(some 31), .call 39 [(.t 30)], none⟩, .loud, 15, 32752⟩, ⟨⟨(some 32), .mov (.t 0), none⟩, .quiet, 16, 0⟩, ⟨⟨(some 33), .nilchk (.t 32), none⟩, .quiet, 17, 65536⟩, ⟨⟨(some 34), .faddr 0 (.t 33), none⟩, .quiet, 18, 196608⟩, ⟨⟨(some 35), .faddr 2 (.t 34), none⟩, .quiet, 19, 458752⟩, ⟨⟨(some 36), .load false 1 (.t 35), none⟩, .load, 20, 983040⟩, ⟨⟨(some 37), .call 40 [(.t 36)], none⟩, .loud, 21, 2097136⟩, ⟨⟨(some 38), .mov (.t 0), none⟩, .quiet, 22, 0⟩, ⟨⟨(some 39), .nilchk (.t 38), none⟩, .quiet, 23, 4194304⟩, ⟨⟨(some 40), .faddr 0 (.t 39), none⟩, .quiet, 24, 12582912⟩, ⟨⟨(some 41), .faddr 1 (.t 40), none⟩, .quiet, 25, 29360128⟩, ⟨⟨(some 42), .load false 1 (.t 41), none⟩, .load, 26, 62914560⟩, ⟨⟨(some 43), .call 41 [(.t 42)], none⟩, .loud, 27, 134217712⟩, ⟨⟨(some 44), .mov (.t 0), none⟩, .quiet, 28, 0⟩, ⟨⟨(some 45), .nilchk (.t 44), none⟩, .quiet, 29, 268435456⟩, ⟨⟨(some 46), .faddr 0 (.t 45), none⟩, .quiet, 30, 805306368⟩, ⟨⟨(some 47), .faddr 0 (.t 46), none⟩, .quiet, 31, 1879048192⟩, ⟨⟨(some 48), .load false 1 (.t 47), none⟩, .load, 32, 4026531840⟩, ⟨⟨(some 49), .call 42 [(.t 48), (.c (.str []))], none⟩, .loud, 33, 8589934576⟩, ⟨⟨(some 50), .mov (.t 0), none⟩, .quiet, 34, 0⟩, ⟨⟨(some 51), .nilchk (.t 50), none⟩, .quiet, 35, 17179869184⟩, ⟨⟨(some 52), .faddr 0 (.t 51), none⟩, .quiet, 36, 51539607552⟩, ⟨⟨(some 53), .faddr 3 (.t 52), none⟩, .quiet, 37, 120259084288⟩, ⟨⟨(some 54), .load false 1 (.t 53), none⟩, .load, 38, 257698037760⟩, ⟨⟨(some 55), .call 43 [(.t 54)], none⟩, .loud, 39, 549755813872⟩, ⟨⟨(some 62), .mov (.t 0), none⟩, .quiet, 46, 0⟩, ⟨⟨(some 63), .nilchk (.t 62), none⟩, .quiet, 47, 70368744177664⟩, ⟨⟨(some 64), .faddr 0 (.t 63), none⟩, .quiet, 48, 211106232532992⟩, ⟨⟨(some 65), .faddr 1 (.t 64), none⟩, .quiet, 49, 492581209243648⟩, ⟨⟨(some 66), .load false 1 (.t 65), none⟩, .load, 50, 1055531162664960⟩, ⟨⟨(some 67), .call 44 [(.t 66)], none⟩, .loud, 51, 2182530581135344⟩, ⟨⟨(some 68), .mov (.t 0), none⟩, .quiet, 52, 0⟩, ⟨⟨(some 69), .nilchk (.t 68), none⟩, .quiet, 53, 4503599627370496⟩, ⟨⟨(some 70), .faddr 0 (.t 69), none⟩, .quiet, 54, 13510798882111488⟩, ⟨⟨(some 71), .faddr 0 (.t 70), none⟩, .quiet, 55, 31525197391593472⟩, ⟨⟨(some 72), .load false 1 (.t 71), none⟩, .load, 56, 67553994410557440⟩, ⟨⟨(some 73), .call 45 [(.t 72)], none⟩, .loud, 57, 144045918843305968⟩, ⟨⟨(some 74), .mov (.t 0), none⟩, .quiet, 58, 0⟩, ⟨⟨(some 75), .nilchk (.t 74), none⟩, .quiet, 59, 288230376151711744⟩, ⟨⟨(some 76), .faddr 0 (.t 75), none⟩, .quiet, 60, 864691128455135232⟩, ⟨⟨(some 77), .faddr 3 (.t 76), none⟩, .quiet, 61, 2017612633061982208⟩, ⟨⟨(some 78), .load false 1 (.t 77), none⟩, .load, 62, 4323455642275676160⟩, ⟨⟨(some 79), .call 46 [(.t 78)], none⟩, .loud, 63, 9223302767622225904⟩, ⟨⟨(some 16), .mov (.t 0), none⟩, .quiet, 0, 0⟩, ⟨⟨(some 17), .nilchk (.t 16), none⟩, .quiet, 1, 1⟩, ⟨⟨(some 18), .faddr 4 (.t 17), none⟩, .quiet, 2, 3⟩, ⟨⟨(some 19), .load false 1 (.t 18), none⟩, .load, 3, 7⟩, ⟨⟨(some 56), .idxA 3 1 (.t 3) (.c (.int .i64 (.ofNat 0))), none⟩, .quiet, 40, 0⟩, ⟨⟨(some 57), .load false 1 (.t 56), none⟩, .load, 41, 1099511627776⟩, ⟨⟨(some 58), .idxA 3 1 (.t 3) (.c (.int .i64 (.ofNat 1))), none⟩, .quiet, 42, 0⟩, ⟨⟨(some 59), .load false 1 (.t 58), none⟩, .load, 43, 4398046511104⟩, ⟨⟨(some 60), .idxA 3 1 (.t 3) (.c (.int .i64 (.ofNat 2))), none⟩, .quiet, 44, 0⟩, ⟨⟨(some 61), .load false 1 (.t 60), none⟩, .load, 45, 17592186044416⟩, ⟨⟨(some 80), .build [(.int .u64 (.ofNat 0)), (.int .u64 (.ofNat 0)), (.int .u64 (.ofNat 0)), (.int .u64 (.ofNat 0)), (.int .u64 (.ofNat 0)), (.int .u64 (.ofNat 0))] [(0, 1, (.t 57)), (1, 1, (.t 59)), (2, 1, (.t 61)), (3, 1, (.t 67)), (4, 1, (.t 73)), (5, 1, (.t 79))], none⟩, .quiet, 64, 18446744073709551600⟩, ⟨⟨(some 81), .build [(.int .u64 (.ofNat 0)), .nilsl, .nilsl, .nilsl, .nilsl, .nilsl, .nilsl, (.int .u64 (.ofNat 0)), (.int .u64 (.ofNat 0)), (.int .u64 (.ofNat 0)), (.int .u64 (.ofNat 0)), (.int .u64 (.ofNat 0)), (.int .u64 (.ofNat 0)), .nilsl] [(0, 1, (.t 19)), (1, 1, (.t 25)), (2, 1, (.t 31)), (3, 1, (.t 37)), (4, 1, (.t 43)), (5, 1, (.t 49)), (6, 1, (.t 55)), (7, 6, (.t 80))], none⟩, .quiet, 65, 36893488147419103231⟩, ⟨⟨(some 4), .alloc [(.int .u64 (.ofNat 0)), .nilsl, .nilsl, .nilsl, .nilsl, .nilsl, .nilsl, (.int .u64 (.ofNat 0)), (.int .u64 (.ofNat 0)), (.int .u64 (.ofNat 0)), (.int .u64 (.ofNat 0)), (.int .u64 (.ofNat 0)), (.int .u64 (.ofNat 0)), .nilsl], none⟩, .quiet, 66, 0⟩, ⟨⟨none, .store 14 (.t 4) (.t 81), none⟩, .loud, 67, 147573952589676412927⟩])
(.seq (.seq (.reg [⟨(some 82), .mov (.t 0), none⟩, ⟨(some 83), .nilchk (.t 82), none⟩, ⟨(some 84), .faddr 5 (.t 83), none⟩, ⟨(some 85), .load true 48 (.t 84), none⟩, ⟨(some 86), .mov (.c (.int .i64 (.ofNat 0))), none⟩])
(.block 0 (.loop (.seq (.reg [⟨(some 87), .bin .lss (.t 86) (.c (.int .i64 (.ofNat 16))), none⟩])
(.seq (.cond (.t 87) .skip (.exit 0))
(.seq (.block 1 (.seq (.reg [⟨(some 88), .mov (.t 86), none⟩, ⟨(some 89), .idxV 16 3 true (.t 85) (.t 86), none⟩, ⟨(some 6), .alloc [(.bool false), (.int .u32 (.ofNat 0)), (.int .u64 (.ofNat 0))], none⟩, ⟨(some 5), .mov (.t 88), none⟩, ⟨none, .store 3 (.t 6) (.t 89), none⟩])
(.seq (.reg [⟨(some 90), .faddr 0 (.t 6), none⟩, ⟨(some 91), .load false 1 (.t 90), none⟩])
(.cond (.t 91) (.reg [⟨(some 92), .faddr 13 (.t 4), none⟩, ⟨(some 93), .load false 1 (.t 92), none⟩, ⟨(some 94), .mov (.t 5), none⟩, ⟨(some 95), .faddr 1 (.t 6), none⟩, ⟨(some 96), .load false 1 (.t 95), none⟩, ⟨(some 97), .faddr 2 (.t 6), none⟩, ⟨(some 98), .load false 1 (.t 97), none⟩, ⟨(some 99), .build [(.int .i64 (.ofNat 0)), (.int .u32 (.ofNat 0)), (.int .u64 (.ofNat 0))] [(0, 1, (.t 94)), (1, 1, (.t 96)), (2, 1, (.t 98))], none⟩, ⟨(some 100), .buildSl 3 1 [(.int .i64 (.ofNat 0)), (.int .u32 (.ofNat 0)), (.int .u64 (.ofNat 0))] [(0, 3, (.t 99))], none⟩, ⟨(some 101), .append 3 24 (.t 93) (.t 100), none⟩, ⟨(some 102), .faddr 13 (.t 4), none⟩, ⟨none, .store 1 (.t 102) (.t 101), none⟩]) .skip))))
(.reg [⟨(some 103), .bin .add (.t 86) (.c (.int .i64 (.ofNat 1))), none⟩, ⟨(some 86), .mov (.t 103), none⟩])))))))
(.seq (.reg [⟨(some 104), .load true 14 (.t 4), none⟩, ⟨none, .store 14 (.t 2) (.t 104), none⟩])
.ret))))))⟩
theorem c9_eq : compFn Tryz.prog 9 = some c9 := by kernel_rfl
noncomputable def c10 : FnI := ⟨20, [.tmp 2],
(.seq (.reg [⟨(some 2), .mov (.c .nilp), none⟩])
(.seq (.seq (.reg [⟨(some 3), .mov (.t 0), none⟩, ⟨(some 4), .call 27 [(.t 3)], none⟩])
(.cond (.t 4) (.seq (.reg [⟨(some 2), .mov (.c .nilp), none⟩])
.ret) .skip))
(.seq (.dreg [⟨⟨(some 5), .mov (.t 0), none⟩, .quiet, 0, 0⟩, ⟨⟨(some 6), .nilchk (.t 5), none⟩, .quiet, 1, 1⟩, ⟨⟨(some 7), .faddr 0 (.t 6), none⟩, .quiet, 2, 3⟩, ⟨⟨(some 8), .load true 4 (.t 7), none⟩, .load, 3, 7⟩, ⟨⟨(some 9), .call 29 [(.t 8)], none⟩, .loud, 4, 15⟩, ⟨⟨(some 10), .mov (.t 0), none⟩, .quiet, 5, 0⟩, ⟨⟨(some 11), .nilchk (.t 10), none⟩, .quiet, 6, 32⟩, ⟨⟨(some 12), .faddr 4 (.t 11), none⟩, .quiet, 7, 96⟩, ⟨⟨(some 13), .load false 1 (.t 12), none⟩, .load, 8, 224⟩, ⟨⟨(some 14), .mov (.t 0), none⟩, .quiet, 9, 0⟩, ⟨⟨(some 15), .nilchk (.t 14), none⟩, .quiet, 10, 512⟩, ⟨⟨(some 16), .faddr 5 (.t 15), none⟩, .quiet, 11, 1536⟩, ⟨⟨(some 17), .load true 48 (.t 16), none⟩, .load, 12, 3584⟩, ⟨⟨(some 18), .build [.nilp, .nilp, .nilp, .nilp, (.int .u64 (.ofNat 0)), (.bool false), (.int .u32 (.ofNat 0)), (.int .u64 (.ofNat 0)), (.bool false), (.int .u32 (.ofNat 0)), (.int .u64 (.ofNat 0)), (.bool false), (.int .u32 (.ofNat 0)), (.int .u64 (.ofNat 0)), (.bool false), (.int .u32 (.ofNat 0)), (.int .u64 (.ofNat 0)), (.bool false), (.int .u32 (.ofNat 0)), (.int .u64 (.ofNat 0)), (.bool false), (.int .u32 (.ofNat 0)), (.int .u64 (.ofNat 0)), (.bool false), (.int .u32 (.ofNat 0)), (.int .u64 (.ofNat 0)), (.bool false), (.int .u32 (.ofNat 0)), (.int .u64 (.ofNat 0)), (.bool false), (.int .u32 (.ofNat 0)), (.int .u64 (.ofNat 0)), (.bool false), (.int .u32 (.ofNat 0)), (.int .u64 (.ofNat 0)), (.bool false), (.int .u32 (.ofNat 0)), (.int .u64 (.ofNat 0)), (.bool false), (.int .u32 (.ofNat 0)), (.int .u64 (.ofNat 0)), (.bool false), (.int .u32 (.ofNat 0)), (.int .u64 (.ofNat 0)), (.bool false), (.int .u32 (.ofNat 0)), (.int .u64 (.ofNat 0)), (.bool false), (.int .u32 (.ofNat 0)), (.int .u64 (.ofNat 0)), (.bool false), (.int .u32 (.ofNat 0)), (.int .u64 (.ofNat 0))] [(0, 4, (.t 9)), (4, 1, (.t 13)), (5, 48, (.t 17))], none⟩, .quiet, 13, 8191⟩, ⟨⟨(some 19), .box (.t 18), none⟩, .quiet, 14, 16383⟩, ⟨⟨(some 2), .mov (.t 19), none⟩, .quiet, 15, 32767⟩])
.ret)))⟩
theorem c10_eq : compFn Tryz.prog 10 = some c10 := by kernel_rfl
noncomputable def c11 : FnI := ⟨11, [.tmp 2],
(.seq (.reg [⟨(some 2), .mov (.c .nilp), none⟩])
(.seq (.seq (.reg [⟨(some 3), .mov (.t 0), none⟩, ⟨(some 4), .call 27 [(.t 3)], none⟩])
(.cond (.t 4) (.seq (.reg [⟨(some 2), .mov (.c .nilp), none⟩])
.ret) .skip))
(.seq (.reg [⟨(some 5), .mov (.t 0), none⟩, ⟨(some 6), .nilchk (.t 5), none⟩, ⟨(some 7), .faddr 0 (.t 6), none⟩, ⟨(some 8), .faddr 0 (.t 7), none⟩, ⟨(some 9), .load false 1 (.t 8), none⟩, ⟨(some 10), .call 47 [(.t 9)], none⟩, ⟨(some 2), .mov (.t 10), none⟩])
.ret)))⟩
theorem c11_eq : compFn Tryz.prog 11 = some c11 := by kernel_rfl
noncomputable def c12 : FnI := ⟨11, [.tmp 2],
(.seq (.reg [⟨(some 2), .mov (.c .nilp), none⟩])
(.seq (.seq (.reg [⟨(some 3), .mov (.t 0), none⟩, ⟨(some 4), .call 27 [(.t 3)], none⟩])
(.cond (.t 4) (.seq (.reg [⟨(some 2), .mov (.c .nilp), none⟩])
.ret) .skip))
(.seq (.reg [⟨(some 5), .mov (.t 0), none⟩, ⟨(some 6), .nilchk (.t 5), none⟩, ⟨(some 7), .faddr 0 (.t 6), none⟩, ⟨(some 8), .faddr 1 (.t 7), none⟩, ⟨(some 9), .load false 1 (.t 8), none⟩, ⟨(some 10), .call 48 [(.t 9)], none⟩, ⟨(some 2), .mov (.t 10), none⟩])
.ret)))⟩
theorem c12_eq : compFn Tryz.prog 12 = some c12 := by kernel_rfl
noncomputable def c13 : FnI := ⟨11, [.tmp 2],
(.seq (.reg [⟨(some 2), .mov (.c .nilp), none⟩])
(.seq (.seq (.reg [⟨(some 3), .mov (.t 0), none⟩, ⟨(some 4), .call 27 [(.t 3)], none⟩])
(.cond (.t 4) (.seq (.reg [⟨(some 2), .mov (.c .nilp), none⟩])
.ret) .skip))
(.seq (.reg [⟨(some 5), .mov (.t 0), none⟩, ⟨(some 6), .nilchk (.t 5), none⟩, ⟨(some 7), .faddr 0 (.t 6), none⟩, ⟨(some 8), .faddr 2 (.t 7), none⟩, ⟨(some 9), .load false 1 (.t 8), none⟩, ⟨(some 10), .call 49 [(.t 9)], none⟩, ⟨(some 2), .mov (.t 10), none⟩])
.ret)))⟩
theorem c13_eq : compFn Tryz.prog 13 = some c13 := by kernel_rfl
noncomputable def c14 : FnI := ⟨11, [.tmp 2],
(.seq (.reg [⟨(some 2), .mov (.c .nilp), none⟩])
(.seq (.seq (.reg [⟨(some 3), .mov (.t 0), none⟩, ⟨(some 4), .call 27 [(.t 3)], none⟩])
(.cond (.t 4) (.seq (.reg [⟨(some 2), .mov (.c .nilp), none⟩])
.ret) .skip))
(.seq (.reg [⟨(some 5), .mov (.t 0), none⟩, ⟨(some 6), .nilchk (.t 5), none⟩, ⟨(some 7), .faddr 0 (.t 6), none⟩, ⟨(some 8), .faddr 3 (.t 7), none⟩, ⟨(some 9), .load false 1 (.t 8), none⟩, ⟨(some 10), .call 50 [(.t 9)], none⟩, ⟨(some 2), .mov (.t 10), none⟩])
.ret)))⟩
theorem c14_eq : compFn Tryz.prog 14 = some c14 := by kernel_rfl
noncomputable def c15 : FnI := ⟨31, [.tmp 0],
(.seq (.reg [⟨(some 0), .mov (.c (.bool false)), none⟩])
(.seq (.reg [⟨(some 4), .call 19 [(.c (.int .i64 (.ofNat 9)))], none⟩, ⟨(some 1), .mov (.t 4), none⟩])
(.seq (.reg [⟨(some 6), .mov (.t 1), none⟩, ⟨(some 7), .build [(.int .i64 (.ofNat 0)), (.int .i64 (.ofNat 0)), (.int .i64 (.ofNat 0)), (.int .i64 (.ofNat 0)), (.str []), (.str []), (.str []), (.str []), (.str []), (.str []), (.str []), (.str []), .nilsl, (.bool false), (.int .u64 (.ofNat 0)), (.int .u64 (.ofNat 0)), .nilsl] [(0, 1, (.c (.int .i64 (.ofNat 1)))), (1, 1, (.c (.int .i64 (.ofNat 2))))], none⟩, ⟨(some 8), .build [(.int .i64 (.ofNat 0)), (.int .u32 (.ofNat 0)), (.int .i64 (.ofNat 0)), (.int .i64 (.ofNat 0)), (.int .i64 (.ofNat 0)), (.int .i64 (.ofNat 0)), (.str []), (.str []), (.str []), (.str []), (.str []), (.str []), (.str []), (.str []), .nilsl, (.bool false), (.int .u64 (.ofNat 0)), (.int .u64 (.ofNat 0)), .nilsl] [(0, 1, (.c (.int .i64 (.ofNat 1)))), (1, 1, (.c (.int .u32 (.ofNat 1)))), (2, 17, (.t 7))], none⟩, ⟨(some 9), .call 6 [(.t 6), (.t 8)], none⟩, ⟨(some 5), .mov (.t 9), none⟩, ⟨(some 10), .extract (.t 5) 0, none⟩, ⟨(some 11), .extract (.t 5) 1, none⟩, ⟨(some 2), .alloc [(.int .i64 (.ofNat 0)), (.int .u64 (.ofNat 0)), (.int .i64 (.ofNat 0))], none⟩, ⟨none, .store 3 (.t 2) (.t 10), none⟩, ⟨(some 3), .mov (.t 11), none⟩])
(.seq (.reg [⟨(some 12), .load true 3 (.t 2), none⟩, ⟨(some 13), .build [(.int .i64 (.ofNat 0)), (.int .u64 (.ofNat 0)), (.int .i64 (.ofNat 0))] [(1, 1, (.c (.int .u64 (.ofNat 1))))], none⟩, ⟨(some 14), .eq false (.str0 [(0, 1, false), (1, 1, false), (2, 1, false)] [.int, .int, .int]) (.t 12) (.t 13), none⟩, ⟨(some 15), .mov (.t 14), none⟩, ⟨(some 16), .mov (.t 3), (some (15, true))⟩, ⟨(some 17), .un .not (.t 16), (some (15, true))⟩, ⟨(some 18), .pick (.t 15) (.t 17) (.c (.bool false)), none⟩, ⟨(some 19), .mov (.t 18), none⟩, ⟨(some 20), .mov (.t 1), (some (19, true))⟩, ⟨(some 21), .call 7 [(.t 20)], (some (19, true))⟩, ⟨(some 22), .bin .eql (.t 21) (.c (.int .u64 (.ofNat 1))), (some (19, true))⟩, ⟨(some 23), .pick (.t 19) (.t 22) (.c (.bool false)), none⟩, ⟨(some 24), .mov (.t 23), none⟩, ⟨(some 25), .mov (.t 1), (some (24, true))⟩, ⟨(some 26), .call 9 [(.t 25)], (some (24, true))⟩, ⟨(some 27), .field false 1 1 (.t 26), (some (24, true))⟩, ⟨(some 28), .len false (.t 27), (some (24, true))⟩, ⟨(some 29), .bin .eql (.t 28) (.c (.int .i64 (.ofNat 1))), (some (24, true))⟩, ⟨(some 30), .pick (.t 24) (.t 29) (.c (.bool false)), none⟩, ⟨(some 0), .mov (.t 30), none⟩])
.ret))))⟩
theorem c15_eq : compFn Tryz.prog 15 = some c15 := by kernel_rfl
noncomputable def c19 : FnI := ⟨14, [.tmp 2],
(.seq (.reg [⟨(some 2), .mov (.c .nilp), none⟩])
(.seq (.reg [⟨(some 3), .mov (.t 0), none⟩, ⟨(some 4), .call 53 [(.t 3)], none⟩, ⟨(some 5), .mov (.t 0), none⟩, ⟨(some 6), .call 54 [(.t 5)], none⟩, ⟨(some 7), .mov (.t 0), none⟩, ⟨(some 8), .call 55 [(.t 7)], none⟩, ⟨(some 9), .mov (.t 0), none⟩, ⟨(some 10), .call 56 [(.t 9)], none⟩, ⟨(some 11), .build [.nilp, .nilp, .nilp, .nilp] [(0, 1, (.t 4)), (1, 1, (.t 6)), (2, 1, (.t 8)), (3, 1, (.t 10))], none⟩, ⟨(some 12), .build [.nilp, .nilp, .nilp, .nilp, (.int .u64 (.ofNat 0)), (.bool false), (.int .u32 (.ofNat 0)), (.int .u64 (.ofNat 0)), (.bool false), (.int .u32 (.ofNat 0)), (.int .u64 (.ofNat 0)), (.bool false), (.int .u32 (.ofNat 0)), (.int .u64 (.ofNat 0)), (.bool false), (.int .u32 (.ofNat 0)), (.int .u64 (.ofNat 0)), (.bool false), (.int .u32 (.ofNat 0)), (.int .u64 (.ofNat 0)), (.bool false), (.int .u32 (.ofNat 0)), (.int .u64 (.ofNat 0)), (.bool false), (.int .u32 (.ofNat 0)), (.int .u64 (.ofNat 0)), (.bool false), (.int .u32 (.ofNat 0)), (.int .u64 (.ofNat 0)), (.bool false), (.int .u32 (.ofNat 0)), (.int .u64 (.ofNat 0)), (.bool false), (.int .u32 (.ofNat 0)), (.int .u64 (.ofNat 0)), (.bool false), (.int .u32 (.ofNat 0)), (.int .u64 (.ofNat 0)), (.bool false), (.int .u32 (.ofNat 0)), (.int .u64 (.ofNat 0)), (.bool false), (.int .u32 (.ofNat 0)), (.int .u64 (.ofNat 0)), (.bool false), (.int .u32 (.ofNat 0)), (.int .u64 (.ofNat 0)), (.bool false), (.int .u32 (.ofNat 0)), (.int .u64 (.ofNat 0)), (.bool false), (.int .u32 (.ofNat 0)), (.int .u64 (.ofNat 0))] [(0, 4, (.t 11))], none⟩, ⟨(some 13), .box (.t 12), none⟩, ⟨(some 2), .mov (.t 13), none⟩])
.ret))⟩
theorem c19_eq : compFn Tryz.prog 19 = some c19 := by kernel_rfl
noncomputable def c27 : FnI := ⟨13, [.tmp 2],
(.seq (.reg [⟨(some 2), .mov (.c (.bool false)), none⟩])
(.seq (.reg [⟨(some 3), .mov (.t 0), none⟩, ⟨(some 4), .eq false .ptr (.t 3) (.c .nilp), none⟩, ⟨(some 5), .mov (.t 4), none⟩, ⟨(some 6), .mov (.t 0), (some (5, false))⟩, ⟨(some 7), .nilchk (.t 6), (some (5, false))⟩, ⟨(some 8), .faddr 0 (.t 7), (some (5, false))⟩, ⟨(some 9), .faddr 0 (.t 8), (some (5, false))⟩, ⟨(some 10), .load false 1 (.t 9), (some (5, false))⟩, ⟨(some 11), .eq false .ptr (.t 10) (.c .nilp), (some (5, false))⟩, ⟨(some 12), .pick (.t 5) (.c (.bool true)) (.t 11), none⟩, ⟨(some 2), .mov (.t 12), none⟩])
.ret))⟩
theorem c27_eq : compFn Tryz.prog 27 = some c27 := by kernel_rfl
noncomputable def c28 : FnI := ⟨33, [.tmp 2],
(.seq (.reg [⟨(some 1), .box (.t 0), none⟩, ⟨(some 2), .mov (.c (.bool false)), none⟩])
(.seq (.reg [⟨(some 6), .faddr 0 (.t 1), none⟩, ⟨(some 7), .load false 1 (.t 6), none⟩, ⟨(some 8), .call 66 [(.t 7)], none⟩, ⟨(some 3), .mov (.t 8), none⟩])
(.seq (.seq (.reg [⟨(some 9), .mov (.t 3), none⟩, ⟨(some 10), .bin .eql (.t 9) (.c (.int .i64 (.ofNat 0))), none⟩])
(.cond (.t 10) (.seq (.reg [⟨(some 2), .mov (.c (.bool false)), none⟩])
.ret) .skip))
(.seq (.seq (.reg [⟨(some 11), .call 67 [(.t 1)], none⟩, ⟨(some 12), .mov (.c (.int .i64 (.ofNat 0))), none⟩])
(.block 0 (.loop (.seq (.reg [⟨(some 13), .bin .lss (.t 12) (.c (.int .i64 (.ofNat 16))), none⟩])
(.seq (.cond (.t 13) .skip (.exit 0))
(.seq (.block 1 (.seq (.reg [⟨(some 14), .mov (.t 12), none⟩, ⟨(some 15), .idxV 16 4 true (.t 11) (.t 12), none⟩, ⟨(some 5), .alloc [.nilfn, .nilfn, .nilfn, .nilfn], none⟩, ⟨(some 4), .mov (.t 14), none⟩, ⟨none, .store 4 (.t 5) (.t 15), none⟩])
(.seq (.reg [⟨(some 16), .mov (.t 3), none⟩, ⟨(some 17), .mov (.t 4), none⟩, ⟨(some 18), .bin .shr (.t 16) (.t 17), none⟩, ⟨(some 19), .bin .and (.t 18) (.c (.int .i64 (.ofNat 1))), none⟩, ⟨(some 20), .bin .eql (.t 19) (.c (.int .i64 (.ofNat 0))), none⟩, ⟨(some 21), .mov (.t 20), none⟩, ⟨(some 22), .faddr 2 (.t 5), (some (21, true))⟩, ⟨(some 23), .load false 1 (.t 22), (some (21, true))⟩, ⟨(some 24), .callv (.t 23) [], (some (21, true))⟩, ⟨(some 25), .pick (.t 21) (.t 24) (.c (.bool false)), none⟩, ⟨(some 26), .mov (.t 25), none⟩, ⟨(some 27), .faddr 3 (.t 5), (some (26, false))⟩, ⟨(some 28), .load false 1 (.t 27), (some (26, false))⟩, ⟨(some 29), .callv (.t 28) [], (some (26, false))⟩, ⟨(some 30), .un .not (.t 29), (some (26, false))⟩, ⟨(some 31), .pick (.t 26) (.c (.bool true)) (.t 30), none⟩])
(.cond (.t 31) (.seq (.reg [⟨(some 2), .mov (.c (.bool false)), none⟩])
.ret) .skip))))
(.reg [⟨(some 32), .bin .add (.t 12) (.c (.int .i64 (.ofNat 1))), none⟩, ⟨(some 12), .mov (.t 32), none⟩])))))))
(.seq (.reg [⟨(some 2), .mov (.c (.bool true)), none⟩])
.ret)))))⟩
theorem c28_eq : compFn Tryz.prog 28 = some c28 := by kernel_rfl
noncomputable def c29 : FnI := ⟨16, [.cell 2 true 4],
(.seq (.reg [⟨(some 1), .box (.t 0), none⟩, ⟨(some 2), .alloc [.nilp, .nilp, .nilp, .nilp], none⟩])
(.seq (.dreg [⟨⟨(some 3), .faddr 0 (.t 1), none⟩, .quiet, 0, 0⟩, ⟨⟨(some 4), .load false 1 (.t 3), none⟩, .load, 1, 1⟩, ⟨⟨(some 5), .call 47 [(.t 4)], none⟩, .loud, 2, 3⟩, ⟨⟨(some 6), .faddr 1 (.t 1), none⟩, .quiet, 3, 0⟩, ⟨⟨(some 7), .load false 1 (.t 6), none⟩, .load, 4, 8⟩, ⟨⟨(some 8), .call 48 [(.t 7)], none⟩, .loud, 5, 31⟩, ⟨⟨(some 9), .faddr 2 (.t 1), none⟩, .quiet, 6, 0⟩, ⟨⟨(some 10), .load false 1 (.t 9), none⟩, .load, 7, 64⟩, ⟨⟨(some 11), .call 49 [(.t 10)], none⟩, .loud, 8, 255⟩, ⟨⟨(some 12), .faddr 3 (.t 1), none⟩, .quiet, 9, 0⟩, ⟨⟨(some 13), .load false 1 (.t 12), none⟩, .load, 10, 512⟩, ⟨⟨(some 14), .call 50 [(.t 13)], none⟩, .loud, 11, 2047⟩, ⟨⟨(some 15), .build [.nilp, .nilp, .nilp, .nilp] [(0, 1, (.t 5)), (1, 1, (.t 8)), (2, 1, (.t 11)), (3, 1, (.t 14))], none⟩, .quiet, 12, 4095⟩, ⟨⟨none, .store 4 (.t 2) (.t 15), none⟩, .loud, 13, 8191⟩])
.ret))⟩
theorem c29_eq : compFn Tryz.prog 29 = some c29 := by kernel_rfl
noncomputable def c30 : FnI := ⟨39, [.tmp 6, .tmp 7],
(.seq (.reg [⟨(some 3), .box (.t 0), none⟩, ⟨(some 4), .box (.t 1), none⟩, ⟨(some 6), .mov (.c (.int .i64 (.ofNat 0))), none⟩, ⟨(some 7), .mov (.c (.int .i64 (.ofNat 0))), none⟩])
(.seq (.seq (.reg [⟨(some 11), .faddr 0 (.t 4), none⟩, ⟨(some 12), .load false 1 (.t 11), none⟩, ⟨(some 13), .bin .neq (.t 12) (.c (.int .i64 (.ofNat 18))), none⟩])
(.cond (.t 13) (.seq (.reg [⟨(some 14), .load true 4 (.t 3), none⟩, ⟨(some 15), .load true 17 (.t 4), none⟩, ⟨(some 16), .mov (.t 2), none⟩, ⟨(some 17), .build [.nilp, .nilp, .nilp, .nilp, (.int .i64 (.ofNat 0)), (.int .i64 (.ofNat 0)), (.int .i64 (.ofNat 0)), (.int .i64 (.ofNat 0)), (.str []), (.str []), (.str []), (.str []), (.str []), (.str []), (.str []), (.str []), .nilsl, (.bool false), (.int .u64 (.ofNat 0)), (.int .u64 (.ofNat 0)), .nilsl, (.int .u64 (.ofNat 0))] [(0, 4, (.t 14)), (4, 17, (.t 15)), (21, 1, (.t 16))], none⟩, ⟨(some 18), .call 68 [(.t 17)], none⟩, ⟨(some 19), .callv (.t 18) [], none⟩, ⟨(some 6), .mov (.c (.int .i64 (.ofNat 0))), none⟩, ⟨(some 7), .mov (.t 19), none⟩])
.ret) .skip))
(.seq (.seq (.reg [⟨(some 20), .faddr 16 (.t 4), none⟩, ⟨(some 21), .load false 1 (.t 20), none⟩, ⟨(some 22), .len false (.t 21), none⟩, ⟨(some 23), .mov (.c (.int .i64 (.ofNat 0))), none⟩])
(.block 0 (.loop (.seq (.reg [⟨(some 24), .bin .lss (.t 23) (.t 22), none⟩])
(.seq (.cond (.t 24) .skip (.exit 0))
(.seq (.block 1 (.seq (.reg [⟨(some 25), .mov (.t 23), none⟩, ⟨(some 26), .idxS 17 (.t 21) (.t 23), none⟩, ⟨(some 27), .load true 17 (.t 26), none⟩, ⟨(some 9), .alloc [(.int .i64 (.ofNat 0)), (.int .i64 (.ofNat 0)), (.int .i64 (.ofNat 0)), (.int .i64 (.ofNat 0)), (.str []), (.str []), (.str []), (.str []), (.str []), (.str []), (.str []), (.str []), .nilsl, (.bool false), (.int .u64 (.ofNat 0)), (.int .u64 (.ofNat 0)), .nilsl], none⟩, ⟨(some 8), .mov (.t 25), none⟩, ⟨none, .store 17 (.t 9) (.t 27), none⟩])
(.seq (.reg [⟨(some 28), .load true 4 (.t 3), none⟩, ⟨(some 29), .load true 17 (.t 9), none⟩, ⟨(some 30), .mov (.t 2), none⟩, ⟨(some 31), .build [.nilp, .nilp, .nilp, .nilp, (.int .i64 (.ofNat 0)), (.int .i64 (.ofNat 0)), (.int .i64 (.ofNat 0)), (.int .i64 (.ofNat 0)), (.str []), (.str []), (.str []), (.str []), (.str []), (.str []), (.str []), (.str []), .nilsl, (.bool false), (.int .u64 (.ofNat 0)), (.int .u64 (.ofNat 0)), .nilsl, (.int .u64 (.ofNat 0))] [(0, 4, (.t 28)), (4, 17, (.t 29)), (21, 1, (.t 30))], none⟩, ⟨(some 32), .call 68 [(.t 31)], none⟩, ⟨(some 33), .callv (.t 32) [], none⟩, ⟨(some 10), .mov (.t 33), none⟩])
(.seq (.reg [⟨(some 34), .mov (.t 10), none⟩, ⟨(some 35), .bin .neq (.t 34) (.c (.int .i64 (.ofNat 0))), none⟩])
(.cond (.t 35) (.seq (.reg [⟨(some 36), .mov (.t 8), none⟩, ⟨(some 37), .mov (.t 10), none⟩, ⟨(some 6), .mov (.t 36), none⟩, ⟨(some 7), .mov (.t 37), none⟩])
.ret) .skip)))))
(.reg [⟨(some 38), .bin .add (.t 23) (.c (.int .i64 (.ofNat 1))), none⟩, ⟨(some 23), .mov (.t 38), none⟩])))))))
(.seq (.reg [⟨(some 6), .mov (.c (.int .i64 (.ofNat 0))), none⟩, ⟨(some 7), .mov (.c (.int .i64 (.ofNat 0))), none⟩])
.ret))))⟩
theorem c30_eq : compFn Tryz.prog 30 = some c30 := by kernel_rfl
noncomputable def c31 : FnI := ⟨26, [.tmp 4],
(.seq (.reg [⟨(some 4), .mov (.c (.bool false)), none⟩])
(.seq (.seq (.reg [⟨(some 6), .mov (.t 0), none⟩, ⟨(some 7), .len false (.t 6), none⟩, ⟨(some 8), .mov (.t 1), none⟩, ⟨(some 9), .len false (.t 8), none⟩, ⟨(some 10), .bin .neq (.t 7) (.t 9), none⟩])
(.cond (.t 10) (.seq (.reg [⟨(some 4), .mov (.c (.bool false)), none⟩])
.ret) .skip))
(.seq (.seq (.reg [⟨(some 5), .mov (.c (.int .i64 (.ofNat 0))), none⟩])
(.block 0 (.loop (.seq (.seq (.reg [⟨(some 11), .mov (.t 5), none⟩, ⟨(some 12), .mov (.t 0), none⟩, ⟨(some 13), .len false (.t 12), none⟩, ⟨(some 14), .bin .lss (.t 11) (.t 13), none⟩])
(.cond (.t 14) .skip (.exit 0)))
(.seq (.block 1 (.seq (.dreg [⟨⟨(some 17), .mov (.t 0), none⟩, .quiet, 0, 0⟩, ⟨⟨(some 18), .mov (.t 5), none⟩, .quiet, 1, 0⟩, ⟨⟨(some 19), .idxS 4 (.t 17) (.t 18), none⟩, .quiet, 2, 3⟩, ⟨⟨(some 20), .load true 4 (.t 19), none⟩, .load, 3, 7⟩, ⟨⟨(some 21), .mov (.t 1), none⟩, .quiet, 4, 0⟩, ⟨⟨(some 22), .mov (.t 5), none⟩, .quiet, 5, 0⟩, ⟨⟨(some 23), .idxS 4 (.t 21) (.t 22), none⟩, .quiet, 6, 48⟩, ⟨⟨(some 24), .load true 4 (.t 23), none⟩, .load, 7, 112⟩, ⟨⟨(some 25), .eq true (.str0 [(0, 1, false), (1, 1, false), (2, 1, false), (3, 1, false)] [.int, .str, .int, .int]) (.t 20) (.t 24), none⟩, .quiet, 8, 255⟩])
(.cond (.t 25) (.seq (.reg [⟨(some 4), .mov (.c (.bool false)), none⟩])
.ret) .skip)))
(.reg [⟨(some 15), .mov (.t 5), none⟩, ⟨(some 16), .bin .add (.t 15) (.c (.int .i64 (.ofNat 1))), none⟩, ⟨(some 5), .mov (.t 16), none⟩]))))))
(.seq (.reg [⟨(some 4), .mov (.c (.bool true)), none⟩])
.ret))))⟩
theorem c31_eq : compFn Tryz.prog 31 = some c31 := by kernel_rfl
noncomputable def c32 : FnI := ⟨75, [.tmp 4],
(.seq (.reg [⟨(some 4), .mov (.c (.bool false)), none⟩])
(.seq (.seq (.reg [⟨(some 8), .mov (.t 0), none⟩, ⟨(some 9), .len false (.t 8), none⟩, ⟨(some 10), .mov (.t 1), none⟩, ⟨(some 11), .len false (.t 10), none⟩, ⟨(some 12), .bin .neq (.t 9) (.t 11), none⟩])
(.cond (.t 12) (.seq (.reg [⟨(some 4), .mov (.c (.bool false)), none⟩])
.ret) .skip))
(.seq (.seq (.reg [⟨(some 5), .mov (.c (.int .i64 (.ofNat 0))), none⟩])
(.block 0 (.loop (.seq (.seq (.reg [⟨(some 13), .mov (.t 5), none⟩, ⟨(some 14), .mov (.t 0), none⟩, ⟨(some 15), .len false (.t 14), none⟩, ⟨(some 16), .bin .lss (.t 13) (.t 15), none⟩])
(.cond (.t 16) .skip (.exit 0)))
(.seq (.block 1 (.seq (.dreg [⟨⟨(some 19), .mov (.t 0), none⟩, .quiet, 0, 0⟩, ⟨⟨(some 20), .mov (.t 5), none⟩, .quiet, 1, 0⟩, ⟨⟨(some 21), .idxS 7 (.t 19) (.t 20), none⟩, .quiet, 2, 3⟩, ⟨⟨(some 22), .load true 7 (.t 21), none⟩, .load, 3, 7⟩, ⟨⟨(some 6), .alloc [(.int .i64 (.ofNat 0)), (.str []), (.str []), .nilsl, (.int .i64 (.ofNat 0)), (.int .u64 (.ofNat 0)), (.int .u64 (.ofNat 0))], none⟩, .quiet, 8, 0⟩, ⟨⟨(some 7), .alloc [(.int .i64 (.ofNat 0)), (.str []), (.str []), .nilsl, (.int .i64 (.ofNat 0)), (.int .u64 (.ofNat 0)), (.int .u64 (.ofNat 0))], none⟩, .quiet, 9, 0⟩, ⟨⟨none, .store 7 (.t 6) (.t 22), none⟩, .loud, 10, 783⟩, ⟨⟨(some 23), .mov (.t 1), none⟩, .quiet, 4, 0⟩, ⟨⟨(some 24), .mov (.t 5), none⟩, .quiet, 5, 0⟩, ⟨⟨(some 25), .idxS 7 (.t 23) (.t 24), none⟩, .quiet, 6, 48⟩, ⟨⟨(some 26), .load true 7 (.t 25), none⟩, .load, 7, 112⟩, ⟨⟨none, .store 7 (.t 7) (.t 26), none⟩, .loud, 11, 2047⟩])
(.seq (.reg [⟨(some 27), .faddr 0 (.t 6), none⟩, ⟨(some 28), .load false 1 (.t 27), none⟩, ⟨(some 29), .faddr 0 (.t 7), none⟩, ⟨(some 30), .load false 1 (.t 29), none⟩, ⟨(some 31), .bin .neq (.t 28) (.t 30), none⟩, ⟨(some 32), .mov (.t 31), none⟩, ⟨(some 33), .faddr 1 (.t 6), (some (32, false))⟩, ⟨(some 34), .load false 1 (.t 33), (some (32, false))⟩, ⟨(some 35), .faddr 1 (.t 7), (some (32, false))⟩, ⟨(some 36), .load false 1 (.t 35), (some (32, false))⟩, ⟨(some 37), .bin .neq (.t 34) (.t 36), (some (32, false))⟩, ⟨(some 38), .pick (.t 32) (.c (.bool true)) (.t 37), none⟩, ⟨(some 39), .mov (.t 38), none⟩, ⟨(some 40), .faddr 2 (.t 6), (some (39, false))⟩, ⟨(some 41), .load false 1 (.t 40), (some (39, false))⟩, ⟨(some 42), .faddr 2 (.t 7), (some (39, false))⟩, ⟨(some 43), .load false 1 (.t 42), (some (39, false))⟩, ⟨(some 44), .bin .neq (.t 41) (.t 43), (some (39, false))⟩, ⟨(some 45), .pick (.t 39) (.c (.bool true)) (.t 44), none⟩, ⟨(some 46), .mov (.t 45), none⟩, ⟨(some 47), .faddr 3 (.t 6), (some (46, false))⟩, ⟨(some 48), .load false 1 (.t 47), (some (46, false))⟩, ⟨(some 49), .faddr 3 (.t 7), (some (46, false))⟩, ⟨(some 50), .load false 1 (.t 49), (some (46, false))⟩, ⟨(some 51), .call 69 [(.t 48), (.t 50)], (some (46, false))⟩, ⟨(some 52), .un .not (.t 51), (some (46, false))⟩, ⟨(some 53), .pick (.t 46) (.c (.bool true)) (.t 52), none⟩, ⟨(some 54), .mov (.t 53), none⟩, ⟨(some 55), .faddr 4 (.t 6), (some (54, false))⟩, ⟨(some 56), .load false 1 (.t 55), (some (54, false))⟩, ⟨(some 57), .faddr 4 (.t 7), (some (54, false))⟩, ⟨(some 58), .load false 1 (.t 57), (some (54, false))⟩, ⟨(some 59), .bin .neq (.t 56) (.t 58), (some (54, false))⟩, ⟨(some 60), .pick (.t 54) (.c (.bool true)) (.t 59), none⟩, ⟨(some 61), .mov (.t 60), none⟩, ⟨(some 62), .faddr 5 (.t 6), (some (61, false))⟩, ⟨(some 63), .load false 1 (.t 62), (some (61, false))⟩, ⟨(some 64), .faddr 5 (.t 7), (some (61, false))⟩, ⟨(some 65), .load false 1 (.t 64), (some (61, false))⟩, ⟨(some 66), .bin .neq (.t 63) (.t 65), (some (61, false))⟩, ⟨(some 67), .pick (.t 61) (.c (.bool true)) (.t 66), none⟩, ⟨(some 68), .mov (.t 67), none⟩, ⟨(some 69), .faddr 6 (.t 6), (some (68, false))⟩, ⟨(some 70), .load false 1 (.t 69), (some (68, false))⟩, ⟨(some 71), .faddr 6 (.t 7), (some (68, false))⟩, ⟨(some 72), .load false 1 (.t 71), (some (68, false))⟩, ⟨(some 73), .bin .neq (.t 70) (.t 72), (some (68, false))⟩, ⟨(some 74), .pick (.t 68) (.c (.bool true)) (.t 73), none⟩])
(.cond (.t 74) (.seq (.reg [⟨(some 4), .mov (.c (.bool false)), none⟩])
.ret) .skip))))
(.reg [⟨(some 17), .mov (.t 5), none⟩, ⟨(some 18), .bin .add (.t 17) (.c (.int .i64 (.ofNat 1))), none⟩, ⟨(some 5), .mov (.t 18), none⟩]))))))
(.seq (.reg [⟨(some 4), .mov (.c (.bool true)), none⟩])
.ret))))⟩
theorem c32_eq : compFn Tryz.prog 32 = some c32 := by kernel_rfl
noncomputable def c33 : FnI := ⟨26, [.tmp 4],
(.seq (.reg [⟨(some 4), .mov (.c (.bool false)), none⟩])
(.seq (.seq (.reg [⟨(some 6), .mov (.t 0), none⟩, ⟨(some 7), .len false (.t 6), none⟩, ⟨(some 8), .mov (.t 1), none⟩, ⟨(some 9), .len false (.t 8), none⟩, ⟨(some 10), .bin .neq (.t 7) (.t 9), none⟩])
(.cond (.t 10) (.seq (.reg [⟨(some 4), .mov (.c (.bool false)), none⟩])
.ret) .skip))
(.seq (.seq (.reg [⟨(some 5), .mov (.c (.int .i64 (.ofNat 0))), none⟩])
(.block 0 (.loop (.seq (.seq (.reg [⟨(some 11), .mov (.t 5), none⟩, ⟨(some 12), .mov (.t 0), none⟩, ⟨(some 13), .len false (.t 12), none⟩, ⟨(some 14), .bin .lss (.t 11) (.t 13), none⟩])
(.cond (.t 14) .skip (.exit 0)))
(.seq (.block 1 (.seq (.dreg [⟨⟨(some 17), .mov (.t 0), none⟩, .quiet, 0, 0⟩, ⟨⟨(some 18), .mov (.t 5), none⟩, .quiet, 1, 0⟩, ⟨⟨(some 19), .idxS 7 (.t 17) (.t 18), none⟩, .quiet, 2, 3⟩, ⟨⟨(some 20), .load true 7 (.t 19), none⟩, .load, 3, 7⟩, ⟨⟨(some 21), .mov (.t 1), none⟩, .quiet, 4, 0⟩, ⟨⟨(some 22), .mov (.t 5), none⟩, .quiet, 5, 0⟩, ⟨⟨(some 23), .idxS 7 (.t 21) (.t 22), none⟩, .quiet, 6, 48⟩, ⟨⟨(some 24), .load true 7 (.t 23), none⟩, .load, 7, 112⟩, ⟨⟨(some 25), .eq true (.str0 [(0, 1, false), (1, 1, false), (2, 1, false), (3, 1, false), (4, 1, false), (5, 1, false), (6, 1, false)] [.int, .str, .str, .str, .int, .int, .int]) (.t 20) (.t 24), none⟩, .quiet, 8, 255⟩])
(.cond (.t 25) (.seq (.reg [⟨(some 4), .mov (.c (.bool false)), none⟩])
.ret) .skip)))
(.reg [⟨(some 15), .mov (.t 5), none⟩, ⟨(some 16), .bin .add (.t 15) (.c (.int .i64 (.ofNat 1))), none⟩, ⟨(some 5), .mov (.t 16), none⟩]))))))
(.seq (.reg [⟨(some 4), .mov (.c (.bool true)), none⟩])
.ret))))⟩
theorem c33_eq : compFn Tryz.prog 33 = some c33 := by kernel_rfl
noncomputable def c34 : FnI := ⟨26, [.tmp 4],
(.seq (.reg [⟨(some 4), .mov (.c (.bool false)), none⟩])
(.seq (.seq (.reg [⟨(some 6), .mov (.t 0), none⟩, ⟨(some 7), .len false (.t 6), none⟩, ⟨(some 8), .mov (.t 1), none⟩, ⟨(some 9), .len false (.t 8), none⟩, ⟨(some 10), .bin .neq (.t 7) (.t 9), none⟩])
(.cond (.t 10) (.seq (.reg [⟨(some 4), .mov (.c (.bool false)), none⟩])
.ret) .skip))
(.seq (.seq (.reg [⟨(some 5), .mov (.c (.int .i64 (.ofNat 0))), none⟩])
(.block 0 (.loop (.seq (.seq (.reg [⟨(some 11), .mov (.t 5), none⟩, ⟨(some 12), .mov (.t 0), none⟩, ⟨(some 13), .len false (.t 12), none⟩, ⟨(some 14), .bin .lss (.t 11) (.t 13), none⟩])
(.cond (.t 14) .skip (.exit 0)))
(.seq (.block 1 (.seq (.dreg [⟨⟨(some 17), .mov (.t 0), none⟩, .quiet, 0, 0⟩, ⟨⟨(some 18), .mov (.t 5), none⟩, .quiet, 1, 0⟩, ⟨⟨(some 19), .idxS 5 (.t 17) (.t 18), none⟩, .quiet, 2, 3⟩, ⟨⟨(some 20), .load true 5 (.t 19), none⟩, .load, 3, 7⟩, ⟨⟨(some 21), .mov (.t 1), none⟩, .quiet, 4, 0⟩, ⟨⟨(some 22), .mov (.t 5), none⟩, .quiet, 5, 0⟩, ⟨⟨(some 23), .idxS 5 (.t 21) (.t 22), none⟩, .quiet, 6, 48⟩, ⟨⟨(some 24), .load true 5 (.t 23), none⟩, .load, 7, 112⟩, ⟨⟨(some 25), .eq true (.str0 [(0, 1, false), (1, 1, false), (2, 1, false), (3, 1, false), (4, 1, false)] [.str, .str, .bool, .int, .int]) (.t 20) (.t 24), none⟩, .quiet, 8, 255⟩])
(.cond (.t 25) (.seq (.reg [⟨(some 4), .mov (.c (.bool false)), none⟩])
.ret) .skip)))
(.reg [⟨(some 15), .mov (.t 5), none⟩, ⟨(some 16), .bin .add (.t 15) (.c (.int .i64 (.ofNat 1))), none⟩, ⟨(some 5), .mov (.t 16), none⟩]))))))
(.seq (.reg [⟨(some 4), .mov (.c (.bool true)), none⟩])
.ret))))⟩
theorem c34_eq : compFn Tryz.prog 34 = some c34 := by kernel_rfl
noncomputable def c35 : FnI := ⟨26, [.tmp 4],
(.seq (.reg [⟨(some 4), .mov (.c (.bool false)), none⟩])
(.seq (.seq (.reg [⟨(some 6), .mov (.t 0), none⟩, ⟨(some 7), .len false (.t 6), none⟩, ⟨(some 8), .mov (.t 1), none⟩, ⟨(some 9), .len false (.t 8), none⟩, ⟨(some 10), .bin .neq (.t 7) (.t 9), none⟩])
(.cond (.t 10) (.seq (.reg [⟨(some 4), .mov (.c (.bool false)), none⟩])
.ret) .skip))
(.seq (.seq (.reg [⟨(some 5), .mov (.c (.int .i64 (.ofNat 0))), none⟩])
(.block 0 (.loop (.seq (.seq (.reg [⟨(some 11), .mov (.t 5), none⟩, ⟨(some 12), .mov (.t 0), none⟩, ⟨(some 13), .len false (.t 12), none⟩, ⟨(some 14), .bin .lss (.t 11) (.t 13), none⟩])
(.cond (.t 14) .skip (.exit 0)))
(.seq (.block 1 (.seq (.dreg [⟨⟨(some 17), .mov (.t 0), none⟩, .quiet, 0, 0⟩, ⟨⟨(some 18), .mov (.t 5), none⟩, .quiet, 1, 0⟩, ⟨⟨(some 19), .idxS 6 (.t 17) (.t 18), none⟩, .quiet, 2, 3⟩, ⟨⟨(some 20), .load true 6 (.t 19), none⟩, .load, 3, 7⟩, ⟨⟨(some 21), .mov (.t 1), none⟩, .quiet, 4, 0⟩, ⟨⟨(some 22), .mov (.t 5), none⟩, .quiet, 5, 0⟩, ⟨⟨(some 23), .idxS 6 (.t 21) (.t 22), none⟩, .quiet, 6, 48⟩, ⟨⟨(some 24), .load true 6 (.t 23), none⟩, .load, 7, 112⟩, ⟨⟨(some 25), .eq true (.str0 [(0, 1, false), (1, 1, false), (2, 1, false), (3, 1, false), (4, 1, false), (5, 1, false)] [.str, .str, .int, .int, .int, .int]) (.t 20) (.t 24), none⟩, .quiet, 8, 255⟩])
(.cond (.t 25) (.seq (.reg [⟨(some 4), .mov (.c (.bool false)), none⟩])
.ret) .skip)))
(.reg [⟨(some 15), .mov (.t 5), none⟩, ⟨(some 16), .bin .add (.t 15) (.c (.int .i64 (.ofNat 1))), none⟩, ⟨(some 5), .mov (.t 16), none⟩]))))))
(.seq (.reg [⟨(some 4), .mov (.c (.bool true)), none⟩])
.ret))))⟩
theorem c35_eq : compFn Tryz.prog 35 = some c35 := by kernel_rfl
noncomputable def c36 : FnI := ⟨26, [.tmp 4],
(.seq (.reg [⟨(some 4), .mov (.c (.bool false)), none⟩])
(.seq (.seq (.reg [⟨(some 6), .mov (.t 0), none⟩, ⟨(some 7), .len false (.t 6), none⟩, ⟨(some 8), .mov (.t 1), none⟩, ⟨(some 9), .len false (.t 8), none⟩, ⟨(some 10), .bin .neq (.t 7) (.t 9), none⟩])
(.cond (.t 10) (.seq (.reg [⟨(some 4), .mov (.c (.bool false)), none⟩])
.ret) .skip))
(.seq (.seq (.reg [⟨(some 5), .mov (.c (.int .i64 (.ofNat 0))), none⟩])
(.block 0 (.loop (.seq (.seq (.reg [⟨(some 11), .mov (.t 5), none⟩, ⟨(some 12), .mov (.t 0), none⟩, ⟨(some 13), .len false (.t 12), none⟩, ⟨(some 14), .bin .lss (.t 11) (.t 13), none⟩])
(.cond (.t 14) .skip (.exit 0)))
(.seq (.block 1 (.seq (.dreg [⟨⟨(some 17), .mov (.t 0), none⟩, .quiet, 0, 0⟩, ⟨⟨(some 18), .mov (.t 5), none⟩, .quiet, 1, 0⟩, ⟨⟨(some 19), .idxS 4 (.t 17) (.t 18), none⟩, .quiet, 2, 3⟩, ⟨⟨(some 20), .load true 4 (.t 19), none⟩, .load, 3, 7⟩, ⟨⟨(some 21), .mov (.t 1), none⟩, .quiet, 4, 0⟩, ⟨⟨(some 22), .mov (.t 5), none⟩, .quiet, 5, 0⟩, ⟨⟨(some 23), .idxS 4 (.t 21) (.t 22), none⟩, .quiet, 6, 48⟩, ⟨⟨(some 24), .load true 4 (.t 23), none⟩, .load, 7, 112⟩, ⟨⟨(some 25), .eq true (.str0 [(0, 1, false), (1, 1, false), (2, 1, false), (3, 1, false)] [.int, .int, .int, .int]) (.t 20) (.t 24), none⟩, .quiet, 8, 255⟩])
(.cond (.t 25) (.seq (.reg [⟨(some 4), .mov (.c (.bool false)), none⟩])
.ret) .skip)))
(.reg [⟨(some 15), .mov (.t 5), none⟩, ⟨(some 16), .bin .add (.t 15) (.c (.int .i64 (.ofNat 1))), none⟩, ⟨(some 5), .mov (.t 16), none⟩]))))))
(.seq (.reg [⟨(some 4), .mov (.c (.bool true)), none⟩])
.ret))))⟩
theorem c36_eq : compFn Tryz.prog 36 = some c36 := by kernel_rfl
noncomputable def c37 : FnI := ⟨22, [.cell 2 true 3],
(.seq (.reg [⟨(some 2), .alloc [(.int .u64 (.ofNat 0)), (.int .u64 (.ofNat 0)), (.int .u64 (.ofNat 0))], none⟩])
(.seq (.seq (.reg [⟨(some 3), .mov (.t 0), none⟩, ⟨(some 4), .call 70 [(.t 3)], none⟩])
(.cond (.t 4) (.seq (.reg [⟨(some 5), .build [(.int .u64 (.ofNat 0)), (.int .u64 (.ofNat 0)), (.int .u64 (.ofNat 0))] [], none⟩, ⟨none, .store 3 (.t 2) (.t 5), none⟩])
.ret) .skip))
(.seq (.dreg [⟨⟨(some 6), .mov (.t 0), none⟩, .quiet, 0, 0⟩, ⟨⟨(some 7), .nilchk (.t 6), none⟩, .quiet, 1, 1⟩, ⟨⟨(some 8), .faddr 0 (.t 7), none⟩, .quiet, 2, 3⟩, ⟨⟨(some 9), .load false 1 (.t 8), none⟩, .load, 3, 7⟩, ⟨⟨(some 10), .call 71 [(.t 9)], none⟩, .loud, 4, 15⟩, ⟨⟨(some 11), .mov (.t 0), none⟩, .quiet, 5, 0⟩, ⟨⟨(some 12), .nilchk (.t 11), none⟩, .quiet, 6, 32⟩, ⟨⟨(some 13), .faddr 1 (.t 12), none⟩, .quiet, 7, 96⟩, ⟨⟨(some 14), .load false 1 (.t 13), none⟩, .load, 8, 224⟩, ⟨⟨(some 15), .call 72 [(.t 14)], none⟩, .loud, 9, 511⟩, ⟨⟨(some 16), .mov (.t 0), none⟩, .quiet, 10, 0⟩, ⟨⟨(some 17), .nilchk (.t 16), none⟩, .quiet, 11, 1024⟩, ⟨⟨(some 18), .faddr 2 (.t 17), none⟩, .quiet, 12, 3072⟩, ⟨⟨(some 19), .load false 1 (.t 18), none⟩, .load, 13, 7168⟩, ⟨⟨(some 20), .call 73 [(.t 19)], none⟩, .loud, 14, 16383⟩, ⟨⟨(some 21), .build [(.int .u64 (.ofNat 0)), (.int .u64 (.ofNat 0)), (.int .u64 (.ofNat 0))] [(0, 1, (.t 10)), (1, 1, (.t 15)), (2, 1, (.t 20))], none⟩, .quiet, 15, 32767⟩, ⟨⟨none, .store 3 (.t 2) (.t 21), none⟩, .loud, 16, 65535⟩])
.ret)))⟩
theorem c37_eq : compFn Tryz.prog 37 = some c37 := by kernel_rfl
noncomputable def c38 : FnI := ⟨11, [.tmp 2],
(.seq (.reg [⟨(some 2), .mov (.c .nilsl), none⟩])
(.seq (.seq (.reg [⟨(some 3), .mov (.t 0), none⟩, ⟨(some 4), .call 70 [(.t 3)], none⟩])
(.cond (.t 4) (.seq (.reg [⟨(some 2), .mov (.c .nilsl), none⟩])
.ret) .skip))
(.seq (.reg [⟨(some 5), .mov (.t 0), none⟩, ⟨(some 6), .nilchk (.t 5), none⟩, ⟨(some 7), .faddr 0 (.t 6), none⟩, ⟨(some 8), .load false 1 (.t 7), none⟩, ⟨(some 9), .build [.nilfn] [(0, 1, (.c (.fn (.func 75) [] [])))], none⟩, ⟨(some 10), .call 74 [(.t 8), (.t 9)], none⟩, ⟨(some 2), .mov (.t 10), none⟩])
.ret)))⟩
theorem c38_eq : compFn Tryz.prog 38 = some c38 := by kernel_rfl
noncomputable def c39 : FnI := ⟨11, [.tmp 2],
(.seq (.reg [⟨(some 2), .mov (.c .nilsl), none⟩])
(.seq (.seq (.reg [⟨(some 3), .mov (.t 0), none⟩, ⟨(some 4), .call 70 [(.t 3)], none⟩])
(.cond (.t 4) (.seq (.reg [⟨(some 2), .mov (.c .nilsl), none⟩])
.ret) .skip))
(.seq (.reg [⟨(some 5), .mov (.t 0), none⟩, ⟨(some 6), .nilchk (.t 5), none⟩, ⟨(some 7), .faddr 1 (.t 6), none⟩, ⟨(some 8), .load false 1 (.t 7), none⟩, ⟨(some 9), .build [.nilfn] [(0, 1, (.c (.fn (.func 77) [] [])))], none⟩, ⟨(some 10), .call 76 [(.t 8), (.t 9)], none⟩, ⟨(some 2), .mov (.t 10), none⟩])
.ret)))⟩
theorem c39_eq : compFn Tryz.prog 39 = some c39 := by kernel_rfl
noncomputable def c40 : FnI := ⟨11, [.tmp 2],
(.seq (.reg [⟨(some 2), .mov (.c .nilsl), none⟩])
(.seq (.seq (.reg [⟨(some 3), .mov (.t 0), none⟩, ⟨(some 4), .call 70 [(.t 3)], none⟩])
(.cond (.t 4) (.seq (.reg [⟨(some 2), .mov (.c .nilsl), none⟩])
.ret) .skip))
(.seq (.reg [⟨(some 5), .mov (.t 0), none⟩, ⟨(some 6), .nilchk (.t 5), none⟩, ⟨(some 7), .faddr 2 (.t 6), none⟩, ⟨(some 8), .load false 1 (.t 7), none⟩, ⟨(some 9), .build [.nilfn] [(0, 1, (.c (.fn (.func 79) [] [])))], none⟩, ⟨(some 10), .call 78 [(.t 8), (.t 9)], none⟩, ⟨(some 2), .mov (.t 10), none⟩])
.ret)))⟩
theorem c40_eq : compFn Tryz.prog 40 = some c40 := by kernel_rfl
noncomputable def c41 : FnI := ⟨29, [.tmp 2],
(.seq (.reg [⟨(some 2), .mov (.c .nilsl), none⟩])
(.seq (.seq (.reg [⟨(some 6), .mov (.t 0), none⟩, ⟨(some 7), .call 80 [(.t 6)], none⟩])
(.cond (.t 7) (.seq (.reg [⟨(some 2), .mov (.c .nilsl), none⟩])
.ret) .skip))
(.seq (.reg [⟨(some 3), .alloc [.nilsl], none⟩])
(.seq (.seq (.reg [⟨(some 8), .mov (.t 0), none⟩, ⟨(some 9), .nilchk (.t 8), none⟩, ⟨(some 10), .faddr 0 (.t 9), none⟩, ⟨(some 11), .load false 1 (.t 10), none⟩, ⟨(some 12), .call 81 [(.t 11)], none⟩, ⟨(some 13), .len false (.t 12), none⟩, ⟨(some 14), .mov (.c (.int .i64 (.ofNat 0))), none⟩])
(.block 0 (.loop (.seq (.reg [⟨(some 15), .bin .lss (.t 14) (.t 13), none⟩])
(.seq (.cond (.t 15) .skip (.exit 0))
(.seq (.block 1 (.seq (.reg [⟨(some 16), .idxS 8 (.t 12) (.t 14), none⟩, ⟨(some 17), .load true 8 (.t 16), none⟩, ⟨(some 5), .alloc [(.str []), (.str []), (.str []), (.bool false), (.int .u64 (.ofNat 0)), (.int .u64 (.ofNat 0)), (.int .u64 (.ofNat 0)), (.int .u64 (.ofNat 0))], none⟩, ⟨none, .store 8 (.t 5) (.t 17), none⟩])
(.dreg [⟨⟨(some 19), .load true 8 (.t 5), none⟩, .load, 1, 0⟩, ⟨⟨(some 20), .call 82 [(.t 19)], none⟩, .loud, 2, 2⟩, ⟨⟨(some 18), .load false 1 (.t 3), none⟩, .load, 0, 0⟩, ⟨⟨(some 21), .buildSl 5 1 [(.str []), (.str []), (.bool false), (.int .u64 (.ofNat 0)), (.int .u64 (.ofNat 0))] [(0, 5, (.t 20))], none⟩, .quiet, 3, 6⟩, ⟨⟨(some 22), .append 5 56 (.t 18) (.t 21), none⟩, .loud, 4, 15⟩, ⟨⟨none, .store 1 (.t 3) (.t 22), none⟩, .loud, 5, 31⟩])))
(.reg [⟨(some 23), .bin .add (.t 14) (.c (.int .i64 (.ofNat 1))), none⟩, ⟨(some 14), .mov (.t 23), none⟩])))))))
(.seq (.reg [⟨(some 24), .load false 1 (.t 3), none⟩, ⟨(some 25), .mkif 53 (.t 24), none⟩, ⟨(some 26), .mkfn 84 [] [(.t 3)], none⟩, ⟨(some 27), .call 83 [(.t 25), (.t 26)], none⟩])
(.seq (.reg [⟨(some 28), .load false 1 (.t 3), none⟩, ⟨(some 2), .mov (.t 28), none⟩])
.ret))))))⟩
theorem c41_eq : compFn Tryz.prog 41 = some c41 := by kernel_rfl
noncomputable def c42 : FnI := ⟨28, [.tmp 4],
(.seq (.reg [⟨(some 4), .mov (.c .nilsl), none⟩])
(.seq (.seq (.reg [⟨(some 8), .mov (.t 0), none⟩, ⟨(some 9), .call 86 [(.t 8)], none⟩])
(.cond (.t 9) (.seq (.reg [⟨(some 4), .mov (.c .nilsl), none⟩])
.ret) .skip))
(.seq (.reg [⟨(some 5), .mov (.c .nilsl), none⟩])
(.seq (.seq (.reg [⟨(some 10), .mov (.t 0), none⟩, ⟨(some 11), .nilchk (.t 10), none⟩, ⟨(some 12), .faddr 0 (.t 11), none⟩, ⟨(some 13), .load false 1 (.t 12), none⟩, ⟨(some 14), .mov (.t 1), none⟩, ⟨(some 15), .call 87 [(.t 13), (.t 14)], none⟩, ⟨(some 16), .len false (.t 15), none⟩, ⟨(some 17), .mov (.c (.int .i64 (.ofNat 0))), none⟩])
(.block 0 (.loop (.seq (.reg [⟨(some 18), .bin .lss (.t 17) (.t 16), none⟩])
(.seq (.cond (.t 18) .skip (.exit 0))
(.seq (.block 1 (.seq (.reg [⟨(some 19), .idxS 9 (.t 15) (.t 17), none⟩, ⟨(some 20), .load true 9 (.t 19), none⟩, ⟨(some 7), .alloc [(.str []), (.str []), (.str []), (.int .u64 (.ofNat 0)), (.int .u64 (.ofNat 0)), (.int .u64 (.ofNat 0)), (.int .u64 (.ofNat 0)), (.int .u64 (.ofNat 0)), (.int .u64 (.ofNat 0))], none⟩, ⟨none, .store 9 (.t 7) (.t 20), none⟩])
(.reg [⟨(some 21), .mov (.t 5), none⟩, ⟨(some 22), .load true 9 (.t 7), none⟩, ⟨(some 23), .call 88 [(.t 22)], none⟩, ⟨(some 24), .buildSl 6 1 [(.str []), (.str []), (.int .u64 (.ofNat 0)), (.int .u64 (.ofNat 0)), (.int .u64 (.ofNat 0)), (.int .u64 (.ofNat 0))] [(0, 6, (.t 23))], none⟩, ⟨(some 25), .append 6 64 (.t 21) (.t 24), none⟩, ⟨(some 5), .mov (.t 25), none⟩])))
(.reg [⟨(some 26), .bin .add (.t 17) (.c (.int .i64 (.ofNat 1))), none⟩, ⟨(some 17), .mov (.t 26), none⟩])))))))
(.seq (.reg [⟨(some 27), .mov (.t 5), none⟩, ⟨(some 4), .mov (.t 27), none⟩])
.ret)))))⟩
theorem c42_eq : compFn Tryz.prog 42 = some c42 := by kernel_rfl
noncomputable def c43 : FnI := ⟨13, [.tmp 2],
(.seq (.reg [⟨(some 2), .mov (.c .nilsl), none⟩])
(.seq (.reg [⟨(some 3), .alloc [.nilsl], none⟩])
(.seq (.seq (.reg [⟨(some 5), .mov (.t 0), none⟩, ⟨(some 6), .call 89 [(.t 5)], none⟩])
(.block 0 (.rangef (.t 6) [7] (.reg [⟨(some 4), .alloc [(.int .u64 (.ofNat 0)), (.int .i64 (.ofNat 0)), (.int .u64 (.ofNat 0)), (.int .u64 (.ofNat 0))], none⟩, ⟨none, .store 4 (.t 4) (.t 7), none⟩]) (.block 1 (.reg [⟨(some 8), .load false 1 (.t 3), none⟩, ⟨(some 9), .load true 4 (.t 4), none⟩, ⟨(some 10), .buildSl 4 1 [(.int .u64 (.ofNat 0)), (.int .i64 (.ofNat 0)), (.int .u64 (.ofNat 0)), (.int .u64 (.ofNat 0))] [(0, 4, (.t 9))], none⟩, ⟨(some 11), .append 4 32 (.t 8) (.t 10), none⟩, ⟨none, .store 1 (.t 3) (.t 11), none⟩])))))
(.seq (.reg [⟨(some 12), .load false 1 (.t 3), none⟩, ⟨(some 2), .mov (.t 12), none⟩])
.ret))))⟩
theorem c43_eq : compFn Tryz.prog 43 = some c43 := by kernel_rfl
noncomputable def c44 : FnI := ⟨10, [.tmp 2],
(.seq (.reg [⟨(some 2), .mov (.c (.int .u64 (.ofNat 0))), none⟩])
(.seq (.seq (.reg [⟨(some 3), .mov (.t 0), none⟩, ⟨(some 4), .call 80 [(.t 3)], none⟩])
(.cond (.t 4) (.seq (.reg [⟨(some 2), .mov (.c (.int .u64 (.ofNat 0))), none⟩])
.ret) .skip))
(.seq (.reg [⟨(some 5), .mov (.t 0), none⟩, ⟨(some 6), .nilchk (.t 5), none⟩, ⟨(some 7), .faddr 0 (.t 6), none⟩, ⟨(some 8), .load false 1 (.t 7), none⟩, ⟨(some 9), .call 90 [(.t 8)], none⟩, ⟨(some 2), .mov (.t 9), none⟩])
.ret)))⟩
theorem c44_eq : compFn Tryz.prog 44 = some c44 := by kernel_rfl
noncomputable def c45 : FnI := ⟨10, [.tmp 2],
(.seq (.reg [⟨(some 2), .mov (.c (.int .u64 (.ofNat 0))), none⟩])
(.seq (.seq (.reg [⟨(some 3), .mov (.t 0), none⟩, ⟨(some 4), .call 86 [(.t 3)], none⟩])
(.cond (.t 4) (.seq (.reg [⟨(some 2), .mov (.c (.int .u64 (.ofNat 0))), none⟩])
.ret) .skip))
(.seq (.reg [⟨(some 5), .mov (.t 0), none⟩, ⟨(some 6), .nilchk (.t 5), none⟩, ⟨(some 7), .faddr 0 (.t 6), none⟩, ⟨(some 8), .load false 1 (.t 7), none⟩, ⟨(some 9), .call 91 [(.t 8)], none⟩, ⟨(some 2), .mov (.t 9), none⟩])
.ret)))⟩
theorem c45_eq : compFn Tryz.prog 45 = some c45 := by kernel_rfl
noncomputable def c46 : FnI := ⟨10, [.tmp 2],
(.seq (.reg [⟨(some 2), .mov (.c (.int .u64 (.ofNat 0))), none⟩])
(.seq (.seq (.reg [⟨(some 3), .mov (.t 0), none⟩, ⟨(some 4), .call 92 [(.t 3)], none⟩])
(.cond (.t 4) (.seq (.reg [⟨(some 2), .mov (.c (.int .u64 (.ofNat 0))), none⟩])
.ret) .skip))
(.seq (.reg [⟨(some 5), .mov (.t 0), none⟩, ⟨(some 6), .nilchk (.t 5), none⟩, ⟨(some 7), .faddr 0 (.t 6), none⟩, ⟨(some 8), .load false 1 (.t 7), none⟩, ⟨(some 9), .call 93 [(.t 8)], none⟩, ⟨(some 2), .mov (.t 9), none⟩])
.ret)))⟩
theorem c46_eq : compFn Tryz.prog 46 = some c46 := by kernel_rfl
noncomputable def c47 : FnI := ⟨12, [.tmp 2],
(.seq (.reg [⟨(some 2), .mov (.c .nilp), none⟩])
(.seq (.seq (.reg [⟨(some 3), .mov (.t 0), none⟩, ⟨(some 4), .call 86 [(.t 3)], none⟩])
(.cond (.t 4) (.seq (.reg [⟨(some 2), .mov (.c .nilp), none⟩])
.ret) .skip))
(.seq (.reg [⟨(some 5), .mov (.t 0), none⟩, ⟨(some 6), .nilchk (.t 5), none⟩, ⟨(some 7), .faddr 0 (.t 6), none⟩, ⟨(some 8), .load false 1 (.t 7), none⟩, ⟨(some 9), .call 94 [(.t 8)], none⟩, ⟨(some 10), .build [.nilp] [(0, 1, (.t 9))], none⟩, ⟨(some 11), .box (.t 10), none⟩, ⟨(some 2), .mov (.t 11), none⟩])
.ret)))⟩
theorem c47_eq : compFn Tryz.prog 47 = some c47 := by kernel_rfl
noncomputable def c48 : FnI := ⟨12, [.tmp 2],
(.seq (.reg [⟨(some 2), .mov (.c .nilp), none⟩])
(.seq (.seq (.reg [⟨(some 3), .mov (.t 0), none⟩, ⟨(some 4), .call 80 [(.t 3)], none⟩])
(.cond (.t 4) (.seq (.reg [⟨(some 2), .mov (.c .nilp), none⟩])
.ret) .skip))
(.seq (.reg [⟨(some 5), .mov (.t 0), none⟩, ⟨(some 6), .nilchk (.t 5), none⟩, ⟨(some 7), .faddr 0 (.t 6), none⟩, ⟨(some 8), .load false 1 (.t 7), none⟩, ⟨(some 9), .call 95 [(.t 8)], none⟩, ⟨(some 10), .build [.nilp] [(0, 1, (.t 9))], none⟩, ⟨(some 11), .box (.t 10), none⟩, ⟨(some 2), .mov (.t 11), none⟩])
.ret)))⟩
theorem c48_eq : compFn Tryz.prog 48 = some c48 := by kernel_rfl
noncomputable def c49 : FnI := ⟨22, [.tmp 2],
(.seq (.reg [⟨(some 2), .mov (.c .nilp), none⟩])
(.seq (.seq (.reg [⟨(some 3), .mov (.t 0), none⟩, ⟨(some 4), .call 70 [(.t 3)], none⟩])
(.cond (.t 4) (.seq (.reg [⟨(some 2), .mov (.c .nilp), none⟩])
.ret) .skip))
(.seq (.dreg [⟨⟨(some 5), .mov (.t 0), none⟩, .quiet, 0, 0⟩, ⟨⟨(some 6), .nilchk (.t 5), none⟩, .quiet, 1, 1⟩, ⟨⟨(some 7), .faddr 0 (.t 6), none⟩, .quiet, 2, 3⟩, ⟨⟨(some 8), .load false 1 (.t 7), none⟩, .load, 3, 7⟩, ⟨⟨(some 9), .call 96 [(.t 8)], none⟩, .loud, 4, 15⟩, ⟨⟨(some 10), .mov (.t 0), none⟩, .quiet, 5, 0⟩, ⟨⟨(some 11), .nilchk (.t 10), none⟩, .quiet, 6, 32⟩, ⟨⟨(some 12), .faddr 1 (.t 11), none⟩, .quiet, 7, 96⟩, ⟨⟨(some 13), .load false 1 (.t 12), none⟩, .load, 8, 224⟩, ⟨⟨(some 14), .call 97 [(.t 13)], none⟩, .loud, 9, 511⟩, ⟨⟨(some 15), .mov (.t 0), none⟩, .quiet, 10, 0⟩, ⟨⟨(some 16), .nilchk (.t 15), none⟩, .quiet, 11, 1024⟩, ⟨⟨(some 17), .faddr 2 (.t 16), none⟩, .quiet, 12, 3072⟩, ⟨⟨(some 18), .load false 1 (.t 17), none⟩, .load, 13, 7168⟩, ⟨⟨(some 19), .call 98 [(.t 18)], none⟩, .loud, 14, 16383⟩, ⟨⟨(some 20), .build [.nilp, .nilp, .nilp] [(0, 1, (.t 9)), (1, 1, (.t 14)), (2, 1, (.t 19))], none⟩, .quiet, 15, 32767⟩, ⟨⟨(some 21), .box (.t 20), none⟩, .quiet, 16, 65535⟩, ⟨⟨(some 2), .mov (.t 21), none⟩, .quiet, 17, 131071⟩])
.ret)))⟩
theorem c49_eq : compFn Tryz.prog 49 = some c49 := by kernel_rfl
noncomputable def c50 : FnI := ⟨12, [.tmp 2],
(.seq (.reg [⟨(some 2), .mov (.c .nilp), none⟩])
(.seq (.seq (.reg [⟨(some 3), .mov (.t 0), none⟩, ⟨(some 4), .call 92 [(.t 3)], none⟩])
(.cond (.t 4) (.seq (.reg [⟨(some 2), .mov (.c .nilp), none⟩])
.ret) .skip))
(.seq (.reg [⟨(some 5), .mov (.t 0), none⟩, ⟨(some 6), .nilchk (.t 5), none⟩, ⟨(some 7), .faddr 0 (.t 6), none⟩, ⟨(some 8), .load false 1 (.t 7), none⟩, ⟨(some 9), .call 99 [(.t 8)], none⟩, ⟨(some 10), .build [.nilp] [(0, 1, (.t 9))], none⟩, ⟨(some 11), .box (.t 10), none⟩, ⟨(some 2), .mov (.t 11), none⟩])
.ret)))⟩
theorem c50_eq : compFn Tryz.prog 50 = some c50 := by kernel_rfl
noncomputable def c53 : FnI := ⟨7, [.tmp 2],
(.seq (.reg [⟨(some 2), .mov (.c .nilp), none⟩])
(.seq (.reg [⟨(some 3), .mov (.t 0), none⟩, ⟨(some 4), .call 109 [(.t 3)], none⟩, ⟨(some 5), .build [.nilp] [(0, 1, (.t 4))], none⟩, ⟨(some 6), .box (.t 5), none⟩, ⟨(some 2), .mov (.t 6), none⟩])
.ret))⟩
theorem c53_eq : compFn Tryz.prog 53 = some c53 := by kernel_rfl
noncomputable def c54 : FnI := ⟨7, [.tmp 2],
(.seq (.reg [⟨(some 2), .mov (.c .nilp), none⟩])
(.seq (.reg [⟨(some 3), .mov (.t 0), none⟩, ⟨(some 4), .call 110 [(.t 3)], none⟩, ⟨(some 5), .build [.nilp] [(0, 1, (.t 4))], none⟩, ⟨(some 6), .box (.t 5), none⟩, ⟨(some 2), .mov (.t 6), none⟩])
.ret))⟩
theorem c54_eq : compFn Tryz.prog 54 = some c54 := by kernel_rfl
noncomputable def c55 : FnI := ⟨11, [.tmp 2],
(.seq (.reg [⟨(some 2), .mov (.c .nilp), none⟩])
(.seq (.reg [⟨(some 3), .mov (.t 0), none⟩, ⟨(some 4), .call 111 [(.t 3)], none⟩, ⟨(some 5), .mov (.t 0), none⟩, ⟨(some 6), .call 112 [(.t 5)], none⟩, ⟨(some 7), .mov (.t 0), none⟩, ⟨(some 8), .call 113 [(.t 7)], none⟩, ⟨(some 9), .build [.nilp, .nilp, .nilp] [(0, 1, (.t 4)), (1, 1, (.t 6)), (2, 1, (.t 8))], none⟩, ⟨(some 10), .box (.t 9), none⟩, ⟨(some 2), .mov (.t 10), none⟩])
.ret))⟩
theorem c55_eq : compFn Tryz.prog 55 = some c55 := by kernel_rfl
noncomputable def c56 : FnI := ⟨7, [.tmp 2],
(.seq (.reg [⟨(some 2), .mov (.c .nilp), none⟩])
(.seq (.reg [⟨(some 3), .mov (.t 0), none⟩, ⟨(some 4), .call 114 [(.t 3)], none⟩, ⟨(some 5), .build [.nilp] [(0, 1, (.t 4))], none⟩, ⟨(some 6), .box (.t 5), none⟩, ⟨(some 2), .mov (.t 6), none⟩])
.ret))⟩
theorem c56_eq : compFn Tryz.prog 56 = some c56 := by kernel_rfl
noncomputable def c66 : FnI := ⟨37, [.tmp 2],
(.seq (.reg [⟨(some 2), .mov (.c (.int .i64 (.ofNat 0))), none⟩])
(.seq (.seq (.reg [⟨(some 3), .mov (.t 0), none⟩])
(.block 0 (.seq (.reg [⟨(some 5), .bin .eql (.t 3) (.c (.int .i64 (.ofNat 1))), none⟩, ⟨(some 4), .mov (.t 5), none⟩])
(.cond (.t 4) (.seq (.reg [⟨(some 2), .mov (.c (.int .i64 (.ofNat 65))), none⟩])
.ret) (.seq (.seq (.reg [⟨(some 7), .bin .eql (.t 3) (.c (.int .i64 (.ofNat 2))), none⟩, ⟨(some 6), .mov (.t 7), none⟩])
(.cond (.t 6) .skip (.reg [⟨(some 8), .bin .eql (.t 3) (.c (.int .i64 (.ofNat 16))), none⟩, ⟨(some 6), .mov (.t 8), none⟩])))
(.cond (.t 6) (.seq (.reg [⟨(some 2), .mov (.c (.int .i64 (.ofNat 1))), none⟩])
.ret) (.seq (.reg [⟨(some 10), .bin .eql (.t 3) (.c (.int .i64 (.ofNat 3))), none⟩, ⟨(some 9), .mov (.t 10), none⟩])
(.cond (.t 9) (.seq (.reg [⟨(some 2), .mov (.c (.int .i64 (.ofNat 2075))), none⟩])
.ret) (.seq (.seq (.reg [⟨(some 12), .bin .eql (.t 3) (.c (.int .i64 (.ofNat 4))), none⟩, ⟨(some 11), .mov (.t 12), none⟩])
(.cond (.t 11) .skip (.reg [⟨(some 13), .bin .eql (.t 3) (.c (.int .i64 (.ofNat 6))), none⟩, ⟨(some 11), .mov (.t 13), none⟩])))
(.cond (.t 11) (.seq (.reg [⟨(some 2), .mov (.c (.int .i64 (.ofNat 9))), none⟩])
.ret) (.seq (.reg [⟨(some 15), .bin .eql (.t 3) (.c (.int .i64 (.ofNat 5))), none⟩, ⟨(some 14), .mov (.t 15), none⟩])
(.cond (.t 14) (.seq (.reg [⟨(some 2), .mov (.c (.int .i64 (.ofNat 109))), none⟩])
.ret) (.seq (.reg [⟨(some 17), .bin .eql (.t 3) (.c (.int .i64 (.ofNat 7))), none⟩, ⟨(some 16), .mov (.t 17), none⟩])
(.cond (.t 16) (.seq (.reg [⟨(some 2), .mov (.c (.int .i64 (.ofNat 5632))), none⟩])
.ret) (.seq (.reg [⟨(some 19), .bin .eql (.t 3) (.c (.int .i64 (.ofNat 8))), none⟩, ⟨(some 18), .mov (.t 19), none⟩])
(.cond (.t 18) (.seq (.reg [⟨(some 2), .mov (.c (.int .i64 (.ofNat 13824))), none⟩])
.ret) (.seq (.reg [⟨(some 21), .bin .eql (.t 3) (.c (.int .i64 (.ofNat 9))), none⟩, ⟨(some 20), .mov (.t 21), none⟩])
(.cond (.t 20) (.seq (.reg [⟨(some 2), .mov (.c (.int .i64 (.ofNat 9728))), none⟩])
.ret) (.seq (.reg [⟨(some 23), .bin .eql (.t 3) (.c (.int .i64 (.ofNat 10))), none⟩, ⟨(some 22), .mov (.t 23), none⟩])
(.cond (.t 22) (.seq (.reg [⟨(some 2), .mov (.c (.int .i64 (.ofNat 384))), none⟩])
.ret) (.seq (.reg [⟨(some 25), .bin .eql (.t 3) (.c (.int .i64 (.ofNat 11))), none⟩, ⟨(some 24), .mov (.t 25), none⟩])
(.cond (.t 24) (.seq (.reg [⟨(some 2), .mov (.c (.int .i64 (.ofNat 8576))), none⟩])
.ret) (.seq (.reg [⟨(some 27), .bin .eql (.t 3) (.c (.int .i64 (.ofNat 12))), none⟩, ⟨(some 26), .mov (.t 27), none⟩])
(.cond (.t 26) (.seq (.reg [⟨(some 2), .mov (.c (.int .i64 (.ofNat 128))), none⟩])
.ret) (.seq (.reg [⟨(some 29), .bin .eql (.t 3) (.c (.int .i64 (.ofNat 13))), none⟩, ⟨(some 28), .mov (.t 29), none⟩])
(.cond (.t 28) (.seq (.reg [⟨(some 2), .mov (.c (.int .i64 (.ofNat 8320))), none⟩])
.ret) (.seq (.seq (.reg [⟨(some 31), .bin .eql (.t 3) (.c (.int .i64 (.ofNat 14))), none⟩, ⟨(some 30), .mov (.t 31), none⟩])
(.cond (.t 30) .skip (.reg [⟨(some 32), .bin .eql (.t 3) (.c (.int .i64 (.ofNat 15))), none⟩, ⟨(some 30), .mov (.t 32), none⟩])))
(.cond (.t 30) (.seq (.reg [⟨(some 2), .mov (.c (.int .i64 (.ofNat 16768))), none⟩])
.ret) (.seq (.reg [⟨(some 34), .bin .eql (.t 3) (.c (.int .i64 (.ofNat 17))), none⟩, ⟨(some 33), .mov (.t 34), none⟩])
(.cond (.t 33) (.seq (.reg [⟨(some 2), .mov (.c (.int .i64 (.ofNat 16384))), none⟩])
.ret) (.seq (.reg [⟨(some 36), .bin .eql (.t 3) (.c (.int .i64 (.ofNat 18))), none⟩, ⟨(some 35), .mov (.t 36), none⟩])
(.cond (.t 35) (.seq (.reg [⟨(some 2), .mov (.c (.int .i64 (.ofNat 32768))), none⟩])
.ret) .skip))))))))))))))))))))))))))))))))
(.seq (.reg [⟨(some 2), .mov (.c (.int .i64 (.ofNat 0))), none⟩])
.ret)))⟩
theorem c66_eq : compFn Tryz.prog 66 = some c66 := by kernel_rfl
noncomputable def c67 : FnI := ⟨68, [.cell 2 true 64],
(.seq (.reg [⟨(some 2), .alloc [.nilfn, .nilfn, .nilfn, .nilfn, .nilfn, .nilfn, .nilfn, .nilfn, .nilfn, .nilfn, .nilfn, .nilfn, .nilfn, .nilfn, .nilfn, .nilfn, .nilfn, .nilfn, .nilfn, .nilfn, .nilfn, .nilfn, .nilfn, .nilfn, .nilfn, .nilfn, .nilfn, .nilfn, .nilfn, .nilfn, .nilfn, .nilfn, .nilfn, .nilfn, .nilfn, .nilfn, .nilfn, .nilfn, .nilfn, .nilfn, .nilfn, .nilfn, .nilfn, .nilfn, .nilfn, .nilfn, .nilfn, .nilfn, .nilfn, .nilfn, .nilfn, .nilfn, .nilfn, .nilfn, .nilfn, .nilfn, .nilfn, .nilfn, .nilfn, .nilfn, .nilfn, .nilfn, .nilfn, .nilfn], none⟩])
(.seq (.dreg [⟨⟨(some 3), .mov (.t 0), none⟩, .quiet, 0, 0⟩, ⟨⟨(some 4), .nilchk (.t 3), none⟩, .quiet, 1, 1⟩, ⟨⟨(some 5), .faddr 1 (.t 4), none⟩, .quiet, 2, 3⟩, ⟨⟨(some 6), .call 116 [(.t 5)], none⟩, .loud, 3, 7⟩, ⟨⟨(some 7), .mov (.t 0), none⟩, .quiet, 4, 0⟩, ⟨⟨(some 8), .nilchk (.t 7), none⟩, .quiet, 5, 16⟩, ⟨⟨(some 9), .faddr 2 (.t 8), none⟩, .quiet, 6, 48⟩, ⟨⟨(some 10), .call 116 [(.t 9)], none⟩, .loud, 7, 127⟩, ⟨⟨(some 11), .mov (.t 0), none⟩, .quiet, 8, 0⟩, ⟨⟨(some 12), .nilchk (.t 11), none⟩, .quiet, 9, 256⟩, ⟨⟨(some 13), .faddr 3 (.t 12), none⟩, .quiet, 10, 768⟩, ⟨⟨(some 14), .call 116 [(.t 13)], none⟩, .loud, 11, 2047⟩, ⟨⟨(some 15), .mov (.t 0), none⟩, .quiet, 12, 0⟩, ⟨⟨(some 16), .nilchk (.t 15), none⟩, .quiet, 13, 4096⟩, ⟨⟨(some 17), .faddr 4 (.t 16), none⟩, .quiet, 14, 12288⟩, ⟨⟨(some 18), .call 117 [(.t 17)], none⟩, .loud, 15, 32767⟩, ⟨⟨(some 19), .mov (.t 0), none⟩, .quiet, 16, 0⟩, ⟨⟨(some 20), .nilchk (.t 19), none⟩, .quiet, 17, 65536⟩, ⟨⟨(some 21), .faddr 5 (.t 20), none⟩, .quiet, 18, 196608⟩, ⟨⟨(some 22), .call 117 [(.t 21)], none⟩, .loud, 19, 524287⟩, ⟨⟨(some 23), .mov (.t 0), none⟩, .quiet, 20, 0⟩, ⟨⟨(some 24), .nilchk (.t 23), none⟩, .quiet, 21, 1048576⟩, ⟨⟨(some 25), .faddr 6 (.t 24), none⟩, .quiet, 22, 3145728⟩, ⟨⟨(some 26), .call 117 [(.t 25)], none⟩, .loud, 23, 8388607⟩, ⟨⟨(some 27), .mov (.t 0), none⟩, .quiet, 24, 0⟩, ⟨⟨(some 28), .nilchk (.t 27), none⟩, .quiet, 25, 16777216⟩, ⟨⟨(some 29), .faddr 7 (.t 28), none⟩, .quiet, 26, 50331648⟩, ⟨⟨(some 30), .call 117 [(.t 29)], none⟩, .loud, 27, 134217727⟩, ⟨⟨(some 31), .mov (.t 0), none⟩, .quiet, 28, 0⟩, ⟨⟨(some 32), .nilchk (.t 31), none⟩, .quiet, 29, 268435456⟩, ⟨⟨(some 33), .faddr 8 (.t 32), none⟩, .quiet, 30, 805306368⟩, ⟨⟨(some 34), .call 117 [(.t 33)], none⟩, .loud, 31, 2147483647⟩, ⟨⟨(some 35), .mov (.t 0), none⟩, .quiet, 32, 0⟩, ⟨⟨(some 36), .nilchk (.t 35), none⟩, .quiet, 33, 4294967296⟩, ⟨⟨(some 37), .faddr 9 (.t 36), none⟩, .quiet, 34, 12884901888⟩, ⟨⟨(some 38), .call 117 [(.t 37)], none⟩, .loud, 35, 34359738367⟩, ⟨⟨(some 39), .mov (.t 0), none⟩, .quiet, 36, 0⟩, ⟨⟨(some 40), .nilchk (.t 39), none⟩, .quiet, 37, 68719476736⟩, ⟨⟨(some 41), .faddr 10 (.t 40), none⟩, .quiet, 38, 206158430208⟩, ⟨⟨(some 42), .call 117 [(.t 41)], none⟩, .loud, 39, 549755813887⟩, ⟨⟨(some 43), .mov (.t 0), none⟩, .quiet, 40, 0⟩, ⟨⟨(some 44), .nilchk (.t 43), none⟩, .quiet, 41, 1099511627776⟩, ⟨⟨(some 45), .faddr 11 (.t 44), none⟩, .quiet, 42, 3298534883328⟩, ⟨⟨(some 46), .call 117 [(.t 45)], none⟩, .loud, 43, 8796093022207⟩, ⟨⟨(some 47), .mov (.t 0), none⟩, .quiet, 44, 0⟩, ⟨⟨(some 48), .nilchk (.t 47), none⟩, .quiet, 45, 17592186044416⟩, ⟨⟨(some 49), .faddr 12 (.t 48), none⟩, .quiet, 46, 52776558133248⟩, ⟨⟨(some 50), .call 118 [(.t 49)], none⟩, .loud, 47, 140737488355327⟩, ⟨⟨(some 51), .mov (.t 0), none⟩, .quiet, 48, 0⟩, ⟨⟨(some 52), .nilchk (.t 51), none⟩, .quiet, 49, 281474976710656⟩, ⟨⟨(some 53), .faddr 13 (.t 52), none⟩, .quiet, 50, 844424930131968⟩, ⟨⟨(some 54), .call 119 [(.t 53)], none⟩, .loud, 51, 2251799813685247⟩, ⟨⟨(some 55), .mov (.t 0), none⟩, .quiet, 52, 0⟩, ⟨⟨(some 56), .nilchk (.t 55), none⟩, .quiet, 53, 4503599627370496⟩, ⟨⟨(some 57), .faddr 14 (.t 56), none⟩, .quiet, 54, 13510798882111488⟩, ⟨⟨(some 58), .call 120 [(.t 57)], none⟩, .loud, 55, 36028797018963967⟩, ⟨⟨(some 59), .mov (.t 0), none⟩, .quiet, 56, 0⟩, ⟨⟨(some 60), .nilchk (.t 59), none⟩, .quiet, 57, 72057594037927936⟩, ⟨⟨(some 61), .faddr 15 (.t 60), none⟩, .quiet, 58, 216172782113783808⟩, ⟨⟨(some 62), .call 120 [(.t 61)], none⟩, .loud, 59, 576460752303423487⟩, ⟨⟨(some 63), .mov (.t 0), none⟩, .quiet, 60, 0⟩, ⟨⟨(some 64), .nilchk (.t 63), none⟩, .quiet, 61, 1152921504606846976⟩, ⟨⟨(some 65), .faddr 16 (.t 64), none⟩, .quiet, 62, 3458764513820540928⟩, ⟨⟨(some 66), .call 121 [(.t 65)], none⟩, .loud, 63, 9223372036854775807⟩, ⟨⟨(some 67), .build [.nilfn, .nilfn, .nilfn, .nilfn, .nilfn, .nilfn, .nilfn, .nilfn, .nilfn, .nilfn, .nilfn, .nilfn, .nilfn, .nilfn, .nilfn, .nilfn, .nilfn, .nilfn, .nilfn, .nilfn, .nilfn, .nilfn, .nilfn, .nilfn, .nilfn, .nilfn, .nilfn, .nilfn, .nilfn, .nilfn, .nilfn, .nilfn, .nilfn, .nilfn, .nilfn, .nilfn, .nilfn, .nilfn, .nilfn, .nilfn, .nilfn, .nilfn, .nilfn, .nilfn, .nilfn, .nilfn, .nilfn, .nilfn, .nilfn, .nilfn, .nilfn, .nilfn, .nilfn, .nilfn, .nilfn, .nilfn, .nilfn, .nilfn, .nilfn, .nilfn, .nilfn, .nilfn, .nilfn, .nilfn] [(0, 4, (.t 6)), (4, 4, (.t 10)), (8, 4, (.t 14)), (12, 4, (.t 18)), (16, 4, (.t 22)), (20, 4, (.t 26)), (24, 4, (.t 30)), (28, 4, (.t 34)), (32, 4, (.t 38)), (36, 4, (.t 42)), (40, 4, (.t 46)), (44, 4, (.t 50)), (48, 4, (.t 54)), (52, 4, (.t 58)), (56, 4, (.t 62)), (60, 4, (.t 66))], none⟩, .quiet, 64, 18446744073709551615⟩, ⟨⟨none, .store 64 (.t 2) (.t 67), none⟩, .loud, 65, 36893488147419103231⟩])
.ret))⟩
theorem c67_eq : compFn Tryz.prog 67 = some c67 := by kernel_rfl
noncomputable def c68 : FnI := ⟨72, [.tmp 2],
(.seq (.reg [⟨(some 1), .box (.t 0), none⟩, ⟨(some 2), .mov (.c .nilfn), none⟩])
(.seq (.seq (.reg [⟨(some 3), .faddr 4 (.t 1), none⟩, ⟨(some 4), .faddr 0 (.t 3), none⟩, ⟨(some 5), .load false 1 (.t 4), none⟩])
(.block 0 (.seq (.reg [⟨(some 7), .bin .eql (.t 5) (.c (.int .i64 (.ofNat 1))), none⟩, ⟨(some 6), .mov (.t 7), none⟩])
(.cond (.t 6) (.seq (.reg [⟨(some 8), .load true 22 (.t 1), none⟩, ⟨(some 9), .mkfn 122 [(.t 8)] [], none⟩, ⟨(some 2), .mov (.t 9), none⟩])
.ret) (.seq (.reg [⟨(some 11), .bin .eql (.t 5) (.c (.int .i64 (.ofNat 2))), none⟩, ⟨(some 10), .mov (.t 11), none⟩])
(.cond (.t 10) (.seq (.reg [⟨(some 12), .load true 22 (.t 1), none⟩, ⟨(some 13), .mkfn 123 [(.t 12)] [], none⟩, ⟨(some 2), .mov (.t 13), none⟩])
.ret) (.seq (.reg [⟨(some 15), .bin .eql (.t 5) (.c (.int .i64 (.ofNat 3))), none⟩, ⟨(some 14), .mov (.t 15), none⟩])
(.cond (.t 14) (.seq (.reg [⟨(some 16), .load true 22 (.t 1), none⟩, ⟨(some 17), .mkfn 124 [(.t 16)] [], none⟩, ⟨(some 2), .mov (.t 17), none⟩])
.ret) (.seq (.reg [⟨(some 19), .bin .eql (.t 5) (.c (.int .i64 (.ofNat 4))), none⟩, ⟨(some 18), .mov (.t 19), none⟩])
(.cond (.t 18) (.seq (.reg [⟨(some 20), .load true 22 (.t 1), none⟩, ⟨(some 21), .mkfn 125 [(.t 20)] [], none⟩, ⟨(some 2), .mov (.t 21), none⟩])
.ret) (.seq (.reg [⟨(some 23), .bin .eql (.t 5) (.c (.int .i64 (.ofNat 5))), none⟩, ⟨(some 22), .mov (.t 23), none⟩])
(.cond (.t 22) (.seq (.reg [⟨(some 24), .load true 22 (.t 1), none⟩, ⟨(some 25), .mkfn 126 [(.t 24)] [], none⟩, ⟨(some 2), .mov (.t 25), none⟩])
.ret) (.seq (.reg [⟨(some 27), .bin .eql (.t 5) (.c (.int .i64 (.ofNat 6))), none⟩, ⟨(some 26), .mov (.t 27), none⟩])
(.cond (.t 26) (.seq (.reg [⟨(some 28), .load true 22 (.t 1), none⟩, ⟨(some 29), .mkfn 127 [(.t 28)] [], none⟩, ⟨(some 2), .mov (.t 29), none⟩])
.ret) (.seq (.reg [⟨(some 31), .bin .eql (.t 5) (.c (.int .i64 (.ofNat 7))), none⟩, ⟨(some 30), .mov (.t 31), none⟩])
(.cond (.t 30) (.seq (.reg [⟨(some 32), .load true 22 (.t 1), none⟩, ⟨(some 33), .mkfn 128 [(.t 32)] [], none⟩, ⟨(some 2), .mov (.t 33), none⟩])
.ret) (.seq (.reg [⟨(some 35), .bin .eql (.t 5) (.c (.int .i64 (.ofNat 8))), none⟩, ⟨(some 34), .mov (.t 35), none⟩])
(.cond (.t 34) (.seq (.reg [⟨(some 36), .load true 22 (.t 1), none⟩, ⟨(some 37), .mkfn 129 [(.t 36)] [], none⟩, ⟨(some 2), .mov (.t 37), none⟩])
.ret) (.seq (.reg [⟨(some 39), .bin .eql (.t 5) (.c (.int .i64 (.ofNat 9))), none⟩, ⟨(some 38), .mov (.t 39), none⟩])
(.cond (.t 38) (.seq (.reg [⟨(some 40), .load true 22 (.t 1), none⟩, ⟨(some 41), .mkfn 130 [(.t 40)] [], none⟩, ⟨(some 2), .mov (.t 41), none⟩])
.ret) (.seq (.reg [⟨(some 43), .bin .eql (.t 5) (.c (.int .i64 (.ofNat 10))), none⟩, ⟨(some 42), .mov (.t 43), none⟩])
(.cond (.t 42) (.seq (.reg [⟨(some 44), .load true 22 (.t 1), none⟩, ⟨(some 45), .mkfn 131 [(.t 44)] [], none⟩, ⟨(some 2), .mov (.t 45), none⟩])
.ret) (.seq (.reg [⟨(some 47), .bin .eql (.t 5) (.c (.int .i64 (.ofNat 11))), none⟩, ⟨(some 46), .mov (.t 47), none⟩])
(.cond (.t 46) (.seq (.reg [⟨(some 48), .load true 22 (.t 1), none⟩, ⟨(some 49), .mkfn 132 [(.t 48)] [], none⟩, ⟨(some 2), .mov (.t 49), none⟩])
.ret) (.seq (.reg [⟨(some 51), .bin .eql (.t 5) (.c (.int .i64 (.ofNat 12))), none⟩, ⟨(some 50), .mov (.t 51), none⟩])
(.cond (.t 50) (.seq (.reg [⟨(some 52), .load true 22 (.t 1), none⟩, ⟨(some 53), .mkfn 133 [(.t 52)] [], none⟩, ⟨(some 2), .mov (.t 53), none⟩])
.ret) (.seq (.reg [⟨(some 55), .bin .eql (.t 5) (.c (.int .i64 (.ofNat 13))), none⟩, ⟨(some 54), .mov (.t 55), none⟩])
(.cond (.t 54) (.seq (.reg [⟨(some 56), .load true 22 (.t 1), none⟩, ⟨(some 57), .mkfn 134 [(.t 56)] [], none⟩, ⟨(some 2), .mov (.t 57), none⟩])
.ret) (.seq (.reg [⟨(some 59), .bin .eql (.t 5) (.c (.int .i64 (.ofNat 14))), none⟩, ⟨(some 58), .mov (.t 59), none⟩])
(.cond (.t 58) (.seq (.reg [⟨(some 60), .load true 22 (.t 1), none⟩, ⟨(some 61), .mkfn 135 [(.t 60)] [], none⟩, ⟨(some 2), .mov (.t 61), none⟩])
.ret) (.seq (.reg [⟨(some 63), .bin .eql (.t 5) (.c (.int .i64 (.ofNat 15))), none⟩, ⟨(some 62), .mov (.t 63), none⟩])
(.cond (.t 62) (.seq (.reg [⟨(some 64), .load true 22 (.t 1), none⟩, ⟨(some 65), .mkfn 136 [(.t 64)] [], none⟩, ⟨(some 2), .mov (.t 65), none⟩])
.ret) (.seq (.reg [⟨(some 67), .bin .eql (.t 5) (.c (.int .i64 (.ofNat 16))), none⟩, ⟨(some 66), .mov (.t 67), none⟩])
(.cond (.t 66) (.seq (.reg [⟨(some 68), .load true 22 (.t 1), none⟩, ⟨(some 69), .mkfn 137 [(.t 68)] [], none⟩, ⟨(some 2), .mov (.t 69), none⟩])
.ret) .skip))))))))))))))))))))))))))))))))))
(.seq (.reg [⟨(some 70), .load true 22 (.t 1), none⟩, ⟨(some 71), .mkfn 138 [(.t 70)] [], none⟩, ⟨(some 2), .mov (.t 71), none⟩])
.ret)))⟩
theorem c68_eq : compFn Tryz.prog 68 = some c68 := by kernel_rfl
noncomputable def c70 : FnI := ⟨12, [.tmp 2],
(.seq (.reg [⟨(some 2), .mov (.c (.bool false)), none⟩])
(.seq (.reg [⟨(some 3), .mov (.t 0), none⟩, ⟨(some 4), .eq false .ptr (.t 3) (.c .nilp), none⟩, ⟨(some 5), .mov (.t 4), none⟩, ⟨(some 6), .mov (.t 0), (some (5, false))⟩, ⟨(some 7), .nilchk (.t 6), (some (5, false))⟩, ⟨(some 8), .faddr 0 (.t 7), (some (5, false))⟩, ⟨(some 9), .load false 1 (.t 8), (some (5, false))⟩, ⟨(some 10), .eq false .ptr (.t 9) (.c .nilp), (some (5, false))⟩, ⟨(some 11), .pick (.t 5) (.c (.bool true)) (.t 10), none⟩, ⟨(some 2), .mov (.t 11), none⟩])
.ret))⟩
theorem c70_eq : compFn Tryz.prog 70 = some c70 := by kernel_rfl
noncomputable def c71 : FnI := ⟨9, [.tmp 2],
(.seq (.reg [⟨(some 2), .mov (.c (.int .u64 (.ofNat 0))), none⟩])
(.seq (.seq (.reg [⟨(some 3), .mov (.t 0), none⟩, ⟨(some 4), .call 139 [(.t 3)], none⟩])
(.cond (.t 4) (.seq (.reg [⟨(some 2), .mov (.c (.int .u64 (.ofNat 0))), none⟩])
.ret) .skip))
(.seq (.reg [⟨(some 5), .mov (.t 0), none⟩, ⟨(some 6), .nilchk (.t 5), none⟩, ⟨(some 7), .faddr 2 (.t 6), none⟩, ⟨(some 8), .load false 1 (.t 7), none⟩, ⟨(some 2), .mov (.t 8), none⟩])
.ret)))⟩
theorem c71_eq : compFn Tryz.prog 71 = some c71 := by kernel_rfl
noncomputable def c72 : FnI := ⟨9, [.tmp 2],
(.seq (.reg [⟨(some 2), .mov (.c (.int .u64 (.ofNat 0))), none⟩])
(.seq (.seq (.reg [⟨(some 3), .mov (.t 0), none⟩, ⟨(some 4), .call 140 [(.t 3)], none⟩])
(.cond (.t 4) (.seq (.reg [⟨(some 2), .mov (.c (.int .u64 (.ofNat 0))), none⟩])
.ret) .skip))
(.seq (.reg [⟨(some 5), .mov (.t 0), none⟩, ⟨(some 6), .nilchk (.t 5), none⟩, ⟨(some 7), .faddr 2 (.t 6), none⟩, ⟨(some 8), .load false 1 (.t 7), none⟩, ⟨(some 2), .mov (.t 8), none⟩])
.ret)))⟩
theorem c72_eq : compFn Tryz.prog 72 = some c72 := by kernel_rfl
noncomputable def c73 : FnI := ⟨9, [.tmp 2],
(.seq (.reg [⟨(some 2), .mov (.c (.int .u64 (.ofNat 0))), none⟩])
(.seq (.seq (.reg [⟨(some 3), .mov (.t 0), none⟩, ⟨(some 4), .call 141 [(.t 3)], none⟩])
(.cond (.t 4) (.seq (.reg [⟨(some 2), .mov (.c (.int .u64 (.ofNat 0))), none⟩])
.ret) .skip))
(.seq (.reg [⟨(some 5), .mov (.t 0), none⟩, ⟨(some 6), .nilchk (.t 5), none⟩, ⟨(some 7), .faddr 2 (.t 6), none⟩, ⟨(some 8), .load false 1 (.t 7), none⟩, ⟨(some 2), .mov (.t 8), none⟩])
.ret)))⟩
theorem c73_eq : compFn Tryz.prog 73 = some c73 := by kernel_rfl
noncomputable def c74 : FnI := ⟨29, [.tmp 4],
(.seq (.reg [⟨(some 3), .box (.t 1), none⟩, ⟨(some 4), .mov (.c .nilsl), none⟩])
(.seq (.reg [⟨(some 5), .mov (.c .nilsl), none⟩])
(.seq (.seq (.reg [⟨(some 8), .mov (.t 0), none⟩, ⟨(some 9), .call 142 [(.t 8)], none⟩, ⟨(some 10), .len false (.t 9), none⟩, ⟨(some 11), .mov (.c (.int .i64 (.ofNat 0))), none⟩])
(.block 0 (.loop (.seq (.reg [⟨(some 12), .bin .lss (.t 11) (.t 10), none⟩])
(.seq (.cond (.t 12) .skip (.exit 0))
(.seq (.block 1 (.seq (.reg [⟨(some 13), .idxS 7 (.t 9) (.t 11), none⟩, ⟨(some 14), .load true 7 (.t 13), none⟩, ⟨(some 7), .alloc [(.str []), (.int .i64 (.ofNat 0)), (.str []), (.int .u64 (.ofNat 0)), (.int .u64 (.ofNat 0)), (.int .u64 (.ofNat 0)), (.int .u64 (.ofNat 0))], none⟩, ⟨none, .store 7 (.t 7) (.t 14), none⟩])
(.reg [⟨(some 15), .mov (.t 5), none⟩, ⟨(some 16), .faddr 0 (.t 3), none⟩, ⟨(some 17), .load false 1 (.t 16), none⟩, ⟨(some 18), .faddr 1 (.t 7), none⟩, ⟨(some 19), .load true 4 (.t 18), none⟩, ⟨(some 20), .faddr 5 (.t 7), none⟩, ⟨(some 21), .load false 1 (.t 20), none⟩, ⟨(some 22), .faddr 6 (.t 7), none⟩, ⟨(some 23), .load false 1 (.t 22), none⟩, ⟨(some 24), .callv (.t 17) [(.t 19), (.t 21), (.t 23)], none⟩, ⟨(some 25), .buildSl 4 1 [(.int .i64 (.ofNat 0)), (.str []), (.int .u64 (.ofNat 0)), (.int .u64 (.ofNat 0))] [(0, 4, (.t 24))], none⟩, ⟨(some 26), .append 4 40 (.t 15) (.t 25), none⟩, ⟨(some 5), .mov (.t 26), none⟩])))
(.reg [⟨(some 27), .bin .add (.t 11) (.c (.int .i64 (.ofNat 1))), none⟩, ⟨(some 11), .mov (.t 27), none⟩])))))))
(.seq (.reg [⟨(some 28), .mov (.t 5), none⟩, ⟨(some 4), .mov (.t 28), none⟩])
.ret))))⟩
theorem c74_eq : compFn Tryz.prog 74 = some c74 := by kernel_rfl
noncomputable def c75 : FnI := ⟨12, [.cell 6 true 4],
(.seq (.reg [⟨(some 3), .box (.t 0), none⟩, ⟨(some 6), .alloc [(.int .i64 (.ofNat 0)), (.str []), (.int .u64 (.ofNat 0)), (.int .u64 (.ofNat 0))], none⟩])
(.seq (.reg [⟨(some 7), .mov (.t 1), none⟩, ⟨(some 8), .mov (.t 2), none⟩, ⟨(some 9), .faddr 2 (.t 3), none⟩, ⟨none, .store 1 (.t 9) (.t 7), none⟩, ⟨(some 10), .faddr 3 (.t 3), none⟩, ⟨none, .store 1 (.t 10) (.t 8), none⟩])
(.seq (.reg [⟨(some 11), .load true 4 (.t 3), none⟩, ⟨none, .store 4 (.t 6) (.t 11), none⟩])
.ret)))⟩
theorem c75_eq : compFn Tryz.prog 75 = some c75 := by kernel_rfl
noncomputable def c76 : FnI := ⟨29, [.tmp 4],
(.seq (.reg [⟨(some 3), .box (.t 1), none⟩, ⟨(some 4), .mov (.c .nilsl), none⟩])
(.seq (.reg [⟨(some 5), .mov (.c .nilsl), none⟩])
(.seq (.seq (.reg [⟨(some 8), .mov (.t 0), none⟩, ⟨(some 9), .call 143 [(.t 8)], none⟩, ⟨(some 10), .len false (.t 9), none⟩, ⟨(some 11), .mov (.c (.int .i64 (.ofNat 0))), none⟩])
(.block 0 (.loop (.seq (.reg [⟨(some 12), .bin .lss (.t 11) (.t 10), none⟩])
(.seq (.cond (.t 12) .skip (.exit 0))
(.seq (.block 1 (.seq (.reg [⟨(some 13), .idxS 10 (.t 9) (.t 11), none⟩, ⟨(some 14), .load true 10 (.t 13), none⟩, ⟨(some 7), .alloc [(.str []), (.int .i64 (.ofNat 0)), (.str []), (.str []), .nilsl, (.int .i64 (.ofNat 0)), (.int .u64 (.ofNat 0)), (.int .u64 (.ofNat 0)), (.int .u64 (.ofNat 0)), (.int .u64 (.ofNat 0))], none⟩, ⟨none, .store 10 (.t 7) (.t 14), none⟩])
(.reg [⟨(some 15), .mov (.t 5), none⟩, ⟨(some 16), .faddr 0 (.t 3), none⟩, ⟨(some 17), .load false 1 (.t 16), none⟩, ⟨(some 18), .faddr 1 (.t 7), none⟩, ⟨(some 19), .load true 7 (.t 18), none⟩, ⟨(some 20), .faddr 8 (.t 7), none⟩, ⟨(some 21), .load false 1 (.t 20), none⟩, ⟨(some 22), .faddr 9 (.t 7), none⟩, ⟨(some 23), .load false 1 (.t 22), none⟩, ⟨(some 24), .callv (.t 17) [(.t 19), (.t 21), (.t 23)], none⟩, ⟨(some 25), .buildSl 7 1 [(.int .i64 (.ofNat 0)), (.str []), (.str []), .nilsl, (.int .i64 (.ofNat 0)), (.int .u64 (.ofNat 0)), (.int .u64 (.ofNat 0))] [(0, 7, (.t 24))], none⟩, ⟨(some 26), .append 7 88 (.t 15) (.t 25), none⟩, ⟨(some 5), .mov (.t 26), none⟩])))
(.reg [⟨(some 27), .bin .add (.t 11) (.c (.int .i64 (.ofNat 1))), none⟩, ⟨(some 11), .mov (.t 27), none⟩])))))))
(.seq (.reg [⟨(some 28), .mov (.t 5), none⟩, ⟨(some 4), .mov (.t 28), none⟩])
.ret))))⟩
theorem c76_eq : compFn Tryz.prog 76 = some c76 := by kernel_rfl
noncomputable def c78 : FnI := ⟨29, [.tmp 4],
(.seq (.reg [⟨(some 3), .box (.t 1), none⟩, ⟨(some 4), .mov (.c .nilsl), none⟩])
(.seq (.reg [⟨(some 5), .mov (.c .nilsl), none⟩])
(.seq (.seq (.reg [⟨(some 8), .mov (.t 0), none⟩, ⟨(some 9), .call 144 [(.t 8)], none⟩, ⟨(some 10), .len false (.t 9), none⟩, ⟨(some 11), .mov (.c (.int .i64 (.ofNat 0))), none⟩])
(.block 0 (.loop (.seq (.reg [⟨(some 12), .bin .lss (.t 11) (.t 10), none⟩])
(.seq (.cond (.t 12) .skip (.exit 0))
(.seq (.block 1 (.seq (.reg [⟨(some 13), .idxS 10 (.t 9) (.t 11), none⟩, ⟨(some 14), .load true 10 (.t 13), none⟩, ⟨(some 7), .alloc [(.str []), (.int .i64 (.ofNat 0)), (.str []), (.str []), (.str []), (.int .i64 (.ofNat 0)), (.int .u64 (.ofNat 0)), (.int .u64 (.ofNat 0)), (.int .u64 (.ofNat 0)), (.int .u64 (.ofNat 0))], none⟩, ⟨none, .store 10 (.t 7) (.t 14), none⟩])
(.reg [⟨(some 15), .mov (.t 5), none⟩, ⟨(some 16), .faddr 0 (.t 3), none⟩, ⟨(some 17), .load false 1 (.t 16), none⟩, ⟨(some 18), .faddr 1 (.t 7), none⟩, ⟨(some 19), .load true 7 (.t 18), none⟩, ⟨(some 20), .faddr 8 (.t 7), none⟩, ⟨(some 21), .load false 1 (.t 20), none⟩, ⟨(some 22), .faddr 9 (.t 7), none⟩, ⟨(some 23), .load false 1 (.t 22), none⟩, ⟨(some 24), .callv (.t 17) [(.t 19), (.t 21), (.t 23)], none⟩, ⟨(some 25), .buildSl 7 1 [(.int .i64 (.ofNat 0)), (.str []), (.str []), (.str []), (.int .i64 (.ofNat 0)), (.int .u64 (.ofNat 0)), (.int .u64 (.ofNat 0))] [(0, 7, (.t 24))], none⟩, ⟨(some 26), .append 7 80 (.t 15) (.t 25), none⟩, ⟨(some 5), .mov (.t 26), none⟩])))
(.reg [⟨(some 27), .bin .add (.t 11) (.c (.int .i64 (.ofNat 1))), none⟩, ⟨(some 11), .mov (.t 27), none⟩])))))))
(.seq (.reg [⟨(some 28), .mov (.t 5), none⟩, ⟨(some 4), .mov (.t 28), none⟩])
.ret))))⟩
theorem c78_eq : compFn Tryz.prog 78 = some c78 := by kernel_rfl
noncomputable def c80 : FnI := ⟨12, [.tmp 2],
(.seq (.reg [⟨(some 2), .mov (.c (.bool false)), none⟩])
(.seq (.reg [⟨(some 3), .mov (.t 0), none⟩, ⟨(some 4), .eq false .ptr (.t 3) (.c .nilp), none⟩, ⟨(some 5), .mov (.t 4), none⟩, ⟨(some 6), .mov (.t 0), (some (5, false))⟩, ⟨(some 7), .nilchk (.t 6), (some (5, false))⟩, ⟨(some 8), .faddr 0 (.t 7), (some (5, false))⟩, ⟨(some 9), .load false 1 (.t 8), (some (5, false))⟩, ⟨(some 10), .eq false .ptr (.t 9) (.c .nilp), (some (5, false))⟩, ⟨(some 11), .pick (.t 5) (.c (.bool true)) (.t 10), none⟩, ⟨(some 2), .mov (.t 11), none⟩])
.ret))⟩
theorem c80_eq : compFn Tryz.prog 80 = some c80 := by kernel_rfl
noncomputable def c81 : FnI := ⟨11, [.tmp 2],
(.seq (.reg [⟨(some 2), .mov (.c .nilsl), none⟩])
(.seq (.seq (.reg [⟨(some 3), .mov (.t 0), none⟩, ⟨(some 4), .call 145 [(.t 3)], none⟩])
(.cond (.t 4) (.seq (.reg [⟨(some 2), .mov (.c .nilsl), none⟩])
.ret) .skip))
(.seq (.reg [⟨(some 5), .buildSl 8 0 [] [], none⟩, ⟨(some 6), .mov (.t 0), none⟩, ⟨(some 7), .nilchk (.t 6), none⟩, ⟨(some 8), .faddr 1 (.t 7), none⟩, ⟨(some 9), .load false 1 (.t 8), none⟩, ⟨(some 10), .append 8 88 (.t 5) (.t 9), none⟩, ⟨(some 2), .mov (.t 10), none⟩])
.ret)))⟩
theorem c81_eq : compFn Tryz.prog 81 = some c81 := by kernel_rfl
noncomputable def c83 : FnI := ⟨23, [],
(.seq (.reg [⟨(some 8), .mov (.t 0), none⟩, ⟨(some 9), .ext (.valueOf [23, 25, 42, 50, 51, 52, 53, 54, 55, 57, 72, 82, 85, 89, 91, 178, 189, 230, 233, 236, 269]) [(.t 8)], none⟩, ⟨(some 4), .alloc [.nilp, .nilp, (.int .u64 (.ofNat 0))], none⟩, ⟨none, .store 3 (.t 4) (.t 9), none⟩])
(.seq (.reg [⟨(some 10), .mov (.t 0), none⟩, ⟨(some 11), .ext (.swapper 227 228 [23, 25, 42, 50, 51, 52, 53, 54, 55, 57, 72, 82, 85, 89, 91, 178, 189, 230, 233, 236, 269]) [(.t 10)], none⟩, ⟨(some 5), .mov (.t 11), none⟩])
(.seq (.reg [⟨(some 12), .load true 3 (.t 4), none⟩, ⟨(some 13), .ext (.rvLen [23, 25, 42, 50, 51, 52, 53, 54, 55, 57, 72, 82, 85, 89, 91, 178, 189, 230, 233, 236, 269]) [(.t 12)], none⟩, ⟨(some 6), .mov (.t 13), none⟩])
(.seq (.reg [⟨(some 14), .mov (.t 6), none⟩, ⟨(some 15), .cvInt .u64 (.t 14), none⟩, ⟨(some 16), .call 149 [(.t 15)], none⟩, ⟨(some 7), .mov (.t 16), none⟩])
(.reg [⟨(some 17), .mov (.t 1), none⟩, ⟨(some 18), .mov (.t 5), none⟩, ⟨(some 19), .build [.nilfn, .nilfn] [(0, 1, (.t 17)), (1, 1, (.t 18))], none⟩, ⟨(some 20), .mov (.t 6), none⟩, ⟨(some 21), .mov (.t 7), none⟩, ⟨(some 22), .call 150 [(.t 19), (.c (.int .i64 (.ofNat 0))), (.t 20), (.t 21)], none⟩])))))⟩
theorem c83_eq : compFn Tryz.prog 83 = some c83 := by kernel_rfl
noncomputable def c86 : FnI := ⟨12, [.tmp 2],
(.seq (.reg [⟨(some 2), .mov (.c (.bool false)), none⟩])
(.seq (.reg [⟨(some 3), .mov (.t 0), none⟩, ⟨(some 4), .eq false .ptr (.t 3) (.c .nilp), none⟩, ⟨(some 5), .mov (.t 4), none⟩, ⟨(some 6), .mov (.t 0), (some (5, false))⟩, ⟨(some 7), .nilchk (.t 6), (some (5, false))⟩, ⟨(some 8), .faddr 0 (.t 7), (some (5, false))⟩, ⟨(some 9), .load false 1 (.t 8), (some (5, false))⟩, ⟨(some 10), .eq false .ptr (.t 9) (.c .nilp), (some (5, false))⟩, ⟨(some 11), .pick (.t 5) (.c (.bool true)) (.t 10), none⟩, ⟨(some 2), .mov (.t 11), none⟩])
.ret))⟩
theorem c86_eq : compFn Tryz.prog 86 = some c86 := by kernel_rfl
noncomputable def c87 : FnI := ⟨19, [.tmp 4],
(.seq (.reg [⟨(some 3), .box (.t 1), none⟩, ⟨(some 4), .mov (.c .nilsl), none⟩])
(.seq (.reg [⟨(some 5), .alloc [.nilsl], none⟩])
(.seq (.seq (.reg [⟨(some 7), .mov (.t 0), none⟩, ⟨(some 8), .call 152 [(.t 7)], none⟩])
(.block 0 (.rangef (.t 8) [9] (.reg [⟨(some 6), .alloc [(.str []), (.str []), (.str []), (.int .u64 (.ofNat 0)), (.int .u64 (.ofNat 0)), (.int .u64 (.ofNat 0)), (.int .u64 (.ofNat 0)), (.int .u64 (.ofNat 0)), (.int .u64 (.ofNat 0))], none⟩, ⟨none, .store 9 (.t 6) (.t 9), none⟩]) (.block 1 (.seq (.reg [⟨(some 10), .faddr 0 (.t 6), none⟩, ⟨(some 11), .load false 1 (.t 10), none⟩, ⟨(some 12), .load false 1 (.t 3), none⟩, ⟨(some 13), .call 153 [(.t 11), (.t 12)], none⟩])
(.cond (.t 13) (.reg [⟨(some 14), .load false 1 (.t 5), none⟩, ⟨(some 15), .load true 9 (.t 6), none⟩, ⟨(some 16), .buildSl 9 1 [(.str []), (.str []), (.str []), (.int .u64 (.ofNat 0)), (.int .u64 (.ofNat 0)), (.int .u64 (.ofNat 0)), (.int .u64 (.ofNat 0)), (.int .u64 (.ofNat 0)), (.int .u64 (.ofNat 0))] [(0, 9, (.t 15))], none⟩, ⟨(some 17), .append 9 96 (.t 14) (.t 16), none⟩, ⟨none, .store 1 (.t 5) (.t 17), none⟩]) .skip))))))
(.seq (.reg [⟨(some 18), .load false 1 (.t 5), none⟩, ⟨(some 4), .mov (.t 18), none⟩])
.ret))))⟩
theorem c87_eq : compFn Tryz.prog 87 = some c87 := by kernel_rfl
noncomputable def c89 : FnI := ⟨4, [.tmp 2],
(.seq (.reg [⟨(some 1), .box (.t 0), none⟩, ⟨(some 2), .mov (.c .nilfn), none⟩])
(.seq (.reg [⟨(some 3), .mkfn 154 [] [(.t 1)], none⟩, ⟨(some 2), .mov (.t 3), none⟩])
.ret))⟩
theorem c89_eq : compFn Tryz.prog 89 = some c89 := by kernel_rfl
noncomputable def c90 : FnI := ⟨9, [.tmp 2],
(.seq (.reg [⟨(some 2), .mov (.c (.int .u64 (.ofNat 0))), none⟩])
(.seq (.seq (.reg [⟨(some 3), .mov (.t 0), none⟩, ⟨(some 4), .call 145 [(.t 3)], none⟩])
(.cond (.t 4) (.seq (.reg [⟨(some 2), .mov (.c (.int .u64 (.ofNat 0))), none⟩])
.ret) .skip))
(.seq (.reg [⟨(some 5), .mov (.t 0), none⟩, ⟨(some 6), .nilchk (.t 5), none⟩, ⟨(some 7), .faddr 2 (.t 6), none⟩, ⟨(some 8), .load false 1 (.t 7), none⟩, ⟨(some 2), .mov (.t 8), none⟩])
.ret)))⟩
theorem c90_eq : compFn Tryz.prog 90 = some c90 := by kernel_rfl
noncomputable def c91 : FnI := ⟨9, [.tmp 2],
(.seq (.reg [⟨(some 2), .mov (.c (.int .u64 (.ofNat 0))), none⟩])
(.seq (.seq (.reg [⟨(some 3), .mov (.t 0), none⟩, ⟨(some 4), .call 157 [(.t 3)], none⟩])
(.cond (.t 4) (.seq (.reg [⟨(some 2), .mov (.c (.int .u64 (.ofNat 0))), none⟩])
.ret) .skip))
(.seq (.reg [⟨(some 5), .mov (.t 0), none⟩, ⟨(some 6), .nilchk (.t 5), none⟩, ⟨(some 7), .faddr 2 (.t 6), none⟩, ⟨(some 8), .load false 1 (.t 7), none⟩, ⟨(some 2), .mov (.t 8), none⟩])
.ret)))⟩
theorem c91_eq : compFn Tryz.prog 91 = some c91 := by kernel_rfl
noncomputable def c92 : FnI := ⟨12, [.tmp 2],
(.seq (.reg [⟨(some 2), .mov (.c (.bool false)), none⟩])
(.seq (.reg [⟨(some 3), .mov (.t 0), none⟩, ⟨(some 4), .eq false .ptr (.t 3) (.c .nilp), none⟩, ⟨(some 5), .mov (.t 4), none⟩, ⟨(some 6), .mov (.t 0), (some (5, false))⟩, ⟨(some 7), .nilchk (.t 6), (some (5, false))⟩, ⟨(some 8), .faddr 0 (.t 7), (some (5, false))⟩, ⟨(some 9), .load false 1 (.t 8), (some (5, false))⟩, ⟨(some 10), .eq false .ptr (.t 9) (.c .nilp), (some (5, false))⟩, ⟨(some 11), .pick (.t 5) (.c (.bool true)) (.t 10), none⟩, ⟨(some 2), .mov (.t 11), none⟩])
.ret))⟩
theorem c92_eq : compFn Tryz.prog 92 = some c92 := by kernel_rfl
noncomputable def c93 : FnI := ⟨9, [.tmp 2],
(.seq (.reg [⟨(some 2), .mov (.c (.int .u64 (.ofNat 0))), none⟩])
(.seq (.seq (.reg [⟨(some 3), .mov (.t 0), none⟩, ⟨(some 4), .call 158 [(.t 3)], none⟩])
(.cond (.t 4) (.seq (.reg [⟨(some 2), .mov (.c (.int .u64 (.ofNat 0))), none⟩])
.ret) .skip))
(.seq (.reg [⟨(some 5), .mov (.t 0), none⟩, ⟨(some 6), .nilchk (.t 5), none⟩, ⟨(some 7), .faddr 2 (.t 6), none⟩, ⟨(some 8), .load false 1 (.t 7), none⟩, ⟨(some 2), .mov (.t 8), none⟩])
.ret)))⟩
theorem c93_eq : compFn Tryz.prog 93 = some c93 := by kernel_rfl
noncomputable def c94 : FnI := ⟨17, [.tmp 2],
(.seq (.reg [⟨(some 2), .mov (.c .nilp), none⟩])
(.seq (.seq (.reg [⟨(some 3), .mov (.t 0), none⟩, ⟨(some 4), .call 157 [(.t 3)], none⟩])
(.cond (.t 4) (.seq (.reg [⟨(some 2), .mov (.c .nilp), none⟩])
.ret) .skip))
(.seq (.dreg [⟨⟨(some 9), .mov (.t 0), none⟩, .quiet, 4, 0⟩, ⟨⟨(some 10), .call 159 [(.t 9)], none⟩, .loud, 5, 16⟩, ⟨⟨(some 5), .mov (.t 0), none⟩, .quiet, 0, 0⟩, ⟨⟨(some 6), .nilchk (.t 5), none⟩, .quiet, 1, 1⟩, ⟨⟨(some 7), .faddr 0 (.t 6), none⟩, .quiet, 2, 3⟩, ⟨⟨(some 8), .load false 1 (.t 7), none⟩, .load, 3, 7⟩, ⟨⟨(some 11), .mov (.t 0), none⟩, .quiet, 6, 0⟩, ⟨⟨(some 12), .nilchk (.t 11), none⟩, .quiet, 7, 64⟩, ⟨⟨(some 13), .faddr 2 (.t 12), none⟩, .quiet, 8, 192⟩, ⟨⟨(some 14), .load false 1 (.t 13), none⟩, .load, 9, 448⟩, ⟨⟨(some 15), .build [(.int .i64 (.ofNat 0)), .nilsl, (.int .u64 (.ofNat 0))] [(0, 1, (.t 8)), (1, 1, (.t 10)), (2, 1, (.t 14))], none⟩, .quiet, 10, 1023⟩, ⟨⟨(some 16), .box (.t 15), none⟩, .quiet, 11, 2047⟩, ⟨⟨(some 2), .mov (.t 16), none⟩, .quiet, 12, 4095⟩])
.ret)))⟩
theorem c94_eq : compFn Tryz.prog 94 = some c94 := by kernel_rfl
noncomputable def c95 : FnI := ⟨17, [.tmp 2],
(.seq (.reg [⟨(some 2), .mov (.c .nilp), none⟩])
(.seq (.seq (.reg [⟨(some 3), .mov (.t 0), none⟩, ⟨(some 4), .call 145 [(.t 3)], none⟩])
(.cond (.t 4) (.seq (.reg [⟨(some 2), .mov (.c .nilp), none⟩])
.ret) .skip))
(.seq (.dreg [⟨⟨(some 9), .mov (.t 0), none⟩, .quiet, 4, 0⟩, ⟨⟨(some 10), .call 81 [(.t 9)], none⟩, .loud, 5, 16⟩, ⟨⟨(some 5), .mov (.t 0), none⟩, .quiet, 0, 0⟩, ⟨⟨(some 6), .nilchk (.t 5), none⟩, .quiet, 1, 1⟩, ⟨⟨(some 7), .faddr 0 (.t 6), none⟩, .quiet, 2, 3⟩, ⟨⟨(some 8), .load false 1 (.t 7), none⟩, .load, 3, 7⟩, ⟨⟨(some 11), .mov (.t 0), none⟩, .quiet, 6, 0⟩, ⟨⟨(some 12), .nilchk (.t 11), none⟩, .quiet, 7, 64⟩, ⟨⟨(some 13), .faddr 2 (.t 12), none⟩, .quiet, 8, 192⟩, ⟨⟨(some 14), .load false 1 (.t 13), none⟩, .load, 9, 448⟩, ⟨⟨(some 15), .build [(.int .i64 (.ofNat 0)), .nilsl, (.int .u64 (.ofNat 0))] [(0, 1, (.t 8)), (1, 1, (.t 10)), (2, 1, (.t 14))], none⟩, .quiet, 10, 1023⟩, ⟨⟨(some 16), .box (.t 15), none⟩, .quiet, 11, 2047⟩, ⟨⟨(some 2), .mov (.t 16), none⟩, .quiet, 12, 4095⟩])
.ret)))⟩
theorem c95_eq : compFn Tryz.prog 95 = some c95 := by kernel_rfl
noncomputable def c96 : FnI := ⟨17, [.tmp 2],
(.seq (.reg [⟨(some 2), .mov (.c .nilp), none⟩])
(.seq (.seq (.reg [⟨(some 3), .mov (.t 0), none⟩, ⟨(some 4), .call 139 [(.t 3)], none⟩])
(.cond (.t 4) (.seq (.reg [⟨(some 2), .mov (.c .nilp), none⟩])
.ret) .skip))
(.seq (.dreg [⟨⟨(some 9), .mov (.t 0), none⟩, .quiet, 4, 0⟩, ⟨⟨(some 10), .call 142 [(.t 9)], none⟩, .loud, 5, 16⟩, ⟨⟨(some 5), .mov (.t 0), none⟩, .quiet, 0, 0⟩, ⟨⟨(some 6), .nilchk (.t 5), none⟩, .quiet, 1, 1⟩, ⟨⟨(some 7), .faddr 0 (.t 6), none⟩, .quiet, 2, 3⟩, ⟨⟨(some 8), .load false 1 (.t 7), none⟩, .load, 3, 7⟩, ⟨⟨(some 11), .mov (.t 0), none⟩, .quiet, 6, 0⟩, ⟨⟨(some 12), .nilchk (.t 11), none⟩, .quiet, 7, 64⟩, ⟨⟨(some 13), .faddr 2 (.t 12), none⟩, .quiet, 8, 192⟩, ⟨⟨(some 14), .load false 1 (.t 13), none⟩, .load, 9, 448⟩, ⟨⟨(some 15), .build [(.int .i64 (.ofNat 0)), .nilsl, (.int .u64 (.ofNat 0))] [(0, 1, (.t 8)), (1, 1, (.t 10)), (2, 1, (.t 14))], none⟩, .quiet, 10, 1023⟩, ⟨⟨(some 16), .box (.t 15), none⟩, .quiet, 11, 2047⟩, ⟨⟨(some 2), .mov (.t 16), none⟩, .quiet, 12, 4095⟩])
.ret)))⟩
theorem c96_eq : compFn Tryz.prog 96 = some c96 := by kernel_rfl
noncomputable def c97 : FnI := ⟨17, [.tmp 2],
(.seq (.reg [⟨(some 2), .mov (.c .nilp), none⟩])
(.seq (.seq (.reg [⟨(some 3), .mov (.t 0), none⟩, ⟨(some 4), .call 140 [(.t 3)], none⟩])
(.cond (.t 4) (.seq (.reg [⟨(some 2), .mov (.c .nilp), none⟩])
.ret) .skip))
(.seq (.dreg [⟨⟨(some 9), .mov (.t 0), none⟩, .quiet, 4, 0⟩, ⟨⟨(some 10), .call 143 [(.t 9)], none⟩, .loud, 5, 16⟩, ⟨⟨(some 5), .mov (.t 0), none⟩, .quiet, 0, 0⟩, ⟨⟨(some 6), .nilchk (.t 5), none⟩, .quiet, 1, 1⟩, ⟨⟨(some 7), .faddr 0 (.t 6), none⟩, .quiet, 2, 3⟩, ⟨⟨(some 8), .load false 1 (.t 7), none⟩, .load, 3, 7⟩, ⟨⟨(some 11), .mov (.t 0), none⟩, .quiet, 6, 0⟩, ⟨⟨(some 12), .nilchk (.t 11), none⟩, .quiet, 7, 64⟩, ⟨⟨(some 13), .faddr 2 (.t 12), none⟩, .quiet, 8, 192⟩, ⟨⟨(some 14), .load false 1 (.t 13), none⟩, .load, 9, 448⟩, ⟨⟨(some 15), .build [(.int .i64 (.ofNat 0)), .nilsl, (.int .u64 (.ofNat 0))] [(0, 1, (.t 8)), (1, 1, (.t 10)), (2, 1, (.t 14))], none⟩, .quiet, 10, 1023⟩, ⟨⟨(some 16), .box (.t 15), none⟩, .quiet, 11, 2047⟩, ⟨⟨(some 2), .mov (.t 16), none⟩, .quiet, 12, 4095⟩])
.ret)))⟩
theorem c97_eq : compFn Tryz.prog 97 = some c97 := by kernel_rfl
noncomputable def c98 : FnI := ⟨17, [.tmp 2],
(.seq (.reg [⟨(some 2), .mov (.c .nilp), none⟩])
(.seq (.seq (.reg [⟨(some 3), .mov (.t 0), none⟩, ⟨(some 4), .call 141 [(.t 3)], none⟩])
(.cond (.t 4) (.seq (.reg [⟨(some 2), .mov (.c .nilp), none⟩])
.ret) .skip))
(.seq (.dreg [⟨⟨(some 9), .mov (.t 0), none⟩, .quiet, 4, 0⟩, ⟨⟨(some 10), .call 144 [(.t 9)], none⟩, .loud, 5, 16⟩, ⟨⟨(some 5), .mov (.t 0), none⟩, .quiet, 0, 0⟩, ⟨⟨(some 6), .nilchk (.t 5), none⟩, .quiet, 1, 1⟩, ⟨⟨(some 7), .faddr 0 (.t 6), none⟩, .quiet, 2, 3⟩, ⟨⟨(some 8), .load false 1 (.t 7), none⟩, .load, 3, 7⟩, ⟨⟨(some 11), .mov (.t 0), none⟩, .quiet, 6, 0⟩, ⟨⟨(some 12), .nilchk (.t 11), none⟩, .quiet, 7, 64⟩, ⟨⟨(some 13), .faddr 2 (.t 12), none⟩, .quiet, 8, 192⟩, ⟨⟨(some 14), .load false 1 (.t 13), none⟩, .load, 9, 448⟩, ⟨⟨(some 15), .build [(.int .i64 (.ofNat 0)), .nilsl, (.int .u64 (.ofNat 0))] [(0, 1, (.t 8)), (1, 1, (.t 10)), (2, 1, (.t 14))], none⟩, .quiet, 10, 1023⟩, ⟨⟨(some 16), .box (.t 15), none⟩, .quiet, 11, 2047⟩, ⟨⟨(some 2), .mov (.t 16), none⟩, .quiet, 12, 4095⟩])
.ret)))⟩
theorem c98_eq : compFn Tryz.prog 98 = some c98 := by kernel_rfl
noncomputable def c99 : FnI := ⟨17, [.tmp 2],
(.seq (.reg [⟨(some 2), .mov (.c .nilp), none⟩])
(.seq (.seq (.reg [⟨(some 3), .mov (.t 0), none⟩, ⟨(some 4), .call 158 [(.t 3)], none⟩])
(.cond (.t 4) (.seq (.reg [⟨(some 2), .mov (.c .nilp), none⟩])
.ret) .skip))
(.seq (.dreg [⟨⟨(some 9), .mov (.t 0), none⟩, .quiet, 4, 0⟩, ⟨⟨(some 10), .call 155 [(.t 9)], none⟩, .loud, 5, 16⟩, ⟨⟨(some 5), .mov (.t 0), none⟩, .quiet, 0, 0⟩, ⟨⟨(some 6), .nilchk (.t 5), none⟩, .quiet, 1, 1⟩, ⟨⟨(some 7), .faddr 0 (.t 6), none⟩, .quiet, 2, 3⟩, ⟨⟨(some 8), .load false 1 (.t 7), none⟩, .load, 3, 7⟩, ⟨⟨(some 11), .mov (.t 0), none⟩, .quiet, 6, 0⟩, ⟨⟨(some 12), .nilchk (.t 11), none⟩, .quiet, 7, 64⟩, ⟨⟨(some 13), .faddr 2 (.t 12), none⟩, .quiet, 8, 192⟩, ⟨⟨(some 14), .load false 1 (.t 13), none⟩, .load, 9, 448⟩, ⟨⟨(some 15), .build [(.int .i64 (.ofNat 0)), .nilsl, (.int .u64 (.ofNat 0))] [(0, 1, (.t 8)), (1, 1, (.t 10)), (2, 1, (.t 14))], none⟩, .quiet, 10, 1023⟩, ⟨⟨(some 16), .box (.t 15), none⟩, .quiet, 11, 2047⟩, ⟨⟨(some 2), .mov (.t 16), none⟩, .quiet, 12, 4095⟩])
.ret)))⟩
theorem c99_eq : compFn Tryz.prog 99 = some c99 := by kernel_rfl
noncomputable def c109 : FnI := ⟨8, [.tmp 2],
(.seq (.reg [⟨(some 2), .mov (.c .nilp), none⟩])
(.seq (.reg [⟨(some 3), .mov (.t 0), none⟩, ⟨(some 4), .mm true (.t 3) [(.c (.int .i64 (.ofNat 1)))], none⟩, ⟨(some 5), .mm false (.t 4) [(.c (.int .i64 (.ofNat 64)))], none⟩, ⟨(some 6), .build [(.int .i64 (.ofNat 0)), .nilsl, (.int .u64 (.ofNat 0))] [(0, 1, (.t 5))], none⟩, ⟨(some 7), .box (.t 6), none⟩, ⟨(some 2), .mov (.t 7), none⟩])
.ret))⟩
theorem c109_eq : compFn Tryz.prog 109 = some c109 := by kernel_rfl
noncomputable def c110 : FnI := ⟨8, [.tmp 2],
(.seq (.reg [⟨(some 2), .mov (.c .nilp), none⟩])
(.seq (.reg [⟨(some 3), .mov (.t 0), none⟩, ⟨(some 4), .mm true (.t 3) [(.c (.int .i64 (.ofNat 1)))], none⟩, ⟨(some 5), .mm false (.t 4) [(.c (.int .i64 (.ofNat 64)))], none⟩, ⟨(some 6), .build [(.int .i64 (.ofNat 0)), .nilsl, (.int .u64 (.ofNat 0))] [(0, 1, (.t 5))], none⟩, ⟨(some 7), .box (.t 6), none⟩, ⟨(some 2), .mov (.t 7), none⟩])
.ret))⟩
theorem c110_eq : compFn Tryz.prog 110 = some c110 := by kernel_rfl
noncomputable def c111 : FnI := ⟨8, [.tmp 2],
(.seq (.reg [⟨(some 2), .mov (.c .nilp), none⟩])
(.seq (.reg [⟨(some 3), .mov (.t 0), none⟩, ⟨(some 4), .mm true (.t 3) [(.c (.int .i64 (.ofNat 1)))], none⟩, ⟨(some 5), .mm false (.t 4) [(.c (.int .i64 (.ofNat 64)))], none⟩, ⟨(some 6), .build [(.int .i64 (.ofNat 0)), .nilsl, (.int .u64 (.ofNat 0))] [(0, 1, (.t 5))], none⟩, ⟨(some 7), .box (.t 6), none⟩, ⟨(some 2), .mov (.t 7), none⟩])
.ret))⟩
theorem c111_eq : compFn Tryz.prog 111 = some c111 := by kernel_rfl
noncomputable def c112 : FnI := ⟨8, [.tmp 2],
(.seq (.reg [⟨(some 2), .mov (.c .nilp), none⟩])
(.seq (.reg [⟨(some 3), .mov (.t 0), none⟩, ⟨(some 4), .mm true (.t 3) [(.c (.int .i64 (.ofNat 1)))], none⟩, ⟨(some 5), .mm false (.t 4) [(.c (.int .i64 (.ofNat 64)))], none⟩, ⟨(some 6), .build [(.int .i64 (.ofNat 0)), .nilsl, (.int .u64 (.ofNat 0))] [(0, 1, (.t 5))], none⟩, ⟨(some 7), .box (.t 6), none⟩, ⟨(some 2), .mov (.t 7), none⟩])
.ret))⟩
theorem c112_eq : compFn Tryz.prog 112 = some c112 := by kernel_rfl
noncomputable def c113 : FnI := ⟨8, [.tmp 2],
(.seq (.reg [⟨(some 2), .mov (.c .nilp), none⟩])
(.seq (.reg [⟨(some 3), .mov (.t 0), none⟩, ⟨(some 4), .mm true (.t 3) [(.c (.int .i64 (.ofNat 1)))], none⟩, ⟨(some 5), .mm false (.t 4) [(.c (.int .i64 (.ofNat 64)))], none⟩, ⟨(some 6), .build [(.int .i64 (.ofNat 0)), .nilsl, (.int .u64 (.ofNat 0))] [(0, 1, (.t 5))], none⟩, ⟨(some 7), .box (.t 6), none⟩, ⟨(some 2), .mov (.t 7), none⟩])
.ret))⟩
theorem c113_eq : compFn Tryz.prog 113 = some c113 := by kernel_rfl
noncomputable def c114 : FnI := ⟨8, [.tmp 2],
(.seq (.reg [⟨(some 2), .mov (.c .nilp), none⟩])
(.seq (.reg [⟨(some 3), .mov (.t 0), none⟩, ⟨(some 4), .mm true (.t 3) [(.c (.int .i64 (.ofNat 1)))], none⟩, ⟨(some 5), .mm false (.t 4) [(.c (.int .i64 (.ofNat 64)))], none⟩, ⟨(some 6), .build [(.int .i64 (.ofNat 0)), .nilsl, (.int .u64 (.ofNat 0))] [(0, 1, (.t 5))], none⟩, ⟨(some 7), .box (.t 6), none⟩, ⟨(some 2), .mov (.t 7), none⟩])
.ret))⟩
theorem c114_eq : compFn Tryz.prog 114 = some c114 := by kernel_rfl
noncomputable def c116 : FnI := ⟨8, [.cell 2 true 4],
(.seq (.reg [⟨(some 1), .box (.t 0), none⟩, ⟨(some 2), .alloc [.nilfn, .nilfn, .nilfn, .nilfn], none⟩])
(.seq (.reg [⟨(some 3), .mkfn 173 [] [(.t 1)], none⟩, ⟨(some 4), .mkfn 175 [] [(.t 1)], none⟩, ⟨(some 5), .mkfn 177 [] [(.t 1)], none⟩, ⟨(some 6), .mkfn 178 [] [(.t 1)], none⟩, ⟨(some 7), .build [.nilfn, .nilfn, .nilfn, .nilfn] [(0, 1, (.t 3)), (1, 1, (.t 4)), (2, 1, (.t 5)), (3, 1, (.t 6))], none⟩, ⟨none, .store 4 (.t 2) (.t 7), none⟩])
.ret))⟩
theorem c116_eq : compFn Tryz.prog 116 = some c116 := by kernel_rfl
noncomputable def c117 : FnI := ⟨8, [.cell 2 true 4],
(.seq (.reg [⟨(some 1), .box (.t 0), none⟩, ⟨(some 2), .alloc [.nilfn, .nilfn, .nilfn, .nilfn], none⟩])
(.seq (.reg [⟨(some 3), .mkfn 179 [] [(.t 1)], none⟩, ⟨(some 4), .mkfn 181 [] [(.t 1)], none⟩, ⟨(some 5), .mkfn 183 [] [(.t 1)], none⟩, ⟨(some 6), .mkfn 184 [] [(.t 1)], none⟩, ⟨(some 7), .build [.nilfn, .nilfn, .nilfn, .nilfn] [(0, 1, (.t 3)), (1, 1, (.t 4)), (2, 1, (.t 5)), (3, 1, (.t 6))], none⟩, ⟨none, .store 4 (.t 2) (.t 7), none⟩])
.ret))⟩
theorem c117_eq : compFn Tryz.prog 117 = some c117 := by kernel_rfl
noncomputable def c118 : FnI := ⟨8, [.cell 2 true 4],
(.seq (.reg [⟨(some 1), .box (.t 0), none⟩, ⟨(some 2), .alloc [.nilfn, .nilfn, .nilfn, .nilfn], none⟩])
(.seq (.reg [⟨(some 3), .mkfn 185 [] [(.t 1)], none⟩, ⟨(some 4), .mkfn 187 [] [(.t 1)], none⟩, ⟨(some 5), .mkfn 189 [] [(.t 1)], none⟩, ⟨(some 6), .mkfn 190 [] [(.t 1)], none⟩, ⟨(some 7), .build [.nilfn, .nilfn, .nilfn, .nilfn] [(0, 1, (.t 3)), (1, 1, (.t 4)), (2, 1, (.t 5)), (3, 1, (.t 6))], none⟩, ⟨none, .store 4 (.t 2) (.t 7), none⟩])
.ret))⟩
theorem c118_eq : compFn Tryz.prog 118 = some c118 := by kernel_rfl
noncomputable def c119 : FnI := ⟨7, [.cell 2 true 4],
(.seq (.reg [⟨(some 1), .box (.t 0), none⟩, ⟨(some 2), .alloc [.nilfn, .nilfn, .nilfn, .nilfn], none⟩])
(.seq (.reg [⟨(some 3), .mkfn 191 [] [(.t 1)], none⟩, ⟨(some 4), .mkfn 193 [] [(.t 1)], none⟩, ⟨(some 5), .mkfn 195 [] [(.t 1)], none⟩, ⟨(some 6), .build [.nilfn, .nilfn, .nilfn, .nilfn] [(0, 1, (.t 3)), (1, 1, (.t 4)), (2, 1, (.t 5)), (3, 1, (.c (.fn (.func 196) [] [])))], none⟩, ⟨none, .store 4 (.t 2) (.t 6), none⟩])
.ret))⟩
theorem c119_eq : compFn Tryz.prog 119 = some c119 := by kernel_rfl
noncomputable def c120 : FnI := ⟨7, [.cell 2 true 4],
(.seq (.reg [⟨(some 1), .box (.t 0), none⟩, ⟨(some 2), .alloc [.nilfn, .nilfn, .nilfn, .nilfn], none⟩])
(.seq (.reg [⟨(some 3), .mkfn 197 [] [(.t 1)], none⟩, ⟨(some 4), .mkfn 198 [] [(.t 1)], none⟩, ⟨(some 5), .mkfn 199 [] [(.t 1)], none⟩, ⟨(some 6), .build [.nilfn, .nilfn, .nilfn, .nilfn] [(0, 1, (.t 3)), (1, 1, (.t 4)), (2, 1, (.t 5)), (3, 1, (.c (.fn (.func 200) [] [])))], none⟩, ⟨none, .store 4 (.t 2) (.t 6), none⟩])
.ret))⟩
theorem c120_eq : compFn Tryz.prog 120 = some c120 := by kernel_rfl
noncomputable def c121 : FnI := ⟨8, [.cell 2 true 4],
(.seq (.reg [⟨(some 1), .box (.t 0), none⟩, ⟨(some 2), .alloc [.nilfn, .nilfn, .nilfn, .nilfn], none⟩])
(.seq (.reg [⟨(some 3), .mkfn 201 [] [(.t 1)], none⟩, ⟨(some 4), .mkfn 203 [] [(.t 1)], none⟩, ⟨(some 5), .mkfn 206 [] [(.t 1)], none⟩, ⟨(some 6), .mkfn 207 [] [(.t 1)], none⟩, ⟨(some 7), .build [.nilfn, .nilfn, .nilfn, .nilfn] [(0, 1, (.t 3)), (1, 1, (.t 4)), (2, 1, (.t 5)), (3, 1, (.t 6))], none⟩, ⟨none, .store 4 (.t 2) (.t 7), none⟩])
.ret))⟩
theorem c121_eq : compFn Tryz.prog 121 = some c121 := by kernel_rfl
noncomputable def c122 : FnI := ⟨15, [.tmp 2],
(.seq (.reg [⟨(some 1), .box (.t 0), none⟩, ⟨(some 2), .mov (.c (.int .i64 (.ofNat 0))), none⟩])
(.seq (.reg [⟨(some 3), .faddr 0 (.t 1), none⟩, ⟨(some 4), .faddr 2 (.t 3), none⟩, ⟨(some 5), .load false 1 (.t 4), none⟩, ⟨(some 6), .faddr 4 (.t 1), none⟩, ⟨(some 7), .faddr 1 (.t 6), none⟩, ⟨(some 8), .load false 1 (.t 7), none⟩, ⟨(some 9), .faddr 4 (.t 1), none⟩, ⟨(some 10), .faddr 7 (.t 9), none⟩, ⟨(some 11), .load false 1 (.t 10), none⟩, ⟨(some 12), .faddr 21 (.t 1), none⟩, ⟨(some 13), .load false 1 (.t 12), none⟩, ⟨(some 14), .call 208 [(.t 5), (.t 8), (.t 11), (.t 13)], none⟩, ⟨(some 2), .mov (.t 14), none⟩])
.ret))⟩
theorem c122_eq : compFn Tryz.prog 122 = some c122 := by kernel_rfl
noncomputable def c139 : FnI := ⟨12, [.tmp 2],
(.seq (.reg [⟨(some 2), .mov (.c (.bool false)), none⟩])
(.seq (.reg [⟨(some 3), .mov (.t 0), none⟩, ⟨(some 4), .eq false .ptr (.t 3) (.c .nilp), none⟩, ⟨(some 5), .mov (.t 4), none⟩, ⟨(some 6), .mov (.t 0), (some (5, false))⟩, ⟨(some 7), .nilchk (.t 6), (some (5, false))⟩, ⟨(some 8), .faddr 0 (.t 7), (some (5, false))⟩, ⟨(some 9), .load false 1 (.t 8), (some (5, false))⟩, ⟨(some 10), .bin .eql (.t 9) (.c (.int .i64 (.ofNat 0))), (some (5, false))⟩, ⟨(some 11), .pick (.t 5) (.c (.bool true)) (.t 10), none⟩, ⟨(some 2), .mov (.t 11), none⟩])
.ret))⟩
theorem c139_eq : compFn Tryz.prog 139 = some c139 := by kernel_rfl
noncomputable def c140 : FnI := ⟨12, [.tmp 2],
(.seq (.reg [⟨(some 2), .mov (.c (.bool false)), none⟩])
(.seq (.reg [⟨(some 3), .mov (.t 0), none⟩, ⟨(some 4), .eq false .ptr (.t 3) (.c .nilp), none⟩, ⟨(some 5), .mov (.t 4), none⟩, ⟨(some 6), .mov (.t 0), (some (5, false))⟩, ⟨(some 7), .nilchk (.t 6), (some (5, false))⟩, ⟨(some 8), .faddr 0 (.t 7), (some (5, false))⟩, ⟨(some 9), .load false 1 (.t 8), (some (5, false))⟩, ⟨(some 10), .bin .eql (.t 9) (.c (.int .i64 (.ofNat 0))), (some (5, false))⟩, ⟨(some 11), .pick (.t 5) (.c (.bool true)) (.t 10), none⟩, ⟨(some 2), .mov (.t 11), none⟩])
.ret))⟩
theorem c140_eq : compFn Tryz.prog 140 = some c140 := by kernel_rfl
noncomputable def c141 : FnI := ⟨12, [.tmp 2],
(.seq (.reg [⟨(some 2), .mov (.c (.bool false)), none⟩])
(.seq (.reg [⟨(some 3), .mov (.t 0), none⟩, ⟨(some 4), .eq false .ptr (.t 3) (.c .nilp), none⟩, ⟨(some 5), .mov (.t 4), none⟩, ⟨(some 6), .mov (.t 0), (some (5, false))⟩, ⟨(some 7), .nilchk (.t 6), (some (5, false))⟩, ⟨(some 8), .faddr 0 (.t 7), (some (5, false))⟩, ⟨(some 9), .load false 1 (.t 8), (some (5, false))⟩, ⟨(some 10), .bin .eql (.t 9) (.c (.int .i64 (.ofNat 0))), (some (5, false))⟩, ⟨(some 11), .pick (.t 5) (.c (.bool true)) (.t 10), none⟩, ⟨(some 2), .mov (.t 11), none⟩])
.ret))⟩
theorem c141_eq : compFn Tryz.prog 141 = some c141 := by kernel_rfl
noncomputable def c142 : FnI := ⟨11, [.tmp 2],
(.seq (.reg [⟨(some 2), .mov (.c .nilsl), none⟩])
(.seq (.seq (.reg [⟨(some 3), .mov (.t 0), none⟩, ⟨(some 4), .call 139 [(.t 3)], none⟩])
(.cond (.t 4) (.seq (.reg [⟨(some 2), .mov (.c .nilsl), none⟩])
.ret) .skip))
(.seq (.reg [⟨(some 5), .buildSl 7 0 [] [], none⟩, ⟨(some 6), .mov (.t 0), none⟩, ⟨(some 7), .nilchk (.t 6), none⟩, ⟨(some 8), .faddr 1 (.t 7), none⟩, ⟨(some 9), .load false 1 (.t 8), none⟩, ⟨(some 10), .append 7 72 (.t 5) (.t 9), none⟩, ⟨(some 2), .mov (.t 10), none⟩])
.ret)))⟩
theorem c142_eq : compFn Tryz.prog 142 = some c142 := by kernel_rfl
noncomputable def c143 : FnI := ⟨11, [.tmp 2],
(.seq (.reg [⟨(some 2), .mov (.c .nilsl), none⟩])
(.seq (.seq (.reg [⟨(some 3), .mov (.t 0), none⟩, ⟨(some 4), .call 140 [(.t 3)], none⟩])
(.cond (.t 4) (.seq (.reg [⟨(some 2), .mov (.c .nilsl), none⟩])
.ret) .skip))
(.seq (.reg [⟨(some 5), .buildSl 10 0 [] [], none⟩, ⟨(some 6), .mov (.t 0), none⟩, ⟨(some 7), .nilchk (.t 6), none⟩, ⟨(some 8), .faddr 1 (.t 7), none⟩, ⟨(some 9), .load false 1 (.t 8), none⟩, ⟨(some 10), .append 10 120 (.t 5) (.t 9), none⟩, ⟨(some 2), .mov (.t 10), none⟩])
.ret)))⟩
theorem c143_eq : compFn Tryz.prog 143 = some c143 := by kernel_rfl
noncomputable def c144 : FnI := ⟨11, [.tmp 2],
(.seq (.reg [⟨(some 2), .mov (.c .nilsl), none⟩])
(.seq (.seq (.reg [⟨(some 3), .mov (.t 0), none⟩, ⟨(some 4), .call 141 [(.t 3)], none⟩])
(.cond (.t 4) (.seq (.reg [⟨(some 2), .mov (.c .nilsl), none⟩])
.ret) .skip))
(.seq (.reg [⟨(some 5), .buildSl 10 0 [] [], none⟩, ⟨(some 6), .mov (.t 0), none⟩, ⟨(some 7), .nilchk (.t 6), none⟩, ⟨(some 8), .faddr 1 (.t 7), none⟩, ⟨(some 9), .load false 1 (.t 8), none⟩, ⟨(some 10), .append 10 112 (.t 5) (.t 9), none⟩, ⟨(some 2), .mov (.t 10), none⟩])
.ret)))⟩
theorem c144_eq : compFn Tryz.prog 144 = some c144 := by kernel_rfl
noncomputable def c145 : FnI := ⟨12, [.tmp 2],
(.seq (.reg [⟨(some 2), .mov (.c (.bool false)), none⟩])
(.seq (.reg [⟨(some 3), .mov (.t 0), none⟩, ⟨(some 4), .eq false .ptr (.t 3) (.c .nilp), none⟩, ⟨(some 5), .mov (.t 4), none⟩, ⟨(some 6), .mov (.t 0), (some (5, false))⟩, ⟨(some 7), .nilchk (.t 6), (some (5, false))⟩, ⟨(some 8), .faddr 0 (.t 7), (some (5, false))⟩, ⟨(some 9), .load false 1 (.t 8), (some (5, false))⟩, ⟨(some 10), .bin .eql (.t 9) (.c (.int .i64 (.ofNat 0))), (some (5, false))⟩, ⟨(some 11), .pick (.t 5) (.c (.bool true)) (.t 10), none⟩, ⟨(some 2), .mov (.t 11), none⟩])
.ret))⟩
theorem c145_eq : compFn Tryz.prog 145 = some c145 := by kernel_rfl
noncomputable def c149 : FnI := ⟨8, [.tmp 2],
(.seq (.reg [⟨(some 2), .mov (.c (.int .i64 (.ofNat 0))), none⟩])
(.seq (.cond (.c (.bool false)) (.seq (.reg [⟨(some 3), .mov (.t 0), none⟩, ⟨(some 4), .cvInt .u32 (.t 3), none⟩, ⟨(some 5), .call 236 [(.t 4)], none⟩, ⟨(some 2), .mov (.t 5), none⟩])
.ret) .skip)
(.seq (.reg [⟨(some 6), .mov (.t 0), none⟩, ⟨(some 7), .call 237 [(.t 6)], none⟩, ⟨(some 2), .mov (.t 7), none⟩])
.ret)))⟩
theorem c149_eq : compFn Tryz.prog 149 = some c149 := by kernel_rfl
noncomputable def c150 : FnI := ⟨130, [],
(.seq (.reg [⟨(some 4), .box (.t 0), none⟩])
(.seq (.reg [⟨(some 8), .mov (.c (.bool true)), none⟩])
(.seq (.reg [⟨(some 9), .mov (.c (.bool true)), none⟩])
(.block 0 (.loop (.block 1 (.seq (.reg [⟨(some 19), .mov (.t 2), none⟩, ⟨(some 20), .mov (.t 1), none⟩, ⟨(some 21), .bin .sub (.t 19) (.t 20), none⟩, ⟨(some 10), .mov (.t 21), none⟩])
(.seq (.seq (.reg [⟨(some 22), .mov (.t 10), none⟩, ⟨(some 23), .bin .leq (.t 22) (.c (.int .i64 (.ofNat 12))), none⟩])
(.cond (.t 23) (.seq (.reg [⟨(some 24), .load true 2 (.t 4), none⟩, ⟨(some 25), .mov (.t 1), none⟩, ⟨(some 26), .mov (.t 2), none⟩, ⟨(some 27), .call 238 [(.t 24), (.t 25), (.t 26)], none⟩])
.ret) .skip))
(.seq (.seq (.reg [⟨(some 28), .mov (.t 3), none⟩, ⟨(some 29), .bin .eql (.t 28) (.c (.int .i64 (.ofNat 0))), none⟩])
(.cond (.t 29) (.seq (.reg [⟨(some 30), .load true 2 (.t 4), none⟩, ⟨(some 31), .mov (.t 1), none⟩, ⟨(some 32), .mov (.t 2), none⟩, ⟨(some 33), .call 239 [(.t 30), (.t 31), (.t 32)], none⟩])
.ret) .skip))
(.seq (.seq (.reg [⟨(some 34), .mov (.t 8), none⟩, ⟨(some 35), .un .not (.t 34), none⟩])
(.cond (.t 35) (.seq (.reg [⟨(some 36), .load true 2 (.t 4), none⟩, ⟨(some 37), .mov (.t 1), none⟩, ⟨(some 38), .mov (.t 2), none⟩, ⟨(some 39), .call 240 [(.t 36), (.t 37), (.t 38)], none⟩])
(.reg [⟨(some 40), .mov (.t 3), none⟩, ⟨(some 41), .bin .sub (.t 40) (.c (.int .i64 (.ofNat 1))), none⟩, ⟨(some 3), .mov (.t 41), none⟩])) .skip))
(.seq (.reg [⟨(some 43), .load true 2 (.t 4), none⟩, ⟨(some 44), .mov (.t 1), none⟩, ⟨(some 45), .mov (.t 2), none⟩, ⟨(some 46), .call 241 [(.t 43), (.t 44), (.t 45)], none⟩, ⟨(some 42), .mov (.t 46), none⟩, ⟨(some 47), .extract (.t 42) 0, none⟩, ⟨(some 48), .extract (.t 42) 1, none⟩, ⟨(some 11), .mov (.t 47), none⟩, ⟨(some 12), .mov (.t 48), none⟩])
(.seq (.seq (.reg [⟨(some 49), .mov (.t 12), none⟩, ⟨(some 50), .bin .eql (.t 49) (.c (.int .i64 (.ofNat 2))), none⟩])
(.cond (.t 50) (.seq (.reg [⟨(some 51), .load true 2 (.t 4), none⟩, ⟨(some 52), .mov (.t 1), none⟩, ⟨(some 53), .mov (.t 2), none⟩, ⟨(some 54), .call 242 [(.t 51), (.t 52), (.t 53)], none⟩])
(.seq (.reg [⟨(some 55), .mov (.t 2), none⟩, ⟨(some 56), .bin .sub (.t 55) (.c (.int .i64 (.ofNat 1))), none⟩, ⟨(some 57), .mov (.t 11), none⟩, ⟨(some 58), .mov (.t 1), none⟩, ⟨(some 59), .bin .sub (.t 57) (.t 58), none⟩, ⟨(some 60), .bin .sub (.t 56) (.t 59), none⟩, ⟨(some 11), .mov (.t 60), none⟩])
(.reg [⟨(some 12), .mov (.c (.int .i64 (.ofNat 1))), none⟩]))) .skip))
(.seq (.seq (.reg [⟨(some 61), .mov (.t 8), none⟩, ⟨(some 62), .mov (.t 61), none⟩, ⟨(some 63), .mov (.t 9), (some (62, true))⟩, ⟨(some 64), .pick (.t 62) (.t 63) (.c (.bool false)), none⟩, ⟨(some 65), .mov (.t 64), none⟩, ⟨(some 66), .mov (.t 12), (some (65, true))⟩, ⟨(some 67), .bin .eql (.t 66) (.c (.int .i64 (.ofNat 1))), (some (65, true))⟩, ⟨(some 68), .pick (.t 65) (.t 67) (.c (.bool false)), none⟩])
(.cond (.t 68) (.seq (.reg [⟨(some 69), .load true 2 (.t 4), none⟩, ⟨(some 70), .mov (.t 1), none⟩, ⟨(some 71), .mov (.t 2), none⟩, ⟨(some 72), .call 243 [(.t 69), (.t 70), (.t 71)], none⟩])
(.cond (.t 72) .ret .skip)) .skip))
(.seq (.seq (.reg [⟨(some 73), .mov (.t 1), none⟩, ⟨(some 74), .bin .gtr (.t 73) (.c (.int .i64 (.ofNat 0))), none⟩, ⟨(some 75), .mov (.t 74), none⟩, ⟨(some 76), .faddr 0 (.t 4), (some (75, true))⟩, ⟨(some 77), .load false 1 (.t 76), (some (75, true))⟩, ⟨(some 78), .mov (.t 1), (some (75, true))⟩, ⟨(some 79), .bin .sub (.t 78) (.c (.int .i64 (.ofNat 1))), (some (75, true))⟩, ⟨(some 80), .mov (.t 11), (some (75, true))⟩, ⟨(some 81), .callv (.t 77) [(.t 79), (.t 80)], (some (75, true))⟩, ⟨(some 82), .un .not (.t 81), (some (75, true))⟩, ⟨(some 83), .pick (.t 75) (.t 82) (.c (.bool false)), none⟩])
(.cond (.t 83) (.seq (.reg [⟨(some 84), .load true 2 (.t 4), none⟩, ⟨(some 85), .mov (.t 1), none⟩, ⟨(some 86), .mov (.t 2), none⟩, ⟨(some 87), .mov (.t 11), none⟩, ⟨(some 88), .call 244 [(.t 84), (.t 85), (.t 86), (.t 87)], none⟩, ⟨(some 13), .mov (.t 88), none⟩])
(.seq (.reg [⟨(some 89), .mov (.t 13), none⟩, ⟨(some 1), .mov (.t 89), none⟩])
(.exit 1))) .skip))
(.seq (.reg [⟨(some 91), .load true 2 (.t 4), none⟩, ⟨(some 92), .mov (.t 1), none⟩, ⟨(some 93), .mov (.t 2), none⟩, ⟨(some 94), .mov (.t 11), none⟩, ⟨(some 95), .call 245 [(.t 91), (.t 92), (.t 93), (.t 94)], none⟩, ⟨(some 90), .mov (.t 95), none⟩, ⟨(some 96), .extract (.t 90) 0, none⟩, ⟨(some 97), .extract (.t 90) 1, none⟩, ⟨(some 14), .mov (.t 96), none⟩, ⟨(some 15), .mov (.t 97), none⟩])
(.seq (.reg [⟨(some 98), .mov (.t 15), none⟩, ⟨(some 9), .mov (.t 98), none⟩])
(.seq (.reg [⟨(some 99), .mov (.t 14), none⟩, ⟨(some 100), .mov (.t 1), none⟩, ⟨(some 101), .bin .sub (.t 99) (.t 100), none⟩, ⟨(some 102), .mov (.t 2), none⟩, ⟨(some 103), .mov (.t 14), none⟩, ⟨(some 104), .bin .sub (.t 102) (.t 103), none⟩, ⟨(some 16), .mov (.t 101), none⟩, ⟨(some 17), .mov (.t 104), none⟩])
(.seq (.reg [⟨(some 105), .mov (.t 10), none⟩, ⟨(some 106), .bin .quo (.t 105) (.c (.int .i64 (.ofNat 8))), none⟩, ⟨(some 18), .mov (.t 106), none⟩])
(.seq (.reg [⟨(some 107), .mov (.t 16), none⟩, ⟨(some 108), .mov (.t 17), none⟩, ⟨(some 109), .bin .lss (.t 107) (.t 108), none⟩])
(.cond (.t 109) (.seq (.reg [⟨(some 110), .mov (.t 16), none⟩, ⟨(some 111), .mov (.t 18), none⟩, ⟨(some 112), .bin .geq (.t 110) (.t 111), none⟩, ⟨(some 8), .mov (.t 112), none⟩])
(.seq (.reg [⟨(some 113), .load true 2 (.t 4), none⟩, ⟨(some 114), .mov (.t 1), none⟩, ⟨(some 115), .mov (.t 14), none⟩, ⟨(some 116), .mov (.t 3), none⟩, ⟨(some 117), .call 150 [(.t 113), (.t 114), (.t 115), (.t 116)], none⟩])
(.reg [⟨(some 118), .mov (.t 14), none⟩, ⟨(some 119), .bin .add (.t 118) (.c (.int .i64 (.ofNat 1))), none⟩, ⟨(some 1), .mov (.t 119), none⟩]))) (.seq (.reg [⟨(some 120), .mov (.t 17), none⟩, ⟨(some 121), .mov (.t 18), none⟩, ⟨(some 122), .bin .geq (.t 120) (.t 121), none⟩, ⟨(some 8), .mov (.t 122), none⟩])
(.seq (.reg [⟨(some 123), .load true 2 (.t 4), none⟩, ⟨(some 124), .mov (.t 14), none⟩, ⟨(some 125), .bin .add (.t 124) (.c (.int .i64 (.ofNat 1))), none⟩, ⟨(some 126), .mov (.t 2), none⟩, ⟨(some 127), .mov (.t 3), none⟩, ⟨(some 128), .call 150 [(.t 123), (.t 125), (.t 126), (.t 127)], none⟩])
(.reg [⟨(some 129), .mov (.t 14), none⟩, ⟨(some 2), .mov (.t 129), none⟩])))))))))))))))))))))))⟩
theorem c150_eq : compFn Tryz.prog 150 = some c150 := by kernel_rfl
noncomputable def c152 : FnI := ⟨7, [.tmp 2],
(.seq (.reg [⟨(some 2), .mov (.c .nilfn), none⟩])
(.seq (.reg [⟨(some 4), .mov (.t 0), none⟩, ⟨(some 5), .call 159 [(.t 4)], none⟩, ⟨(some 3), .alloc [.nilsl], none⟩, ⟨none, .store 1 (.t 3) (.t 5), none⟩])
(.seq (.reg [⟨(some 6), .mkfn 246 [] [(.t 3)], none⟩, ⟨(some 2), .mov (.t 6), none⟩])
.ret)))⟩
theorem c152_eq : compFn Tryz.prog 152 = some c152 := by kernel_rfl
noncomputable def c154 : FnI := ⟨32, [],
(.seq (.seq (.reg [⟨(some 7), .load false 1 (.t 1), none⟩, ⟨(some 8), .call 92 [(.t 7)], none⟩])
(.cond (.t 8) .ret .skip))
(.seq (.reg [⟨(some 9), .load false 1 (.t 1), none⟩, ⟨(some 10), .nilchk (.t 9), none⟩, ⟨(some 11), .faddr 0 (.t 10), none⟩, ⟨(some 12), .load false 1 (.t 11), none⟩, ⟨(some 13), .call 155 [(.t 12)], none⟩, ⟨(some 14), .len false (.t 13), none⟩, ⟨(some 15), .mov (.c (.int .i64 (.ofNat 0))), none⟩])
(.block 0 (.loop (.seq (.reg [⟨(some 16), .bin .lss (.t 15) (.t 14), none⟩])
(.seq (.cond (.t 16) .skip (.exit 0))
(.seq (.block 1 (.seq (.reg [⟨(some 17), .idxS 7 (.t 13) (.t 15), none⟩, ⟨(some 18), .load true 7 (.t 17), none⟩, ⟨(some 4), .alloc [(.str []), (.int .u64 (.ofNat 0)), (.int .i64 (.ofNat 0)), (.int .u64 (.ofNat 0)), (.int .u64 (.ofNat 0)), (.int .u64 (.ofNat 0)), (.int .u64 (.ofNat 0))], none⟩, ⟨none, .store 7 (.t 4) (.t 18), none⟩])
(.seq (.reg [⟨(some 20), .load false 1 (.t 1), none⟩, ⟨(some 21), .faddr 1 (.t 4), none⟩, ⟨(some 22), .faddr 0 (.t 21), none⟩, ⟨(some 23), .load false 1 (.t 22), none⟩, ⟨(some 24), .call 156 [(.t 20), (.t 23)], none⟩, ⟨(some 19), .mov (.t 24), none⟩, ⟨(some 25), .extract (.t 19) 0, none⟩, ⟨(some 26), .extract (.t 19) 1, none⟩, ⟨(some 5), .alloc [(.int .u64 (.ofNat 0)), (.int .i64 (.ofNat 0)), (.int .u64 (.ofNat 0)), (.int .u64 (.ofNat 0))], none⟩, ⟨none, .store 4 (.t 5) (.t 25), none⟩, ⟨(some 6), .mov (.t 26), none⟩])
(.seq (.reg [⟨(some 27), .mov (.t 0), none⟩, ⟨(some 28), .load true 4 (.t 5), none⟩, ⟨(some 29), .callv (.t 27) [(.t 28)], none⟩, ⟨(some 30), .un .not (.t 29), none⟩])
(.cond (.t 30) .ret .skip)))))
(.reg [⟨(some 31), .bin .add (.t 15) (.c (.int .i64 (.ofNat 1))), none⟩, ⟨(some 15), .mov (.t 31), none⟩]))))))))⟩
theorem c154_eq : compFn Tryz.prog 154 = some c154 := by kernel_rfl
noncomputable def c155 : FnI := ⟨11, [.tmp 2],
(.seq (.reg [⟨(some 2), .mov (.c .nilsl), none⟩])
(.seq (.seq (.reg [⟨(some 3), .mov (.t 0), none⟩, ⟨(some 4), .call 158 [(.t 3)], none⟩])
(.cond (.t 4) (.seq (.reg [⟨(some 2), .mov (.c .nilsl), none⟩])
.ret) .skip))
(.seq (.reg [⟨(some 5), .buildSl 7 0 [] [], none⟩, ⟨(some 6), .mov (.t 0), none⟩, ⟨(some 7), .nilchk (.t 6), none⟩, ⟨(some 8), .faddr 1 (.t 7), none⟩, ⟨(some 9), .load false 1 (.t 8), none⟩, ⟨(some 10), .append 7 64 (.t 5) (.t 9), none⟩, ⟨(some 2), .mov (.t 10), none⟩])
.ret)))⟩
theorem c155_eq : compFn Tryz.prog 155 = some c155 := by kernel_rfl
noncomputable def c157 : FnI := ⟨12, [.tmp 2],
(.seq (.reg [⟨(some 2), .mov (.c (.bool false)), none⟩])
(.seq (.reg [⟨(some 3), .mov (.t 0), none⟩, ⟨(some 4), .eq false .ptr (.t 3) (.c .nilp), none⟩, ⟨(some 5), .mov (.t 4), none⟩, ⟨(some 6), .mov (.t 0), (some (5, false))⟩, ⟨(some 7), .nilchk (.t 6), (some (5, false))⟩, ⟨(some 8), .faddr 0 (.t 7), (some (5, false))⟩, ⟨(some 9), .load false 1 (.t 8), (some (5, false))⟩, ⟨(some 10), .bin .eql (.t 9) (.c (.int .i64 (.ofNat 0))), (some (5, false))⟩, ⟨(some 11), .pick (.t 5) (.c (.bool true)) (.t 10), none⟩, ⟨(some 2), .mov (.t 11), none⟩])
.ret))⟩
theorem c157_eq : compFn Tryz.prog 157 = some c157 := by kernel_rfl
noncomputable def c158 : FnI := ⟨12, [.tmp 2],
(.seq (.reg [⟨(some 2), .mov (.c (.bool false)), none⟩])
(.seq (.reg [⟨(some 3), .mov (.t 0), none⟩, ⟨(some 4), .eq false .ptr (.t 3) (.c .nilp), none⟩, ⟨(some 5), .mov (.t 4), none⟩, ⟨(some 6), .mov (.t 0), (some (5, false))⟩, ⟨(some 7), .nilchk (.t 6), (some (5, false))⟩, ⟨(some 8), .faddr 0 (.t 7), (some (5, false))⟩, ⟨(some 9), .load false 1 (.t 8), (some (5, false))⟩, ⟨(some 10), .bin .eql (.t 9) (.c (.int .i64 (.ofNat 0))), (some (5, false))⟩, ⟨(some 11), .pick (.t 5) (.c (.bool true)) (.t 10), none⟩, ⟨(some 2), .mov (.t 11), none⟩])
.ret))⟩
theorem c158_eq : compFn Tryz.prog 158 = some c158 := by kernel_rfl
noncomputable def c159 : FnI := ⟨11, [.tmp 2],
(.seq (.reg [⟨(some 2), .mov (.c .nilsl), none⟩])
(.seq (.seq (.reg [⟨(some 3), .mov (.t 0), none⟩, ⟨(some 4), .call 157 [(.t 3)], none⟩])
(.cond (.t 4) (.seq (.reg [⟨(some 2), .mov (.c .nilsl), none⟩])
.ret) .skip))
(.seq (.reg [⟨(some 5), .buildSl 9 0 [] [], none⟩, ⟨(some 6), .mov (.t 0), none⟩, ⟨(some 7), .nilchk (.t 6), none⟩, ⟨(some 8), .faddr 1 (.t 7), none⟩, ⟨(some 9), .load false 1 (.t 8), none⟩, ⟨(some 10), .append 9 96 (.t 5) (.t 9), none⟩, ⟨(some 2), .mov (.t 10), none⟩])
.ret)))⟩
theorem c159_eq : compFn Tryz.prog 159 = some c159 := by kernel_rfl
noncomputable def c177 : FnI := ⟨6, [.tmp 1],
(.seq (.reg [⟨(some 1), .mov (.c (.bool false)), none⟩])
(.seq (.reg [⟨(some 2), .load false 1 (.t 0), none⟩, ⟨(some 3), .nilchk (.t 2), none⟩, ⟨(some 4), .load false 1 (.t 3), none⟩, ⟨(some 5), .bin .neq (.t 4) (.c (.int .i64 (.ofNat 0))), none⟩, ⟨(some 1), .mov (.t 5), none⟩])
.ret))⟩
theorem c177_eq : compFn Tryz.prog 177 = some c177 := by kernel_rfl
noncomputable def c178 : FnI := ⟨12, [.tmp 1],
(.seq (.reg [⟨(some 1), .mov (.c (.bool false)), none⟩])
(.seq (.reg [⟨(some 2), .load false 1 (.t 0), none⟩, ⟨(some 3), .nilchk (.t 2), none⟩, ⟨(some 4), .load false 1 (.t 3), none⟩, ⟨(some 5), .bin .geq (.t 4) (.c (.int .i64 (.ofNat 0))), none⟩, ⟨(some 6), .mov (.t 5), none⟩, ⟨(some 7), .load false 1 (.t 0), (some (6, true))⟩, ⟨(some 8), .nilchk (.t 7), (some (6, true))⟩, ⟨(some 9), .load false 1 (.t 8), (some (6, true))⟩, ⟨(some 10), .bin .leq (.t 9) (.c (.int .i64 (.ofNat 65535))), (some (6, true))⟩, ⟨(some 11), .pick (.t 6) (.t 10) (.c (.bool false)), none⟩, ⟨(some 1), .mov (.t 11), none⟩])
.ret))⟩
theorem c178_eq : compFn Tryz.prog 178 = some c178 := by kernel_rfl
noncomputable def c183 : FnI := ⟨6, [.tmp 1],
(.seq (.reg [⟨(some 1), .mov (.c (.bool false)), none⟩])
(.seq (.reg [⟨(some 2), .load false 1 (.t 0), none⟩, ⟨(some 3), .nilchk (.t 2), none⟩, ⟨(some 4), .load false 1 (.t 3), none⟩, ⟨(some 5), .bin .neq (.t 4) (.c (.str [])), none⟩, ⟨(some 1), .mov (.t 5), none⟩])
.ret))⟩
theorem c183_eq : compFn Tryz.prog 183 = some c183 := by kernel_rfl
noncomputable def c184 : FnI := ⟨7, [.tmp 1],
(.seq (.reg [⟨(some 1), .mov (.c (.bool false)), none⟩])
(.seq (.reg [⟨(some 2), .load false 1 (.t 0), none⟩, ⟨(some 3), .nilchk (.t 2), none⟩, ⟨(some 4), .load false 1 (.t 3), none⟩, ⟨(some 5), .len true (.t 4), none⟩, ⟨(some 6), .bin .leq (.t 5) (.c (.int .i64 (.ofNat 80))), none⟩, ⟨(some 1), .mov (.t 6), none⟩])
.ret))⟩
theorem c184_eq : compFn Tryz.prog 184 = some c184 := by kernel_rfl
noncomputable def c189 : FnI := ⟨7, [.tmp 1],
(.seq (.reg [⟨(some 1), .mov (.c (.bool false)), none⟩])
(.seq (.reg [⟨(some 2), .load false 1 (.t 0), none⟩, ⟨(some 3), .nilchk (.t 2), none⟩, ⟨(some 4), .load false 1 (.t 3), none⟩, ⟨(some 5), .len false (.t 4), none⟩, ⟨(some 6), .bin .gtr (.t 5) (.c (.int .i64 (.ofNat 0))), none⟩, ⟨(some 1), .mov (.t 6), none⟩])
.ret))⟩
theorem c189_eq : compFn Tryz.prog 189 = some c189 := by kernel_rfl
noncomputable def c190 : FnI := ⟨21, [.tmp 1],
(.seq (.reg [⟨(some 1), .mov (.c (.bool false)), none⟩])
(.seq (.seq (.reg [⟨(some 4), .load false 1 (.t 0), none⟩, ⟨(some 5), .nilchk (.t 4), none⟩, ⟨(some 6), .load false 1 (.t 5), none⟩, ⟨(some 7), .len false (.t 6), none⟩, ⟨(some 8), .mov (.c (.int .i64 (.ofNat 0))), none⟩])
(.block 0 (.loop (.seq (.reg [⟨(some 9), .bin .lss (.t 8) (.t 7), none⟩])
(.seq (.cond (.t 9) .skip (.exit 0))
(.seq (.block 1 (.seq (.reg [⟨(some 10), .idxS 1 (.t 6) (.t 8), none⟩, ⟨(some 11), .load false 1 (.t 10), none⟩, ⟨(some 3), .mov (.t 11), none⟩])
(.seq (.reg [⟨(some 12), .mov (.t 3), none⟩, ⟨(some 13), .len true (.t 12), none⟩, ⟨(some 14), .bin .gtr (.t 13) (.c (.int .i64 (.ofNat 80))), none⟩])
(.cond (.t 14) (.seq (.reg [⟨(some 1), .mov (.c (.bool false)), none⟩])
.ret) .skip))))
(.reg [⟨(some 15), .bin .add (.t 8) (.c (.int .i64 (.ofNat 1))), none⟩, ⟨(some 8), .mov (.t 15), none⟩])))))))
(.seq (.reg [⟨(some 16), .load false 1 (.t 0), none⟩, ⟨(some 17), .nilchk (.t 16), none⟩, ⟨(some 18), .load false 1 (.t 17), none⟩, ⟨(some 19), .len false (.t 18), none⟩, ⟨(some 20), .bin .leq (.t 19) (.c (.int .i64 (.ofNat 8))), none⟩, ⟨(some 1), .mov (.t 20), none⟩])
.ret)))⟩
theorem c190_eq : compFn Tryz.prog 190 = some c190 := by kernel_rfl
noncomputable def c195 : FnI := ⟨5, [.tmp 1],
(.seq (.reg [⟨(some 1), .mov (.c (.bool false)), none⟩])
(.seq (.reg [⟨(some 2), .load false 1 (.t 0), none⟩, ⟨(some 3), .nilchk (.t 2), none⟩, ⟨(some 4), .load false 1 (.t 3), none⟩, ⟨(some 1), .mov (.t 4), none⟩])
.ret))⟩
theorem c195_eq : compFn Tryz.prog 195 = some c195 := by kernel_rfl
noncomputable def c196 : FnI := ⟨1, [.tmp 0],
(.seq (.reg [⟨(some 0), .mov (.c (.bool false)), none⟩])
(.seq (.reg [⟨(some 0), .mov (.c (.bool true)), none⟩])
.ret))⟩
theorem c196_eq : compFn Tryz.prog 196 = some c196 := by kernel_rfl
noncomputable def c199 : FnI := ⟨6, [.tmp 1],
(.seq (.reg [⟨(some 1), .mov (.c (.bool false)), none⟩])
(.seq (.reg [⟨(some 2), .load false 1 (.t 0), none⟩, ⟨(some 3), .nilchk (.t 2), none⟩, ⟨(some 4), .load false 1 (.t 3), none⟩, ⟨(some 5), .bin .neq (.t 4) (.c (.int .u64 (.ofNat 0))), none⟩, ⟨(some 1), .mov (.t 5), none⟩])
.ret))⟩
theorem c199_eq : compFn Tryz.prog 199 = some c199 := by kernel_rfl
noncomputable def c200 : FnI := ⟨1, [.tmp 0],
(.seq (.reg [⟨(some 0), .mov (.c (.bool false)), none⟩])
(.seq (.reg [⟨(some 0), .mov (.c (.bool true)), none⟩])
.ret))⟩
theorem c200_eq : compFn Tryz.prog 200 = some c200 := by kernel_rfl
noncomputable def c206 : FnI := ⟨7, [.tmp 1],
(.seq (.reg [⟨(some 1), .mov (.c (.bool false)), none⟩])
(.seq (.reg [⟨(some 2), .load false 1 (.t 0), none⟩, ⟨(some 3), .nilchk (.t 2), none⟩, ⟨(some 4), .load false 1 (.t 3), none⟩, ⟨(some 5), .len false (.t 4), none⟩, ⟨(some 6), .bin .gtr (.t 5) (.c (.int .i64 (.ofNat 0))), none⟩, ⟨(some 1), .mov (.t 6), none⟩])
.ret))⟩
theorem c206_eq : compFn Tryz.prog 206 = some c206 := by kernel_rfl
noncomputable def c207 : FnI := ⟨26, [.tmp 1],
(.seq (.reg [⟨(some 1), .mov (.c (.bool false)), none⟩])
(.seq (.seq (.reg [⟨(some 4), .load false 1 (.t 0), none⟩, ⟨(some 5), .nilchk (.t 4), none⟩, ⟨(some 6), .load false 1 (.t 5), none⟩, ⟨(some 7), .len false (.t 6), none⟩, ⟨(some 8), .mov (.c (.int .i64 (.ofNat 0))), none⟩])
(.block 0 (.loop (.seq (.reg [⟨(some 9), .bin .lss (.t 8) (.t 7), none⟩])
(.seq (.cond (.t 9) .skip (.exit 0))
(.seq (.block 1 (.seq (.reg [⟨(some 10), .idxS 17 (.t 6) (.t 8), none⟩, ⟨(some 11), .load true 17 (.t 10), none⟩, ⟨(some 3), .alloc [(.int .i64 (.ofNat 0)), (.int .i64 (.ofNat 0)), (.int .i64 (.ofNat 0)), (.int .i64 (.ofNat 0)), (.str []), (.str []), (.str []), (.str []), (.str []), (.str []), (.str []), (.str []), .nilsl, (.bool false), (.int .u64 (.ofNat 0)), (.int .u64 (.ofNat 0)), .nilsl], none⟩, ⟨none, .store 17 (.t 3) (.t 11), none⟩])
(.seq (.reg [⟨(some 12), .faddr 0 (.t 3), none⟩, ⟨(some 13), .load false 1 (.t 12), none⟩, ⟨(some 14), .bin .eql (.t 13) (.c (.int .i64 (.ofNat 18))), none⟩, ⟨(some 15), .mov (.t 14), none⟩, ⟨(some 16), .load true 17 (.t 3), (some (15, false))⟩, ⟨(some 17), .call 28 [(.t 16)], (some (15, false))⟩, ⟨(some 18), .un .not (.t 17), (some (15, false))⟩, ⟨(some 19), .pick (.t 15) (.c (.bool true)) (.t 18), none⟩])
(.cond (.t 19) (.seq (.reg [⟨(some 1), .mov (.c (.bool false)), none⟩])
.ret) .skip))))
(.reg [⟨(some 20), .bin .add (.t 8) (.c (.int .i64 (.ofNat 1))), none⟩, ⟨(some 8), .mov (.t 20), none⟩])))))))
(.seq (.reg [⟨(some 21), .load false 1 (.t 0), none⟩, ⟨(some 22), .nilchk (.t 21), none⟩, ⟨(some 23), .load false 1 (.t 22), none⟩, ⟨(some 24), .len false (.t 23), none⟩, ⟨(some 25), .bin .leq (.t 24) (.c (.int .i64 (.ofNat 8))), none⟩, ⟨(some 1), .mov (.t 25), none⟩])
.ret)))⟩
theorem c207_eq : compFn Tryz.prog 207 = some c207 := by kernel_rfl
noncomputable def c208 : FnI := ⟨37, [.tmp 8],
(.seq (.reg [⟨(some 8), .mov (.c (.int .i64 (.ofNat 0))), none⟩])
(.seq (.block 0 (.seq (.reg [⟨(some 12), .mov (.t 0), none⟩, ⟨(some 13), .call 70 [(.t 12)], none⟩, ⟨(some 11), .mov (.t 13), none⟩])
(.cond (.t 11) (.seq (.reg [⟨(some 8), .mov (.c (.int .i64 (.ofNat 1))), none⟩])
.ret) (.seq (.reg [⟨(some 15), .mov (.t 1), none⟩, ⟨(some 16), .call 260 [(.t 15)], none⟩, ⟨(some 17), .un .not (.t 16), none⟩, ⟨(some 14), .mov (.t 17), none⟩])
(.cond (.t 14) (.seq (.reg [⟨(some 8), .mov (.c (.int .i64 (.ofNat 2))), none⟩])
.ret) (.seq (.reg [⟨(some 19), .mov (.t 2), none⟩, ⟨(some 20), .len true (.t 19), none⟩, ⟨(some 21), .bin .gtr (.t 20) (.c (.int .i64 (.ofNat 32))), none⟩, ⟨(some 18), .mov (.t 21), none⟩])
(.cond (.t 18) (.seq (.reg [⟨(some 8), .mov (.c (.int .i64 (.ofNat 3))), none⟩])
.ret) .skip)))))))
(.seq (.dreg [⟨⟨(some 27), .mov (.t 1), none⟩, .quiet, 4, 0⟩, ⟨⟨(some 28), .call 262 [(.t 27)], none⟩, .loud, 5, 16⟩, ⟨⟨(some 23), .mov (.t 0), none⟩, .quiet, 0, 0⟩, ⟨⟨(some 24), .nilchk (.t 23), none⟩, .quiet, 1, 1⟩, ⟨⟨(some 25), .faddr 0 (.t 24), none⟩, .quiet, 2, 3⟩, ⟨⟨(some 26), .load false 1 (.t 25), none⟩, .load, 3, 7⟩, ⟨⟨(some 29), .mov (.t 1), none⟩, .quiet, 6, 0⟩, ⟨⟨(some 30), .mov (.t 2), none⟩, .quiet, 7, 0⟩, ⟨⟨(some 31), .build [(.int .i64 (.ofNat 0)), (.str []), (.int .u64 (.ofNat 0)), (.int .u64 (.ofNat 0))] [(0, 1, (.t 29)), (1, 1, (.t 30))], none⟩, .quiet, 8, 192⟩, ⟨⟨(some 32), .mov (.t 3), none⟩, .quiet, 9, 0⟩, ⟨⟨(some 33), .call 261 [(.t 26), (.t 28), (.t 31), (.t 32)], none⟩, .loud, 10, 1023⟩, ⟨⟨(some 22), .mov (.t 33), none⟩, .quiet, 11, 2047⟩, ⟨⟨(some 34), .extract (.t 22) 0, none⟩, .quiet, 12, 4095⟩, ⟨⟨(some 9), .alloc [(.str []), (.int .i64 (.ofNat 0)), (.str []), (.int .u64 (.ofNat 0)), (.int .u64 (.ofNat 0)), (.int .u64 (.ofNat 0)), (.int .u64 (.ofNat 0))], none⟩, .quiet, 14, 0⟩, ⟨⟨none, .store 7 (.t 9) (.t 34), none⟩, .loud, 15, 24575⟩, ⟨⟨(some 35), .extract (.t 22) 1, none⟩, .quiet, 13, 4095⟩, ⟨⟨(some 10), .mov (.t 35), none⟩, .quiet, 16, 65535⟩])
(.seq (.reg [⟨(some 36), .mov (.t 10), none⟩, ⟨(some 8), .mov (.t 36), none⟩])
.ret))))⟩
theorem c208_eq : compFn Tryz.prog 208 = some c208 := by kernel_rfl
noncomputable def c237 : FnI := ⟨25, [.tmp 2],
(.seq (.reg [⟨(some 2), .mov (.c (.int .i64 (.ofNat 0))), none⟩])
(.seq (.seq (.reg [⟨(some 3), .mov (.t 0), none⟩, ⟨(some 4), .bin .geq (.t 3) (.c (.int .u64 (.ofNat 4294967296))), none⟩])
(.cond (.t 4) (.seq (.reg [⟨(some 5), .mov (.t 0), none⟩, ⟨(some 6), .bin .shr (.t 5) (.c (.int .u64 (.ofNat 32))), none⟩, ⟨(some 0), .mov (.t 6), none⟩])
(.reg [⟨(some 2), .mov (.c (.int .i64 (.ofNat 32))), none⟩])) .skip))
(.seq (.seq (.reg [⟨(some 7), .mov (.t 0), none⟩, ⟨(some 8), .bin .geq (.t 7) (.c (.int .u64 (.ofNat 65536))), none⟩])
(.cond (.t 8) (.seq (.reg [⟨(some 9), .mov (.t 0), none⟩, ⟨(some 10), .bin .shr (.t 9) (.c (.int .u64 (.ofNat 16))), none⟩, ⟨(some 0), .mov (.t 10), none⟩])
(.reg [⟨(some 11), .mov (.t 2), none⟩, ⟨(some 12), .bin .add (.t 11) (.c (.int .i64 (.ofNat 16))), none⟩, ⟨(some 2), .mov (.t 12), none⟩])) .skip))
(.seq (.seq (.reg [⟨(some 13), .mov (.t 0), none⟩, ⟨(some 14), .bin .geq (.t 13) (.c (.int .u64 (.ofNat 256))), none⟩])
(.cond (.t 14) (.seq (.reg [⟨(some 15), .mov (.t 0), none⟩, ⟨(some 16), .bin .shr (.t 15) (.c (.int .u64 (.ofNat 8))), none⟩, ⟨(some 0), .mov (.t 16), none⟩])
(.reg [⟨(some 17), .mov (.t 2), none⟩, ⟨(some 18), .bin .add (.t 17) (.c (.int .i64 (.ofNat 8))), none⟩, ⟨(some 2), .mov (.t 18), none⟩])) .skip))
(.seq (.reg [⟨(some 19), .mov (.t 2), none⟩, ⟨(some 20), .mov (.t 0), none⟩, ⟨(some 21), .cvInt .u8 (.t 20), none⟩, ⟨(some 22), .idxStr (.c (.str [0, 1, 2, 2, 3, 3, 3, 3, 4, 4, 4, 4, 4, 4, 4, 4, 5, 5, 5, 5, 5, 5, 5, 5, 5, 5, 5, 5, 5, 5, 5, 5, 6, 6, 6, 6, 6, 6, 6, 6, 6, 6, 6, 6, 6, 6, 6, 6, 6, 6, 6, 6, 6, 6, 6, 6, 6, 6, 6, 6, 6, 6, 6, 6, 7, 7, 7, 7, 7, 7, 7, 7, 7, 7, 7, 7, 7, 7, 7, 7, 7, 7, 7, 7, 7, 7, 7, 7, 7, 7, 7, 7, 7, 7, 7, 7, 7, 7, 7, 7, 7, 7, 7, 7, 7, 7, 7, 7, 7, 7, 7, 7, 7, 7, 7, 7, 7, 7, 7, 7, 7, 7, 7, 7, 7, 7, 7, 7, 8, 8, 8, 8, 8, 8, 8, 8, 8, 8, 8, 8, 8, 8, 8, 8, 8, 8, 8, 8, 8, 8, 8, 8, 8, 8, 8, 8, 8, 8, 8, 8, 8, 8, 8, 8, 8, 8, 8, 8, 8, 8, 8, 8, 8, 8, 8, 8, 8, 8, 8, 8, 8, 8, 8, 8, 8, 8, 8, 8, 8, 8, 8, 8, 8, 8, 8, 8, 8, 8, 8, 8, 8, 8, 8, 8, 8, 8, 8, 8, 8, 8, 8, 8, 8, 8, 8, 8, 8, 8, 8, 8, 8, 8, 8, 8, 8, 8, 8, 8, 8, 8, 8, 8, 8, 8, 8, 8, 8, 8, 8, 8, 8, 8, 8, 8, 8, 8, 8, 8, 8, 8, 8, 8, 8, 8, 8, 8])) (.t 21), none⟩, ⟨(some 23), .cvInt .i64 (.t 22), none⟩, ⟨(some 24), .bin .add (.t 19) (.t 23), none⟩, ⟨(some 2), .mov (.t 24), none⟩])
.ret)))))⟩
theorem c237_eq : compFn Tryz.prog 237 = some c237 := by kernel_rfl
noncomputable def c238 : FnI := ⟨35, [],
(.seq (.reg [⟨(some 3), .box (.t 0), none⟩])
(.seq (.reg [⟨(some 8), .mov (.t 1), none⟩, ⟨(some 9), .bin .add (.t 8) (.c (.int .i64 (.ofNat 1))), none⟩, ⟨(some 6), .mov (.t 9), none⟩])
(.block 0 (.loop (.seq (.seq (.reg [⟨(some 10), .mov (.t 6), none⟩, ⟨(some 11), .mov (.t 2), none⟩, ⟨(some 12), .bin .lss (.t 10) (.t 11), none⟩])
(.cond (.t 12) .skip (.exit 0)))
(.seq (.block 1 (.seq (.reg [⟨(some 15), .mov (.t 6), none⟩, ⟨(some 7), .mov (.t 15), none⟩])
(.block 2 (.loop (.seq (.seq (.reg [⟨(some 16), .mov (.t 7), none⟩, ⟨(some 17), .mov (.t 1), none⟩, ⟨(some 18), .bin .gtr (.t 16) (.t 17), none⟩, ⟨(some 19), .mov (.t 18), none⟩, ⟨(some 20), .faddr 0 (.t 3), (some (19, true))⟩, ⟨(some 21), .load false 1 (.t 20), (some (19, true))⟩, ⟨(some 22), .mov (.t 7), (some (19, true))⟩, ⟨(some 23), .mov (.t 7), (some (19, true))⟩, ⟨(some 24), .bin .sub (.t 23) (.c (.int .i64 (.ofNat 1))), (some (19, true))⟩, ⟨(some 25), .callv (.t 21) [(.t 22), (.t 24)], (some (19, true))⟩, ⟨(some 26), .pick (.t 19) (.t 25) (.c (.bool false)), none⟩])
(.cond (.t 26) .skip (.exit 2)))
(.seq (.block 3 (.reg [⟨(some 29), .faddr 1 (.t 3), none⟩, ⟨(some 30), .load false 1 (.t 29), none⟩, ⟨(some 31), .mov (.t 7), none⟩, ⟨(some 32), .mov (.t 7), none⟩, ⟨(some 33), .bin .sub (.t 32) (.c (.int .i64 (.ofNat 1))), none⟩, ⟨(some 34), .callv (.t 30) [(.t 31), (.t 33)], none⟩]))
(.reg [⟨(some 27), .mov (.t 7), none⟩, ⟨(some 28), .bin .sub (.t 27) (.c (.int .i64 (.ofNat 1))), none⟩, ⟨(some 7), .mov (.t 28), none⟩])))))))
(.reg [⟨(some 13), .mov (.t 6), none⟩, ⟨(some 14), .bin .add (.t 13) (.c (.int .i64 (.ofNat 1))), none⟩, ⟨(some 6), .mov (.t 14), none⟩])))))))⟩
theorem c238_eq : compFn Tryz.prog 238 = some c238 := by kernel_rfl
noncomputable def c246 : FnI := ⟨16, [],
(.seq (.reg [⟨(some 5), .load false 1 (.t 1), none⟩, ⟨(some 6), .len false (.t 5), none⟩, ⟨(some 7), .mov (.c (.int .i64 (.ofNat 0))), none⟩])
(.block 0 (.loop (.seq (.reg [⟨(some 8), .bin .lss (.t 7) (.t 6), none⟩])
(.seq (.cond (.t 8) .skip (.exit 0))
(.seq (.block 1 (.seq (.reg [⟨(some 9), .idxS 9 (.t 5) (.t 7), none⟩, ⟨(some 10), .load true 9 (.t 9), none⟩, ⟨(some 4), .alloc [(.str []), (.str []), (.str []), (.int .u64 (.ofNat 0)), (.int .u64 (.ofNat 0)), (.int .u64 (.ofNat 0)), (.int .u64 (.ofNat 0)), (.int .u64 (.ofNat 0)), (.int .u64 (.ofNat 0))], none⟩, ⟨none, .store 9 (.t 4) (.t 10), none⟩])
(.seq (.reg [⟨(some 11), .mov (.t 0), none⟩, ⟨(some 12), .load true 9 (.t 4), none⟩, ⟨(some 13), .callv (.t 11) [(.t 12)], none⟩, ⟨(some 14), .un .not (.t 13), none⟩])
(.cond (.t 14) .ret .skip))))
(.reg [⟨(some 15), .bin .add (.t 7) (.c (.int .i64 (.ofNat 1))), none⟩, ⟨(some 7), .mov (.t 15), none⟩])))))))⟩
theorem c246_eq : compFn Tryz.prog 246 = some c246 := by kernel_rfl
noncomputable def c260 : FnI := ⟨9, [.tmp 2],
(.seq (.reg [⟨(some 2), .mov (.c (.bool false)), none⟩])
(.seq (.reg [⟨(some 3), .mov (.t 0), none⟩, ⟨(some 4), .bin .geq (.t 3) (.c (.int .i64 (.ofNat 0))), none⟩, ⟨(some 5), .mov (.t 4), none⟩, ⟨(some 6), .mov (.t 0), (some (5, true))⟩, ⟨(some 7), .bin .lss (.t 6) (.c (.int .i64 (.ofNat 8))), (some (5, true))⟩, ⟨(some 8), .pick (.t 5) (.t 7) (.c (.bool false)), none⟩, ⟨(some 2), .mov (.t 8), none⟩])
.ret))⟩
theorem c260_eq : compFn Tryz.prog 260 = some c260 := by kernel_rfl
noncomputable def c261 : FnI := ⟨94, [.cell 8 true 7, .tmp 9],
(.seq (.reg [⟨(some 6), .box (.t 2), none⟩, ⟨(some 8), .alloc [(.str []), (.int .i64 (.ofNat 0)), (.str []), (.int .u64 (.ofNat 0)), (.int .u64 (.ofNat 0)), (.int .u64 (.ofNat 0)), (.int .u64 (.ofNat 0))], none⟩, ⟨(some 9), .mov (.c (.int .i64 (.ofNat 0))), none⟩])
(.seq (.seq (.reg [⟨(some 13), .mov (.t 0), none⟩, ⟨(some 14), .call 139 [(.t 13)], none⟩])
(.cond (.t 14) (.seq (.reg [⟨(some 15), .build [(.str []), (.int .i64 (.ofNat 0)), (.str []), (.int .u64 (.ofNat 0)), (.int .u64 (.ofNat 0)), (.int .u64 (.ofNat 0)), (.int .u64 (.ofNat 0))] [], none⟩, ⟨none, .store 7 (.t 8) (.t 15), none⟩, ⟨(some 9), .mov (.c (.int .i64 (.ofNat 1))), none⟩])
.ret) .skip))
(.seq (.reg [⟨(some 17), .mov (.t 0), none⟩, ⟨(some 18), .mov (.t 1), none⟩, ⟨(some 19), .call 303 [(.t 17), (.t 18)], none⟩, ⟨(some 16), .mov (.t 19), none⟩, ⟨(some 20), .extract (.t 16) 0, none⟩, ⟨(some 21), .extract (.t 16) 1, none⟩, ⟨(some 10), .mov (.t 20), none⟩, ⟨(some 11), .mov (.t 21), none⟩])
(.seq (.seq (.dreg [⟨⟨(some 22), .mov (.t 11), none⟩, .quiet, 0, 0⟩, ⟨⟨(some 23), .un .not (.t 22), none⟩, .quiet, 1, 1⟩, ⟨⟨(some 24), .mov (.t 23), none⟩, .quiet, 2, 3⟩, ⟨⟨(some 25), .mov (.t 0), (some (24, true))⟩, .quiet, 3, 7⟩, ⟨⟨(some 26), .nilchk (.t 25), (some (24, true))⟩, .quiet, 4, 15⟩, ⟨⟨(some 27), .faddr 1 (.t 26), (some (24, true))⟩, .quiet, 5, 31⟩, ⟨⟨(some 28), .load false 1 (.t 27), (some (24, true))⟩, .load, 6, 63⟩, ⟨⟨(some 29), .len false (.t 28), (some (24, true))⟩, .quiet, 7, 127⟩, ⟨⟨(some 30), .mov (.t 0), (some (24, true))⟩, .quiet, 8, 7⟩, ⟨⟨(some 31), .nilchk (.t 30), (some (24, true))⟩, .quiet, 9, 263⟩, ⟨⟨(some 32), .faddr 0 (.t 31), (some (24, true))⟩, .quiet, 10, 775⟩, ⟨⟨(some 33), .load false 1 (.t 32), (some (24, true))⟩, .load, 11, 1799⟩, ⟨⟨(some 34), .bin .geq (.t 29) (.t 33), (some (24, true))⟩, .quiet, 12, 4095⟩, ⟨⟨(some 35), .pick (.t 24) (.t 34) (.c (.bool false)), none⟩, .quiet, 13, 8191⟩])
(.cond (.t 35) (.seq (.reg [⟨(some 36), .build [(.str []), (.int .i64 (.ofNat 0)), (.str []), (.int .u64 (.ofNat 0)), (.int .u64 (.ofNat 0)), (.int .u64 (.ofNat 0)), (.int .u64 (.ofNat 0))] [], none⟩, ⟨none, .store 7 (.t 8) (.t 36), none⟩, ⟨(some 9), .mov (.c (.int .i64 (.ofNat 5))), none⟩])
.ret) .skip))
(.seq (.reg [⟨(some 37), .mov (.t 1), none⟩, ⟨(some 38), .load true 4 (.t 6), none⟩, ⟨(some 39), .mov (.t 3), none⟩, ⟨(some 40), .mov (.t 3), none⟩, ⟨(some 41), .build [(.str []), (.int .i64 (.ofNat 0)), (.str []), (.int .u64 (.ofNat 0)), (.int .u64 (.ofNat 0)), (.int .u64 (.ofNat 0)), (.int .u64 (.ofNat 0))] [(0, 1, (.t 37)), (1, 4, (.t 38)), (5, 1, (.t 39)), (6, 1, (.t 40))], none⟩, ⟨(some 12), .alloc [(.str []), (.int .i64 (.ofNat 0)), (.str []), (.int .u64 (.ofNat 0)), (.int .u64 (.ofNat 0)), (.int .u64 (.ofNat 0)), (.int .u64 (.ofNat 0))], none⟩, ⟨none, .store 7 (.t 12) (.t 41), none⟩])
(.seq (.seq (.reg [⟨(some 42), .mov (.t 11), none⟩])
(.cond (.t 42) (.seq (.reg [⟨(some 43), .mov (.t 0), none⟩, ⟨(some 44), .nilchk (.t 43), none⟩, ⟨(some 45), .faddr 1 (.t 44), none⟩, ⟨(some 46), .load false 1 (.t 45), none⟩, ⟨(some 47), .mov (.t 10), none⟩, ⟨(some 48), .idxS 7 (.t 46) (.t 47), none⟩, ⟨(some 49), .faddr 5 (.t 48), none⟩, ⟨(some 50), .load false 1 (.t 49), none⟩, ⟨(some 51), .faddr 5 (.t 12), none⟩, ⟨none, .store 1 (.t 51) (.t 50), none⟩])
(.dreg [⟨⟨(some 52), .mov (.t 0), none⟩, .quiet, 0, 0⟩, ⟨⟨(some 53), .nilchk (.t 52), none⟩, .quiet, 1, 1⟩, ⟨⟨(some 54), .faddr 1 (.t 53), none⟩, .quiet, 2, 3⟩, ⟨⟨(some 55), .load false 1 (.t 54), none⟩, .load, 3, 7⟩, ⟨⟨(some 56), .mov (.t 10), none⟩, .quiet, 4, 0⟩, ⟨⟨(some 57), .load true 7 (.t 12), none⟩, .load, 5, 0⟩, ⟨⟨(some 58), .idxS 7 (.t 55) (.t 56), none⟩, .quiet, 6, 63⟩, ⟨⟨none, .store 7 (.t 58) (.t 57), none⟩, .loud, 7, 127⟩])) (.seq (.reg [⟨(some 59), .mov (.t 0), none⟩, ⟨(some 60), .mov (.t 0), none⟩, ⟨(some 61), .nilchk (.t 60), none⟩, ⟨(some 62), .faddr 1 (.t 61), none⟩, ⟨(some 63), .load false 1 (.t 62), none⟩, ⟨(some 64), .build [(.str []), (.int .i64 (.ofNat 0)), (.str []), (.int .u64 (.ofNat 0)), (.int .u64 (.ofNat 0)), (.int .u64 (.ofNat 0)), (.int .u64 (.ofNat 0))] [], none⟩, ⟨(some 65), .buildSl 7 1 [(.str []), (.int .i64 (.ofNat 0)), (.str []), (.int .u64 (.ofNat 0)), (.int .u64 (.ofNat 0)), (.int .u64 (.ofNat 0)), (.int .u64 (.ofNat 0))] [(0, 7, (.t 64))], none⟩, ⟨(some 66), .append 7 72 (.t 63) (.t 65), none⟩, ⟨(some 67), .nilchk (.t 59), none⟩, ⟨(some 68), .faddr 1 (.t 67), none⟩, ⟨none, .store 1 (.t 68) (.t 66), none⟩])
(.seq (.dreg [⟨⟨(some 69), .mov (.t 0), none⟩, .quiet, 0, 0⟩, ⟨⟨(some 70), .nilchk (.t 69), none⟩, .quiet, 1, 1⟩, ⟨⟨(some 71), .faddr 1 (.t 70), none⟩, .quiet, 2, 3⟩, ⟨⟨(some 72), .load false 1 (.t 71), none⟩, .load, 3, 7⟩, ⟨⟨(some 73), .mov (.t 10), none⟩, .quiet, 4, 0⟩, ⟨⟨(some 74), .bin .add (.t 73) (.c (.int .i64 (.ofNat 1))), none⟩, .quiet, 5, 16⟩, ⟨⟨(some 75), .slS 7 (.t 72) (some (.t 74)) none none, none⟩, .quiet, 6, 63⟩, ⟨⟨(some 76), .mov (.t 0), none⟩, .quiet, 7, 0⟩, ⟨⟨(some 77), .nilchk (.t 76), none⟩, .quiet, 8, 128⟩, ⟨⟨(some 78), .faddr 1 (.t 77), none⟩, .quiet, 9, 384⟩, ⟨⟨(some 79), .load false 1 (.t 78), none⟩, .load, 10, 896⟩, ⟨⟨(some 80), .mov (.t 10), none⟩, .quiet, 11, 0⟩, ⟨⟨(some 81), .slS 7 (.t 79) (some (.t 80)) none none, none⟩, .quiet, 12, 3968⟩, ⟨⟨(some 82), .copy 7 (.t 75) (.t 81), none⟩, .loud, 13, 8191⟩])
(.dreg [⟨⟨(some 83), .mov (.t 0), none⟩, .quiet, 0, 0⟩, ⟨⟨(some 84), .nilchk (.t 83), none⟩, .quiet, 1, 1⟩, ⟨⟨(some 85), .faddr 1 (.t 84), none⟩, .quiet, 2, 3⟩, ⟨⟨(some 86), .load false 1 (.t 85), none⟩, .load, 3, 7⟩, ⟨⟨(some 87), .mov (.t 10), none⟩, .quiet, 4, 0⟩, ⟨⟨(some 88), .load true 7 (.t 12), none⟩, .load, 5, 0⟩, ⟨⟨(some 89), .idxS 7 (.t 86) (.t 87), none⟩, .quiet, 6, 63⟩, ⟨⟨none, .store 7 (.t 89) (.t 88), none⟩, .loud, 7, 127⟩])))))
(.seq (.reg [⟨(some 90), .mov (.t 0), none⟩, ⟨(some 91), .mov (.t 3), none⟩, ⟨(some 92), .call 304 [(.t 90), (.t 91)], none⟩])
(.seq (.reg [⟨(some 93), .load true 7 (.t 12), none⟩, ⟨none, .store 7 (.t 8) (.t 93), none⟩, ⟨(some 9), .mov (.c (.int .i64 (.ofNat 0))), none⟩])
.ret))))))))⟩
theorem c261_eq : compFn Tryz.prog 261 = some c261 := by kernel_rfl
noncomputable def c262 : FnI := ⟨8, [.tmp 2],
(.seq (.reg [⟨(some 2), .mov (.c (.str [])), none⟩])
(.seq (.reg [⟨(some 3), .mov (.t 0), none⟩, ⟨(some 4), .cvInt .u8 (.t 3), none⟩, ⟨(some 5), .bin .add (.c (.int .u8 (.ofNat 48))) (.t 4), none⟩, ⟨(some 6), .buildSl 1 1 [(.int .u8 (.ofNat 0))] [(0, 1, (.t 5))], none⟩, ⟨(some 7), .cvStr (.t 6), none⟩, ⟨(some 2), .mov (.t 7), none⟩])
.ret))⟩
theorem c262_eq : compFn Tryz.prog 262 = some c262 := by kernel_rfl
noncomputable def c303 : FnI := ⟨34, [.tmp 4, .tmp 5],
(.seq (.reg [⟨(some 2), .box (.t 0), none⟩, ⟨(some 3), .box (.t 1), none⟩, ⟨(some 4), .mov (.c (.int .i64 (.ofNat 0))), none⟩, ⟨(some 5), .mov (.c (.bool false)), none⟩])
(.seq (.reg [⟨(some 7), .load false 1 (.t 2), none⟩, ⟨(some 8), .nilchk (.t 7), none⟩, ⟨(some 9), .faddr 1 (.t 8), none⟩, ⟨(some 10), .load false 1 (.t 9), none⟩, ⟨(some 11), .len false (.t 10), none⟩, ⟨(some 12), .mkfn 333 [] [(.t 2), (.t 3)], none⟩, ⟨(some 13), .call 329 [(.t 11), (.t 12)], none⟩, ⟨(some 6), .mov (.t 13), none⟩])
(.seq (.dreg [⟨⟨(some 14), .mov (.t 6), none⟩, .quiet, 0, 0⟩, ⟨⟨(some 15), .mov (.t 6), none⟩, .quiet, 1, 0⟩, ⟨⟨(some 16), .load false 1 (.t 2), none⟩, .load, 2, 0⟩, ⟨⟨(some 17), .nilchk (.t 16), none⟩, .quiet, 3, 4⟩, ⟨⟨(some 18), .faddr 1 (.t 17), none⟩, .quiet, 4, 12⟩, ⟨⟨(some 19), .load false 1 (.t 18), none⟩, .load, 5, 28⟩, ⟨⟨(some 20), .len false (.t 19), none⟩, .quiet, 6, 60⟩, ⟨⟨(some 21), .bin .lss (.t 15) (.t 20), none⟩, .quiet, 7, 126⟩, ⟨⟨(some 22), .mov (.t 21), none⟩, .quiet, 8, 254⟩, ⟨⟨(some 23), .load false 1 (.t 2), (some (22, true))⟩, .load, 9, 510⟩, ⟨⟨(some 24), .nilchk (.t 23), (some (22, true))⟩, .quiet, 10, 1022⟩, ⟨⟨(some 25), .faddr 1 (.t 24), (some (22, true))⟩, .quiet, 11, 2046⟩, ⟨⟨(some 26), .load false 1 (.t 25), (some (22, true))⟩, .load, 12, 4094⟩, ⟨⟨(some 27), .mov (.t 6), (some (22, true))⟩, .quiet, 13, 510⟩, ⟨⟨(some 28), .idxS 7 (.t 26) (.t 27), (some (22, true))⟩, .quiet, 14, 16382⟩, ⟨⟨(some 29), .faddr 0 (.t 28), (some (22, true))⟩, .quiet, 15, 32766⟩, ⟨⟨(some 30), .load false 1 (.t 29), (some (22, true))⟩, .load, 16, 65534⟩, ⟨⟨(some 31), .load false 1 (.t 3), (some (22, true))⟩, .load, 17, 510⟩, ⟨⟨(some 32), .bin .eql (.t 30) (.t 31), (some (22, true))⟩, .quiet, 18, 262142⟩, ⟨⟨(some 33), .pick (.t 22) (.t 32) (.c (.bool false)), none⟩, .quiet, 19, 524286⟩, ⟨⟨(some 4), .mov (.t 14), none⟩, .quiet, 20, 511⟩, ⟨⟨(some 5), .mov (.t 33), none⟩, .quiet, 21, 2097151⟩])
.ret)))⟩
theorem c303_eq : compFn Tryz.prog 303 = some c303 := by kernel_rfl
noncomputable def c304 : FnI := ⟨16, [],
(.seq (.reg [⟨(some 4), .mov (.t 0), none⟩, ⟨(some 5), .call 139 [(.t 4)], none⟩, ⟨(some 6), .un .not (.t 5), none⟩])
(.cond (.t 6) (.reg [⟨(some 7), .mov (.t 0), none⟩, ⟨(some 8), .mov (.t 0), none⟩, ⟨(some 9), .nilchk (.t 8), none⟩, ⟨(some 10), .faddr 2 (.t 9), none⟩, ⟨(some 11), .load false 1 (.t 10), none⟩, ⟨(some 12), .mov (.t 1), none⟩, ⟨(some 13), .mm true (.t 11) [(.t 12)], none⟩, ⟨(some 14), .nilchk (.t 7), none⟩, ⟨(some 15), .faddr 2 (.t 14), none⟩, ⟨none, .store 1 (.t 15) (.t 13), none⟩]) .skip))⟩
theorem c304_eq : compFn Tryz.prog 304 = some c304 := by kernel_rfl
noncomputable def c329 : FnI := ⟨26, [.tmp 4],
(.seq (.reg [⟨(some 4), .mov (.c (.int .i64 (.ofNat 0))), none⟩])
(.seq (.reg [⟨(some 8), .mov (.t 0), none⟩, ⟨(some 5), .mov (.c (.int .i64 (.ofNat 0))), none⟩, ⟨(some 6), .mov (.t 8), none⟩])
(.seq (.block 0 (.loop (.seq (.seq (.reg [⟨(some 9), .mov (.t 5), none⟩, ⟨(some 10), .mov (.t 6), none⟩, ⟨(some 11), .bin .lss (.t 9) (.t 10), none⟩])
(.cond (.t 11) .skip (.exit 0)))
(.block 1 (.seq (.reg [⟨(some 12), .mov (.t 5), none⟩, ⟨(some 13), .mov (.t 6), none⟩, ⟨(some 14), .bin .add (.t 12) (.t 13), none⟩, ⟨(some 15), .cvInt .u64 (.t 14), none⟩, ⟨(some 16), .bin .shr (.t 15) (.c (.int .u64 (.ofNat 1))), none⟩, ⟨(some 17), .cvInt .i64 (.t 16), none⟩, ⟨(some 7), .mov (.t 17), none⟩])
(.seq (.reg [⟨(some 18), .mov (.t 1), none⟩, ⟨(some 19), .mov (.t 7), none⟩, ⟨(some 20), .callv (.t 18) [(.t 19)], none⟩, ⟨(some 21), .un .not (.t 20), none⟩])
(.cond (.t 21) (.reg [⟨(some 22), .mov (.t 7), none⟩, ⟨(some 23), .bin .add (.t 22) (.c (.int .i64 (.ofNat 1))), none⟩, ⟨(some 5), .mov (.t 23), none⟩]) (.reg [⟨(some 24), .mov (.t 7), none⟩, ⟨(some 6), .mov (.t 24), none⟩]))))))))
(.seq (.reg [⟨(some 25), .mov (.t 5), none⟩, ⟨(some 4), .mov (.t 25), none⟩])
.ret))))⟩
theorem c329_eq : compFn Tryz.prog 329 = some c329 := by kernel_rfl
end Go.Proofs.YthjmnmbmkpefbaaGreat.AbsStateNone
