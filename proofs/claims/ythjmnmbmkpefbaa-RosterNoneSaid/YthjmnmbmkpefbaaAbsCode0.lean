/- The functions' code, as the evaluator takes it (part 0), and that it is the program's own. -/
import Derived.Test.YthjmnmbmkpefbaaAbsK
import Derived.Test.YthjmnmbmkpefbaaRows
set_option maxRecDepth 100000
namespace Go.Proofs.Ythjmnmbmkpefbaa.Abs
noncomputable def c3 : FnI := ⟨113, [.tmp 2],
(.seq (.reg [⟨(some 1), .box (.t 0), none⟩, ⟨(some 2), .mov (.c (.bool false)), none⟩])
(.seq (.reg [⟨(some 3), .mov (.c .nilp), none⟩])
(.seq (.reg [⟨(some 9), .mov (.t 3), none⟩, ⟨(some 10), .build [.nilp, .nilp, .nilp] [], none⟩, ⟨(some 11), .box (.t 10), none⟩, ⟨(some 12), .buildSl 1 2 [.nilp, .nilp] [(0, 1, (.t 9)), (1, 1, (.t 11))], none⟩, ⟨(some 4), .mov (.t 12), none⟩])
(.seq (.seq (.reg [⟨(some 5), .mov (.c (.int .i64 (.ofNat 0))), none⟩])
(.block 0 (.loop (.seq (.seq (.reg [⟨(some 13), .mov (.t 5), none⟩, ⟨(some 14), .mov (.t 4), none⟩, ⟨(some 15), .len false (.t 14), none⟩, ⟨(some 16), .bin .lss (.t 13) (.t 15), none⟩])
(.cond (.t 16) .skip (.exit 0)))
(.seq (.block 1 (.seq (.reg [⟨(some 19), .mov (.t 4), none⟩, ⟨(some 20), .mov (.t 5), none⟩, ⟨(some 21), .idxS 1 (.t 19) (.t 20), none⟩, ⟨(some 22), .load false 1 (.t 21), none⟩, ⟨(some 6), .mov (.t 22), none⟩])
(.seq (.reg [⟨(some 24), .mov (.t 6), none⟩, ⟨(some 25), .faddr 1 (.t 1), none⟩, ⟨(some 26), .load false 1 (.t 25), none⟩, ⟨(some 27), .call 5 [(.t 24), (.t 26)], none⟩, ⟨(some 23), .mov (.t 27), none⟩, ⟨(some 28), .extract (.t 23) 0, none⟩, ⟨(some 29), .extract (.t 23) 1, none⟩, ⟨(some 7), .mov (.t 28), none⟩, ⟨(some 8), .mov (.t 29), none⟩])
(.seq (.seq (.reg [⟨(some 30), .mov (.t 6), none⟩, ⟨(some 31), .faddr 1 (.t 1), none⟩, ⟨(some 32), .load false 1 (.t 31), none⟩, ⟨(some 33), .call 6 [(.t 30), (.t 32), (.c (.str [])), (.c (.int .u64 (.ofNat 1)))], none⟩, ⟨(some 34), .bin .neq (.t 33) (.c (.int .i64 (.ofNat 1))), none⟩, ⟨(some 35), .mov (.t 34), none⟩, ⟨(some 36), .mov (.t 6), (some (35, false))⟩, ⟨(some 37), .faddr 1 (.t 1), (some (35, false))⟩, ⟨(some 38), .load false 1 (.t 37), (some (35, false))⟩, ⟨(some 39), .call 7 [(.t 36), (.t 38), (.c (.int .u64 (.ofNat 1)))], (some (35, false))⟩, ⟨(some 40), .bin .neq (.t 39) (.c (.int .i64 (.ofNat 1))), (some (35, false))⟩, ⟨(some 41), .pick (.t 35) (.c (.bool true)) (.t 40), none⟩, ⟨(some 42), .mov (.t 41), none⟩, ⟨(some 43), .mov (.t 6), (some (42, false))⟩, ⟨(some 44), .faddr 3 (.t 1), (some (42, false))⟩, ⟨(some 45), .load true 7 (.t 44), (some (42, false))⟩, ⟨(some 46), .call 8 [(.t 43), (.t 45), (.c (.int .u64 (.ofNat 1)))], (some (42, false))⟩, ⟨(some 47), .bin .neq (.t 46) (.c (.int .i64 (.ofNat 1))), (some (42, false))⟩, ⟨(some 48), .pick (.t 42) (.c (.bool true)) (.t 47), none⟩, ⟨(some 49), .mov (.t 48), none⟩, ⟨(some 50), .mov (.t 6), (some (49, false))⟩, ⟨(some 51), .faddr 1 (.t 1), (some (49, false))⟩, ⟨(some 52), .load false 1 (.t 51), (some (49, false))⟩, ⟨(some 53), .faddr 2 (.t 1), (some (49, false))⟩, ⟨(some 54), .load false 1 (.t 53), (some (49, false))⟩, ⟨(some 55), .call 9 [(.t 50), (.t 52), (.t 54), (.c (.int .u64 (.ofNat 1)))], (some (49, false))⟩, ⟨(some 56), .bin .neq (.t 55) (.c (.int .i64 (.ofNat 1))), (some (49, false))⟩, ⟨(some 57), .pick (.t 49) (.c (.bool true)) (.t 56), none⟩, ⟨(some 58), .mov (.t 57), none⟩, ⟨(some 59), .mov (.t 6), (some (58, false))⟩, ⟨(some 60), .faddr 10 (.t 1), (some (58, false))⟩, ⟨(some 61), .load true 7 (.t 60), (some (58, false))⟩, ⟨(some 62), .call 10 [(.t 59), (.t 61), (.c (.int .u64 (.ofNat 1)))], (some (58, false))⟩, ⟨(some 63), .bin .neq (.t 62) (.c (.int .i64 (.ofNat 1))), (some (58, false))⟩, ⟨(some 64), .pick (.t 58) (.c (.bool true)) (.t 63), none⟩, ⟨(some 65), .mov (.t 64), none⟩, ⟨(some 66), .mov (.t 6), (some (65, false))⟩, ⟨(some 67), .faddr 1 (.t 1), (some (65, false))⟩, ⟨(some 68), .load false 1 (.t 67), (some (65, false))⟩, ⟨(some 69), .faddr 2 (.t 1), (some (65, false))⟩, ⟨(some 70), .load false 1 (.t 69), (some (65, false))⟩, ⟨(some 71), .call 11 [(.t 66), (.t 68), (.t 70), (.c (.int .u64 (.ofNat 1)))], (some (65, false))⟩, ⟨(some 72), .bin .neq (.t 71) (.c (.int .i64 (.ofNat 1))), (some (65, false))⟩, ⟨(some 73), .pick (.t 65) (.c (.bool true)) (.t 72), none⟩])
(.cond (.t 73) (.seq (.reg [⟨(some 2), .mov (.c (.bool false)), none⟩])
.ret) .skip))
(.seq (.reg [⟨(some 74), .mov (.t 6), none⟩, ⟨(some 75), .call 12 [(.t 74)], none⟩, ⟨(some 76), .len false (.t 75), none⟩, ⟨(some 77), .mov (.t 6), none⟩, ⟨(some 78), .call 13 [(.t 77)], none⟩, ⟨(some 79), .len false (.t 78), none⟩, ⟨(some 80), .bin .add (.t 76) (.t 79), none⟩, ⟨(some 81), .mov (.t 6), none⟩, ⟨(some 82), .call 14 [(.t 81)], none⟩, ⟨(some 83), .len false (.t 82), none⟩, ⟨(some 84), .bin .add (.t 80) (.t 83), none⟩, ⟨(some 85), .mov (.t 7), none⟩, ⟨(some 86), .len false (.t 85), none⟩, ⟨(some 87), .bin .add (.t 84) (.t 86), none⟩, ⟨(some 88), .mov (.t 8), none⟩, ⟨(some 89), .len false (.t 88), none⟩, ⟨(some 90), .bin .add (.t 87) (.t 89), none⟩, ⟨(some 91), .bin .neq (.t 90) (.c (.int .i64 (.ofNat 0))), none⟩, ⟨(some 92), .mov (.t 91), none⟩, ⟨(some 93), .mov (.t 6), (some (92, false))⟩, ⟨(some 94), .faddr 1 (.t 1), (some (92, false))⟩, ⟨(some 95), .load false 1 (.t 94), (some (92, false))⟩, ⟨(some 96), .faddr 2 (.t 1), (some (92, false))⟩, ⟨(some 97), .load false 1 (.t 96), (some (92, false))⟩, ⟨(some 98), .call 15 [(.t 93), (.t 95), (.t 97)], (some (92, false))⟩, ⟨(some 99), .bin .neq (.t 98) (.c (.int .i64 (.ofNat 0))), (some (92, false))⟩, ⟨(some 100), .pick (.t 92) (.c (.bool true)) (.t 99), none⟩, ⟨(some 101), .mov (.t 100), none⟩, ⟨(some 102), .mov (.t 6), (some (101, false))⟩, ⟨(some 103), .call 16 [(.t 102)], (some (101, false))⟩, ⟨(some 104), .build [(.int .u64 (.ofNat 0)), (.int .u64 (.ofNat 0)), (.int .u64 (.ofNat 0))] [], (some (101, false))⟩, ⟨(some 105), .eq true (.arr 3 1 false .int) (.t 103) (.t 104), (some (101, false))⟩, ⟨(some 106), .pick (.t 101) (.c (.bool true)) (.t 105), none⟩, ⟨(some 107), .mov (.t 106), none⟩, ⟨(some 108), .mov (.t 6), (some (107, false))⟩, ⟨(some 109), .call 17 [(.t 108)], (some (107, false))⟩, ⟨(some 110), .eq true .ptr (.t 109) (.c .nilp), (some (107, false))⟩, ⟨(some 111), .pick (.t 107) (.c (.bool true)) (.t 110), none⟩])
(.cond (.t 111) (.seq (.reg [⟨(some 2), .mov (.c (.bool false)), none⟩])
.ret) .skip))))))
(.reg [⟨(some 17), .mov (.t 5), none⟩, ⟨(some 18), .bin .add (.t 17) (.c (.int .i64 (.ofNat 1))), none⟩, ⟨(some 5), .mov (.t 18), none⟩]))))))
(.seq (.reg [⟨(some 112), .call 18 [], none⟩, ⟨(some 2), .mov (.t 112), none⟩])
.ret)))))⟩
theorem c3_eq : compFn Try.prog 3 = some c3 := by kernel_rfl
noncomputable def c5 : FnI := ⟨46, [.tmp 4, .tmp 5],
(.seq (.reg [⟨(some 4), .mov (.c .nilsl), none⟩, ⟨(some 5), .mov (.c .nilsl), none⟩])
(.seq (.reg [⟨(some 6), .mov (.c .nilsl), none⟩])
(.seq (.seq (.reg [⟨(some 12), .mov (.t 0), none⟩, ⟨(some 13), .call 13 [(.t 12)], none⟩, ⟨(some 14), .len false (.t 13), none⟩, ⟨(some 15), .mov (.c (.int .i64 (.ofNat 0))), none⟩])
(.block 0 (.loop (.seq (.reg [⟨(some 16), .bin .lss (.t 15) (.t 14), none⟩])
(.seq (.cond (.t 16) .skip (.exit 0))
(.seq (.block 1 (.seq (.reg [⟨(some 17), .idxS 7 (.t 13) (.t 15), none⟩, ⟨(some 18), .load true 7 (.t 17), none⟩, ⟨(some 8), .alloc [(.int .i64 (.ofNat 0)), (.str []), (.str []), .nilsl, (.int .i64 (.ofNat 0)), (.int .u64 (.ofNat 0)), (.int .u64 (.ofNat 0))], none⟩, ⟨none, .store 7 (.t 8) (.t 18), none⟩])
(.seq (.reg [⟨(some 19), .faddr 0 (.t 8), none⟩, ⟨(some 20), .load false 1 (.t 19), none⟩, ⟨(some 21), .mov (.t 1), none⟩, ⟨(some 22), .bin .eql (.t 20) (.t 21), none⟩])
(.cond (.t 22) (.reg [⟨(some 23), .mov (.t 6), none⟩, ⟨(some 24), .load true 7 (.t 8), none⟩, ⟨(some 25), .buildSl 7 1 [(.int .i64 (.ofNat 0)), (.str []), (.str []), .nilsl, (.int .i64 (.ofNat 0)), (.int .u64 (.ofNat 0)), (.int .u64 (.ofNat 0))] [(0, 7, (.t 24))], none⟩, ⟨(some 26), .append 7 88 (.t 23) (.t 25), none⟩, ⟨(some 6), .mov (.t 26), none⟩]) .skip))))
(.reg [⟨(some 27), .bin .add (.t 15) (.c (.int .i64 (.ofNat 1))), none⟩, ⟨(some 15), .mov (.t 27), none⟩])))))))
(.seq (.reg [⟨(some 9), .mov (.c .nilsl), none⟩])
(.seq (.seq (.reg [⟨(some 28), .mov (.t 0), none⟩, ⟨(some 29), .call 14 [(.t 28)], none⟩, ⟨(some 30), .len false (.t 29), none⟩, ⟨(some 31), .mov (.c (.int .i64 (.ofNat 0))), none⟩])
(.block 2 (.loop (.seq (.reg [⟨(some 32), .bin .lss (.t 31) (.t 30), none⟩])
(.seq (.cond (.t 32) .skip (.exit 2))
(.seq (.block 3 (.seq (.reg [⟨(some 33), .idxS 7 (.t 29) (.t 31), none⟩, ⟨(some 34), .load true 7 (.t 33), none⟩, ⟨(some 11), .alloc [(.int .i64 (.ofNat 0)), (.str []), (.str []), (.str []), (.int .i64 (.ofNat 0)), (.int .u64 (.ofNat 0)), (.int .u64 (.ofNat 0))], none⟩, ⟨none, .store 7 (.t 11) (.t 34), none⟩])
(.seq (.reg [⟨(some 35), .faddr 0 (.t 11), none⟩, ⟨(some 36), .load false 1 (.t 35), none⟩, ⟨(some 37), .mov (.t 1), none⟩, ⟨(some 38), .bin .eql (.t 36) (.t 37), none⟩])
(.cond (.t 38) (.reg [⟨(some 39), .mov (.t 9), none⟩, ⟨(some 40), .load true 7 (.t 11), none⟩, ⟨(some 41), .buildSl 7 1 [(.int .i64 (.ofNat 0)), (.str []), (.str []), (.str []), (.int .i64 (.ofNat 0)), (.int .u64 (.ofNat 0)), (.int .u64 (.ofNat 0))] [(0, 7, (.t 40))], none⟩, ⟨(some 42), .append 7 80 (.t 39) (.t 41), none⟩, ⟨(some 9), .mov (.t 42), none⟩]) .skip))))
(.reg [⟨(some 43), .bin .add (.t 31) (.c (.int .i64 (.ofNat 1))), none⟩, ⟨(some 31), .mov (.t 43), none⟩])))))))
(.seq (.reg [⟨(some 44), .mov (.t 6), none⟩, ⟨(some 45), .mov (.t 9), none⟩, ⟨(some 4), .mov (.t 44), none⟩, ⟨(some 5), .mov (.t 45), none⟩])
.ret))))))⟩
theorem c5_eq : compFn Try.prog 5 = some c5 := by kernel_rfl
noncomputable def c6 : FnI := ⟨37, [.tmp 8],
(.seq (.reg [⟨(some 8), .mov (.c (.int .i64 (.ofNat 0))), none⟩])
(.seq (.block 0 (.seq (.reg [⟨(some 12), .mov (.t 0), none⟩, ⟨(some 13), .call 31 [(.t 12)], none⟩, ⟨(some 11), .mov (.t 13), none⟩])
(.cond (.t 11) (.seq (.reg [⟨(some 8), .mov (.c (.int .i64 (.ofNat 1))), none⟩])
.ret) (.seq (.reg [⟨(some 15), .mov (.t 1), none⟩, ⟨(some 16), .call 32 [(.t 15)], none⟩, ⟨(some 17), .un .not (.t 16), none⟩, ⟨(some 14), .mov (.t 17), none⟩])
(.cond (.t 14) (.seq (.reg [⟨(some 8), .mov (.c (.int .i64 (.ofNat 2))), none⟩])
.ret) (.seq (.reg [⟨(some 19), .mov (.t 2), none⟩, ⟨(some 20), .len true (.t 19), none⟩, ⟨(some 21), .bin .gtr (.t 20) (.c (.int .i64 (.ofNat 32))), none⟩, ⟨(some 18), .mov (.t 21), none⟩])
(.cond (.t 18) (.seq (.reg [⟨(some 8), .mov (.c (.int .i64 (.ofNat 3))), none⟩])
.ret) .skip)))))))
(.seq (.dreg [⟨⟨(some 27), .mov (.t 1), none⟩, .quiet, 4, 0⟩, ⟨⟨(some 28), .call 34 [(.t 27)], none⟩, .loud, 5, 16⟩, ⟨⟨(some 23), .mov (.t 0), none⟩, .quiet, 0, 0⟩, ⟨⟨(some 24), .nilchk (.t 23), none⟩, .quiet, 1, 1⟩, ⟨⟨(some 25), .faddr 0 (.t 24), none⟩, .quiet, 2, 3⟩, ⟨⟨(some 26), .load false 1 (.t 25), none⟩, .load, 3, 7⟩, ⟨⟨(some 29), .mov (.t 1), none⟩, .quiet, 6, 0⟩, ⟨⟨(some 30), .mov (.t 2), none⟩, .quiet, 7, 0⟩, ⟨⟨(some 31), .build [(.int .i64 (.ofNat 0)), (.str []), (.int .u64 (.ofNat 0)), (.int .u64 (.ofNat 0))] [(0, 1, (.t 29)), (1, 1, (.t 30))], none⟩, .quiet, 8, 192⟩, ⟨⟨(some 32), .mov (.t 3), none⟩, .quiet, 9, 0⟩, ⟨⟨(some 33), .call 33 [(.t 26), (.t 28), (.t 31), (.t 32)], none⟩, .loud, 10, 1023⟩, ⟨⟨(some 22), .mov (.t 33), none⟩, .quiet, 11, 2047⟩, ⟨⟨(some 34), .extract (.t 22) 0, none⟩, .quiet, 12, 4095⟩, ⟨⟨(some 9), .alloc [(.str []), (.int .i64 (.ofNat 0)), (.str []), (.int .u64 (.ofNat 0)), (.int .u64 (.ofNat 0)), (.int .u64 (.ofNat 0)), (.int .u64 (.ofNat 0))], none⟩, .quiet, 14, 0⟩, ⟨⟨none, .store 7 (.t 9) (.t 34), none⟩, .loud, 15, 24575⟩, ⟨⟨(some 35), .extract (.t 22) 1, none⟩, .quiet, 13, 4095⟩, ⟨⟨(some 10), .mov (.t 35), none⟩, .quiet, 16, 65535⟩])
(.seq (.reg [⟨(some 36), .mov (.t 10), none⟩, ⟨(some 8), .mov (.t 36), none⟩])
.ret))))⟩
theorem c6_eq : compFn Try.prog 6 = some c6 := by kernel_rfl
noncomputable def c7 : FnI := ⟨45, [.tmp 6],
(.seq (.reg [⟨(some 3), .box (.t 0), none⟩, ⟨(some 4), .box (.t 1), none⟩, ⟨(some 5), .box (.t 2), none⟩, ⟨(some 6), .mov (.c (.int .i64 (.ofNat 0))), none⟩])
(.seq (.seq (.reg [⟨(some 9), .load false 1 (.t 3), none⟩, ⟨(some 10), .call 31 [(.t 9)], none⟩])
(.cond (.t 10) (.seq (.reg [⟨(some 6), .mov (.c (.int .i64 (.ofNat 1))), none⟩])
.ret) .skip))
(.seq (.seq (.reg [⟨(some 11), .load false 1 (.t 3), none⟩, ⟨(some 12), .load false 1 (.t 4), none⟩, ⟨(some 13), .call 35 [(.t 11), (.t 12)], none⟩, ⟨(some 14), .un .not (.t 13), none⟩])
(.cond (.t 14) (.seq (.reg [⟨(some 6), .mov (.c (.int .i64 (.ofNat 4))), none⟩])
.ret) .skip))
(.seq (.dreg [⟨⟨(some 19), .load false 1 (.t 4), none⟩, .load, 4, 0⟩, ⟨⟨(some 20), .call 34 [(.t 19)], none⟩, .loud, 5, 16⟩, ⟨⟨(some 15), .load false 1 (.t 3), none⟩, .load, 0, 0⟩, ⟨⟨(some 16), .nilchk (.t 15), none⟩, .quiet, 1, 1⟩, ⟨⟨(some 17), .faddr 0 (.t 16), none⟩, .quiet, 2, 3⟩, ⟨⟨(some 18), .load false 1 (.t 17), none⟩, .load, 3, 7⟩, ⟨⟨(some 21), .load false 1 (.t 5), none⟩, .load, 6, 0⟩, ⟨⟨(some 22), .call 36 [(.t 18), (.t 20), (.t 21)], none⟩, .loud, 7, 127⟩])
(.seq (.seq (.reg [⟨(some 23), .load false 1 (.t 3), none⟩, ⟨(some 24), .nilchk (.t 23), none⟩, ⟨(some 25), .faddr 1 (.t 24), none⟩, ⟨(some 26), .load false 1 (.t 25), none⟩, ⟨(some 27), .call 37 [(.t 26)], none⟩])
(.block 0 (.rangef (.t 27) [28, 29] (.seq (.reg [⟨(some 7), .mov (.t 28), none⟩])
(.reg [⟨(some 8), .alloc [(.int .i64 (.ofNat 0)), (.str []), (.str []), .nilsl, (.int .i64 (.ofNat 0)), (.int .u64 (.ofNat 0)), (.int .u64 (.ofNat 0))], none⟩, ⟨none, .store 7 (.t 8) (.t 29), none⟩])) (.block 1 (.seq (.reg [⟨(some 30), .faddr 0 (.t 8), none⟩, ⟨(some 31), .load false 1 (.t 30), none⟩, ⟨(some 32), .load false 1 (.t 4), none⟩, ⟨(some 33), .bin .eql (.t 31) (.t 32), none⟩])
(.cond (.t 33) (.dreg [⟨⟨(some 34), .load false 1 (.t 3), none⟩, .load, 0, 0⟩, ⟨⟨(some 35), .nilchk (.t 34), none⟩, .quiet, 1, 1⟩, ⟨⟨(some 36), .faddr 1 (.t 35), none⟩, .quiet, 2, 3⟩, ⟨⟨(some 37), .load false 1 (.t 36), none⟩, .load, 3, 7⟩, ⟨⟨(some 38), .mov (.t 7), none⟩, .quiet, 4, 0⟩, ⟨⟨(some 39), .load false 1 (.t 5), none⟩, .load, 5, 0⟩, ⟨⟨(some 40), .call 38 [(.t 37), (.t 38), (.t 39)], none⟩, .loud, 6, 63⟩]) .skip))))))
(.seq (.reg [⟨(some 41), .load false 1 (.t 3), none⟩, ⟨(some 42), .mkfn 40 [] [(.t 4)], none⟩, ⟨(some 43), .load false 1 (.t 5), none⟩, ⟨(some 44), .call 39 [(.t 41), (.t 42), (.t 43)], none⟩])
(.seq (.reg [⟨(some 6), .mov (.c (.int .i64 (.ofNat 0))), none⟩])
.ret)))))))⟩
theorem c7_eq : compFn Try.prog 7 = some c7 := by kernel_rfl
noncomputable def c8 : FnI := ⟨39, [.tmp 6],
(.seq (.reg [⟨(some 4), .box (.t 1), none⟩, ⟨(some 6), .mov (.c (.int .i64 (.ofNat 0))), none⟩])
(.seq (.seq (.reg [⟨(some 10), .mov (.t 0), none⟩, ⟨(some 11), .call 31 [(.t 10)], none⟩])
(.cond (.t 11) (.seq (.reg [⟨(some 6), .mov (.c (.int .i64 (.ofNat 1))), none⟩])
.ret) .skip))
(.seq (.seq (.reg [⟨(some 12), .mov (.t 0), none⟩, ⟨(some 13), .load true 7 (.t 4), none⟩, ⟨(some 14), .call 41 [(.t 12), (.t 13)], none⟩, ⟨(some 7), .mov (.t 14), none⟩])
(.seq (.reg [⟨(some 15), .mov (.t 7), none⟩, ⟨(some 16), .bin .neq (.t 15) (.c (.int .i64 (.ofNat 0))), none⟩])
(.cond (.t 16) (.seq (.reg [⟨(some 17), .mov (.t 7), none⟩, ⟨(some 6), .mov (.t 17), none⟩])
.ret) .skip)))
(.seq (.reg [⟨(some 18), .buildSl 1 0 [] [], none⟩, ⟨(some 19), .faddr 3 (.t 4), none⟩, ⟨(some 20), .load false 1 (.t 19), none⟩, ⟨(some 21), .append 1 16 (.t 18) (.t 20), none⟩, ⟨(some 22), .faddr 3 (.t 4), none⟩, ⟨none, .store 1 (.t 22) (.t 21), none⟩])
(.seq (.dreg [⟨⟨(some 28), .faddr 0 (.t 4), none⟩, .quiet, 4, 0⟩, ⟨⟨(some 29), .load false 1 (.t 28), none⟩, .load, 5, 16⟩, ⟨⟨(some 30), .faddr 1 (.t 4), none⟩, .quiet, 6, 0⟩, ⟨⟨(some 31), .load false 1 (.t 30), none⟩, .load, 7, 64⟩, ⟨⟨(some 32), .call 43 [(.t 29), (.t 31)], none⟩, .loud, 8, 240⟩, ⟨⟨(some 24), .mov (.t 0), none⟩, .quiet, 0, 0⟩, ⟨⟨(some 25), .nilchk (.t 24), none⟩, .quiet, 1, 1⟩, ⟨⟨(some 26), .faddr 1 (.t 25), none⟩, .quiet, 2, 3⟩, ⟨⟨(some 27), .load false 1 (.t 26), none⟩, .load, 3, 7⟩, ⟨⟨(some 33), .load true 7 (.t 4), none⟩, .load, 9, 0⟩, ⟨⟨(some 34), .mov (.t 2), none⟩, .quiet, 10, 0⟩, ⟨⟨(some 35), .call 42 [(.t 27), (.t 32), (.t 33), (.t 34)], none⟩, .loud, 11, 2047⟩, ⟨⟨(some 23), .mov (.t 35), none⟩, .quiet, 12, 4095⟩, ⟨⟨(some 36), .extract (.t 23) 0, none⟩, .quiet, 13, 8191⟩, ⟨⟨(some 8), .alloc [(.str []), (.int .i64 (.ofNat 0)), (.str []), (.str []), .nilsl, (.int .i64 (.ofNat 0)), (.int .u64 (.ofNat 0)), (.int .u64 (.ofNat 0)), (.int .u64 (.ofNat 0)), (.int .u64 (.ofNat 0))], none⟩, .quiet, 15, 0⟩, ⟨⟨none, .store 10 (.t 8) (.t 36), none⟩, .loud, 16, 49151⟩, ⟨⟨(some 37), .extract (.t 23) 1, none⟩, .quiet, 14, 8191⟩, ⟨⟨(some 9), .mov (.t 37), none⟩, .quiet, 17, 131071⟩])
(.seq (.reg [⟨(some 38), .mov (.t 9), none⟩, ⟨(some 6), .mov (.t 38), none⟩])
.ret))))))⟩
theorem c8_eq : compFn Try.prog 8 = some c8 := by kernel_rfl
noncomputable def c9 : FnI := ⟨33, [.tmp 8],
(.seq (.reg [⟨(some 5), .box (.t 1), none⟩, ⟨(some 6), .box (.t 2), none⟩, ⟨(some 8), .mov (.c (.int .i64 (.ofNat 0))), none⟩])
(.seq (.seq (.reg [⟨(some 10), .mov (.t 0), none⟩, ⟨(some 11), .call 31 [(.t 10)], none⟩])
(.cond (.t 11) (.seq (.reg [⟨(some 8), .mov (.c (.int .i64 (.ofNat 1))), none⟩])
.ret) .skip))
(.seq (.reg [⟨(some 12), .load false 1 (.t 5), none⟩, ⟨(some 13), .mkfn 43 [(.t 12)] [], none⟩, ⟨(some 9), .mov (.t 13), none⟩])
(.seq (.seq (.dreg [⟨⟨(some 14), .load false 1 (.t 5), none⟩, .load, 0, 0⟩, ⟨⟨(some 15), .call 32 [(.t 14)], none⟩, .loud, 1, 1⟩, ⟨⟨(some 16), .un .not (.t 15), none⟩, .quiet, 2, 3⟩, ⟨⟨(some 17), .mov (.t 16), none⟩, .quiet, 3, 7⟩, ⟨⟨(some 22), .mov (.t 9), (some (17, false))⟩, .quiet, 8, 15⟩, ⟨⟨(some 23), .load false 1 (.t 6), (some (17, false))⟩, .load, 9, 15⟩, ⟨⟨(some 24), .callv (.t 22) [(.t 23)], (some (17, false))⟩, .loud, 10, 783⟩, ⟨⟨(some 18), .mov (.t 0), (some (17, false))⟩, .quiet, 4, 15⟩, ⟨⟨(some 19), .nilchk (.t 18), (some (17, false))⟩, .quiet, 5, 31⟩, ⟨⟨(some 20), .faddr 1 (.t 19), (some (17, false))⟩, .quiet, 6, 63⟩, ⟨⟨(some 21), .load false 1 (.t 20), (some (17, false))⟩, .load, 7, 127⟩, ⟨⟨(some 25), .mov (.t 3), (some (17, false))⟩, .quiet, 11, 15⟩, ⟨⟨(some 26), .call 38 [(.t 21), (.t 24), (.t 25)], (some (17, false))⟩, .loud, 12, 4095⟩, ⟨⟨(some 27), .un .not (.t 26), (some (17, false))⟩, .quiet, 13, 8191⟩, ⟨⟨(some 28), .pick (.t 17) (.c (.bool true)) (.t 27), none⟩, .quiet, 14, 16383⟩])
(.cond (.t 28) (.seq (.reg [⟨(some 8), .mov (.c (.int .i64 (.ofNat 4))), none⟩])
.ret) .skip))
(.seq (.reg [⟨(some 29), .mov (.t 0), none⟩, ⟨(some 30), .mkfn 44 [] [(.t 5), (.t 6)], none⟩, ⟨(some 31), .mov (.t 3), none⟩, ⟨(some 32), .call 39 [(.t 29), (.t 30), (.t 31)], none⟩])
(.seq (.reg [⟨(some 8), .mov (.c (.int .i64 (.ofNat 0))), none⟩])
.ret))))))⟩
theorem c9_eq : compFn Try.prog 9 = some c9 := by kernel_rfl
noncomputable def c10 : FnI := ⟨34, [.tmp 6],
(.seq (.reg [⟨(some 4), .box (.t 1), none⟩, ⟨(some 6), .mov (.c (.int .i64 (.ofNat 0))), none⟩])
(.seq (.seq (.reg [⟨(some 10), .mov (.t 0), none⟩, ⟨(some 11), .call 31 [(.t 10)], none⟩])
(.cond (.t 11) (.seq (.reg [⟨(some 6), .mov (.c (.int .i64 (.ofNat 1))), none⟩])
.ret) .skip))
(.seq (.seq (.reg [⟨(some 12), .mov (.t 0), none⟩, ⟨(some 13), .load true 7 (.t 4), none⟩, ⟨(some 14), .call 45 [(.t 12), (.t 13)], none⟩, ⟨(some 7), .mov (.t 14), none⟩])
(.seq (.reg [⟨(some 15), .mov (.t 7), none⟩, ⟨(some 16), .bin .neq (.t 15) (.c (.int .i64 (.ofNat 0))), none⟩])
(.cond (.t 16) (.seq (.reg [⟨(some 17), .mov (.t 7), none⟩, ⟨(some 6), .mov (.t 17), none⟩])
.ret) .skip)))
(.seq (.dreg [⟨⟨(some 23), .faddr 0 (.t 4), none⟩, .quiet, 4, 0⟩, ⟨⟨(some 24), .load false 1 (.t 23), none⟩, .load, 5, 16⟩, ⟨⟨(some 25), .faddr 1 (.t 4), none⟩, .quiet, 6, 0⟩, ⟨⟨(some 26), .load false 1 (.t 25), none⟩, .load, 7, 64⟩, ⟨⟨(some 27), .call 43 [(.t 24), (.t 26)], none⟩, .loud, 8, 240⟩, ⟨⟨(some 19), .mov (.t 0), none⟩, .quiet, 0, 0⟩, ⟨⟨(some 20), .nilchk (.t 19), none⟩, .quiet, 1, 1⟩, ⟨⟨(some 21), .faddr 2 (.t 20), none⟩, .quiet, 2, 3⟩, ⟨⟨(some 22), .load false 1 (.t 21), none⟩, .load, 3, 7⟩, ⟨⟨(some 28), .load true 7 (.t 4), none⟩, .load, 9, 0⟩, ⟨⟨(some 29), .mov (.t 2), none⟩, .quiet, 10, 0⟩, ⟨⟨(some 30), .call 46 [(.t 22), (.t 27), (.t 28), (.t 29)], none⟩, .loud, 11, 2047⟩, ⟨⟨(some 18), .mov (.t 30), none⟩, .quiet, 12, 4095⟩, ⟨⟨(some 31), .extract (.t 18) 0, none⟩, .quiet, 13, 8191⟩, ⟨⟨(some 8), .alloc [(.str []), (.int .i64 (.ofNat 0)), (.str []), (.str []), (.str []), (.int .i64 (.ofNat 0)), (.int .u64 (.ofNat 0)), (.int .u64 (.ofNat 0)), (.int .u64 (.ofNat 0)), (.int .u64 (.ofNat 0))], none⟩, .quiet, 15, 0⟩, ⟨⟨none, .store 10 (.t 8) (.t 31), none⟩, .loud, 16, 49151⟩, ⟨⟨(some 32), .extract (.t 18) 1, none⟩, .quiet, 14, 8191⟩, ⟨⟨(some 9), .mov (.t 32), none⟩, .quiet, 17, 131071⟩])
(.seq (.reg [⟨(some 33), .mov (.t 9), none⟩, ⟨(some 6), .mov (.t 33), none⟩])
.ret)))))⟩
theorem c10_eq : compFn Try.prog 10 = some c10 := by kernel_rfl
noncomputable def c11 : FnI := ⟨26, [.tmp 8],
(.seq (.reg [⟨(some 8), .mov (.c (.int .i64 (.ofNat 0))), none⟩])
(.seq (.seq (.reg [⟨(some 9), .mov (.t 0), none⟩, ⟨(some 10), .call 31 [(.t 9)], none⟩])
(.cond (.t 10) (.seq (.reg [⟨(some 8), .mov (.c (.int .i64 (.ofNat 1))), none⟩])
.ret) .skip))
(.seq (.seq (.dreg [⟨⟨(some 11), .mov (.t 1), none⟩, .quiet, 0, 0⟩, ⟨⟨(some 12), .call 32 [(.t 11)], none⟩, .loud, 1, 1⟩, ⟨⟨(some 13), .un .not (.t 12), none⟩, .quiet, 2, 3⟩, ⟨⟨(some 14), .mov (.t 13), none⟩, .quiet, 3, 7⟩, ⟨⟨(some 19), .mov (.t 1), (some (14, false))⟩, .quiet, 8, 15⟩, ⟨⟨(some 20), .mov (.t 2), (some (14, false))⟩, .quiet, 9, 15⟩, ⟨⟨(some 21), .call 43 [(.t 19), (.t 20)], (some (14, false))⟩, .loud, 10, 783⟩, ⟨⟨(some 15), .mov (.t 0), (some (14, false))⟩, .quiet, 4, 15⟩, ⟨⟨(some 16), .nilchk (.t 15), (some (14, false))⟩, .quiet, 5, 31⟩, ⟨⟨(some 17), .faddr 2 (.t 16), (some (14, false))⟩, .quiet, 6, 63⟩, ⟨⟨(some 18), .load false 1 (.t 17), (some (14, false))⟩, .load, 7, 127⟩, ⟨⟨(some 22), .mov (.t 3), (some (14, false))⟩, .quiet, 11, 15⟩, ⟨⟨(some 23), .call 47 [(.t 18), (.t 21), (.t 22)], (some (14, false))⟩, .loud, 12, 4095⟩, ⟨⟨(some 24), .un .not (.t 23), (some (14, false))⟩, .quiet, 13, 8191⟩, ⟨⟨(some 25), .pick (.t 14) (.c (.bool true)) (.t 24), none⟩, .quiet, 14, 16383⟩])
(.cond (.t 25) (.seq (.reg [⟨(some 8), .mov (.c (.int .i64 (.ofNat 4))), none⟩])
.ret) .skip))
(.seq (.reg [⟨(some 8), .mov (.c (.int .i64 (.ofNat 0))), none⟩])
.ret))))⟩
theorem c11_eq : compFn Try.prog 11 = some c11 := by kernel_rfl
noncomputable def c12 : FnI := ⟨11, [.tmp 2],
(.seq (.reg [⟨(some 2), .mov (.c .nilsl), none⟩])
(.seq (.seq (.reg [⟨(some 3), .mov (.t 0), none⟩, ⟨(some 4), .call 31 [(.t 3)], none⟩])
(.cond (.t 4) (.seq (.reg [⟨(some 2), .mov (.c .nilsl), none⟩])
.ret) .skip))
(.seq (.reg [⟨(some 5), .mov (.t 0), none⟩, ⟨(some 6), .nilchk (.t 5), none⟩, ⟨(some 7), .faddr 0 (.t 6), none⟩, ⟨(some 8), .load false 1 (.t 7), none⟩, ⟨(some 9), .build [.nilfn] [(0, 1, (.c (.fn (.func 49) [] [])))], none⟩, ⟨(some 10), .call 48 [(.t 8), (.t 9)], none⟩, ⟨(some 2), .mov (.t 10), none⟩])
.ret)))⟩
theorem c12_eq : compFn Try.prog 12 = some c12 := by kernel_rfl
noncomputable def c13 : FnI := ⟨11, [.tmp 2],
(.seq (.reg [⟨(some 2), .mov (.c .nilsl), none⟩])
(.seq (.seq (.reg [⟨(some 3), .mov (.t 0), none⟩, ⟨(some 4), .call 31 [(.t 3)], none⟩])
(.cond (.t 4) (.seq (.reg [⟨(some 2), .mov (.c .nilsl), none⟩])
.ret) .skip))
(.seq (.reg [⟨(some 5), .mov (.t 0), none⟩, ⟨(some 6), .nilchk (.t 5), none⟩, ⟨(some 7), .faddr 1 (.t 6), none⟩, ⟨(some 8), .load false 1 (.t 7), none⟩, ⟨(some 9), .build [.nilfn] [(0, 1, (.c (.fn (.func 51) [] [])))], none⟩, ⟨(some 10), .call 50 [(.t 8), (.t 9)], none⟩, ⟨(some 2), .mov (.t 10), none⟩])
.ret)))⟩
theorem c13_eq : compFn Try.prog 13 = some c13 := by kernel_rfl
noncomputable def c14 : FnI := ⟨11, [.tmp 2],
(.seq (.reg [⟨(some 2), .mov (.c .nilsl), none⟩])
(.seq (.seq (.reg [⟨(some 3), .mov (.t 0), none⟩, ⟨(some 4), .call 31 [(.t 3)], none⟩])
(.cond (.t 4) (.seq (.reg [⟨(some 2), .mov (.c .nilsl), none⟩])
.ret) .skip))
(.seq (.reg [⟨(some 5), .mov (.t 0), none⟩, ⟨(some 6), .nilchk (.t 5), none⟩, ⟨(some 7), .faddr 2 (.t 6), none⟩, ⟨(some 8), .load false 1 (.t 7), none⟩, ⟨(some 9), .build [.nilfn] [(0, 1, (.c (.fn (.func 53) [] [])))], none⟩, ⟨(some 10), .call 52 [(.t 8), (.t 9)], none⟩, ⟨(some 2), .mov (.t 10), none⟩])
.ret)))⟩
theorem c14_eq : compFn Try.prog 14 = some c14 := by kernel_rfl
noncomputable def c15 : FnI := ⟨39, [.tmp 6],
(.seq (.reg [⟨(some 6), .mov (.c (.int .i64 (.ofNat 0))), none⟩])
(.seq (.reg [⟨(some 7), .mov (.c (.int .i64 (.ofNat 0))), none⟩])
(.seq (.reg [⟨(some 13), .mov (.t 0), none⟩, ⟨(some 14), .mov (.t 1), none⟩, ⟨(some 15), .call 5 [(.t 13), (.t 14)], none⟩, ⟨(some 12), .mov (.t 15), none⟩, ⟨(some 16), .extract (.t 12) 0, none⟩, ⟨(some 17), .extract (.t 12) 1, none⟩, ⟨(some 8), .mov (.t 16), none⟩, ⟨(some 9), .mov (.t 17), none⟩])
(.seq (.seq (.reg [⟨(some 18), .mov (.t 9), none⟩, ⟨(some 19), .len false (.t 18), none⟩, ⟨(some 20), .mov (.c (.int .i64 (.ofNat 0))), none⟩])
(.block 0 (.loop (.seq (.reg [⟨(some 21), .bin .lss (.t 20) (.t 19), none⟩])
(.seq (.cond (.t 21) .skip (.exit 0))
(.seq (.block 1 (.seq (.reg [⟨(some 22), .idxS 7 (.t 18) (.t 20), none⟩, ⟨(some 23), .load true 7 (.t 22), none⟩, ⟨(some 11), .alloc [(.int .i64 (.ofNat 0)), (.str []), (.str []), (.str []), (.int .i64 (.ofNat 0)), (.int .u64 (.ofNat 0)), (.int .u64 (.ofNat 0))], none⟩, ⟨none, .store 7 (.t 11) (.t 23), none⟩])
(.seq (.reg [⟨(some 24), .faddr 2 (.t 11), none⟩, ⟨(some 25), .load false 1 (.t 24), none⟩, ⟨(some 26), .bin .eql (.t 25) (.c (.str [])), none⟩, ⟨(some 27), .mov (.t 26), none⟩, ⟨(some 28), .faddr 2 (.t 11), (some (27, false))⟩, ⟨(some 29), .load false 1 (.t 28), (some (27, false))⟩, ⟨(some 30), .mov (.t 2), (some (27, false))⟩, ⟨(some 31), .bin .eql (.t 29) (.t 30), (some (27, false))⟩, ⟨(some 32), .pick (.t 27) (.c (.bool true)) (.t 31), none⟩])
(.cond (.t 32) (.reg [⟨(some 33), .mov (.t 7), none⟩, ⟨(some 34), .faddr 4 (.t 11), none⟩, ⟨(some 35), .load false 1 (.t 34), none⟩, ⟨(some 36), .mm true (.t 33) [(.t 35)], none⟩, ⟨(some 7), .mov (.t 36), none⟩]) .skip))))
(.reg [⟨(some 37), .bin .add (.t 20) (.c (.int .i64 (.ofNat 1))), none⟩, ⟨(some 20), .mov (.t 37), none⟩])))))))
(.seq (.reg [⟨(some 38), .mov (.t 7), none⟩, ⟨(some 6), .mov (.t 38), none⟩])
.ret)))))⟩
theorem c15_eq : compFn Try.prog 15 = some c15 := by kernel_rfl
noncomputable def c16 : FnI := ⟨22, [.cell 2 true 3],
(.seq (.reg [⟨(some 2), .alloc [(.int .u64 (.ofNat 0)), (.int .u64 (.ofNat 0)), (.int .u64 (.ofNat 0))], none⟩])
(.seq (.seq (.reg [⟨(some 3), .mov (.t 0), none⟩, ⟨(some 4), .call 31 [(.t 3)], none⟩])
(.cond (.t 4) (.seq (.reg [⟨(some 5), .build [(.int .u64 (.ofNat 0)), (.int .u64 (.ofNat 0)), (.int .u64 (.ofNat 0))] [], none⟩, ⟨none, .store 3 (.t 2) (.t 5), none⟩])
.ret) .skip))
(.seq (.dreg [⟨⟨(some 6), .mov (.t 0), none⟩, .quiet, 0, 0⟩, ⟨⟨(some 7), .nilchk (.t 6), none⟩, .quiet, 1, 1⟩, ⟨⟨(some 8), .faddr 0 (.t 7), none⟩, .quiet, 2, 3⟩, ⟨⟨(some 9), .load false 1 (.t 8), none⟩, .load, 3, 7⟩, ⟨⟨(some 10), .call 54 [(.t 9)], none⟩, .loud, 4, 15⟩, ⟨⟨(some 11), .mov (.t 0), none⟩, .quiet, 5, 0⟩, ⟨⟨(some 12), .nilchk (.t 11), none⟩, .quiet, 6, 32⟩, ⟨⟨(some 13), .faddr 1 (.t 12), none⟩, .quiet, 7, 96⟩, ⟨⟨(some 14), .load false 1 (.t 13), none⟩, .load, 8, 224⟩, ⟨⟨(some 15), .call 55 [(.t 14)], none⟩, .loud, 9, 511⟩, ⟨⟨(some 16), .mov (.t 0), none⟩, .quiet, 10, 0⟩, ⟨⟨(some 17), .nilchk (.t 16), none⟩, .quiet, 11, 1024⟩, ⟨⟨(some 18), .faddr 2 (.t 17), none⟩, .quiet, 12, 3072⟩, ⟨⟨(some 19), .load false 1 (.t 18), none⟩, .load, 13, 7168⟩, ⟨⟨(some 20), .call 56 [(.t 19)], none⟩, .loud, 14, 16383⟩, ⟨⟨(some 21), .build [(.int .u64 (.ofNat 0)), (.int .u64 (.ofNat 0)), (.int .u64 (.ofNat 0))] [(0, 1, (.t 10)), (1, 1, (.t 15)), (2, 1, (.t 20))], none⟩, .quiet, 15, 32767⟩, ⟨⟨none, .store 3 (.t 2) (.t 21), none⟩, .loud, 16, 65535⟩])
.ret)))⟩
theorem c16_eq : compFn Try.prog 16 = some c16 := by kernel_rfl
noncomputable def c17 : FnI := ⟨22, [.tmp 2],
(.seq (.reg [⟨(some 2), .mov (.c .nilp), none⟩])
(.seq (.seq (.reg [⟨(some 3), .mov (.t 0), none⟩, ⟨(some 4), .call 31 [(.t 3)], none⟩])
(.cond (.t 4) (.seq (.reg [⟨(some 2), .mov (.c .nilp), none⟩])
.ret) .skip))
(.seq (.dreg [⟨⟨(some 5), .mov (.t 0), none⟩, .quiet, 0, 0⟩, ⟨⟨(some 6), .nilchk (.t 5), none⟩, .quiet, 1, 1⟩, ⟨⟨(some 7), .faddr 0 (.t 6), none⟩, .quiet, 2, 3⟩, ⟨⟨(some 8), .load false 1 (.t 7), none⟩, .load, 3, 7⟩, ⟨⟨(some 9), .call 57 [(.t 8)], none⟩, .loud, 4, 15⟩, ⟨⟨(some 10), .mov (.t 0), none⟩, .quiet, 5, 0⟩, ⟨⟨(some 11), .nilchk (.t 10), none⟩, .quiet, 6, 32⟩, ⟨⟨(some 12), .faddr 1 (.t 11), none⟩, .quiet, 7, 96⟩, ⟨⟨(some 13), .load false 1 (.t 12), none⟩, .load, 8, 224⟩, ⟨⟨(some 14), .call 58 [(.t 13)], none⟩, .loud, 9, 511⟩, ⟨⟨(some 15), .mov (.t 0), none⟩, .quiet, 10, 0⟩, ⟨⟨(some 16), .nilchk (.t 15), none⟩, .quiet, 11, 1024⟩, ⟨⟨(some 17), .faddr 2 (.t 16), none⟩, .quiet, 12, 3072⟩, ⟨⟨(some 18), .load false 1 (.t 17), none⟩, .load, 13, 7168⟩, ⟨⟨(some 19), .call 59 [(.t 18)], none⟩, .loud, 14, 16383⟩, ⟨⟨(some 20), .build [.nilp, .nilp, .nilp] [(0, 1, (.t 9)), (1, 1, (.t 14)), (2, 1, (.t 19))], none⟩, .quiet, 15, 32767⟩, ⟨⟨(some 21), .box (.t 20), none⟩, .quiet, 16, 65535⟩, ⟨⟨(some 2), .mov (.t 21), none⟩, .quiet, 17, 131071⟩])
.ret)))⟩
theorem c17_eq : compFn Try.prog 17 = some c17 := by kernel_rfl
noncomputable def c18 : FnI := ⟨34, [.tmp 0],
(.seq (.reg [⟨(some 0), .mov (.c (.bool false)), none⟩])
(.seq (.reg [⟨(some 5), .call 60 [(.c (.int .i64 (.ofNat 9)))], none⟩, ⟨(some 1), .mov (.t 5), none⟩])
(.seq (.reg [⟨(some 6), .mov (.t 1), none⟩, ⟨(some 7), .call 6 [(.t 6), (.c (.int .i64 (.ofNat 1))), (.c (.str [120])), (.c (.int .u64 (.ofNat 3)))], none⟩, ⟨(some 2), .mov (.t 7), none⟩])
(.seq (.reg [⟨(some 8), .mov (.t 1), none⟩, ⟨(some 9), .build [(.int .i64 (.ofNat 0)), (.str []), (.str []), .nilsl, (.int .i64 (.ofNat 0)), (.int .u64 (.ofNat 0)), (.int .u64 (.ofNat 0))] [(0, 1, (.c (.int .i64 (.ofNat 1)))), (1, 1, (.c (.str [119, 101, 98, 45, 49]))), (2, 1, (.c (.str [119, 101, 98])))], none⟩, ⟨(some 10), .call 8 [(.t 8), (.t 9), (.c (.int .u64 (.ofNat 4)))], none⟩, ⟨(some 3), .mov (.t 10), none⟩])
(.seq (.reg [⟨(some 11), .mov (.t 1), none⟩, ⟨(some 12), .build [(.int .i64 (.ofNat 0)), (.str []), (.str []), (.str []), (.int .i64 (.ofNat 0)), (.int .u64 (.ofNat 0)), (.int .u64 (.ofNat 0))] [(0, 1, (.c (.int .i64 (.ofNat 1)))), (1, 1, (.c (.str [99]))), (2, 1, (.c (.str [119, 101, 98, 45, 49]))), (4, 1, (.c (.int .i64 (.ofNat 2))))], none⟩, ⟨(some 13), .call 10 [(.t 11), (.t 12), (.c (.int .u64 (.ofNat 5)))], none⟩, ⟨(some 4), .mov (.t 13), none⟩])
(.seq (.reg [⟨(some 14), .mov (.t 2), none⟩, ⟨(some 15), .bin .eql (.t 14) (.c (.int .i64 (.ofNat 0))), none⟩, ⟨(some 16), .mov (.t 15), none⟩, ⟨(some 17), .mov (.t 3), (some (16, true))⟩, ⟨(some 18), .bin .eql (.t 17) (.c (.int .i64 (.ofNat 0))), (some (16, true))⟩, ⟨(some 19), .pick (.t 16) (.t 18) (.c (.bool false)), none⟩, ⟨(some 20), .mov (.t 19), none⟩, ⟨(some 21), .mov (.t 4), (some (20, true))⟩, ⟨(some 22), .bin .eql (.t 21) (.c (.int .i64 (.ofNat 0))), (some (20, true))⟩, ⟨(some 23), .pick (.t 20) (.t 22) (.c (.bool false)), none⟩, ⟨(some 24), .mov (.t 23), none⟩, ⟨(some 25), .mov (.t 1), (some (24, true))⟩, ⟨(some 26), .call 15 [(.t 25), (.c (.int .i64 (.ofNat 1))), (.c (.str [119, 101, 98, 45, 49]))], (some (24, true))⟩, ⟨(some 27), .bin .eql (.t 26) (.c (.int .i64 (.ofNat 2))), (some (24, true))⟩, ⟨(some 28), .pick (.t 24) (.t 27) (.c (.bool false)), none⟩, ⟨(some 29), .mov (.t 28), none⟩, ⟨(some 30), .mov (.t 1), (some (29, true))⟩, ⟨(some 31), .call 15 [(.t 30), (.c (.int .i64 (.ofNat 1))), (.c (.str [100, 98]))], (some (29, true))⟩, ⟨(some 32), .bin .eql (.t 31) (.c (.int .i64 (.ofNat 0))), (some (29, true))⟩, ⟨(some 33), .pick (.t 29) (.t 32) (.c (.bool false)), none⟩, ⟨(some 0), .mov (.t 33), none⟩])
.ret))))))⟩
theorem c18_eq : compFn Try.prog 18 = some c18 := by kernel_rfl
noncomputable def c31 : FnI := ⟨12, [.tmp 2],
(.seq (.reg [⟨(some 2), .mov (.c (.bool false)), none⟩])
(.seq (.reg [⟨(some 3), .mov (.t 0), none⟩, ⟨(some 4), .eq false .ptr (.t 3) (.c .nilp), none⟩, ⟨(some 5), .mov (.t 4), none⟩, ⟨(some 6), .mov (.t 0), (some (5, false))⟩, ⟨(some 7), .nilchk (.t 6), (some (5, false))⟩, ⟨(some 8), .faddr 0 (.t 7), (some (5, false))⟩, ⟨(some 9), .load false 1 (.t 8), (some (5, false))⟩, ⟨(some 10), .eq false .ptr (.t 9) (.c .nilp), (some (5, false))⟩, ⟨(some 11), .pick (.t 5) (.c (.bool true)) (.t 10), none⟩, ⟨(some 2), .mov (.t 11), none⟩])
.ret))⟩
theorem c31_eq : compFn Try.prog 31 = some c31 := by kernel_rfl
noncomputable def c32 : FnI := ⟨9, [.tmp 2],
(.seq (.reg [⟨(some 2), .mov (.c (.bool false)), none⟩])
(.seq (.reg [⟨(some 3), .mov (.t 0), none⟩, ⟨(some 4), .bin .geq (.t 3) (.c (.int .i64 (.ofNat 0))), none⟩, ⟨(some 5), .mov (.t 4), none⟩, ⟨(some 6), .mov (.t 0), (some (5, true))⟩, ⟨(some 7), .bin .lss (.t 6) (.c (.int .i64 (.ofNat 8))), (some (5, true))⟩, ⟨(some 8), .pick (.t 5) (.t 7) (.c (.bool false)), none⟩, ⟨(some 2), .mov (.t 8), none⟩])
.ret))⟩
theorem c32_eq : compFn Try.prog 32 = some c32 := by kernel_rfl
noncomputable def c33 : FnI := ⟨94, [.cell 8 true 7, .tmp 9],
(.seq (.reg [⟨(some 6), .box (.t 2), none⟩, ⟨(some 8), .alloc [(.str []), (.int .i64 (.ofNat 0)), (.str []), (.int .u64 (.ofNat 0)), (.int .u64 (.ofNat 0)), (.int .u64 (.ofNat 0)), (.int .u64 (.ofNat 0))], none⟩, ⟨(some 9), .mov (.c (.int .i64 (.ofNat 0))), none⟩])
(.seq (.seq (.reg [⟨(some 13), .mov (.t 0), none⟩, ⟨(some 14), .call 79 [(.t 13)], none⟩])
(.cond (.t 14) (.seq (.reg [⟨(some 15), .build [(.str []), (.int .i64 (.ofNat 0)), (.str []), (.int .u64 (.ofNat 0)), (.int .u64 (.ofNat 0)), (.int .u64 (.ofNat 0)), (.int .u64 (.ofNat 0))] [], none⟩, ⟨none, .store 7 (.t 8) (.t 15), none⟩, ⟨(some 9), .mov (.c (.int .i64 (.ofNat 1))), none⟩])
.ret) .skip))
(.seq (.reg [⟨(some 17), .mov (.t 0), none⟩, ⟨(some 18), .mov (.t 1), none⟩, ⟨(some 19), .call 80 [(.t 17), (.t 18)], none⟩, ⟨(some 16), .mov (.t 19), none⟩, ⟨(some 20), .extract (.t 16) 0, none⟩, ⟨(some 21), .extract (.t 16) 1, none⟩, ⟨(some 10), .mov (.t 20), none⟩, ⟨(some 11), .mov (.t 21), none⟩])
(.seq (.seq (.dreg [⟨⟨(some 22), .mov (.t 11), none⟩, .quiet, 0, 0⟩, ⟨⟨(some 23), .un .not (.t 22), none⟩, .quiet, 1, 1⟩, ⟨⟨(some 24), .mov (.t 23), none⟩, .quiet, 2, 3⟩, ⟨⟨(some 25), .mov (.t 0), (some (24, true))⟩, .quiet, 3, 7⟩, ⟨⟨(some 26), .nilchk (.t 25), (some (24, true))⟩, .quiet, 4, 15⟩, ⟨⟨(some 27), .faddr 1 (.t 26), (some (24, true))⟩, .quiet, 5, 31⟩, ⟨⟨(some 28), .load false 1 (.t 27), (some (24, true))⟩, .load, 6, 63⟩, ⟨⟨(some 29), .len false (.t 28), (some (24, true))⟩, .quiet, 7, 127⟩, ⟨⟨(some 30), .mov (.t 0), (some (24, true))⟩, .quiet, 8, 7⟩, ⟨⟨(some 31), .nilchk (.t 30), (some (24, true))⟩, .quiet, 9, 263⟩, ⟨⟨(some 32), .faddr 0 (.t 31), (some (24, true))⟩, .quiet, 10, 775⟩, ⟨⟨(some 33), .load false 1 (.t 32), (some (24, true))⟩, .load, 11, 1799⟩, ⟨⟨(some 34), .bin .geq (.t 29) (.t 33), (some (24, true))⟩, .quiet, 12, 4095⟩, ⟨⟨(some 35), .pick (.t 24) (.t 34) (.c (.bool false)), none⟩, .quiet, 13, 8191⟩])
(.cond (.t 35) (.seq (.reg [⟨(some 36), .build [(.str []), (.int .i64 (.ofNat 0)), (.str []), (.int .u64 (.ofNat 0)), (.int .u64 (.ofNat 0)), (.int .u64 (.ofNat 0)), (.int .u64 (.ofNat 0))] [], none⟩, ⟨none, .store 7 (.t 8) (.t 36), none⟩, ⟨(some 9), .mov (.c (.int .i64 (.ofNat 5))), none⟩])
.ret) .skip))
(.seq (.reg [⟨(some 37), .mov (.t 1), none⟩, ⟨(some 38), .load true 4 (.t 6), none⟩, ⟨(some 39), .mov (.t 3), none⟩, ⟨(some 40), .mov (.t 3), none⟩, ⟨(some 41), .build [(.str []), (.int .i64 (.ofNat 0)), (.str []), (.int .u64 (.ofNat 0)), (.int .u64 (.ofNat 0)), (.int .u64 (.ofNat 0)), (.int .u64 (.ofNat 0))] [(0, 1, (.t 37)), (1, 4, (.t 38)), (5, 1, (.t 39)), (6, 1, (.t 40))], none⟩, ⟨(some 12), .alloc [(.str []), (.int .i64 (.ofNat 0)), (.str []), (.int .u64 (.ofNat 0)), (.int .u64 (.ofNat 0)), (.int .u64 (.ofNat 0)), (.int .u64 (.ofNat 0))], none⟩, ⟨none, .store 7 (.t 12) (.t 41), none⟩])
(.seq (.seq (.reg [⟨(some 42), .mov (.t 11), none⟩])
(.cond (.t 42) (.seq (.reg [⟨(some 43), .mov (.t 0), none⟩, ⟨(some 44), .nilchk (.t 43), none⟩, ⟨(some 45), .faddr 1 (.t 44), none⟩, ⟨(some 46), .load false 1 (.t 45), none⟩, ⟨(some 47), .mov (.t 10), none⟩, ⟨(some 48), .idxS 7 (.t 46) (.t 47), none⟩, ⟨(some 49), .faddr 5 (.t 48), none⟩, ⟨(some 50), .load false 1 (.t 49), none⟩, ⟨(some 51), .faddr 5 (.t 12), none⟩, ⟨none, .store 1 (.t 51) (.t 50), none⟩])
(.dreg [⟨⟨(some 52), .mov (.t 0), none⟩, .quiet, 0, 0⟩, ⟨⟨(some 53), .nilchk (.t 52), none⟩, .quiet, 1, 1⟩, ⟨⟨(some 54), .faddr 1 (.t 53), none⟩, .quiet, 2, 3⟩, ⟨⟨(some 55), .load false 1 (.t 54), none⟩, .load, 3, 7⟩, ⟨⟨(some 56), .mov (.t 10), none⟩, .quiet, 4, 0⟩, ⟨⟨(some 57), .load true 7 (.t 12), none⟩, .load, 5, 0⟩, ⟨⟨(some 58), .idxS 7 (.t 55) (.t 56), none⟩, .quiet, 6, 63⟩, ⟨⟨none, .store 7 (.t 58) (.t 57), none⟩, .loud, 7, 127⟩])) (.seq (.reg [⟨(some 59), .mov (.t 0), none⟩, ⟨(some 60), .mov (.t 0), none⟩, ⟨(some 61), .nilchk (.t 60), none⟩, ⟨(some 62), .faddr 1 (.t 61), none⟩, ⟨(some 63), .load false 1 (.t 62), none⟩, ⟨(some 64), .build [(.str []), (.int .i64 (.ofNat 0)), (.str []), (.int .u64 (.ofNat 0)), (.int .u64 (.ofNat 0)), (.int .u64 (.ofNat 0)), (.int .u64 (.ofNat 0))] [], none⟩, ⟨(some 65), .buildSl 7 1 [(.str []), (.int .i64 (.ofNat 0)), (.str []), (.int .u64 (.ofNat 0)), (.int .u64 (.ofNat 0)), (.int .u64 (.ofNat 0)), (.int .u64 (.ofNat 0))] [(0, 7, (.t 64))], none⟩, ⟨(some 66), .append 7 72 (.t 63) (.t 65), none⟩, ⟨(some 67), .nilchk (.t 59), none⟩, ⟨(some 68), .faddr 1 (.t 67), none⟩, ⟨none, .store 1 (.t 68) (.t 66), none⟩])
(.seq (.dreg [⟨⟨(some 69), .mov (.t 0), none⟩, .quiet, 0, 0⟩, ⟨⟨(some 70), .nilchk (.t 69), none⟩, .quiet, 1, 1⟩, ⟨⟨(some 71), .faddr 1 (.t 70), none⟩, .quiet, 2, 3⟩, ⟨⟨(some 72), .load false 1 (.t 71), none⟩, .load, 3, 7⟩, ⟨⟨(some 73), .mov (.t 10), none⟩, .quiet, 4, 0⟩, ⟨⟨(some 74), .bin .add (.t 73) (.c (.int .i64 (.ofNat 1))), none⟩, .quiet, 5, 16⟩, ⟨⟨(some 75), .slS 7 (.t 72) (some (.t 74)) none none, none⟩, .quiet, 6, 63⟩, ⟨⟨(some 76), .mov (.t 0), none⟩, .quiet, 7, 0⟩, ⟨⟨(some 77), .nilchk (.t 76), none⟩, .quiet, 8, 128⟩, ⟨⟨(some 78), .faddr 1 (.t 77), none⟩, .quiet, 9, 384⟩, ⟨⟨(some 79), .load false 1 (.t 78), none⟩, .load, 10, 896⟩, ⟨⟨(some 80), .mov (.t 10), none⟩, .quiet, 11, 0⟩, ⟨⟨(some 81), .slS 7 (.t 79) (some (.t 80)) none none, none⟩, .quiet, 12, 3968⟩, ⟨⟨(some 82), .copy 7 (.t 75) (.t 81), none⟩, .loud, 13, 8191⟩])
(.dreg [⟨⟨(some 83), .mov (.t 0), none⟩, .quiet, 0, 0⟩, ⟨⟨(some 84), .nilchk (.t 83), none⟩, .quiet, 1, 1⟩, ⟨⟨(some 85), .faddr 1 (.t 84), none⟩, .quiet, 2, 3⟩, ⟨⟨(some 86), .load false 1 (.t 85), none⟩, .load, 3, 7⟩, ⟨⟨(some 87), .mov (.t 10), none⟩, .quiet, 4, 0⟩, ⟨⟨(some 88), .load true 7 (.t 12), none⟩, .load, 5, 0⟩, ⟨⟨(some 89), .idxS 7 (.t 86) (.t 87), none⟩, .quiet, 6, 63⟩, ⟨⟨none, .store 7 (.t 89) (.t 88), none⟩, .loud, 7, 127⟩])))))
(.seq (.reg [⟨(some 90), .mov (.t 0), none⟩, ⟨(some 91), .mov (.t 3), none⟩, ⟨(some 92), .call 81 [(.t 90), (.t 91)], none⟩])
(.seq (.reg [⟨(some 93), .load true 7 (.t 12), none⟩, ⟨none, .store 7 (.t 8) (.t 93), none⟩, ⟨(some 9), .mov (.c (.int .i64 (.ofNat 0))), none⟩])
.ret))))))))⟩
theorem c33_eq : compFn Try.prog 33 = some c33 := by kernel_rfl
noncomputable def c34 : FnI := ⟨8, [.tmp 2],
(.seq (.reg [⟨(some 2), .mov (.c (.str [])), none⟩])
(.seq (.reg [⟨(some 3), .mov (.t 0), none⟩, ⟨(some 4), .cvInt .u8 (.t 3), none⟩, ⟨(some 5), .bin .add (.c (.int .u8 (.ofNat 48))) (.t 4), none⟩, ⟨(some 6), .buildSl 1 1 [(.int .u8 (.ofNat 0))] [(0, 1, (.t 5))], none⟩, ⟨(some 7), .cvStr (.t 6), none⟩, ⟨(some 2), .mov (.t 7), none⟩])
.ret))⟩
theorem c34_eq : compFn Try.prog 34 = some c34 := by kernel_rfl
noncomputable def c35 : FnI := ⟨21, [.tmp 4],
(.seq (.reg [⟨(some 4), .mov (.c (.bool false)), none⟩])
(.seq (.seq (.reg [⟨(some 7), .mov (.t 1), none⟩, ⟨(some 8), .call 32 [(.t 7)], none⟩, ⟨(some 9), .un .not (.t 8), none⟩])
(.cond (.t 9) (.seq (.reg [⟨(some 4), .mov (.c (.bool false)), none⟩])
.ret) .skip))
(.seq (.dreg [⟨⟨(some 15), .mov (.t 1), none⟩, .quiet, 4, 0⟩, ⟨⟨(some 16), .call 34 [(.t 15)], none⟩, .loud, 5, 16⟩, ⟨⟨(some 11), .mov (.t 0), none⟩, .quiet, 0, 0⟩, ⟨⟨(some 12), .nilchk (.t 11), none⟩, .quiet, 1, 1⟩, ⟨⟨(some 13), .faddr 0 (.t 12), none⟩, .quiet, 2, 3⟩, ⟨⟨(some 14), .load false 1 (.t 13), none⟩, .load, 3, 7⟩, ⟨⟨(some 17), .call 82 [(.t 14), (.t 16)], none⟩, .loud, 6, 63⟩, ⟨⟨(some 10), .mov (.t 17), none⟩, .quiet, 7, 127⟩, ⟨⟨(some 18), .extract (.t 10) 0, none⟩, .quiet, 8, 255⟩, ⟨⟨(some 5), .alloc [(.str []), (.int .i64 (.ofNat 0)), (.str []), (.int .u64 (.ofNat 0)), (.int .u64 (.ofNat 0)), (.int .u64 (.ofNat 0)), (.int .u64 (.ofNat 0))], none⟩, .quiet, 10, 0⟩, ⟨⟨none, .store 7 (.t 5) (.t 18), none⟩, .loud, 11, 1535⟩, ⟨⟨(some 19), .extract (.t 10) 1, none⟩, .quiet, 9, 255⟩, ⟨⟨(some 6), .mov (.t 19), none⟩, .quiet, 12, 4095⟩])
(.seq (.reg [⟨(some 20), .mov (.t 6), none⟩, ⟨(some 4), .mov (.t 20), none⟩])
.ret))))⟩
theorem c35_eq : compFn Try.prog 35 = some c35 := by kernel_rfl
noncomputable def c41 : FnI := ⟨43, [.tmp 4],
(.seq (.reg [⟨(some 3), .box (.t 1), none⟩, ⟨(some 4), .mov (.c (.int .i64 (.ofNat 0))), none⟩])
(.seq (.block 0 (.seq (.reg [⟨(some 6), .faddr 0 (.t 3), none⟩, ⟨(some 7), .load false 1 (.t 6), none⟩, ⟨(some 8), .call 32 [(.t 7)], none⟩, ⟨(some 9), .un .not (.t 8), none⟩, ⟨(some 10), .mov (.t 9), none⟩, ⟨(some 11), .faddr 4 (.t 3), (some (10, false))⟩, ⟨(some 12), .load false 1 (.t 11), (some (10, false))⟩, ⟨(some 13), .bin .lss (.t 12) (.c (.int .i64 (.ofNat 0))), (some (10, false))⟩, ⟨(some 14), .pick (.t 10) (.c (.bool true)) (.t 13), none⟩, ⟨(some 15), .mov (.t 14), none⟩, ⟨(some 16), .faddr 4 (.t 3), (some (15, false))⟩, ⟨(some 17), .load false 1 (.t 16), (some (15, false))⟩, ⟨(some 18), .bin .gtr (.t 17) (.c (.int .i64 (.ofNat 65535))), (some (15, false))⟩, ⟨(some 19), .pick (.t 15) (.c (.bool true)) (.t 18), none⟩, ⟨(some 5), .mov (.t 19), none⟩])
(.cond (.t 5) (.seq (.reg [⟨(some 4), .mov (.c (.int .i64 (.ofNat 2))), none⟩])
.ret) (.seq (.reg [⟨(some 21), .faddr 1 (.t 3), none⟩, ⟨(some 22), .load false 1 (.t 21), none⟩, ⟨(some 23), .call 89 [(.t 22)], none⟩, ⟨(some 24), .un .not (.t 23), none⟩, ⟨(some 25), .mov (.t 24), none⟩, ⟨(some 26), .faddr 2 (.t 3), (some (25, false))⟩, ⟨(some 27), .load false 1 (.t 26), (some (25, false))⟩, ⟨(some 28), .call 89 [(.t 27)], (some (25, false))⟩, ⟨(some 29), .un .not (.t 28), (some (25, false))⟩, ⟨(some 30), .pick (.t 25) (.c (.bool true)) (.t 29), none⟩, ⟨(some 31), .mov (.t 30), none⟩, ⟨(some 32), .faddr 3 (.t 3), (some (31, false))⟩, ⟨(some 33), .load false 1 (.t 32), (some (31, false))⟩, ⟨(some 34), .call 90 [(.t 33)], (some (31, false))⟩, ⟨(some 35), .un .not (.t 34), (some (31, false))⟩, ⟨(some 36), .pick (.t 31) (.c (.bool true)) (.t 35), none⟩, ⟨(some 20), .mov (.t 36), none⟩])
(.cond (.t 20) (.seq (.reg [⟨(some 4), .mov (.c (.int .i64 (.ofNat 10))), none⟩])
.ret) (.seq (.reg [⟨(some 38), .mov (.t 0), none⟩, ⟨(some 39), .faddr 0 (.t 3), none⟩, ⟨(some 40), .load false 1 (.t 39), none⟩, ⟨(some 41), .call 35 [(.t 38), (.t 40)], none⟩, ⟨(some 42), .un .not (.t 41), none⟩, ⟨(some 37), .mov (.t 42), none⟩])
(.cond (.t 37) (.seq (.reg [⟨(some 4), .mov (.c (.int .i64 (.ofNat 4))), none⟩])
.ret) .skip)))))))
(.seq (.reg [⟨(some 4), .mov (.c (.int .i64 (.ofNat 0))), none⟩])
.ret)))⟩
theorem c41_eq : compFn Try.prog 41 = some c41 := by kernel_rfl
noncomputable def c42 : FnI := ⟨94, [.cell 8 true 10, .tmp 9],
(.seq (.reg [⟨(some 6), .box (.t 2), none⟩, ⟨(some 8), .alloc [(.str []), (.int .i64 (.ofNat 0)), (.str []), (.str []), .nilsl, (.int .i64 (.ofNat 0)), (.int .u64 (.ofNat 0)), (.int .u64 (.ofNat 0)), (.int .u64 (.ofNat 0)), (.int .u64 (.ofNat 0))], none⟩, ⟨(some 9), .mov (.c (.int .i64 (.ofNat 0))), none⟩])
(.seq (.seq (.reg [⟨(some 13), .mov (.t 0), none⟩, ⟨(some 14), .call 85 [(.t 13)], none⟩])
(.cond (.t 14) (.seq (.reg [⟨(some 15), .build [(.str []), (.int .i64 (.ofNat 0)), (.str []), (.str []), .nilsl, (.int .i64 (.ofNat 0)), (.int .u64 (.ofNat 0)), (.int .u64 (.ofNat 0)), (.int .u64 (.ofNat 0)), (.int .u64 (.ofNat 0))] [], none⟩, ⟨none, .store 10 (.t 8) (.t 15), none⟩, ⟨(some 9), .mov (.c (.int .i64 (.ofNat 1))), none⟩])
.ret) .skip))
(.seq (.reg [⟨(some 17), .mov (.t 0), none⟩, ⟨(some 18), .mov (.t 1), none⟩, ⟨(some 19), .call 86 [(.t 17), (.t 18)], none⟩, ⟨(some 16), .mov (.t 19), none⟩, ⟨(some 20), .extract (.t 16) 0, none⟩, ⟨(some 21), .extract (.t 16) 1, none⟩, ⟨(some 10), .mov (.t 20), none⟩, ⟨(some 11), .mov (.t 21), none⟩])
(.seq (.seq (.dreg [⟨⟨(some 22), .mov (.t 11), none⟩, .quiet, 0, 0⟩, ⟨⟨(some 23), .un .not (.t 22), none⟩, .quiet, 1, 1⟩, ⟨⟨(some 24), .mov (.t 23), none⟩, .quiet, 2, 3⟩, ⟨⟨(some 25), .mov (.t 0), (some (24, true))⟩, .quiet, 3, 7⟩, ⟨⟨(some 26), .nilchk (.t 25), (some (24, true))⟩, .quiet, 4, 15⟩, ⟨⟨(some 27), .faddr 1 (.t 26), (some (24, true))⟩, .quiet, 5, 31⟩, ⟨⟨(some 28), .load false 1 (.t 27), (some (24, true))⟩, .load, 6, 63⟩, ⟨⟨(some 29), .len false (.t 28), (some (24, true))⟩, .quiet, 7, 127⟩, ⟨⟨(some 30), .mov (.t 0), (some (24, true))⟩, .quiet, 8, 7⟩, ⟨⟨(some 31), .nilchk (.t 30), (some (24, true))⟩, .quiet, 9, 263⟩, ⟨⟨(some 32), .faddr 0 (.t 31), (some (24, true))⟩, .quiet, 10, 775⟩, ⟨⟨(some 33), .load false 1 (.t 32), (some (24, true))⟩, .load, 11, 1799⟩, ⟨⟨(some 34), .bin .geq (.t 29) (.t 33), (some (24, true))⟩, .quiet, 12, 4095⟩, ⟨⟨(some 35), .pick (.t 24) (.t 34) (.c (.bool false)), none⟩, .quiet, 13, 8191⟩])
(.cond (.t 35) (.seq (.reg [⟨(some 36), .build [(.str []), (.int .i64 (.ofNat 0)), (.str []), (.str []), .nilsl, (.int .i64 (.ofNat 0)), (.int .u64 (.ofNat 0)), (.int .u64 (.ofNat 0)), (.int .u64 (.ofNat 0)), (.int .u64 (.ofNat 0))] [], none⟩, ⟨none, .store 10 (.t 8) (.t 36), none⟩, ⟨(some 9), .mov (.c (.int .i64 (.ofNat 5))), none⟩])
.ret) .skip))
(.seq (.reg [⟨(some 37), .mov (.t 1), none⟩, ⟨(some 38), .load true 7 (.t 6), none⟩, ⟨(some 39), .mov (.t 3), none⟩, ⟨(some 40), .mov (.t 3), none⟩, ⟨(some 41), .build [(.str []), (.int .i64 (.ofNat 0)), (.str []), (.str []), .nilsl, (.int .i64 (.ofNat 0)), (.int .u64 (.ofNat 0)), (.int .u64 (.ofNat 0)), (.int .u64 (.ofNat 0)), (.int .u64 (.ofNat 0))] [(0, 1, (.t 37)), (1, 7, (.t 38)), (8, 1, (.t 39)), (9, 1, (.t 40))], none⟩, ⟨(some 12), .alloc [(.str []), (.int .i64 (.ofNat 0)), (.str []), (.str []), .nilsl, (.int .i64 (.ofNat 0)), (.int .u64 (.ofNat 0)), (.int .u64 (.ofNat 0)), (.int .u64 (.ofNat 0)), (.int .u64 (.ofNat 0))], none⟩, ⟨none, .store 10 (.t 12) (.t 41), none⟩])
(.seq (.seq (.reg [⟨(some 42), .mov (.t 11), none⟩])
(.cond (.t 42) (.seq (.reg [⟨(some 43), .mov (.t 0), none⟩, ⟨(some 44), .nilchk (.t 43), none⟩, ⟨(some 45), .faddr 1 (.t 44), none⟩, ⟨(some 46), .load false 1 (.t 45), none⟩, ⟨(some 47), .mov (.t 10), none⟩, ⟨(some 48), .idxS 10 (.t 46) (.t 47), none⟩, ⟨(some 49), .faddr 8 (.t 48), none⟩, ⟨(some 50), .load false 1 (.t 49), none⟩, ⟨(some 51), .faddr 8 (.t 12), none⟩, ⟨none, .store 1 (.t 51) (.t 50), none⟩])
(.dreg [⟨⟨(some 52), .mov (.t 0), none⟩, .quiet, 0, 0⟩, ⟨⟨(some 53), .nilchk (.t 52), none⟩, .quiet, 1, 1⟩, ⟨⟨(some 54), .faddr 1 (.t 53), none⟩, .quiet, 2, 3⟩, ⟨⟨(some 55), .load false 1 (.t 54), none⟩, .load, 3, 7⟩, ⟨⟨(some 56), .mov (.t 10), none⟩, .quiet, 4, 0⟩, ⟨⟨(some 57), .load true 10 (.t 12), none⟩, .load, 5, 0⟩, ⟨⟨(some 58), .idxS 10 (.t 55) (.t 56), none⟩, .quiet, 6, 63⟩, ⟨⟨none, .store 10 (.t 58) (.t 57), none⟩, .loud, 7, 127⟩])) (.seq (.reg [⟨(some 59), .mov (.t 0), none⟩, ⟨(some 60), .mov (.t 0), none⟩, ⟨(some 61), .nilchk (.t 60), none⟩, ⟨(some 62), .faddr 1 (.t 61), none⟩, ⟨(some 63), .load false 1 (.t 62), none⟩, ⟨(some 64), .build [(.str []), (.int .i64 (.ofNat 0)), (.str []), (.str []), .nilsl, (.int .i64 (.ofNat 0)), (.int .u64 (.ofNat 0)), (.int .u64 (.ofNat 0)), (.int .u64 (.ofNat 0)), (.int .u64 (.ofNat 0))] [], none⟩, ⟨(some 65), .buildSl 10 1 [(.str []), (.int .i64 (.ofNat 0)), (.str []), (.str []), .nilsl, (.int .i64 (.ofNat 0)), (.int .u64 (.ofNat 0)), (.int .u64 (.ofNat 0)), (.int .u64 (.ofNat 0)), (.int .u64 (.ofNat 0))] [(0, 10, (.t 64))], none⟩, ⟨(some 66), .append 10 120 (.t 63) (.t 65), none⟩, ⟨(some 67), .nilchk (.t 59), none⟩, ⟨(some 68), .faddr 1 (.t 67), none⟩, ⟨none, .store 1 (.t 68) (.t 66), none⟩])
(.seq (.dreg [⟨⟨(some 69), .mov (.t 0), none⟩, .quiet, 0, 0⟩, ⟨⟨(some 70), .nilchk (.t 69), none⟩, .quiet, 1, 1⟩, ⟨⟨(some 71), .faddr 1 (.t 70), none⟩, .quiet, 2, 3⟩, ⟨⟨(some 72), .load false 1 (.t 71), none⟩, .load, 3, 7⟩, ⟨⟨(some 73), .mov (.t 10), none⟩, .quiet, 4, 0⟩, ⟨⟨(some 74), .bin .add (.t 73) (.c (.int .i64 (.ofNat 1))), none⟩, .quiet, 5, 16⟩, ⟨⟨(some 75), .slS 10 (.t 72) (some (.t 74)) none none, none⟩, .quiet, 6, 63⟩, ⟨⟨(some 76), .mov (.t 0), none⟩, .quiet, 7, 0⟩, ⟨⟨(some 77), .nilchk (.t 76), none⟩, .quiet, 8, 128⟩, ⟨⟨(some 78), .faddr 1 (.t 77), none⟩, .quiet, 9, 384⟩, ⟨⟨(some 79), .load false 1 (.t 78), none⟩, .load, 10, 896⟩, ⟨⟨(some 80), .mov (.t 10), none⟩, .quiet, 11, 0⟩, ⟨⟨(some 81), .slS 10 (.t 79) (some (.t 80)) none none, none⟩, .quiet, 12, 3968⟩, ⟨⟨(some 82), .copy 10 (.t 75) (.t 81), none⟩, .loud, 13, 8191⟩])
(.dreg [⟨⟨(some 83), .mov (.t 0), none⟩, .quiet, 0, 0⟩, ⟨⟨(some 84), .nilchk (.t 83), none⟩, .quiet, 1, 1⟩, ⟨⟨(some 85), .faddr 1 (.t 84), none⟩, .quiet, 2, 3⟩, ⟨⟨(some 86), .load false 1 (.t 85), none⟩, .load, 3, 7⟩, ⟨⟨(some 87), .mov (.t 10), none⟩, .quiet, 4, 0⟩, ⟨⟨(some 88), .load true 10 (.t 12), none⟩, .load, 5, 0⟩, ⟨⟨(some 89), .idxS 10 (.t 86) (.t 87), none⟩, .quiet, 6, 63⟩, ⟨⟨none, .store 10 (.t 89) (.t 88), none⟩, .loud, 7, 127⟩])))))
(.seq (.reg [⟨(some 90), .mov (.t 0), none⟩, ⟨(some 91), .mov (.t 3), none⟩, ⟨(some 92), .call 87 [(.t 90), (.t 91)], none⟩])
(.seq (.reg [⟨(some 93), .load true 10 (.t 12), none⟩, ⟨none, .store 10 (.t 8) (.t 93), none⟩, ⟨(some 9), .mov (.c (.int .i64 (.ofNat 0))), none⟩])
.ret))))))))⟩
theorem c42_eq : compFn Try.prog 42 = some c42 := by kernel_rfl
noncomputable def c43 : FnI := ⟨10, [.tmp 4],
(.seq (.reg [⟨(some 4), .mov (.c (.str [])), none⟩])
(.seq (.reg [⟨(some 5), .mov (.t 0), none⟩, ⟨(some 6), .call 34 [(.t 5)], none⟩, ⟨(some 7), .bin .add (.t 6) (.c (.str [32])), none⟩, ⟨(some 8), .mov (.t 1), none⟩, ⟨(some 9), .bin .add (.t 7) (.t 8), none⟩, ⟨(some 4), .mov (.t 9), none⟩])
.ret))⟩
theorem c43_eq : compFn Try.prog 43 = some c43 := by kernel_rfl
noncomputable def c45 : FnI := ⟨69, [.tmp 4],
(.seq (.reg [⟨(some 3), .box (.t 1), none⟩, ⟨(some 4), .mov (.c (.int .i64 (.ofNat 0))), none⟩])
(.seq (.block 0 (.seq (.reg [⟨(some 8), .faddr 0 (.t 3), none⟩, ⟨(some 9), .load false 1 (.t 8), none⟩, ⟨(some 10), .call 32 [(.t 9)], none⟩, ⟨(some 11), .un .not (.t 10), none⟩, ⟨(some 12), .mov (.t 11), none⟩, ⟨(some 13), .faddr 4 (.t 3), (some (12, false))⟩, ⟨(some 14), .load false 1 (.t 13), (some (12, false))⟩, ⟨(some 15), .bin .lss (.t 14) (.c (.int .i64 (.ofNat 0))), (some (12, false))⟩, ⟨(some 16), .pick (.t 12) (.c (.bool true)) (.t 15), none⟩, ⟨(some 17), .mov (.t 16), none⟩, ⟨(some 18), .faddr 4 (.t 3), (some (17, false))⟩, ⟨(some 19), .load false 1 (.t 18), (some (17, false))⟩, ⟨(some 20), .bin .gtr (.t 19) (.c (.int .i64 (.ofNat 3))), (some (17, false))⟩, ⟨(some 21), .pick (.t 17) (.c (.bool true)) (.t 20), none⟩, ⟨(some 7), .mov (.t 21), none⟩])
(.cond (.t 7) (.seq (.reg [⟨(some 4), .mov (.c (.int .i64 (.ofNat 2))), none⟩])
.ret) (.seq (.reg [⟨(some 23), .faddr 1 (.t 3), none⟩, ⟨(some 24), .load false 1 (.t 23), none⟩, ⟨(some 25), .call 89 [(.t 24)], none⟩, ⟨(some 26), .un .not (.t 25), none⟩, ⟨(some 27), .mov (.t 26), none⟩, ⟨(some 28), .faddr 2 (.t 3), (some (27, false))⟩, ⟨(some 29), .load false 1 (.t 28), (some (27, false))⟩, ⟨(some 30), .bin .neq (.t 29) (.c (.str [])), (some (27, false))⟩, ⟨(some 31), .mov (.t 30), (some (27, false))⟩, ⟨(some 32), .faddr 2 (.t 3), (some (31, true))⟩, ⟨(some 33), .load false 1 (.t 32), (some (31, true))⟩, ⟨(some 34), .call 89 [(.t 33)], (some (31, true))⟩, ⟨(some 35), .un .not (.t 34), (some (31, true))⟩, ⟨(some 36), .pick (.t 31) (.t 35) (.c (.bool false)), (some (27, false))⟩, ⟨(some 37), .pick (.t 27) (.c (.bool true)) (.t 36), none⟩, ⟨(some 22), .mov (.t 37), none⟩])
(.cond (.t 22) (.seq (.reg [⟨(some 4), .mov (.c (.int .i64 (.ofNat 10))), none⟩])
.ret) (.seq (.reg [⟨(some 39), .faddr 3 (.t 3), none⟩, ⟨(some 40), .load false 1 (.t 39), none⟩, ⟨(some 41), .len true (.t 40), none⟩, ⟨(some 42), .bin .gtr (.t 41) (.c (.int .i64 (.ofNat 32))), none⟩, ⟨(some 38), .mov (.t 42), none⟩])
(.cond (.t 38) (.seq (.reg [⟨(some 4), .mov (.c (.int .i64 (.ofNat 3))), none⟩])
.ret) (.seq (.reg [⟨(some 44), .mov (.t 0), none⟩, ⟨(some 45), .faddr 0 (.t 3), none⟩, ⟨(some 46), .load false 1 (.t 45), none⟩, ⟨(some 47), .call 35 [(.t 44), (.t 46)], none⟩, ⟨(some 48), .un .not (.t 47), none⟩, ⟨(some 43), .mov (.t 48), none⟩])
(.cond (.t 43) (.seq (.reg [⟨(some 4), .mov (.c (.int .i64 (.ofNat 4))), none⟩])
.ret) .skip)))))))))
(.seq (.seq (.dreg [⟨⟨(some 54), .faddr 0 (.t 3), none⟩, .quiet, 4, 0⟩, ⟨⟨(some 55), .load false 1 (.t 54), none⟩, .load, 5, 16⟩, ⟨⟨(some 56), .faddr 2 (.t 3), none⟩, .quiet, 6, 0⟩, ⟨⟨(some 57), .load false 1 (.t 56), none⟩, .load, 7, 64⟩, ⟨⟨(some 58), .call 43 [(.t 55), (.t 57)], none⟩, .loud, 8, 240⟩, ⟨⟨(some 50), .mov (.t 0), none⟩, .quiet, 0, 0⟩, ⟨⟨(some 51), .nilchk (.t 50), none⟩, .quiet, 1, 1⟩, ⟨⟨(some 52), .faddr 1 (.t 51), none⟩, .quiet, 2, 3⟩, ⟨⟨(some 53), .load false 1 (.t 52), none⟩, .load, 3, 7⟩, ⟨⟨(some 59), .call 91 [(.t 53), (.t 58)], none⟩, .loud, 9, 511⟩, ⟨⟨(some 49), .mov (.t 59), none⟩, .quiet, 10, 1023⟩, ⟨⟨(some 60), .extract (.t 49) 0, none⟩, .quiet, 11, 2047⟩, ⟨⟨(some 5), .alloc [(.str []), (.int .i64 (.ofNat 0)), (.str []), (.str []), .nilsl, (.int .i64 (.ofNat 0)), (.int .u64 (.ofNat 0)), (.int .u64 (.ofNat 0)), (.int .u64 (.ofNat 0)), (.int .u64 (.ofNat 0))], none⟩, .quiet, 13, 0⟩, ⟨⟨none, .store 10 (.t 5) (.t 60), none⟩, .loud, 14, 12287⟩, ⟨⟨(some 61), .extract (.t 49) 1, none⟩, .quiet, 12, 2047⟩, ⟨⟨(some 6), .mov (.t 61), none⟩, .quiet, 15, 32767⟩])
(.seq (.reg [⟨(some 62), .faddr 2 (.t 3), none⟩, ⟨(some 63), .load false 1 (.t 62), none⟩, ⟨(some 64), .bin .neq (.t 63) (.c (.str [])), none⟩, ⟨(some 65), .mov (.t 64), none⟩, ⟨(some 66), .mov (.t 6), (some (65, true))⟩, ⟨(some 67), .un .not (.t 66), (some (65, true))⟩, ⟨(some 68), .pick (.t 65) (.t 67) (.c (.bool false)), none⟩])
(.cond (.t 68) (.seq (.reg [⟨(some 4), .mov (.c (.int .i64 (.ofNat 4))), none⟩])
.ret) .skip)))
(.seq (.reg [⟨(some 4), .mov (.c (.int .i64 (.ofNat 0))), none⟩])
.ret))))⟩
theorem c45_eq : compFn Try.prog 45 = some c45 := by kernel_rfl
noncomputable def c46 : FnI := ⟨94, [.cell 8 true 10, .tmp 9],
(.seq (.reg [⟨(some 6), .box (.t 2), none⟩, ⟨(some 8), .alloc [(.str []), (.int .i64 (.ofNat 0)), (.str []), (.str []), (.str []), (.int .i64 (.ofNat 0)), (.int .u64 (.ofNat 0)), (.int .u64 (.ofNat 0)), (.int .u64 (.ofNat 0)), (.int .u64 (.ofNat 0))], none⟩, ⟨(some 9), .mov (.c (.int .i64 (.ofNat 0))), none⟩])
(.seq (.seq (.reg [⟨(some 13), .mov (.t 0), none⟩, ⟨(some 14), .call 92 [(.t 13)], none⟩])
(.cond (.t 14) (.seq (.reg [⟨(some 15), .build [(.str []), (.int .i64 (.ofNat 0)), (.str []), (.str []), (.str []), (.int .i64 (.ofNat 0)), (.int .u64 (.ofNat 0)), (.int .u64 (.ofNat 0)), (.int .u64 (.ofNat 0)), (.int .u64 (.ofNat 0))] [], none⟩, ⟨none, .store 10 (.t 8) (.t 15), none⟩, ⟨(some 9), .mov (.c (.int .i64 (.ofNat 1))), none⟩])
.ret) .skip))
(.seq (.reg [⟨(some 17), .mov (.t 0), none⟩, ⟨(some 18), .mov (.t 1), none⟩, ⟨(some 19), .call 93 [(.t 17), (.t 18)], none⟩, ⟨(some 16), .mov (.t 19), none⟩, ⟨(some 20), .extract (.t 16) 0, none⟩, ⟨(some 21), .extract (.t 16) 1, none⟩, ⟨(some 10), .mov (.t 20), none⟩, ⟨(some 11), .mov (.t 21), none⟩])
(.seq (.seq (.dreg [⟨⟨(some 22), .mov (.t 11), none⟩, .quiet, 0, 0⟩, ⟨⟨(some 23), .un .not (.t 22), none⟩, .quiet, 1, 1⟩, ⟨⟨(some 24), .mov (.t 23), none⟩, .quiet, 2, 3⟩, ⟨⟨(some 25), .mov (.t 0), (some (24, true))⟩, .quiet, 3, 7⟩, ⟨⟨(some 26), .nilchk (.t 25), (some (24, true))⟩, .quiet, 4, 15⟩, ⟨⟨(some 27), .faddr 1 (.t 26), (some (24, true))⟩, .quiet, 5, 31⟩, ⟨⟨(some 28), .load false 1 (.t 27), (some (24, true))⟩, .load, 6, 63⟩, ⟨⟨(some 29), .len false (.t 28), (some (24, true))⟩, .quiet, 7, 127⟩, ⟨⟨(some 30), .mov (.t 0), (some (24, true))⟩, .quiet, 8, 7⟩, ⟨⟨(some 31), .nilchk (.t 30), (some (24, true))⟩, .quiet, 9, 263⟩, ⟨⟨(some 32), .faddr 0 (.t 31), (some (24, true))⟩, .quiet, 10, 775⟩, ⟨⟨(some 33), .load false 1 (.t 32), (some (24, true))⟩, .load, 11, 1799⟩, ⟨⟨(some 34), .bin .geq (.t 29) (.t 33), (some (24, true))⟩, .quiet, 12, 4095⟩, ⟨⟨(some 35), .pick (.t 24) (.t 34) (.c (.bool false)), none⟩, .quiet, 13, 8191⟩])
(.cond (.t 35) (.seq (.reg [⟨(some 36), .build [(.str []), (.int .i64 (.ofNat 0)), (.str []), (.str []), (.str []), (.int .i64 (.ofNat 0)), (.int .u64 (.ofNat 0)), (.int .u64 (.ofNat 0)), (.int .u64 (.ofNat 0)), (.int .u64 (.ofNat 0))] [], none⟩, ⟨none, .store 10 (.t 8) (.t 36), none⟩, ⟨(some 9), .mov (.c (.int .i64 (.ofNat 5))), none⟩])
.ret) .skip))
(.seq (.reg [⟨(some 37), .mov (.t 1), none⟩, ⟨(some 38), .load true 7 (.t 6), none⟩, ⟨(some 39), .mov (.t 3), none⟩, ⟨(some 40), .mov (.t 3), none⟩, ⟨(some 41), .build [(.str []), (.int .i64 (.ofNat 0)), (.str []), (.str []), (.str []), (.int .i64 (.ofNat 0)), (.int .u64 (.ofNat 0)), (.int .u64 (.ofNat 0)), (.int .u64 (.ofNat 0)), (.int .u64 (.ofNat 0))] [(0, 1, (.t 37)), (1, 7, (.t 38)), (8, 1, (.t 39)), (9, 1, (.t 40))], none⟩, ⟨(some 12), .alloc [(.str []), (.int .i64 (.ofNat 0)), (.str []), (.str []), (.str []), (.int .i64 (.ofNat 0)), (.int .u64 (.ofNat 0)), (.int .u64 (.ofNat 0)), (.int .u64 (.ofNat 0)), (.int .u64 (.ofNat 0))], none⟩, ⟨none, .store 10 (.t 12) (.t 41), none⟩])
(.seq (.seq (.reg [⟨(some 42), .mov (.t 11), none⟩])
(.cond (.t 42) (.seq (.reg [⟨(some 43), .mov (.t 0), none⟩, ⟨(some 44), .nilchk (.t 43), none⟩, ⟨(some 45), .faddr 1 (.t 44), none⟩, ⟨(some 46), .load false 1 (.t 45), none⟩, ⟨(some 47), .mov (.t 10), none⟩, ⟨(some 48), .idxS 10 (.t 46) (.t 47), none⟩, ⟨(some 49), .faddr 8 (.t 48), none⟩, ⟨(some 50), .load false 1 (.t 49), none⟩, ⟨(some 51), .faddr 8 (.t 12), none⟩, ⟨none, .store 1 (.t 51) (.t 50), none⟩])
(.dreg [⟨⟨(some 52), .mov (.t 0), none⟩, .quiet, 0, 0⟩, ⟨⟨(some 53), .nilchk (.t 52), none⟩, .quiet, 1, 1⟩, ⟨⟨(some 54), .faddr 1 (.t 53), none⟩, .quiet, 2, 3⟩, ⟨⟨(some 55), .load false 1 (.t 54), none⟩, .load, 3, 7⟩, ⟨⟨(some 56), .mov (.t 10), none⟩, .quiet, 4, 0⟩, ⟨⟨(some 57), .load true 10 (.t 12), none⟩, .load, 5, 0⟩, ⟨⟨(some 58), .idxS 10 (.t 55) (.t 56), none⟩, .quiet, 6, 63⟩, ⟨⟨none, .store 10 (.t 58) (.t 57), none⟩, .loud, 7, 127⟩])) (.seq (.reg [⟨(some 59), .mov (.t 0), none⟩, ⟨(some 60), .mov (.t 0), none⟩, ⟨(some 61), .nilchk (.t 60), none⟩, ⟨(some 62), .faddr 1 (.t 61), none⟩, ⟨(some 63), .load false 1 (.t 62), none⟩, ⟨(some 64), .build [(.str []), (.int .i64 (.ofNat 0)), (.str []), (.str []), (.str []), (.int .i64 (.ofNat 0)), (.int .u64 (.ofNat 0)), (.int .u64 (.ofNat 0)), (.int .u64 (.ofNat 0)), (.int .u64 (.ofNat 0))] [], none⟩, ⟨(some 65), .buildSl 10 1 [(.str []), (.int .i64 (.ofNat 0)), (.str []), (.str []), (.str []), (.int .i64 (.ofNat 0)), (.int .u64 (.ofNat 0)), (.int .u64 (.ofNat 0)), (.int .u64 (.ofNat 0)), (.int .u64 (.ofNat 0))] [(0, 10, (.t 64))], none⟩, ⟨(some 66), .append 10 112 (.t 63) (.t 65), none⟩, ⟨(some 67), .nilchk (.t 59), none⟩, ⟨(some 68), .faddr 1 (.t 67), none⟩, ⟨none, .store 1 (.t 68) (.t 66), none⟩])
(.seq (.dreg [⟨⟨(some 69), .mov (.t 0), none⟩, .quiet, 0, 0⟩, ⟨⟨(some 70), .nilchk (.t 69), none⟩, .quiet, 1, 1⟩, ⟨⟨(some 71), .faddr 1 (.t 70), none⟩, .quiet, 2, 3⟩, ⟨⟨(some 72), .load false 1 (.t 71), none⟩, .load, 3, 7⟩, ⟨⟨(some 73), .mov (.t 10), none⟩, .quiet, 4, 0⟩, ⟨⟨(some 74), .bin .add (.t 73) (.c (.int .i64 (.ofNat 1))), none⟩, .quiet, 5, 16⟩, ⟨⟨(some 75), .slS 10 (.t 72) (some (.t 74)) none none, none⟩, .quiet, 6, 63⟩, ⟨⟨(some 76), .mov (.t 0), none⟩, .quiet, 7, 0⟩, ⟨⟨(some 77), .nilchk (.t 76), none⟩, .quiet, 8, 128⟩, ⟨⟨(some 78), .faddr 1 (.t 77), none⟩, .quiet, 9, 384⟩, ⟨⟨(some 79), .load false 1 (.t 78), none⟩, .load, 10, 896⟩, ⟨⟨(some 80), .mov (.t 10), none⟩, .quiet, 11, 0⟩, ⟨⟨(some 81), .slS 10 (.t 79) (some (.t 80)) none none, none⟩, .quiet, 12, 3968⟩, ⟨⟨(some 82), .copy 10 (.t 75) (.t 81), none⟩, .loud, 13, 8191⟩])
(.dreg [⟨⟨(some 83), .mov (.t 0), none⟩, .quiet, 0, 0⟩, ⟨⟨(some 84), .nilchk (.t 83), none⟩, .quiet, 1, 1⟩, ⟨⟨(some 85), .faddr 1 (.t 84), none⟩, .quiet, 2, 3⟩, ⟨⟨(some 86), .load false 1 (.t 85), none⟩, .load, 3, 7⟩, ⟨⟨(some 87), .mov (.t 10), none⟩, .quiet, 4, 0⟩, ⟨⟨(some 88), .load true 10 (.t 12), none⟩, .load, 5, 0⟩, ⟨⟨(some 89), .idxS 10 (.t 86) (.t 87), none⟩, .quiet, 6, 63⟩, ⟨⟨none, .store 10 (.t 89) (.t 88), none⟩, .loud, 7, 127⟩])))))
(.seq (.reg [⟨(some 90), .mov (.t 0), none⟩, ⟨(some 91), .mov (.t 3), none⟩, ⟨(some 92), .call 94 [(.t 90), (.t 91)], none⟩])
(.seq (.reg [⟨(some 93), .load true 10 (.t 12), none⟩, ⟨none, .store 10 (.t 8) (.t 93), none⟩, ⟨(some 9), .mov (.c (.int .i64 (.ofNat 0))), none⟩])
.ret))))))))⟩
theorem c46_eq : compFn Try.prog 46 = some c46 := by kernel_rfl
noncomputable def c50 : FnI := ⟨29, [.tmp 4],
(.seq (.reg [⟨(some 3), .box (.t 1), none⟩, ⟨(some 4), .mov (.c .nilsl), none⟩])
(.seq (.reg [⟨(some 5), .mov (.c .nilsl), none⟩])
(.seq (.seq (.reg [⟨(some 8), .mov (.t 0), none⟩, ⟨(some 9), .call 96 [(.t 8)], none⟩, ⟨(some 10), .len false (.t 9), none⟩, ⟨(some 11), .mov (.c (.int .i64 (.ofNat 0))), none⟩])
(.block 0 (.loop (.seq (.reg [⟨(some 12), .bin .lss (.t 11) (.t 10), none⟩])
(.seq (.cond (.t 12) .skip (.exit 0))
(.seq (.block 1 (.seq (.reg [⟨(some 13), .idxS 10 (.t 9) (.t 11), none⟩, ⟨(some 14), .load true 10 (.t 13), none⟩, ⟨(some 7), .alloc [(.str []), (.int .i64 (.ofNat 0)), (.str []), (.str []), .nilsl, (.int .i64 (.ofNat 0)), (.int .u64 (.ofNat 0)), (.int .u64 (.ofNat 0)), (.int .u64 (.ofNat 0)), (.int .u64 (.ofNat 0))], none⟩, ⟨none, .store 10 (.t 7) (.t 14), none⟩])
(.reg [⟨(some 15), .mov (.t 5), none⟩, ⟨(some 16), .faddr 0 (.t 3), none⟩, ⟨(some 17), .load false 1 (.t 16), none⟩, ⟨(some 18), .faddr 1 (.t 7), none⟩, ⟨(some 19), .load true 7 (.t 18), none⟩, ⟨(some 20), .faddr 8 (.t 7), none⟩, ⟨(some 21), .load false 1 (.t 20), none⟩, ⟨(some 22), .faddr 9 (.t 7), none⟩, ⟨(some 23), .load false 1 (.t 22), none⟩, ⟨(some 24), .callv (.t 17) [(.t 19), (.t 21), (.t 23)], none⟩, ⟨(some 25), .buildSl 7 1 [(.int .i64 (.ofNat 0)), (.str []), (.str []), .nilsl, (.int .i64 (.ofNat 0)), (.int .u64 (.ofNat 0)), (.int .u64 (.ofNat 0))] [(0, 7, (.t 24))], none⟩, ⟨(some 26), .append 7 88 (.t 15) (.t 25), none⟩, ⟨(some 5), .mov (.t 26), none⟩])))
(.reg [⟨(some 27), .bin .add (.t 11) (.c (.int .i64 (.ofNat 1))), none⟩, ⟨(some 11), .mov (.t 27), none⟩])))))))
(.seq (.reg [⟨(some 28), .mov (.t 5), none⟩, ⟨(some 4), .mov (.t 28), none⟩])
.ret))))⟩
theorem c50_eq : compFn Try.prog 50 = some c50 := by kernel_rfl
noncomputable def c51 : FnI := ⟨17, [.cell 6 true 7],
(.seq (.reg [⟨(some 3), .box (.t 0), none⟩, ⟨(some 6), .alloc [(.int .i64 (.ofNat 0)), (.str []), (.str []), .nilsl, (.int .i64 (.ofNat 0)), (.int .u64 (.ofNat 0)), (.int .u64 (.ofNat 0))], none⟩])
(.seq (.reg [⟨(some 7), .mov (.t 1), none⟩, ⟨(some 8), .mov (.t 2), none⟩, ⟨(some 9), .faddr 5 (.t 3), none⟩, ⟨none, .store 1 (.t 9) (.t 7), none⟩, ⟨(some 10), .faddr 6 (.t 3), none⟩, ⟨none, .store 1 (.t 10) (.t 8), none⟩])
(.seq (.reg [⟨(some 11), .buildSl 1 0 [] [], none⟩, ⟨(some 12), .faddr 3 (.t 3), none⟩, ⟨(some 13), .load false 1 (.t 12), none⟩, ⟨(some 14), .append 1 16 (.t 11) (.t 13), none⟩, ⟨(some 15), .faddr 3 (.t 3), none⟩, ⟨none, .store 1 (.t 15) (.t 14), none⟩])
(.seq (.reg [⟨(some 16), .load true 7 (.t 3), none⟩, ⟨none, .store 7 (.t 6) (.t 16), none⟩])
.ret))))⟩
theorem c51_eq : compFn Try.prog 51 = some c51 := by kernel_rfl
noncomputable def c52 : FnI := ⟨29, [.tmp 4],
(.seq (.reg [⟨(some 3), .box (.t 1), none⟩, ⟨(some 4), .mov (.c .nilsl), none⟩])
(.seq (.reg [⟨(some 5), .mov (.c .nilsl), none⟩])
(.seq (.seq (.reg [⟨(some 8), .mov (.t 0), none⟩, ⟨(some 9), .call 97 [(.t 8)], none⟩, ⟨(some 10), .len false (.t 9), none⟩, ⟨(some 11), .mov (.c (.int .i64 (.ofNat 0))), none⟩])
(.block 0 (.loop (.seq (.reg [⟨(some 12), .bin .lss (.t 11) (.t 10), none⟩])
(.seq (.cond (.t 12) .skip (.exit 0))
(.seq (.block 1 (.seq (.reg [⟨(some 13), .idxS 10 (.t 9) (.t 11), none⟩, ⟨(some 14), .load true 10 (.t 13), none⟩, ⟨(some 7), .alloc [(.str []), (.int .i64 (.ofNat 0)), (.str []), (.str []), (.str []), (.int .i64 (.ofNat 0)), (.int .u64 (.ofNat 0)), (.int .u64 (.ofNat 0)), (.int .u64 (.ofNat 0)), (.int .u64 (.ofNat 0))], none⟩, ⟨none, .store 10 (.t 7) (.t 14), none⟩])
(.reg [⟨(some 15), .mov (.t 5), none⟩, ⟨(some 16), .faddr 0 (.t 3), none⟩, ⟨(some 17), .load false 1 (.t 16), none⟩, ⟨(some 18), .faddr 1 (.t 7), none⟩, ⟨(some 19), .load true 7 (.t 18), none⟩, ⟨(some 20), .faddr 8 (.t 7), none⟩, ⟨(some 21), .load false 1 (.t 20), none⟩, ⟨(some 22), .faddr 9 (.t 7), none⟩, ⟨(some 23), .load false 1 (.t 22), none⟩, ⟨(some 24), .callv (.t 17) [(.t 19), (.t 21), (.t 23)], none⟩, ⟨(some 25), .buildSl 7 1 [(.int .i64 (.ofNat 0)), (.str []), (.str []), (.str []), (.int .i64 (.ofNat 0)), (.int .u64 (.ofNat 0)), (.int .u64 (.ofNat 0))] [(0, 7, (.t 24))], none⟩, ⟨(some 26), .append 7 80 (.t 15) (.t 25), none⟩, ⟨(some 5), .mov (.t 26), none⟩])))
(.reg [⟨(some 27), .bin .add (.t 11) (.c (.int .i64 (.ofNat 1))), none⟩, ⟨(some 11), .mov (.t 27), none⟩])))))))
(.seq (.reg [⟨(some 28), .mov (.t 5), none⟩, ⟨(some 4), .mov (.t 28), none⟩])
.ret))))⟩
theorem c52_eq : compFn Try.prog 52 = some c52 := by kernel_rfl
noncomputable def c53 : FnI := ⟨12, [.cell 6 true 7],
(.seq (.reg [⟨(some 3), .box (.t 0), none⟩, ⟨(some 6), .alloc [(.int .i64 (.ofNat 0)), (.str []), (.str []), (.str []), (.int .i64 (.ofNat 0)), (.int .u64 (.ofNat 0)), (.int .u64 (.ofNat 0))], none⟩])
(.seq (.reg [⟨(some 7), .mov (.t 1), none⟩, ⟨(some 8), .mov (.t 2), none⟩, ⟨(some 9), .faddr 5 (.t 3), none⟩, ⟨none, .store 1 (.t 9) (.t 7), none⟩, ⟨(some 10), .faddr 6 (.t 3), none⟩, ⟨none, .store 1 (.t 10) (.t 8), none⟩])
(.seq (.reg [⟨(some 11), .load true 7 (.t 3), none⟩, ⟨none, .store 7 (.t 6) (.t 11), none⟩])
.ret)))⟩
theorem c53_eq : compFn Try.prog 53 = some c53 := by kernel_rfl
noncomputable def c60 : FnI := ⟨11, [.tmp 2],
(.seq (.reg [⟨(some 2), .mov (.c .nilp), none⟩])
(.seq (.reg [⟨(some 3), .mov (.t 0), none⟩, ⟨(some 4), .call 98 [(.t 3)], none⟩, ⟨(some 5), .mov (.t 0), none⟩, ⟨(some 6), .call 99 [(.t 5)], none⟩, ⟨(some 7), .mov (.t 0), none⟩, ⟨(some 8), .call 100 [(.t 7)], none⟩, ⟨(some 9), .build [.nilp, .nilp, .nilp] [(0, 1, (.t 4)), (1, 1, (.t 6)), (2, 1, (.t 8))], none⟩, ⟨(some 10), .box (.t 9), none⟩, ⟨(some 2), .mov (.t 10), none⟩])
.ret))⟩
theorem c60_eq : compFn Try.prog 60 = some c60 := by kernel_rfl
noncomputable def c79 : FnI := ⟨12, [.tmp 2],
(.seq (.reg [⟨(some 2), .mov (.c (.bool false)), none⟩])
(.seq (.reg [⟨(some 3), .mov (.t 0), none⟩, ⟨(some 4), .eq false .ptr (.t 3) (.c .nilp), none⟩, ⟨(some 5), .mov (.t 4), none⟩, ⟨(some 6), .mov (.t 0), (some (5, false))⟩, ⟨(some 7), .nilchk (.t 6), (some (5, false))⟩, ⟨(some 8), .faddr 0 (.t 7), (some (5, false))⟩, ⟨(some 9), .load false 1 (.t 8), (some (5, false))⟩, ⟨(some 10), .bin .eql (.t 9) (.c (.int .i64 (.ofNat 0))), (some (5, false))⟩, ⟨(some 11), .pick (.t 5) (.c (.bool true)) (.t 10), none⟩, ⟨(some 2), .mov (.t 11), none⟩])
.ret))⟩
theorem c79_eq : compFn Try.prog 79 = some c79 := by kernel_rfl
noncomputable def c80 : FnI := ⟨34, [.tmp 4, .tmp 5],
(.seq (.reg [⟨(some 2), .box (.t 0), none⟩, ⟨(some 3), .box (.t 1), none⟩, ⟨(some 4), .mov (.c (.int .i64 (.ofNat 0))), none⟩, ⟨(some 5), .mov (.c (.bool false)), none⟩])
(.seq (.reg [⟨(some 7), .load false 1 (.t 2), none⟩, ⟨(some 8), .nilchk (.t 7), none⟩, ⟨(some 9), .faddr 1 (.t 8), none⟩, ⟨(some 10), .load false 1 (.t 9), none⟩, ⟨(some 11), .len false (.t 10), none⟩, ⟨(some 12), .mkfn 114 [] [(.t 2), (.t 3)], none⟩, ⟨(some 13), .call 113 [(.t 11), (.t 12)], none⟩, ⟨(some 6), .mov (.t 13), none⟩])
(.seq (.dreg [⟨⟨(some 14), .mov (.t 6), none⟩, .quiet, 0, 0⟩, ⟨⟨(some 15), .mov (.t 6), none⟩, .quiet, 1, 0⟩, ⟨⟨(some 16), .load false 1 (.t 2), none⟩, .load, 2, 0⟩, ⟨⟨(some 17), .nilchk (.t 16), none⟩, .quiet, 3, 4⟩, ⟨⟨(some 18), .faddr 1 (.t 17), none⟩, .quiet, 4, 12⟩, ⟨⟨(some 19), .load false 1 (.t 18), none⟩, .load, 5, 28⟩, ⟨⟨(some 20), .len false (.t 19), none⟩, .quiet, 6, 60⟩, ⟨⟨(some 21), .bin .lss (.t 15) (.t 20), none⟩, .quiet, 7, 126⟩, ⟨⟨(some 22), .mov (.t 21), none⟩, .quiet, 8, 254⟩, ⟨⟨(some 23), .load false 1 (.t 2), (some (22, true))⟩, .load, 9, 510⟩, ⟨⟨(some 24), .nilchk (.t 23), (some (22, true))⟩, .quiet, 10, 1022⟩, ⟨⟨(some 25), .faddr 1 (.t 24), (some (22, true))⟩, .quiet, 11, 2046⟩, ⟨⟨(some 26), .load false 1 (.t 25), (some (22, true))⟩, .load, 12, 4094⟩, ⟨⟨(some 27), .mov (.t 6), (some (22, true))⟩, .quiet, 13, 510⟩, ⟨⟨(some 28), .idxS 7 (.t 26) (.t 27), (some (22, true))⟩, .quiet, 14, 16382⟩, ⟨⟨(some 29), .faddr 0 (.t 28), (some (22, true))⟩, .quiet, 15, 32766⟩, ⟨⟨(some 30), .load false 1 (.t 29), (some (22, true))⟩, .load, 16, 65534⟩, ⟨⟨(some 31), .load false 1 (.t 3), (some (22, true))⟩, .load, 17, 510⟩, ⟨⟨(some 32), .bin .eql (.t 30) (.t 31), (some (22, true))⟩, .quiet, 18, 262142⟩, ⟨⟨(some 33), .pick (.t 22) (.t 32) (.c (.bool false)), none⟩, .quiet, 19, 524286⟩, ⟨⟨(some 4), .mov (.t 14), none⟩, .quiet, 20, 511⟩, ⟨⟨(some 5), .mov (.t 33), none⟩, .quiet, 21, 2097151⟩])
.ret)))⟩
theorem c80_eq : compFn Try.prog 80 = some c80 := by kernel_rfl
noncomputable def c81 : FnI := ⟨16, [],
(.seq (.reg [⟨(some 4), .mov (.t 0), none⟩, ⟨(some 5), .call 79 [(.t 4)], none⟩, ⟨(some 6), .un .not (.t 5), none⟩])
(.cond (.t 6) (.reg [⟨(some 7), .mov (.t 0), none⟩, ⟨(some 8), .mov (.t 0), none⟩, ⟨(some 9), .nilchk (.t 8), none⟩, ⟨(some 10), .faddr 2 (.t 9), none⟩, ⟨(some 11), .load false 1 (.t 10), none⟩, ⟨(some 12), .mov (.t 1), none⟩, ⟨(some 13), .mm true (.t 11) [(.t 12)], none⟩, ⟨(some 14), .nilchk (.t 7), none⟩, ⟨(some 15), .faddr 2 (.t 14), none⟩, ⟨none, .store 1 (.t 15) (.t 13), none⟩]) .skip))⟩
theorem c81_eq : compFn Try.prog 81 = some c81 := by kernel_rfl
noncomputable def c82 : FnI := ⟨27, [.cell 4 true 7, .tmp 5],
(.seq (.reg [⟨(some 4), .alloc [(.str []), (.int .i64 (.ofNat 0)), (.str []), (.int .u64 (.ofNat 0)), (.int .u64 (.ofNat 0)), (.int .u64 (.ofNat 0)), (.int .u64 (.ofNat 0))], none⟩, ⟨(some 5), .mov (.c (.bool false)), none⟩])
(.seq (.seq (.reg [⟨(some 8), .mov (.t 0), none⟩, ⟨(some 9), .call 79 [(.t 8)], none⟩])
(.cond (.t 9) (.seq (.reg [⟨(some 10), .build [(.str []), (.int .i64 (.ofNat 0)), (.str []), (.int .u64 (.ofNat 0)), (.int .u64 (.ofNat 0)), (.int .u64 (.ofNat 0)), (.int .u64 (.ofNat 0))] [], none⟩, ⟨none, .store 7 (.t 4) (.t 10), none⟩, ⟨(some 5), .mov (.c (.bool false)), none⟩])
.ret) .skip))
(.seq (.reg [⟨(some 12), .mov (.t 0), none⟩, ⟨(some 13), .mov (.t 1), none⟩, ⟨(some 14), .call 80 [(.t 12), (.t 13)], none⟩, ⟨(some 11), .mov (.t 14), none⟩, ⟨(some 15), .extract (.t 11) 0, none⟩, ⟨(some 16), .extract (.t 11) 1, none⟩, ⟨(some 6), .mov (.t 15), none⟩, ⟨(some 7), .mov (.t 16), none⟩])
(.seq (.seq (.reg [⟨(some 17), .mov (.t 7), none⟩, ⟨(some 18), .un .not (.t 17), none⟩])
(.cond (.t 18) (.seq (.reg [⟨(some 19), .build [(.str []), (.int .i64 (.ofNat 0)), (.str []), (.int .u64 (.ofNat 0)), (.int .u64 (.ofNat 0)), (.int .u64 (.ofNat 0)), (.int .u64 (.ofNat 0))] [], none⟩, ⟨none, .store 7 (.t 4) (.t 19), none⟩, ⟨(some 5), .mov (.c (.bool false)), none⟩])
.ret) .skip))
(.seq (.reg [⟨(some 20), .mov (.t 0), none⟩, ⟨(some 21), .nilchk (.t 20), none⟩, ⟨(some 22), .faddr 1 (.t 21), none⟩, ⟨(some 23), .load false 1 (.t 22), none⟩, ⟨(some 24), .mov (.t 6), none⟩, ⟨(some 25), .idxS 7 (.t 23) (.t 24), none⟩, ⟨(some 26), .load true 7 (.t 25), none⟩, ⟨none, .store 7 (.t 4) (.t 26), none⟩, ⟨(some 5), .mov (.c (.bool true)), none⟩])
.ret)))))⟩
theorem c82_eq : compFn Try.prog 82 = some c82 := by kernel_rfl
noncomputable def c85 : FnI := ⟨12, [.tmp 2],
(.seq (.reg [⟨(some 2), .mov (.c (.bool false)), none⟩])
(.seq (.reg [⟨(some 3), .mov (.t 0), none⟩, ⟨(some 4), .eq false .ptr (.t 3) (.c .nilp), none⟩, ⟨(some 5), .mov (.t 4), none⟩, ⟨(some 6), .mov (.t 0), (some (5, false))⟩, ⟨(some 7), .nilchk (.t 6), (some (5, false))⟩, ⟨(some 8), .faddr 0 (.t 7), (some (5, false))⟩, ⟨(some 9), .load false 1 (.t 8), (some (5, false))⟩, ⟨(some 10), .bin .eql (.t 9) (.c (.int .i64 (.ofNat 0))), (some (5, false))⟩, ⟨(some 11), .pick (.t 5) (.c (.bool true)) (.t 10), none⟩, ⟨(some 2), .mov (.t 11), none⟩])
.ret))⟩
theorem c85_eq : compFn Try.prog 85 = some c85 := by kernel_rfl
noncomputable def c86 : FnI := ⟨34, [.tmp 4, .tmp 5],
(.seq (.reg [⟨(some 2), .box (.t 0), none⟩, ⟨(some 3), .box (.t 1), none⟩, ⟨(some 4), .mov (.c (.int .i64 (.ofNat 0))), none⟩, ⟨(some 5), .mov (.c (.bool false)), none⟩])
(.seq (.reg [⟨(some 7), .load false 1 (.t 2), none⟩, ⟨(some 8), .nilchk (.t 7), none⟩, ⟨(some 9), .faddr 1 (.t 8), none⟩, ⟨(some 10), .load false 1 (.t 9), none⟩, ⟨(some 11), .len false (.t 10), none⟩, ⟨(some 12), .mkfn 116 [] [(.t 2), (.t 3)], none⟩, ⟨(some 13), .call 113 [(.t 11), (.t 12)], none⟩, ⟨(some 6), .mov (.t 13), none⟩])
(.seq (.dreg [⟨⟨(some 14), .mov (.t 6), none⟩, .quiet, 0, 0⟩, ⟨⟨(some 15), .mov (.t 6), none⟩, .quiet, 1, 0⟩, ⟨⟨(some 16), .load false 1 (.t 2), none⟩, .load, 2, 0⟩, ⟨⟨(some 17), .nilchk (.t 16), none⟩, .quiet, 3, 4⟩, ⟨⟨(some 18), .faddr 1 (.t 17), none⟩, .quiet, 4, 12⟩, ⟨⟨(some 19), .load false 1 (.t 18), none⟩, .load, 5, 28⟩, ⟨⟨(some 20), .len false (.t 19), none⟩, .quiet, 6, 60⟩, ⟨⟨(some 21), .bin .lss (.t 15) (.t 20), none⟩, .quiet, 7, 126⟩, ⟨⟨(some 22), .mov (.t 21), none⟩, .quiet, 8, 254⟩, ⟨⟨(some 23), .load false 1 (.t 2), (some (22, true))⟩, .load, 9, 510⟩, ⟨⟨(some 24), .nilchk (.t 23), (some (22, true))⟩, .quiet, 10, 1022⟩, ⟨⟨(some 25), .faddr 1 (.t 24), (some (22, true))⟩, .quiet, 11, 2046⟩, ⟨⟨(some 26), .load false 1 (.t 25), (some (22, true))⟩, .load, 12, 4094⟩, ⟨⟨(some 27), .mov (.t 6), (some (22, true))⟩, .quiet, 13, 510⟩, ⟨⟨(some 28), .idxS 10 (.t 26) (.t 27), (some (22, true))⟩, .quiet, 14, 16382⟩, ⟨⟨(some 29), .faddr 0 (.t 28), (some (22, true))⟩, .quiet, 15, 32766⟩, ⟨⟨(some 30), .load false 1 (.t 29), (some (22, true))⟩, .load, 16, 65534⟩, ⟨⟨(some 31), .load false 1 (.t 3), (some (22, true))⟩, .load, 17, 510⟩, ⟨⟨(some 32), .bin .eql (.t 30) (.t 31), (some (22, true))⟩, .quiet, 18, 262142⟩, ⟨⟨(some 33), .pick (.t 22) (.t 32) (.c (.bool false)), none⟩, .quiet, 19, 524286⟩, ⟨⟨(some 4), .mov (.t 14), none⟩, .quiet, 20, 511⟩, ⟨⟨(some 5), .mov (.t 33), none⟩, .quiet, 21, 2097151⟩])
.ret)))⟩
theorem c86_eq : compFn Try.prog 86 = some c86 := by kernel_rfl
noncomputable def c87 : FnI := ⟨16, [],
(.seq (.reg [⟨(some 4), .mov (.t 0), none⟩, ⟨(some 5), .call 85 [(.t 4)], none⟩, ⟨(some 6), .un .not (.t 5), none⟩])
(.cond (.t 6) (.reg [⟨(some 7), .mov (.t 0), none⟩, ⟨(some 8), .mov (.t 0), none⟩, ⟨(some 9), .nilchk (.t 8), none⟩, ⟨(some 10), .faddr 2 (.t 9), none⟩, ⟨(some 11), .load false 1 (.t 10), none⟩, ⟨(some 12), .mov (.t 1), none⟩, ⟨(some 13), .mm true (.t 11) [(.t 12)], none⟩, ⟨(some 14), .nilchk (.t 7), none⟩, ⟨(some 15), .faddr 2 (.t 14), none⟩, ⟨none, .store 1 (.t 15) (.t 13), none⟩]) .skip))⟩
theorem c87_eq : compFn Try.prog 87 = some c87 := by kernel_rfl
noncomputable def c89 : FnI := ⟨26, [.tmp 2],
(.seq (.reg [⟨(some 2), .mov (.c (.bool false)), none⟩])
(.seq (.seq (.reg [⟨(some 3), .mov (.t 0), none⟩, ⟨(some 4), .len true (.t 3), none⟩, ⟨(some 5), .bin .lss (.t 4) (.c (.int .i64 (.ofNat 1))), none⟩, ⟨(some 6), .mov (.t 5), none⟩, ⟨(some 7), .mov (.t 0), (some (6, false))⟩, ⟨(some 8), .len true (.t 7), (some (6, false))⟩, ⟨(some 9), .bin .gtr (.t 8) (.c (.int .i64 (.ofNat 24))), (some (6, false))⟩, ⟨(some 10), .pick (.t 6) (.c (.bool true)) (.t 9), none⟩, ⟨(some 11), .mov (.t 10), none⟩, ⟨(some 12), .mov (.t 0), (some (11, false))⟩, ⟨(some 13), .idxStr (.t 12) (.c (.int .i64 (.ofNat 0))), (some (11, false))⟩, ⟨(some 14), .bin .eql (.t 13) (.c (.int .u8 (.ofNat 45))), (some (11, false))⟩, ⟨(some 15), .pick (.t 11) (.c (.bool true)) (.t 14), none⟩, ⟨(some 16), .mov (.t 15), none⟩, ⟨(some 17), .mov (.t 0), (some (16, false))⟩, ⟨(some 18), .mov (.t 0), (some (16, false))⟩, ⟨(some 19), .len true (.t 18), (some (16, false))⟩, ⟨(some 20), .bin .sub (.t 19) (.c (.int .i64 (.ofNat 1))), (some (16, false))⟩, ⟨(some 21), .idxStr (.t 17) (.t 20), (some (16, false))⟩, ⟨(some 22), .bin .eql (.t 21) (.c (.int .u8 (.ofNat 45))), (some (16, false))⟩, ⟨(some 23), .pick (.t 16) (.c (.bool true)) (.t 22), none⟩])
(.cond (.t 23) (.seq (.reg [⟨(some 2), .mov (.c (.bool false)), none⟩])
.ret) .skip))
(.seq (.reg [⟨(some 24), .mov (.t 0), none⟩, ⟨(some 25), .call 119 [(.t 24), (.c (.fn (.func 120) [] []))], none⟩, ⟨(some 2), .mov (.t 25), none⟩])
.ret)))⟩
theorem c89_eq : compFn Try.prog 89 = some c89 := by kernel_rfl
noncomputable def c90 : FnI := ⟨32, [.tmp 2],
(.seq (.reg [⟨(some 2), .mov (.c (.bool false)), none⟩])
(.seq (.seq (.reg [⟨(some 5), .mov (.t 0), none⟩, ⟨(some 6), .len false (.t 5), none⟩, ⟨(some 7), .bin .gtr (.t 6) (.c (.int .i64 (.ofNat 4))), none⟩])
(.cond (.t 7) (.seq (.reg [⟨(some 2), .mov (.c (.bool false)), none⟩])
.ret) .skip))
(.seq (.seq (.reg [⟨(some 8), .mov (.t 0), none⟩, ⟨(some 9), .len false (.t 8), none⟩, ⟨(some 10), .mov (.c (.int .i64 (.ofNat 0))), none⟩])
(.block 0 (.loop (.seq (.reg [⟨(some 11), .bin .lss (.t 10) (.t 9), none⟩])
(.seq (.cond (.t 11) .skip (.exit 0))
(.seq (.block 1 (.seq (.reg [⟨(some 12), .mov (.t 10), none⟩, ⟨(some 13), .idxS 1 (.t 8) (.t 10), none⟩, ⟨(some 14), .load false 1 (.t 13), none⟩, ⟨(some 3), .mov (.t 12), none⟩, ⟨(some 4), .mov (.t 14), none⟩])
(.seq (.reg [⟨(some 15), .mov (.t 4), none⟩, ⟨(some 16), .call 89 [(.t 15)], none⟩, ⟨(some 17), .un .not (.t 16), none⟩, ⟨(some 18), .mov (.t 17), none⟩, ⟨(some 19), .mov (.t 3), (some (18, false))⟩, ⟨(some 20), .bin .gtr (.t 19) (.c (.int .i64 (.ofNat 0))), (some (18, false))⟩, ⟨(some 21), .mov (.t 20), (some (18, false))⟩, ⟨(some 22), .mov (.t 0), (some (21, true))⟩, ⟨(some 23), .mov (.t 3), (some (21, true))⟩, ⟨(some 24), .bin .sub (.t 23) (.c (.int .i64 (.ofNat 1))), (some (21, true))⟩, ⟨(some 25), .idxS 1 (.t 22) (.t 24), (some (21, true))⟩, ⟨(some 26), .load false 1 (.t 25), (some (21, true))⟩, ⟨(some 27), .mov (.t 4), (some (21, true))⟩, ⟨(some 28), .bin .geq (.t 26) (.t 27), (some (21, true))⟩, ⟨(some 29), .pick (.t 21) (.t 28) (.c (.bool false)), (some (18, false))⟩, ⟨(some 30), .pick (.t 18) (.c (.bool true)) (.t 29), none⟩])
(.cond (.t 30) (.seq (.reg [⟨(some 2), .mov (.c (.bool false)), none⟩])
.ret) .skip))))
(.reg [⟨(some 31), .bin .add (.t 10) (.c (.int .i64 (.ofNat 1))), none⟩, ⟨(some 10), .mov (.t 31), none⟩])))))))
(.seq (.reg [⟨(some 2), .mov (.c (.bool true)), none⟩])
.ret))))⟩
theorem c90_eq : compFn Try.prog 90 = some c90 := by kernel_rfl
noncomputable def c91 : FnI := ⟨27, [.cell 4 true 10, .tmp 5],
(.seq (.reg [⟨(some 4), .alloc [(.str []), (.int .i64 (.ofNat 0)), (.str []), (.str []), .nilsl, (.int .i64 (.ofNat 0)), (.int .u64 (.ofNat 0)), (.int .u64 (.ofNat 0)), (.int .u64 (.ofNat 0)), (.int .u64 (.ofNat 0))], none⟩, ⟨(some 5), .mov (.c (.bool false)), none⟩])
(.seq (.seq (.reg [⟨(some 8), .mov (.t 0), none⟩, ⟨(some 9), .call 85 [(.t 8)], none⟩])
(.cond (.t 9) (.seq (.reg [⟨(some 10), .build [(.str []), (.int .i64 (.ofNat 0)), (.str []), (.str []), .nilsl, (.int .i64 (.ofNat 0)), (.int .u64 (.ofNat 0)), (.int .u64 (.ofNat 0)), (.int .u64 (.ofNat 0)), (.int .u64 (.ofNat 0))] [], none⟩, ⟨none, .store 10 (.t 4) (.t 10), none⟩, ⟨(some 5), .mov (.c (.bool false)), none⟩])
.ret) .skip))
(.seq (.reg [⟨(some 12), .mov (.t 0), none⟩, ⟨(some 13), .mov (.t 1), none⟩, ⟨(some 14), .call 86 [(.t 12), (.t 13)], none⟩, ⟨(some 11), .mov (.t 14), none⟩, ⟨(some 15), .extract (.t 11) 0, none⟩, ⟨(some 16), .extract (.t 11) 1, none⟩, ⟨(some 6), .mov (.t 15), none⟩, ⟨(some 7), .mov (.t 16), none⟩])
(.seq (.seq (.reg [⟨(some 17), .mov (.t 7), none⟩, ⟨(some 18), .un .not (.t 17), none⟩])
(.cond (.t 18) (.seq (.reg [⟨(some 19), .build [(.str []), (.int .i64 (.ofNat 0)), (.str []), (.str []), .nilsl, (.int .i64 (.ofNat 0)), (.int .u64 (.ofNat 0)), (.int .u64 (.ofNat 0)), (.int .u64 (.ofNat 0)), (.int .u64 (.ofNat 0))] [], none⟩, ⟨none, .store 10 (.t 4) (.t 19), none⟩, ⟨(some 5), .mov (.c (.bool false)), none⟩])
.ret) .skip))
(.seq (.reg [⟨(some 20), .mov (.t 0), none⟩, ⟨(some 21), .nilchk (.t 20), none⟩, ⟨(some 22), .faddr 1 (.t 21), none⟩, ⟨(some 23), .load false 1 (.t 22), none⟩, ⟨(some 24), .mov (.t 6), none⟩, ⟨(some 25), .idxS 10 (.t 23) (.t 24), none⟩, ⟨(some 26), .load true 10 (.t 25), none⟩, ⟨none, .store 10 (.t 4) (.t 26), none⟩, ⟨(some 5), .mov (.c (.bool true)), none⟩])
.ret)))))⟩
theorem c91_eq : compFn Try.prog 91 = some c91 := by kernel_rfl
noncomputable def c92 : FnI := ⟨12, [.tmp 2],
(.seq (.reg [⟨(some 2), .mov (.c (.bool false)), none⟩])
(.seq (.reg [⟨(some 3), .mov (.t 0), none⟩, ⟨(some 4), .eq false .ptr (.t 3) (.c .nilp), none⟩, ⟨(some 5), .mov (.t 4), none⟩, ⟨(some 6), .mov (.t 0), (some (5, false))⟩, ⟨(some 7), .nilchk (.t 6), (some (5, false))⟩, ⟨(some 8), .faddr 0 (.t 7), (some (5, false))⟩, ⟨(some 9), .load false 1 (.t 8), (some (5, false))⟩, ⟨(some 10), .bin .eql (.t 9) (.c (.int .i64 (.ofNat 0))), (some (5, false))⟩, ⟨(some 11), .pick (.t 5) (.c (.bool true)) (.t 10), none⟩, ⟨(some 2), .mov (.t 11), none⟩])
.ret))⟩
theorem c92_eq : compFn Try.prog 92 = some c92 := by kernel_rfl
noncomputable def c93 : FnI := ⟨34, [.tmp 4, .tmp 5],
(.seq (.reg [⟨(some 2), .box (.t 0), none⟩, ⟨(some 3), .box (.t 1), none⟩, ⟨(some 4), .mov (.c (.int .i64 (.ofNat 0))), none⟩, ⟨(some 5), .mov (.c (.bool false)), none⟩])
(.seq (.reg [⟨(some 7), .load false 1 (.t 2), none⟩, ⟨(some 8), .nilchk (.t 7), none⟩, ⟨(some 9), .faddr 1 (.t 8), none⟩, ⟨(some 10), .load false 1 (.t 9), none⟩, ⟨(some 11), .len false (.t 10), none⟩, ⟨(some 12), .mkfn 122 [] [(.t 2), (.t 3)], none⟩, ⟨(some 13), .call 113 [(.t 11), (.t 12)], none⟩, ⟨(some 6), .mov (.t 13), none⟩])
(.seq (.dreg [⟨⟨(some 14), .mov (.t 6), none⟩, .quiet, 0, 0⟩, ⟨⟨(some 15), .mov (.t 6), none⟩, .quiet, 1, 0⟩, ⟨⟨(some 16), .load false 1 (.t 2), none⟩, .load, 2, 0⟩, ⟨⟨(some 17), .nilchk (.t 16), none⟩, .quiet, 3, 4⟩, ⟨⟨(some 18), .faddr 1 (.t 17), none⟩, .quiet, 4, 12⟩, ⟨⟨(some 19), .load false 1 (.t 18), none⟩, .load, 5, 28⟩, ⟨⟨(some 20), .len false (.t 19), none⟩, .quiet, 6, 60⟩, ⟨⟨(some 21), .bin .lss (.t 15) (.t 20), none⟩, .quiet, 7, 126⟩, ⟨⟨(some 22), .mov (.t 21), none⟩, .quiet, 8, 254⟩, ⟨⟨(some 23), .load false 1 (.t 2), (some (22, true))⟩, .load, 9, 510⟩, ⟨⟨(some 24), .nilchk (.t 23), (some (22, true))⟩, .quiet, 10, 1022⟩, ⟨⟨(some 25), .faddr 1 (.t 24), (some (22, true))⟩, .quiet, 11, 2046⟩, ⟨⟨(some 26), .load false 1 (.t 25), (some (22, true))⟩, .load, 12, 4094⟩, ⟨⟨(some 27), .mov (.t 6), (some (22, true))⟩, .quiet, 13, 510⟩, ⟨⟨(some 28), .idxS 10 (.t 26) (.t 27), (some (22, true))⟩, .quiet, 14, 16382⟩, ⟨⟨(some 29), .faddr 0 (.t 28), (some (22, true))⟩, .quiet, 15, 32766⟩, ⟨⟨(some 30), .load false 1 (.t 29), (some (22, true))⟩, .load, 16, 65534⟩, ⟨⟨(some 31), .load false 1 (.t 3), (some (22, true))⟩, .load, 17, 510⟩, ⟨⟨(some 32), .bin .eql (.t 30) (.t 31), (some (22, true))⟩, .quiet, 18, 262142⟩, ⟨⟨(some 33), .pick (.t 22) (.t 32) (.c (.bool false)), none⟩, .quiet, 19, 524286⟩, ⟨⟨(some 4), .mov (.t 14), none⟩, .quiet, 20, 511⟩, ⟨⟨(some 5), .mov (.t 33), none⟩, .quiet, 21, 2097151⟩])
.ret)))⟩
theorem c93_eq : compFn Try.prog 93 = some c93 := by kernel_rfl
noncomputable def c94 : FnI := ⟨16, [],
(.seq (.reg [⟨(some 4), .mov (.t 0), none⟩, ⟨(some 5), .call 92 [(.t 4)], none⟩, ⟨(some 6), .un .not (.t 5), none⟩])
(.cond (.t 6) (.reg [⟨(some 7), .mov (.t 0), none⟩, ⟨(some 8), .mov (.t 0), none⟩, ⟨(some 9), .nilchk (.t 8), none⟩, ⟨(some 10), .faddr 2 (.t 9), none⟩, ⟨(some 11), .load false 1 (.t 10), none⟩, ⟨(some 12), .mov (.t 1), none⟩, ⟨(some 13), .mm true (.t 11) [(.t 12)], none⟩, ⟨(some 14), .nilchk (.t 7), none⟩, ⟨(some 15), .faddr 2 (.t 14), none⟩, ⟨none, .store 1 (.t 15) (.t 13), none⟩]) .skip))⟩
theorem c94_eq : compFn Try.prog 94 = some c94 := by kernel_rfl
noncomputable def c96 : FnI := ⟨11, [.tmp 2],
(.seq (.reg [⟨(some 2), .mov (.c .nilsl), none⟩])
(.seq (.seq (.reg [⟨(some 3), .mov (.t 0), none⟩, ⟨(some 4), .call 85 [(.t 3)], none⟩])
(.cond (.t 4) (.seq (.reg [⟨(some 2), .mov (.c .nilsl), none⟩])
.ret) .skip))
(.seq (.reg [⟨(some 5), .buildSl 10 0 [] [], none⟩, ⟨(some 6), .mov (.t 0), none⟩, ⟨(some 7), .nilchk (.t 6), none⟩, ⟨(some 8), .faddr 1 (.t 7), none⟩, ⟨(some 9), .load false 1 (.t 8), none⟩, ⟨(some 10), .append 10 120 (.t 5) (.t 9), none⟩, ⟨(some 2), .mov (.t 10), none⟩])
.ret)))⟩
theorem c96_eq : compFn Try.prog 96 = some c96 := by kernel_rfl
noncomputable def c97 : FnI := ⟨11, [.tmp 2],
(.seq (.reg [⟨(some 2), .mov (.c .nilsl), none⟩])
(.seq (.seq (.reg [⟨(some 3), .mov (.t 0), none⟩, ⟨(some 4), .call 92 [(.t 3)], none⟩])
(.cond (.t 4) (.seq (.reg [⟨(some 2), .mov (.c .nilsl), none⟩])
.ret) .skip))
(.seq (.reg [⟨(some 5), .buildSl 10 0 [] [], none⟩, ⟨(some 6), .mov (.t 0), none⟩, ⟨(some 7), .nilchk (.t 6), none⟩, ⟨(some 8), .faddr 1 (.t 7), none⟩, ⟨(some 9), .load false 1 (.t 8), none⟩, ⟨(some 10), .append 10 112 (.t 5) (.t 9), none⟩, ⟨(some 2), .mov (.t 10), none⟩])
.ret)))⟩
theorem c97_eq : compFn Try.prog 97 = some c97 := by kernel_rfl
noncomputable def c98 : FnI := ⟨8, [.tmp 2],
(.seq (.reg [⟨(some 2), .mov (.c .nilp), none⟩])
(.seq (.reg [⟨(some 3), .mov (.t 0), none⟩, ⟨(some 4), .mm true (.t 3) [(.c (.int .i64 (.ofNat 1)))], none⟩, ⟨(some 5), .mm false (.t 4) [(.c (.int .i64 (.ofNat 64)))], none⟩, ⟨(some 6), .build [(.int .i64 (.ofNat 0)), .nilsl, (.int .u64 (.ofNat 0))] [(0, 1, (.t 5))], none⟩, ⟨(some 7), .box (.t 6), none⟩, ⟨(some 2), .mov (.t 7), none⟩])
.ret))⟩
theorem c98_eq : compFn Try.prog 98 = some c98 := by kernel_rfl
noncomputable def c99 : FnI := ⟨8, [.tmp 2],
(.seq (.reg [⟨(some 2), .mov (.c .nilp), none⟩])
(.seq (.reg [⟨(some 3), .mov (.t 0), none⟩, ⟨(some 4), .mm true (.t 3) [(.c (.int .i64 (.ofNat 1)))], none⟩, ⟨(some 5), .mm false (.t 4) [(.c (.int .i64 (.ofNat 64)))], none⟩, ⟨(some 6), .build [(.int .i64 (.ofNat 0)), .nilsl, (.int .u64 (.ofNat 0))] [(0, 1, (.t 5))], none⟩, ⟨(some 7), .box (.t 6), none⟩, ⟨(some 2), .mov (.t 7), none⟩])
.ret))⟩
theorem c99_eq : compFn Try.prog 99 = some c99 := by kernel_rfl
noncomputable def c100 : FnI := ⟨8, [.tmp 2],
(.seq (.reg [⟨(some 2), .mov (.c .nilp), none⟩])
(.seq (.reg [⟨(some 3), .mov (.t 0), none⟩, ⟨(some 4), .mm true (.t 3) [(.c (.int .i64 (.ofNat 1)))], none⟩, ⟨(some 5), .mm false (.t 4) [(.c (.int .i64 (.ofNat 64)))], none⟩, ⟨(some 6), .build [(.int .i64 (.ofNat 0)), .nilsl, (.int .u64 (.ofNat 0))] [(0, 1, (.t 5))], none⟩, ⟨(some 7), .box (.t 6), none⟩, ⟨(some 2), .mov (.t 7), none⟩])
.ret))⟩
theorem c100_eq : compFn Try.prog 100 = some c100 := by kernel_rfl
noncomputable def c113 : FnI := ⟨26, [.tmp 4],
(.seq (.reg [⟨(some 4), .mov (.c (.int .i64 (.ofNat 0))), none⟩])
(.seq (.reg [⟨(some 8), .mov (.t 0), none⟩, ⟨(some 5), .mov (.c (.int .i64 (.ofNat 0))), none⟩, ⟨(some 6), .mov (.t 8), none⟩])
(.seq (.block 0 (.loop (.seq (.seq (.reg [⟨(some 9), .mov (.t 5), none⟩, ⟨(some 10), .mov (.t 6), none⟩, ⟨(some 11), .bin .lss (.t 9) (.t 10), none⟩])
(.cond (.t 11) .skip (.exit 0)))
(.block 1 (.seq (.reg [⟨(some 12), .mov (.t 5), none⟩, ⟨(some 13), .mov (.t 6), none⟩, ⟨(some 14), .bin .add (.t 12) (.t 13), none⟩, ⟨(some 15), .cvInt .u64 (.t 14), none⟩, ⟨(some 16), .bin .shr (.t 15) (.c (.int .u64 (.ofNat 1))), none⟩, ⟨(some 17), .cvInt .i64 (.t 16), none⟩, ⟨(some 7), .mov (.t 17), none⟩])
(.seq (.reg [⟨(some 18), .mov (.t 1), none⟩, ⟨(some 19), .mov (.t 7), none⟩, ⟨(some 20), .callv (.t 18) [(.t 19)], none⟩, ⟨(some 21), .un .not (.t 20), none⟩])
(.cond (.t 21) (.reg [⟨(some 22), .mov (.t 7), none⟩, ⟨(some 23), .bin .add (.t 22) (.c (.int .i64 (.ofNat 1))), none⟩, ⟨(some 5), .mov (.t 23), none⟩]) (.reg [⟨(some 24), .mov (.t 7), none⟩, ⟨(some 6), .mov (.t 24), none⟩]))))))))
(.seq (.reg [⟨(some 25), .mov (.t 5), none⟩, ⟨(some 4), .mov (.t 25), none⟩])
.ret))))⟩
theorem c113_eq : compFn Try.prog 113 = some c113 := by kernel_rfl
noncomputable def c114 : FnI := ⟨15, [.tmp 4],
(.seq (.reg [⟨(some 4), .mov (.c (.bool false)), none⟩])
(.seq (.dreg [⟨⟨(some 5), .load false 1 (.t 1), none⟩, .load, 0, 0⟩, ⟨⟨(some 6), .nilchk (.t 5), none⟩, .quiet, 1, 1⟩, ⟨⟨(some 7), .faddr 1 (.t 6), none⟩, .quiet, 2, 3⟩, ⟨⟨(some 8), .load false 1 (.t 7), none⟩, .load, 3, 7⟩, ⟨⟨(some 9), .mov (.t 0), none⟩, .quiet, 4, 0⟩, ⟨⟨(some 10), .idxS 7 (.t 8) (.t 9), none⟩, .quiet, 5, 31⟩, ⟨⟨(some 11), .faddr 0 (.t 10), none⟩, .quiet, 6, 63⟩, ⟨⟨(some 12), .load false 1 (.t 11), none⟩, .load, 7, 127⟩, ⟨⟨(some 13), .load false 1 (.t 2), none⟩, .load, 8, 0⟩, ⟨⟨(some 14), .bin .geq (.t 12) (.t 13), none⟩, .quiet, 9, 511⟩, ⟨⟨(some 4), .mov (.t 14), none⟩, .quiet, 10, 1023⟩])
.ret))⟩
theorem c114_eq : compFn Try.prog 114 = some c114 := by kernel_rfl
noncomputable def c116 : FnI := ⟨15, [.tmp 4],
(.seq (.reg [⟨(some 4), .mov (.c (.bool false)), none⟩])
(.seq (.dreg [⟨⟨(some 5), .load false 1 (.t 1), none⟩, .load, 0, 0⟩, ⟨⟨(some 6), .nilchk (.t 5), none⟩, .quiet, 1, 1⟩, ⟨⟨(some 7), .faddr 1 (.t 6), none⟩, .quiet, 2, 3⟩, ⟨⟨(some 8), .load false 1 (.t 7), none⟩, .load, 3, 7⟩, ⟨⟨(some 9), .mov (.t 0), none⟩, .quiet, 4, 0⟩, ⟨⟨(some 10), .idxS 10 (.t 8) (.t 9), none⟩, .quiet, 5, 31⟩, ⟨⟨(some 11), .faddr 0 (.t 10), none⟩, .quiet, 6, 63⟩, ⟨⟨(some 12), .load false 1 (.t 11), none⟩, .load, 7, 127⟩, ⟨⟨(some 13), .load false 1 (.t 2), none⟩, .load, 8, 0⟩, ⟨⟨(some 14), .bin .geq (.t 12) (.t 13), none⟩, .quiet, 9, 511⟩, ⟨⟨(some 4), .mov (.t 14), none⟩, .quiet, 10, 1023⟩])
.ret))⟩
theorem c116_eq : compFn Try.prog 116 = some c116 := by kernel_rfl
noncomputable def c119 : FnI := ⟨18, [.tmp 4],
(.seq (.reg [⟨(some 4), .mov (.c (.bool false)), none⟩])
(.seq (.seq (.reg [⟨(some 6), .mov (.t 0), none⟩, ⟨(some 7), .len true (.t 6), none⟩, ⟨(some 8), .mov (.c (.int .i64 (.ofNat 0))), none⟩])
(.block 0 (.loop (.seq (.reg [⟨(some 9), .bin .lss (.t 8) (.t 7), none⟩])
(.seq (.cond (.t 9) .skip (.exit 0))
(.seq (.block 1 (.seq (.reg [⟨(some 10), .mov (.t 8), none⟩, ⟨(some 5), .mov (.t 10), none⟩])
(.seq (.reg [⟨(some 11), .mov (.t 1), none⟩, ⟨(some 12), .mov (.t 0), none⟩, ⟨(some 13), .mov (.t 5), none⟩, ⟨(some 14), .idxStr (.t 12) (.t 13), none⟩, ⟨(some 15), .callv (.t 11) [(.t 14)], none⟩, ⟨(some 16), .un .not (.t 15), none⟩])
(.cond (.t 16) (.seq (.reg [⟨(some 4), .mov (.c (.bool false)), none⟩])
.ret) .skip))))
(.reg [⟨(some 17), .bin .add (.t 8) (.c (.int .i64 (.ofNat 1))), none⟩, ⟨(some 8), .mov (.t 17), none⟩])))))))
(.seq (.reg [⟨(some 4), .mov (.c (.bool true)), none⟩])
.ret)))⟩
theorem c119_eq : compFn Try.prog 119 = some c119 := by kernel_rfl
noncomputable def c120 : FnI := ⟨9, [.tmp 2],
(.seq (.reg [⟨(some 2), .mov (.c (.bool false)), none⟩])
(.seq (.reg [⟨(some 3), .mov (.t 0), none⟩, ⟨(some 4), .call 121 [(.t 3)], none⟩, ⟨(some 5), .mov (.t 4), none⟩, ⟨(some 6), .mov (.t 0), (some (5, false))⟩, ⟨(some 7), .bin .eql (.t 6) (.c (.int .u8 (.ofNat 45))), (some (5, false))⟩, ⟨(some 8), .pick (.t 5) (.c (.bool true)) (.t 7), none⟩, ⟨(some 2), .mov (.t 8), none⟩])
.ret))⟩
theorem c120_eq : compFn Try.prog 120 = some c120 := by kernel_rfl
noncomputable def c121 : FnI := ⟨17, [.tmp 2],
(.seq (.reg [⟨(some 2), .mov (.c (.bool false)), none⟩])
(.seq (.reg [⟨(some 3), .mov (.t 0), none⟩, ⟨(some 4), .bin .geq (.t 3) (.c (.int .u8 (.ofNat 97))), none⟩, ⟨(some 5), .mov (.t 4), none⟩, ⟨(some 6), .mov (.t 0), (some (5, true))⟩, ⟨(some 7), .bin .leq (.t 6) (.c (.int .u8 (.ofNat 122))), (some (5, true))⟩, ⟨(some 8), .pick (.t 5) (.t 7) (.c (.bool false)), none⟩, ⟨(some 9), .mov (.t 8), none⟩, ⟨(some 10), .mov (.t 0), (some (9, false))⟩, ⟨(some 11), .bin .geq (.t 10) (.c (.int .u8 (.ofNat 48))), (some (9, false))⟩, ⟨(some 12), .mov (.t 11), (some (9, false))⟩, ⟨(some 13), .mov (.t 0), (some (12, true))⟩, ⟨(some 14), .bin .leq (.t 13) (.c (.int .u8 (.ofNat 57))), (some (12, true))⟩, ⟨(some 15), .pick (.t 12) (.t 14) (.c (.bool false)), (some (9, false))⟩, ⟨(some 16), .pick (.t 9) (.c (.bool true)) (.t 15), none⟩, ⟨(some 2), .mov (.t 16), none⟩])
.ret))⟩
theorem c121_eq : compFn Try.prog 121 = some c121 := by kernel_rfl
end Go.Proofs.Ythjmnmbmkpefbaa.Abs
