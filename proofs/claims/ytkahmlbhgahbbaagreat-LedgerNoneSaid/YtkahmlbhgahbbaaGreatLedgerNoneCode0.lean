/- The functions' code, as the evaluator takes it (part 0), and that it is what the evaluator's compiler makes of the program. -/
import Derived.Test.YtkahmlbhgahbbaaGreatAbsK
import Derived.Test.YtkahmlbhgahbbaaGreatRows
set_option maxRecDepth 100000
namespace Go.Proofs.YtkahmlbhgahbbaaGreat.AbsLedgerNone
open Go.Proofs.YtkahmlbhgahbbaaGreat.Abs
noncomputable def c3 : FnI := ⟨96, [.tmp 4],
(.seq (.reg [⟨(some 2), .box (.t 0), none⟩, ⟨(some 4), .mov (.c (.bool false)), none⟩])
(.seq (.reg [⟨(some 5), .mov (.c .nilp), none⟩])
(.seq (.reg [⟨(some 13), .mov (.t 5), none⟩, ⟨(some 14), .build [.nilp, .nilp, (.int .u64 (.ofNat 0)), (.bool false)] [], none⟩, ⟨(some 15), .box (.t 14), none⟩, ⟨(some 16), .buildSl 1 2 [.nilp, .nilp] [(0, 1, (.t 13)), (1, 1, (.t 15))], none⟩, ⟨(some 6), .mov (.t 16), none⟩])
(.seq (.seq (.reg [⟨(some 7), .mov (.c (.int .i64 (.ofNat 0))), none⟩])
(.block 0 (.loop (.seq (.seq (.reg [⟨(some 17), .mov (.t 7), none⟩, ⟨(some 18), .mov (.t 6), none⟩, ⟨(some 19), .len false (.t 18), none⟩, ⟨(some 20), .bin .lss (.t 17) (.t 19), none⟩])
(.cond (.t 20) .skip (.exit 0)))
(.seq (.block 1 (.seq (.dreg [⟨⟨(some 24), .mov (.t 6), none⟩, .quiet, 0, 0⟩, ⟨⟨(some 25), .mov (.t 7), none⟩, .quiet, 1, 0⟩, ⟨⟨(some 26), .idxS 1 (.t 24) (.t 25), none⟩, .quiet, 2, 3⟩, ⟨⟨(some 27), .load false 1 (.t 26), none⟩, .load, 3, 7⟩, ⟨⟨(some 28), .load true 19 (.t 2), none⟩, .load, 4, 0⟩, ⟨⟨(some 29), .call 4 [(.t 27), (.t 28)], none⟩, .loud, 5, 31⟩, ⟨⟨(some 23), .mov (.t 29), none⟩, .quiet, 6, 63⟩, ⟨⟨(some 30), .extract (.t 23) 0, none⟩, .quiet, 7, 127⟩, ⟨⟨(some 8), .alloc [(.int .i64 (.ofNat 0)), (.int .u64 (.ofNat 0)), (.int .i64 (.ofNat 0))], none⟩, .quiet, 10, 0⟩, ⟨⟨none, .store 3 (.t 8) (.t 30), none⟩, .loud, 11, 1279⟩, ⟨⟨(some 31), .extract (.t 23) 1, none⟩, .quiet, 8, 127⟩, ⟨⟨(some 32), .extract (.t 23) 2, none⟩, .quiet, 9, 127⟩, ⟨⟨(some 9), .mov (.t 31), none⟩, .quiet, 12, 3583⟩, ⟨⟨(some 10), .mov (.t 32), none⟩, .quiet, 13, 8191⟩])
(.seq (.reg [⟨(some 33), .load true 3 (.t 8), none⟩, ⟨(some 34), .build [(.int .i64 (.ofNat 0)), (.int .u64 (.ofNat 0)), (.int .i64 (.ofNat 0))] [], none⟩, ⟨(some 35), .eq true (.str0 [(0, 1, false), (1, 1, false), (2, 1, false)] [.int, .int, .int]) (.t 33) (.t 34), none⟩, ⟨(some 36), .mov (.t 35), none⟩, ⟨(some 37), .mov (.t 9), (some (36, false))⟩, ⟨(some 38), .pick (.t 36) (.c (.bool true)) (.t 37), none⟩, ⟨(some 39), .mov (.t 38), none⟩, ⟨(some 40), .mov (.t 10), (some (39, false))⟩, ⟨(some 41), .bin .neq (.t 40) (.c (.int .i64 (.ofNat 1))), (some (39, false))⟩, ⟨(some 42), .pick (.t 39) (.c (.bool true)) (.t 41), none⟩, ⟨(some 43), .mov (.t 42), none⟩, ⟨(some 44), .mov (.t 6), (some (43, false))⟩, ⟨(some 45), .mov (.t 7), (some (43, false))⟩, ⟨(some 46), .idxS 1 (.t 44) (.t 45), (some (43, false))⟩, ⟨(some 47), .load false 1 (.t 46), (some (43, false))⟩, ⟨(some 48), .call 5 [(.t 47)], (some (43, false))⟩, ⟨(some 49), .bin .neq (.t 48) (.c (.int .i64 (.ofNat 1))), (some (43, false))⟩, ⟨(some 50), .pick (.t 43) (.c (.bool true)) (.t 49), none⟩, ⟨(some 51), .mov (.t 50), none⟩, ⟨(some 52), .mov (.t 6), (some (51, false))⟩, ⟨(some 53), .mov (.t 7), (some (51, false))⟩, ⟨(some 54), .idxS 1 (.t 52) (.t 53), (some (51, false))⟩, ⟨(some 55), .load false 1 (.t 54), (some (51, false))⟩, ⟨(some 56), .call 6 [(.t 55)], (some (51, false))⟩, ⟨(some 57), .eq true .ptr (.t 56) (.c .nilp), (some (51, false))⟩, ⟨(some 58), .pick (.t 51) (.c (.bool true)) (.t 57), none⟩, ⟨(some 59), .mov (.t 58), none⟩, ⟨(some 60), .mov (.t 6), (some (59, false))⟩, ⟨(some 61), .mov (.t 7), (some (59, false))⟩, ⟨(some 62), .idxS 1 (.t 60) (.t 61), (some (59, false))⟩, ⟨(some 63), .load false 1 (.t 62), (some (59, false))⟩, ⟨(some 64), .call 7 [(.t 63)], (some (59, false))⟩, ⟨(some 65), .bin .neq (.t 64) (.c (.int .u64 (.ofNat 0))), (some (59, false))⟩, ⟨(some 66), .pick (.t 59) (.c (.bool true)) (.t 65), none⟩, ⟨(some 67), .mov (.t 66), none⟩, ⟨(some 68), .mov (.t 6), (some (67, false))⟩, ⟨(some 69), .mov (.t 7), (some (67, false))⟩, ⟨(some 70), .idxS 1 (.t 68) (.t 69), (some (67, false))⟩, ⟨(some 71), .load false 1 (.t 70), (some (67, false))⟩, ⟨(some 72), .call 8 [(.t 71)], (some (67, false))⟩, ⟨(some 73), .bin .neq (.t 72) (.c (.int .u64 (.ofNat 0))), (some (67, false))⟩, ⟨(some 74), .pick (.t 67) (.c (.bool true)) (.t 73), none⟩, ⟨(some 75), .mov (.t 74), none⟩, ⟨(some 76), .mov (.t 6), (some (75, false))⟩, ⟨(some 77), .mov (.t 7), (some (75, false))⟩, ⟨(some 78), .idxS 1 (.t 76) (.t 77), (some (75, false))⟩, ⟨(some 79), .load false 1 (.t 78), (some (75, false))⟩, ⟨(some 80), .call 9 [(.t 79)], (some (75, false))⟩, ⟨(some 81), .pick (.t 75) (.c (.bool true)) (.t 80), none⟩])
(.cond (.t 81) (.seq (.reg [⟨(some 4), .mov (.c (.bool false)), none⟩])
.ret) .skip))))
(.reg [⟨(some 21), .mov (.t 7), none⟩, ⟨(some 22), .bin .add (.t 21) (.c (.int .i64 (.ofNat 1))), none⟩, ⟨(some 7), .mov (.t 22), none⟩]))))))
(.seq (.reg [⟨(some 83), .mov (.t 1), none⟩, ⟨(some 84), .call 10 [(.c .nilp), (.t 83)], none⟩, ⟨(some 82), .mov (.t 84), none⟩, ⟨(some 85), .extract (.t 82) 0, none⟩, ⟨(some 86), .extract (.t 82) 1, none⟩, ⟨(some 11), .mov (.t 85), none⟩, ⟨(some 12), .mov (.t 86), none⟩])
(.seq (.reg [⟨(some 87), .mov (.t 11), none⟩, ⟨(some 88), .eq false .ptr (.t 87) (.c .nilp), none⟩, ⟨(some 89), .mov (.t 88), none⟩, ⟨(some 90), .mov (.t 12), (some (89, true))⟩, ⟨(some 91), .bin .eql (.t 90) (.c (.int .i64 (.ofNat 1))), (some (89, true))⟩, ⟨(some 92), .pick (.t 89) (.t 91) (.c (.bool false)), none⟩, ⟨(some 93), .mov (.t 92), none⟩, ⟨(some 94), .call 11 [], (some (93, true))⟩, ⟨(some 95), .pick (.t 93) (.t 94) (.c (.bool false)), none⟩, ⟨(some 4), .mov (.t 95), none⟩])
.ret))))))⟩
theorem c3_eq : compFn Tryz.prog 3 = some c3 := by kernel_rfl
noncomputable def c4 : FnI := ⟨62, [.cell 4 true 3, .cell 5 false 1, .cell 6 false 1],
(.seq (.reg [⟨(some 2), .box (.t 0), none⟩, ⟨(some 3), .box (.t 1), none⟩, ⟨(some 4), .alloc [(.int .i64 (.ofNat 0)), (.int .u64 (.ofNat 0)), (.int .i64 (.ofNat 0))], none⟩, ⟨(some 5), .alloc [(.bool false)], none⟩, ⟨(some 6), .alloc [(.int .i64 (.ofNat 0))], none⟩])
(.seq (.seq (.reg [⟨(some 9), .load false 1 (.t 2), none⟩, ⟨(some 10), .call 12 [(.t 9)], none⟩])
(.cond (.t 10) (.seq (.reg [⟨(some 11), .build [(.int .i64 (.ofNat 0)), (.int .u64 (.ofNat 0)), (.int .i64 (.ofNat 0))] [], none⟩, ⟨none, .store 3 (.t 4) (.t 11), none⟩, ⟨none, .store 1 (.t 5) (.c (.bool false)), none⟩, ⟨none, .store 1 (.t 6) (.c (.int .i64 (.ofNat 1))), none⟩])
.ret) .skip))
(.seq (.seq (.reg [⟨(some 12), .load false 1 (.t 2), none⟩, ⟨(some 13), .nilchk (.t 12), none⟩, ⟨(some 14), .faddr 3 (.t 13), none⟩, ⟨(some 15), .load false 1 (.t 14), none⟩])
(.cond (.t 15) (.seq (.reg [⟨(some 16), .build [(.int .i64 (.ofNat 0)), (.int .u64 (.ofNat 0)), (.int .i64 (.ofNat 0))] [], none⟩, ⟨none, .store 3 (.t 4) (.t 16), none⟩, ⟨none, .store 1 (.t 5) (.c (.bool false)), none⟩, ⟨none, .store 1 (.t 6) (.c (.int .i64 (.ofNat 50))), none⟩])
.ret) .skip))
(.seq (.reg [⟨(some 17), .load false 1 (.t 2), none⟩, ⟨(some 18), .nilchk (.t 17), none⟩, ⟨(some 19), .faddr 0 (.t 18), none⟩, ⟨(some 20), .faddr 0 (.t 19), none⟩, ⟨(some 21), .load false 1 (.t 20), none⟩, ⟨(some 22), .call 13 [(.t 21)], none⟩, ⟨(some 23), .build [.nilp] [(0, 1, (.t 22))], none⟩, ⟨(some 7), .alloc [.nilp], none⟩, ⟨none, .store 1 (.t 7) (.t 23), none⟩])
(.seq (.reg [⟨(some 25), .faddr 0 (.t 7), none⟩, ⟨(some 26), .load false 1 (.t 25), none⟩, ⟨(some 27), .load true 19 (.t 3), none⟩, ⟨(some 28), .call 14 [(.t 26), (.t 27)], none⟩, ⟨(some 24), .mov (.t 28), none⟩, ⟨(some 29), .extract (.t 24) 0, none⟩, ⟨(some 30), .extract (.t 24) 1, none⟩, ⟨none, .store 3 (.t 4) (.t 29), none⟩, ⟨none, .store 1 (.t 5) (.t 30), none⟩])
(.seq (.seq (.reg [⟨(some 31), .faddr 0 (.t 4), none⟩, ⟨(some 32), .load false 1 (.t 31), none⟩, ⟨(some 33), .bin .neq (.t 32) (.c (.int .i64 (.ofNat 0))), none⟩, ⟨(some 34), .mov (.t 33), none⟩, ⟨(some 35), .load false 1 (.t 5), (some (34, false))⟩, ⟨(some 36), .pick (.t 34) (.c (.bool true)) (.t 35), none⟩])
(.cond (.t 36) (.seq (.dreg [⟨⟨(some 37), .load true 3 (.t 4), none⟩, .load, 0, 0⟩, ⟨⟨none, .store 3 (.t 4) (.t 37), none⟩, .loud, 2, 1⟩, ⟨⟨(some 38), .load false 1 (.t 5), none⟩, .load, 1, 0⟩, ⟨⟨none, .store 1 (.t 5) (.t 38), none⟩, .loud, 3, 7⟩, ⟨⟨none, .store 1 (.t 6) (.c (.int .i64 (.ofNat 0))), none⟩, .loud, 4, 15⟩])
.ret) .skip))
(.seq (.reg [⟨(some 40), .faddr 1 (.t 4), none⟩, ⟨(some 41), .load false 1 (.t 40), none⟩, ⟨(some 42), .load true 19 (.t 3), none⟩, ⟨(some 43), .call 15 [(.t 41), (.t 42)], none⟩, ⟨(some 39), .mov (.t 43), none⟩, ⟨(some 44), .extract (.t 39) 0, none⟩, ⟨(some 45), .extract (.t 39) 1, none⟩, ⟨(some 8), .mov (.t 44), none⟩, ⟨none, .store 1 (.t 6) (.t 45), none⟩])
(.seq (.seq (.reg [⟨(some 46), .load false 1 (.t 6), none⟩, ⟨(some 47), .bin .neq (.t 46) (.c (.int .i64 (.ofNat 0))), none⟩])
(.cond (.t 47) (.seq (.reg [⟨(some 48), .load false 1 (.t 6), none⟩, ⟨(some 49), .build [(.int .i64 (.ofNat 0)), (.int .u64 (.ofNat 0)), (.int .i64 (.ofNat 0))] [(0, 1, (.t 48))], none⟩, ⟨none, .store 3 (.t 4) (.t 49), none⟩, ⟨none, .store 1 (.t 5) (.c (.bool false)), none⟩, ⟨none, .store 1 (.t 6) (.c (.int .i64 (.ofNat 0))), none⟩])
.ret) .skip))
(.seq (.dfr [⟨(some 50), .mkfn 16 [] [(.t 4), (.t 5), (.t 6), (.t 2)], none⟩] (.t 50) 16)
(.seq (.reg [⟨(some 51), .load false 1 (.t 2), none⟩, ⟨(some 52), .mov (.t 8), none⟩, ⟨(some 53), .faddr 1 (.t 4), none⟩, ⟨(some 54), .load false 1 (.t 53), none⟩, ⟨(some 55), .call 19 [(.t 51), (.t 52), (.t 54)], none⟩, ⟨(some 56), .call 18 [(.t 55)], none⟩])
(.seq (.reg [⟨(some 57), .load false 1 (.t 2), none⟩, ⟨(some 58), .load true 1 (.t 7), none⟩, ⟨(some 59), .nilchk (.t 57), none⟩, ⟨(some 60), .faddr 0 (.t 59), none⟩, ⟨none, .store 1 (.t 60) (.t 58), none⟩])
(.seq (.reg [⟨(some 61), .load true 3 (.t 4), none⟩, ⟨none, .store 3 (.t 4) (.t 61), none⟩, ⟨none, .store 1 (.t 5) (.c (.bool false)), none⟩, ⟨none, .store 1 (.t 6) (.c (.int .i64 (.ofNat 0))), none⟩])
.ret))))))))))))⟩
theorem c4_eq : compFn Tryz.prog 4 = some c4 := by kernel_rfl
noncomputable def c5 : FnI := ⟨30, [.cell 2 false 1],
(.seq (.reg [⟨(some 1), .box (.t 0), none⟩, ⟨(some 2), .alloc [(.int .i64 (.ofNat 0))], none⟩])
(.seq (.seq (.reg [⟨(some 3), .load false 1 (.t 1), none⟩, ⟨(some 4), .call 12 [(.t 3)], none⟩])
(.cond (.t 4) (.seq (.reg [⟨none, .store 1 (.t 2) (.c (.int .i64 (.ofNat 1))), none⟩])
.ret) .skip))
(.seq (.seq (.reg [⟨(some 5), .load false 1 (.t 1), none⟩, ⟨(some 6), .nilchk (.t 5), none⟩, ⟨(some 7), .faddr 3 (.t 6), none⟩, ⟨(some 8), .load false 1 (.t 7), none⟩])
(.cond (.t 8) (.seq (.reg [⟨none, .store 1 (.t 2) (.c (.int .i64 (.ofNat 50))), none⟩])
.ret) .skip))
(.seq (.dfr [⟨(some 9), .mkfn 20 [] [(.t 2), (.t 1)], none⟩] (.t 9) 20)
(.seq (.reg [⟨(some 10), .load false 1 (.t 1), none⟩, ⟨(some 11), .call 22 [(.t 10)], none⟩])
(.seq (.reg [⟨(some 12), .load false 1 (.t 1), none⟩, ⟨(some 13), .nilchk (.t 12), none⟩, ⟨(some 14), .faddr 1 (.t 13), none⟩, ⟨(some 15), .load false 1 (.t 14), none⟩, ⟨(some 16), .call 23 [(.t 15), (.c (.int .i64 (.ofNat 2)))], none⟩, ⟨(some 17), .call 18 [(.t 16)], none⟩])
(.seq (.reg [⟨(some 18), .load false 1 (.t 1), none⟩, ⟨(some 19), .nilchk (.t 18), none⟩, ⟨(some 20), .faddr 1 (.t 19), none⟩, ⟨(some 21), .load false 1 (.t 20), none⟩, ⟨(some 22), .call 24 [(.t 21), (.c (.int .i64 (.ofNat 2))), (.c (.int .i64 (.ofNat 1)))], none⟩, ⟨(some 23), .call 18 [(.t 22)], none⟩])
(.seq (.reg [⟨(some 24), .load false 1 (.t 1), none⟩, ⟨(some 25), .nilchk (.t 24), none⟩, ⟨(some 26), .faddr 1 (.t 25), none⟩, ⟨(some 27), .load false 1 (.t 26), none⟩, ⟨(some 28), .call 21 [(.t 27), (.c (.int .i64 (.ofNat 0))), (.c (.int .i64 (.ofNat 0)))], none⟩, ⟨(some 29), .call 18 [(.t 28)], none⟩])
(.seq (.reg [⟨none, .store 1 (.t 2) (.c (.int .i64 (.ofNat 0))), none⟩])
.ret)))))))))⟩
theorem c5_eq : compFn Tryz.prog 5 = some c5 := by kernel_rfl
noncomputable def c6 : FnI := ⟨11, [.tmp 2],
(.seq (.reg [⟨(some 2), .mov (.c .nilp), none⟩])
(.seq (.seq (.reg [⟨(some 3), .mov (.t 0), none⟩, ⟨(some 4), .call 12 [(.t 3)], none⟩])
(.cond (.t 4) (.seq (.reg [⟨(some 2), .mov (.c .nilp), none⟩])
.ret) .skip))
(.seq (.reg [⟨(some 5), .mov (.t 0), none⟩, ⟨(some 6), .nilchk (.t 5), none⟩, ⟨(some 7), .faddr 0 (.t 6), none⟩, ⟨(some 8), .faddr 0 (.t 7), none⟩, ⟨(some 9), .load false 1 (.t 8), none⟩, ⟨(some 10), .call 13 [(.t 9)], none⟩, ⟨(some 2), .mov (.t 10), none⟩])
.ret)))⟩
theorem c6_eq : compFn Tryz.prog 6 = some c6 := by kernel_rfl
noncomputable def c7 : FnI := ⟨11, [.tmp 2],
(.seq (.reg [⟨(some 2), .mov (.c (.int .u64 (.ofNat 0))), none⟩])
(.seq (.seq (.reg [⟨(some 3), .mov (.t 0), none⟩, ⟨(some 4), .call 12 [(.t 3)], none⟩])
(.cond (.t 4) (.seq (.reg [⟨(some 2), .mov (.c (.int .u64 (.ofNat 0))), none⟩])
.ret) .skip))
(.seq (.reg [⟨(some 5), .mov (.t 0), none⟩, ⟨(some 6), .nilchk (.t 5), none⟩, ⟨(some 7), .faddr 0 (.t 6), none⟩, ⟨(some 8), .faddr 0 (.t 7), none⟩, ⟨(some 9), .load false 1 (.t 8), none⟩, ⟨(some 10), .call 25 [(.t 9)], none⟩, ⟨(some 2), .mov (.t 10), none⟩])
.ret)))⟩
theorem c7_eq : compFn Tryz.prog 7 = some c7 := by kernel_rfl
noncomputable def c8 : FnI := ⟨12, [.tmp 2],
(.seq (.reg [⟨(some 2), .mov (.c (.int .u64 (.ofNat 0))), none⟩])
(.seq (.seq (.reg [⟨(some 3), .mov (.t 0), none⟩, ⟨(some 4), .call 12 [(.t 3)], none⟩])
(.cond (.t 4) (.seq (.reg [⟨(some 2), .mov (.c (.int .u64 (.ofNat 0))), none⟩])
.ret) .skip))
(.seq (.dreg [⟨⟨(some 9), .mov (.t 0), none⟩, .quiet, 4, 0⟩, ⟨⟨(some 10), .call 7 [(.t 9)], none⟩, .loud, 5, 16⟩, ⟨⟨(some 5), .mov (.t 0), none⟩, .quiet, 0, 0⟩, ⟨⟨(some 6), .nilchk (.t 5), none⟩, .quiet, 1, 1⟩, ⟨⟨(some 7), .faddr 2 (.t 6), none⟩, .quiet, 2, 3⟩, ⟨⟨(some 8), .load false 1 (.t 7), none⟩, .load, 3, 7⟩, ⟨⟨(some 11), .mm true (.t 8) [(.t 10)], none⟩, .quiet, 6, 63⟩, ⟨⟨(some 2), .mov (.t 11), none⟩, .quiet, 7, 127⟩])
.ret)))⟩
theorem c8_eq : compFn Tryz.prog 8 = some c8 := by kernel_rfl
noncomputable def c9 : FnI := ⟨12, [.tmp 2],
(.seq (.reg [⟨(some 2), .mov (.c (.bool false)), none⟩])
(.seq (.reg [⟨(some 3), .mov (.t 0), none⟩, ⟨(some 4), .call 12 [(.t 3)], none⟩, ⟨(some 5), .un .not (.t 4), none⟩, ⟨(some 6), .mov (.t 5), none⟩, ⟨(some 7), .mov (.t 0), (some (6, true))⟩, ⟨(some 8), .nilchk (.t 7), (some (6, true))⟩, ⟨(some 9), .faddr 3 (.t 8), (some (6, true))⟩, ⟨(some 10), .load false 1 (.t 9), (some (6, true))⟩, ⟨(some 11), .pick (.t 6) (.t 10) (.c (.bool false)), none⟩, ⟨(some 2), .mov (.t 11), none⟩])
.ret))⟩
theorem c9_eq : compFn Tryz.prog 9 = some c9 := by kernel_rfl
noncomputable def c10 : FnI := ⟨41, [.cell 4 false 1, .cell 5 false 1],
(.seq (.reg [⟨(some 4), .alloc [.nilp], none⟩, ⟨(some 5), .alloc [(.int .i64 (.ofNat 0))], none⟩])
(.seq (.seq (.reg [⟨(some 8), .mov (.t 0), none⟩, ⟨(some 9), .eq false .ptr (.t 8) (.c .nilp), none⟩])
(.cond (.t 9) (.seq (.reg [⟨none, .store 1 (.t 4) (.c .nilp), none⟩, ⟨none, .store 1 (.t 5) (.c (.int .i64 (.ofNat 1))), none⟩])
.ret) .skip))
(.seq (.seq (.reg [⟨(some 10), .mov (.t 0), none⟩, ⟨(some 11), .call 26 [(.t 10)], none⟩])
(.cond (.t 11) (.seq (.reg [⟨none, .store 1 (.t 4) (.c .nilp), none⟩, ⟨none, .store 1 (.t 5) (.c (.int .i64 (.ofNat 50))), none⟩])
.ret) .skip))
(.seq (.dfr [⟨(some 12), .mkfn 27 [] [(.t 4), (.t 5)], none⟩] (.t 12) 27)
(.seq (.reg [⟨(some 13), .mov (.t 0), none⟩, ⟨(some 14), .mov (.t 1), none⟩, ⟨(some 15), .call 28 [(.t 13), (.t 14)], none⟩, ⟨(some 6), .alloc [.nilp], none⟩, ⟨none, .store 1 (.t 6) (.t 15), none⟩])
(.seq (.dreg [⟨⟨(some 17), .mov (.t 0), none⟩, .quiet, 1, 0⟩, ⟨⟨(some 18), .call 30 [(.t 17), (.c (.int .i64 (.ofNat 0)))], none⟩, .loud, 2, 2⟩, ⟨⟨(some 16), .load true 1 (.t 6), none⟩, .load, 0, 0⟩, ⟨⟨(some 19), .call 29 [(.t 16), (.t 18)], none⟩, .loud, 3, 7⟩, ⟨⟨(some 7), .mov (.t 19), none⟩, .quiet, 4, 15⟩])
(.seq (.seq (.reg [⟨(some 20), .mov (.t 7), none⟩, ⟨(some 21), .mov (.t 0), none⟩, ⟨(some 22), .call 31 [(.t 21), (.c (.int .i64 (.ofNat 0)))], none⟩, ⟨(some 23), .bin .lss (.t 20) (.t 22), none⟩])
(.cond (.t 23) (.reg [⟨(some 24), .mov (.t 0), none⟩, ⟨(some 25), .mov (.t 7), none⟩, ⟨(some 26), .call 21 [(.t 24), (.c (.int .i64 (.ofNat 0))), (.t 25)], none⟩, ⟨(some 27), .call 18 [(.t 26)], none⟩]) .skip))
(.seq (.seq (.reg [⟨(some 28), .mov (.t 0), none⟩, ⟨(some 29), .call 31 [(.t 28), (.c (.int .i64 (.ofNat 2)))], none⟩, ⟨(some 30), .bin .gtr (.t 29) (.c (.int .i64 (.ofNat 0))), none⟩])
(.cond (.t 30) (.reg [⟨(some 31), .mov (.t 0), none⟩, ⟨(some 32), .call 21 [(.t 31), (.c (.int .i64 (.ofNat 2))), (.c (.int .i64 (.ofNat 0)))], none⟩, ⟨(some 33), .call 18 [(.t 32)], none⟩]) .skip))
(.seq (.dreg [⟨⟨(some 36), .faddr 0 (.t 6), none⟩, .quiet, 2, 0⟩, ⟨⟨(some 37), .load false 1 (.t 36), none⟩, .load, 3, 4⟩, ⟨⟨(some 38), .call 25 [(.t 37)], none⟩, .loud, 4, 12⟩, ⟨⟨(some 34), .load true 1 (.t 6), none⟩, .load, 0, 0⟩, ⟨⟨(some 35), .mov (.t 0), none⟩, .quiet, 1, 0⟩, ⟨⟨(some 39), .build [.nilp, .nilp, (.int .u64 (.ofNat 0)), (.bool false)] [(0, 1, (.t 34)), (1, 1, (.t 35)), (2, 1, (.t 38))], none⟩, .quiet, 5, 31⟩, ⟨⟨(some 40), .box (.t 39), none⟩, .quiet, 6, 63⟩, ⟨⟨none, .store 1 (.t 4) (.t 40), none⟩, .loud, 7, 127⟩, ⟨⟨none, .store 1 (.t 5) (.c (.int .i64 (.ofNat 0))), none⟩, .loud, 8, 255⟩])
.ret)))))))))⟩
theorem c10_eq : compFn Tryz.prog 10 = some c10 := by kernel_rfl
noncomputable def c11 : FnI := ⟨54, [.tmp 0],
(.seq (.reg [⟨(some 0), .mov (.c (.bool false)), none⟩])
(.seq (.reg [⟨(some 9), .call 32 [(.c (.int .i64 (.ofNat 9000)))], none⟩, ⟨(some 1), .mov (.t 9), none⟩])
(.seq (.reg [⟨(some 11), .mov (.t 1), none⟩, ⟨(some 12), .call 10 [(.t 11), (.c (.int .i64 (.ofNat 9)))], none⟩, ⟨(some 10), .mov (.t 12), none⟩, ⟨(some 13), .extract (.t 10) 0, none⟩, ⟨(some 14), .extract (.t 10) 1, none⟩, ⟨(some 2), .mov (.t 13), none⟩, ⟨(some 3), .mov (.t 14), none⟩])
(.seq (.reg [⟨(some 16), .mov (.t 2), none⟩, ⟨(some 17), .build [(.int .i64 (.ofNat 0)), (.int .i64 (.ofNat 0)), (.int .i64 (.ofNat 0)), (.int .i64 (.ofNat 0)), (.str []), (.str []), (.str []), (.str []), (.str []), (.str []), (.str []), (.str []), .nilsl, (.bool false), (.int .u64 (.ofNat 0)), (.int .u64 (.ofNat 0)), .nilsl] [(0, 1, (.c (.int .i64 (.ofNat 1)))), (1, 1, (.c (.int .i64 (.ofNat 2))))], none⟩, ⟨(some 18), .build [(.int .i64 (.ofNat 0)), (.int .u32 (.ofNat 0)), (.int .i64 (.ofNat 0)), (.int .i64 (.ofNat 0)), (.int .i64 (.ofNat 0)), (.int .i64 (.ofNat 0)), (.str []), (.str []), (.str []), (.str []), (.str []), (.str []), (.str []), (.str []), .nilsl, (.bool false), (.int .u64 (.ofNat 0)), (.int .u64 (.ofNat 0)), .nilsl] [(0, 1, (.c (.int .i64 (.ofNat 1)))), (1, 1, (.c (.int .u32 (.ofNat 1)))), (2, 17, (.t 17))], none⟩, ⟨(some 19), .call 4 [(.t 16), (.t 18)], none⟩, ⟨(some 15), .mov (.t 19), none⟩, ⟨(some 20), .extract (.t 15) 0, none⟩, ⟨(some 21), .extract (.t 15) 1, none⟩, ⟨(some 22), .extract (.t 15) 2, none⟩, ⟨(some 4), .alloc [(.int .i64 (.ofNat 0)), (.int .u64 (.ofNat 0)), (.int .i64 (.ofNat 0))], none⟩, ⟨none, .store 3 (.t 4) (.t 20), none⟩, ⟨(some 5), .mov (.t 21), none⟩, ⟨(some 6), .mov (.t 22), none⟩])
(.seq (.reg [⟨(some 23), .mov (.t 1), none⟩, ⟨(some 24), .call 33 [(.t 23), (.c (.int .i64 (.ofNat 0)))], none⟩])
(.seq (.reg [⟨(some 26), .mov (.t 1), none⟩, ⟨(some 27), .call 10 [(.t 26), (.c (.int .i64 (.ofNat 9)))], none⟩, ⟨(some 25), .mov (.t 27), none⟩, ⟨(some 28), .extract (.t 25) 0, none⟩, ⟨(some 29), .extract (.t 25) 1, none⟩, ⟨(some 7), .mov (.t 28), none⟩, ⟨(some 8), .mov (.t 29), none⟩])
(.seq (.reg [⟨(some 30), .mov (.t 3), none⟩, ⟨(some 31), .bin .eql (.t 30) (.c (.int .i64 (.ofNat 0))), none⟩, ⟨(some 32), .mov (.t 31), none⟩, ⟨(some 33), .mov (.t 6), (some (32, true))⟩, ⟨(some 34), .bin .eql (.t 33) (.c (.int .i64 (.ofNat 0))), (some (32, true))⟩, ⟨(some 35), .pick (.t 32) (.t 34) (.c (.bool false)), none⟩, ⟨(some 36), .mov (.t 35), none⟩, ⟨(some 37), .mov (.t 8), (some (36, true))⟩, ⟨(some 38), .bin .eql (.t 37) (.c (.int .i64 (.ofNat 0))), (some (36, true))⟩, ⟨(some 39), .pick (.t 36) (.t 38) (.c (.bool false)), none⟩, ⟨(some 40), .mov (.t 39), none⟩, ⟨(some 41), .load true 3 (.t 4), (some (40, true))⟩, ⟨(some 42), .build [(.int .i64 (.ofNat 0)), (.int .u64 (.ofNat 0)), (.int .i64 (.ofNat 0))] [(1, 1, (.c (.int .u64 (.ofNat 1))))], (some (40, true))⟩, ⟨(some 43), .eq false (.str0 [(0, 1, false), (1, 1, false), (2, 1, false)] [.int, .int, .int]) (.t 41) (.t 42), (some (40, true))⟩, ⟨(some 44), .pick (.t 40) (.t 43) (.c (.bool false)), none⟩, ⟨(some 45), .mov (.t 44), none⟩, ⟨(some 46), .mov (.t 5), (some (45, true))⟩, ⟨(some 47), .un .not (.t 46), (some (45, true))⟩, ⟨(some 48), .pick (.t 45) (.t 47) (.c (.bool false)), none⟩, ⟨(some 49), .mov (.t 48), none⟩, ⟨(some 50), .mov (.t 7), (some (49, true))⟩, ⟨(some 51), .call 7 [(.t 50)], (some (49, true))⟩, ⟨(some 52), .bin .eql (.t 51) (.c (.int .u64 (.ofNat 1))), (some (49, true))⟩, ⟨(some 53), .pick (.t 49) (.t 52) (.c (.bool false)), none⟩, ⟨(some 0), .mov (.t 53), none⟩])
.ret)))))))⟩
theorem c11_eq : compFn Tryz.prog 11 = some c11 := by kernel_rfl
noncomputable def c12 : FnI := ⟨12, [.tmp 2],
(.seq (.reg [⟨(some 2), .mov (.c (.bool false)), none⟩])
(.seq (.reg [⟨(some 3), .mov (.t 0), none⟩, ⟨(some 4), .eq false .ptr (.t 3) (.c .nilp), none⟩, ⟨(some 5), .mov (.t 4), none⟩, ⟨(some 6), .mov (.t 0), (some (5, false))⟩, ⟨(some 7), .nilchk (.t 6), (some (5, false))⟩, ⟨(some 8), .faddr 1 (.t 7), (some (5, false))⟩, ⟨(some 9), .load false 1 (.t 8), (some (5, false))⟩, ⟨(some 10), .eq false .ptr (.t 9) (.c .nilp), (some (5, false))⟩, ⟨(some 11), .pick (.t 5) (.c (.bool true)) (.t 10), none⟩, ⟨(some 2), .mov (.t 11), none⟩])
.ret))⟩
theorem c12_eq : compFn Tryz.prog 12 = some c12 := by kernel_rfl
noncomputable def c13 : FnI := ⟨20, [.tmp 2],
(.seq (.reg [⟨(some 2), .mov (.c .nilp), none⟩])
(.seq (.seq (.reg [⟨(some 3), .mov (.t 0), none⟩, ⟨(some 4), .call 34 [(.t 3)], none⟩])
(.cond (.t 4) (.seq (.reg [⟨(some 2), .mov (.c .nilp), none⟩])
.ret) .skip))
(.seq (.dreg [⟨⟨(some 5), .mov (.t 0), none⟩, .quiet, 0, 0⟩, ⟨⟨(some 6), .nilchk (.t 5), none⟩, .quiet, 1, 1⟩, ⟨⟨(some 7), .faddr 0 (.t 6), none⟩, .quiet, 2, 3⟩, ⟨⟨(some 8), .load true 4 (.t 7), none⟩, .load, 3, 7⟩, ⟨⟨(some 9), .call 35 [(.t 8)], none⟩, .loud, 4, 15⟩, ⟨⟨(some 10), .mov (.t 0), none⟩, .quiet, 5, 0⟩, ⟨⟨(some 11), .nilchk (.t 10), none⟩, .quiet, 6, 32⟩, ⟨⟨(some 12), .faddr 4 (.t 11), none⟩, .quiet, 7, 96⟩, ⟨⟨(some 13), .load false 1 (.t 12), none⟩, .load, 8, 224⟩, ⟨⟨(some 14), .mov (.t 0), none⟩, .quiet, 9, 0⟩, ⟨⟨(some 15), .nilchk (.t 14), none⟩, .quiet, 10, 512⟩, ⟨⟨(some 16), .faddr 5 (.t 15), none⟩, .quiet, 11, 1536⟩, ⟨⟨(some 17), .load true 48 (.t 16), none⟩, .load, 12, 3584⟩, ⟨⟨(some 18), .build [.nilp, .nilp, .nilp, .nilp, (.int .u64 (.ofNat 0)), (.bool false), (.int .u32 (.ofNat 0)), (.int .u64 (.ofNat 0)), (.bool false), (.int .u32 (.ofNat 0)), (.int .u64 (.ofNat 0)), (.bool false), (.int .u32 (.ofNat 0)), (.int .u64 (.ofNat 0)), (.bool false), (.int .u32 (.ofNat 0)), (.int .u64 (.ofNat 0)), (.bool false), (.int .u32 (.ofNat 0)), (.int .u64 (.ofNat 0)), (.bool false), (.int .u32 (.ofNat 0)), (.int .u64 (.ofNat 0)), (.bool false), (.int .u32 (.ofNat 0)), (.int .u64 (.ofNat 0)), (.bool false), (.int .u32 (.ofNat 0)), (.int .u64 (.ofNat 0)), (.bool false), (.int .u32 (.ofNat 0)), (.int .u64 (.ofNat 0)), (.bool false), (.int .u32 (.ofNat 0)), (.int .u64 (.ofNat 0)), (.bool false), (.int .u32 (.ofNat 0)), (.int .u64 (.ofNat 0)), (.bool false), (.int .u32 (.ofNat 0)), (.int .u64 (.ofNat 0)), (.bool false), (.int .u32 (.ofNat 0)), (.int .u64 (.ofNat 0)), (.bool false), (.int .u32 (.ofNat 0)), (.int .u64 (.ofNat 0)), (.bool false), (.int .u32 (.ofNat 0)), (.int .u64 (.ofNat 0)), (.bool false), (.int .u32 (.ofNat 0)), (.int .u64 (.ofNat 0))] [(0, 4, (.t 9)), (4, 1, (.t 13)), (5, 48, (.t 17))], none⟩, .quiet, 13, 8191⟩, ⟨⟨(some 19), .box (.t 18), none⟩, .quiet, 14, 16383⟩, ⟨⟨(some 2), .mov (.t 19), none⟩, .quiet, 15, 32767⟩])
.ret)))⟩
theorem c13_eq : compFn Tryz.prog 13 = some c13 := by kernel_rfl
noncomputable def c14 : FnI := ⟨112, [.cell 4 true 3, .tmp 5],
(.seq (.reg [⟨(some 3), .box (.t 1), none⟩, ⟨(some 4), .alloc [(.int .i64 (.ofNat 0)), (.int .u64 (.ofNat 0)), (.int .i64 (.ofNat 0))], none⟩, ⟨(some 5), .mov (.c (.bool false)), none⟩])
(.seq (.block 0 (.seq (.reg [⟨(some 11), .mov (.t 0), none⟩, ⟨(some 12), .call 34 [(.t 11)], none⟩, ⟨(some 10), .mov (.t 12), none⟩])
(.cond (.t 10) (.seq (.reg [⟨(some 13), .build [(.int .i64 (.ofNat 0)), (.int .u64 (.ofNat 0)), (.int .i64 (.ofNat 0))] [(0, 1, (.c (.int .i64 (.ofNat 1))))], none⟩, ⟨none, .store 3 (.t 4) (.t 13), none⟩, ⟨(some 5), .mov (.c (.bool false)), none⟩])
.ret) (.seq (.reg [⟨(some 15), .faddr 2 (.t 3), none⟩, ⟨(some 16), .load true 17 (.t 15), none⟩, ⟨(some 17), .call 36 [(.t 16)], none⟩, ⟨(some 18), .un .not (.t 17), none⟩, ⟨(some 19), .mov (.t 18), none⟩, ⟨(some 20), .faddr 0 (.t 3), (some (19, false))⟩, ⟨(some 21), .load false 1 (.t 20), (some (19, false))⟩, ⟨(some 22), .bin .lss (.t 21) (.c (.int .i64 (.ofNat 0))), (some (19, false))⟩, ⟨(some 23), .pick (.t 19) (.c (.bool true)) (.t 22), none⟩, ⟨(some 24), .mov (.t 23), none⟩, ⟨(some 25), .faddr 0 (.t 3), (some (24, false))⟩, ⟨(some 26), .load false 1 (.t 25), (some (24, false))⟩, ⟨(some 27), .bin .gtr (.t 26) (.c (.int .i64 (.ofNat 15))), (some (24, false))⟩, ⟨(some 28), .pick (.t 24) (.c (.bool true)) (.t 27), none⟩, ⟨(some 14), .mov (.t 28), none⟩])
(.cond (.t 14) (.seq (.reg [⟨(some 29), .build [(.int .i64 (.ofNat 0)), (.int .u64 (.ofNat 0)), (.int .i64 (.ofNat 0))] [(0, 1, (.c (.int .i64 (.ofNat 2))))], none⟩, ⟨none, .store 3 (.t 4) (.t 29), none⟩, ⟨(some 5), .mov (.c (.bool false)), none⟩])
.ret) .skip)))))
(.seq (.dreg [⟨⟨(some 30), .mov (.t 0), none⟩, .quiet, 0, 0⟩, ⟨⟨(some 31), .faddr 0 (.t 3), none⟩, .quiet, 1, 0⟩, ⟨⟨(some 32), .load false 1 (.t 31), none⟩, .load, 2, 2⟩, ⟨⟨(some 33), .nilchk (.t 30), none⟩, .quiet, 3, 1⟩, ⟨⟨(some 34), .faddr 5 (.t 33), none⟩, .quiet, 4, 9⟩, ⟨⟨(some 35), .idxA 16 3 (.t 34) (.t 32), none⟩, .quiet, 5, 31⟩, ⟨⟨(some 36), .load true 3 (.t 35), none⟩, .load, 6, 63⟩, ⟨⟨(some 6), .alloc [(.bool false), (.int .u32 (.ofNat 0)), (.int .u64 (.ofNat 0))], none⟩, .quiet, 7, 0⟩, ⟨⟨none, .store 3 (.t 6) (.t 36), none⟩, .loud, 8, 255⟩])
(.seq (.block 1 (.seq (.reg [⟨(some 38), .faddr 0 (.t 6), none⟩, ⟨(some 39), .load false 1 (.t 38), none⟩, ⟨(some 40), .mov (.t 39), none⟩, ⟨(some 41), .faddr 1 (.t 6), (some (40, true))⟩, ⟨(some 42), .load false 1 (.t 41), (some (40, true))⟩, ⟨(some 43), .faddr 1 (.t 3), (some (40, true))⟩, ⟨(some 44), .load false 1 (.t 43), (some (40, true))⟩, ⟨(some 45), .bin .eql (.t 42) (.t 44), (some (40, true))⟩, ⟨(some 46), .pick (.t 40) (.t 45) (.c (.bool false)), none⟩, ⟨(some 37), .mov (.t 46), none⟩])
(.cond (.t 37) (.seq (.reg [⟨(some 47), .faddr 2 (.t 6), none⟩, ⟨(some 48), .load false 1 (.t 47), none⟩, ⟨(some 49), .build [(.int .i64 (.ofNat 0)), (.int .u64 (.ofNat 0)), (.int .i64 (.ofNat 0))] [(1, 1, (.t 48))], none⟩, ⟨none, .store 3 (.t 4) (.t 49), none⟩, ⟨(some 5), .mov (.c (.bool true)), none⟩])
.ret) (.seq (.reg [⟨(some 51), .faddr 0 (.t 6), none⟩, ⟨(some 52), .load false 1 (.t 51), none⟩, ⟨(some 53), .mov (.t 52), none⟩, ⟨(some 54), .faddr 1 (.t 6), (some (53, true))⟩, ⟨(some 55), .load false 1 (.t 54), (some (53, true))⟩, ⟨(some 56), .faddr 1 (.t 3), (some (53, true))⟩, ⟨(some 57), .load false 1 (.t 56), (some (53, true))⟩, ⟨(some 58), .bin .gtr (.t 55) (.t 57), (some (53, true))⟩, ⟨(some 59), .pick (.t 53) (.t 58) (.c (.bool false)), none⟩, ⟨(some 50), .mov (.t 59), none⟩])
(.cond (.t 50) (.seq (.reg [⟨(some 60), .build [(.int .i64 (.ofNat 0)), (.int .u64 (.ofNat 0)), (.int .i64 (.ofNat 0))] [(0, 1, (.c (.int .i64 (.ofNat 23))))], none⟩, ⟨none, .store 3 (.t 4) (.t 60), none⟩, ⟨(some 5), .mov (.c (.bool false)), none⟩])
.ret) .skip)))))
(.seq (.reg [⟨(some 61), .mov (.t 0), none⟩, ⟨(some 62), .nilchk (.t 61), none⟩, ⟨(some 63), .faddr 0 (.t 62), none⟩, ⟨(some 64), .load true 4 (.t 63), none⟩, ⟨(some 65), .call 35 [(.t 64)], none⟩, ⟨(some 7), .alloc [.nilp, .nilp, .nilp, .nilp], none⟩, ⟨none, .store 4 (.t 7) (.t 65), none⟩])
(.seq (.dreg [⟨⟨(some 67), .load true 4 (.t 7), none⟩, .load, 0, 0⟩, ⟨⟨(some 68), .faddr 2 (.t 3), none⟩, .quiet, 1, 0⟩, ⟨⟨(some 69), .load true 17 (.t 68), none⟩, .load, 2, 2⟩, ⟨⟨(some 70), .mov (.t 0), none⟩, .quiet, 3, 0⟩, ⟨⟨(some 71), .nilchk (.t 70), none⟩, .quiet, 4, 8⟩, ⟨⟨(some 72), .faddr 4 (.t 71), none⟩, .quiet, 5, 24⟩, ⟨⟨(some 73), .load false 1 (.t 72), none⟩, .load, 6, 56⟩, ⟨⟨(some 74), .bin .add (.t 73) (.c (.int .u64 (.ofNat 1))), none⟩, .quiet, 7, 120⟩, ⟨⟨(some 75), .call 37 [(.t 67), (.t 69), (.t 74)], none⟩, .loud, 8, 255⟩, ⟨⟨(some 66), .mov (.t 75), none⟩, .quiet, 9, 511⟩, ⟨⟨(some 76), .extract (.t 66) 0, none⟩, .quiet, 10, 1023⟩, ⟨⟨(some 77), .extract (.t 66) 1, none⟩, .quiet, 11, 1023⟩, ⟨⟨(some 8), .mov (.t 76), none⟩, .quiet, 12, 2047⟩, ⟨⟨(some 9), .mov (.t 77), none⟩, .quiet, 13, 8191⟩])
(.seq (.seq (.reg [⟨(some 78), .mov (.t 9), none⟩, ⟨(some 79), .bin .neq (.t 78) (.c (.int .i64 (.ofNat 0))), none⟩])
(.cond (.t 79) (.seq (.reg [⟨(some 80), .mov (.t 9), none⟩, ⟨(some 81), .mov (.t 8), none⟩, ⟨(some 82), .build [(.int .i64 (.ofNat 0)), (.int .u64 (.ofNat 0)), (.int .i64 (.ofNat 0))] [(0, 1, (.t 80)), (2, 1, (.t 81))], none⟩, ⟨none, .store 3 (.t 4) (.t 82), none⟩, ⟨(some 5), .mov (.c (.bool false)), none⟩])
.ret) .skip))
(.seq (.reg [⟨(some 83), .mov (.t 0), none⟩, ⟨(some 84), .load true 4 (.t 7), none⟩, ⟨(some 85), .nilchk (.t 83), none⟩, ⟨(some 86), .faddr 0 (.t 85), none⟩, ⟨none, .store 4 (.t 86) (.t 84), none⟩])
(.seq (.reg [⟨(some 87), .mov (.t 0), none⟩, ⟨(some 88), .nilchk (.t 87), none⟩, ⟨(some 89), .faddr 4 (.t 88), none⟩, ⟨(some 90), .load false 1 (.t 89), none⟩, ⟨(some 91), .bin .add (.t 90) (.c (.int .u64 (.ofNat 1))), none⟩, ⟨(some 92), .nilchk (.t 87), none⟩, ⟨(some 93), .faddr 4 (.t 92), none⟩, ⟨none, .store 1 (.t 93) (.t 91), none⟩])
(.seq (.dreg [⟨⟨(some 94), .mov (.t 0), none⟩, .quiet, 0, 0⟩, ⟨⟨(some 95), .faddr 0 (.t 3), none⟩, .quiet, 1, 0⟩, ⟨⟨(some 96), .load false 1 (.t 95), none⟩, .load, 2, 2⟩, ⟨⟨(some 97), .faddr 1 (.t 3), none⟩, .quiet, 3, 0⟩, ⟨⟨(some 98), .load false 1 (.t 97), none⟩, .load, 4, 8⟩, ⟨⟨(some 99), .mov (.t 0), none⟩, .quiet, 5, 0⟩, ⟨⟨(some 100), .nilchk (.t 99), none⟩, .quiet, 6, 32⟩, ⟨⟨(some 101), .faddr 4 (.t 100), none⟩, .quiet, 7, 96⟩, ⟨⟨(some 102), .load false 1 (.t 101), none⟩, .load, 8, 224⟩, ⟨⟨(some 103), .build [(.bool false), (.int .u32 (.ofNat 0)), (.int .u64 (.ofNat 0))] [(0, 1, (.c (.bool true))), (1, 1, (.t 98)), (2, 1, (.t 102))], none⟩, .quiet, 9, 504⟩, ⟨⟨(some 104), .nilchk (.t 94), none⟩, .quiet, 10, 1⟩, ⟨⟨(some 105), .faddr 5 (.t 104), none⟩, .quiet, 11, 1025⟩, ⟨⟨(some 106), .idxA 16 3 (.t 105) (.t 96), none⟩, .quiet, 12, 4095⟩, ⟨⟨none, .store 3 (.t 106) (.t 103), none⟩, .loud, 13, 8191⟩])
(.seq (.reg [⟨(some 107), .mov (.t 0), none⟩, ⟨(some 108), .nilchk (.t 107), none⟩, ⟨(some 109), .faddr 4 (.t 108), none⟩, ⟨(some 110), .load false 1 (.t 109), none⟩, ⟨(some 111), .build [(.int .i64 (.ofNat 0)), (.int .u64 (.ofNat 0)), (.int .i64 (.ofNat 0))] [(1, 1, (.t 110))], none⟩, ⟨none, .store 3 (.t 4) (.t 111), none⟩, ⟨(some 5), .mov (.c (.bool false)), none⟩])
.ret)))))))))))⟩
theorem c14_eq : compFn Tryz.prog 14 = some c14 := by kernel_rfl
noncomputable def c15 : FnI := ⟨24, [.tmp 4, .tmp 5],
(.seq (.reg [⟨(some 3), .box (.t 1), none⟩, ⟨(some 4), .mov (.c .nilsl), none⟩, ⟨(some 5), .mov (.c (.int .i64 (.ofNat 0))), none⟩])
(.seq (.reg [⟨(some 9), .load true 19 (.t 3), none⟩, ⟨(some 10), .call 38 [(.t 9)], none⟩, ⟨(some 8), .mov (.t 10), none⟩, ⟨(some 11), .extract (.t 8) 0, none⟩, ⟨(some 12), .extract (.t 8) 1, none⟩, ⟨(some 6), .mov (.t 11), none⟩, ⟨(some 7), .mov (.t 12), none⟩])
(.seq (.seq (.reg [⟨(some 13), .mov (.t 7), none⟩, ⟨(some 14), .bin .neq (.t 13) (.c (.int .i64 (.ofNat 0))), none⟩])
(.cond (.t 14) (.seq (.reg [⟨(some 15), .mov (.t 7), none⟩, ⟨(some 4), .mov (.c .nilsl), none⟩, ⟨(some 5), .mov (.t 15), none⟩])
.ret) .skip))
(.seq (.reg [⟨(some 16), .mov (.t 0), none⟩, ⟨(some 17), .call 40 [(.c .nilsl), (.t 16)], none⟩, ⟨(some 18), .mov (.t 6), none⟩, ⟨(some 19), .append 1 1 (.t 17) (.t 18), none⟩, ⟨(some 20), .build [(.int .u8 (.ofNat 0)), .nilsl] [(0, 1, (.c (.int .u8 (.ofNat 1)))), (1, 1, (.t 19))], none⟩, ⟨(some 21), .call 39 [(.c .nilsl), (.t 20)], none⟩, ⟨(some 22), .extract (.t 21) 0, none⟩, ⟨(some 23), .extract (.t 21) 1, none⟩, ⟨(some 4), .mov (.t 22), none⟩, ⟨(some 5), .mov (.t 23), none⟩])
.ret))))⟩
theorem c15_eq : compFn Tryz.prog 15 = some c15 := by kernel_rfl
noncomputable def c18 : FnI := ⟨7, [],
(.seq (.reg [⟨(some 2), .mov (.t 0), none⟩, ⟨(some 3), .bin .neq (.t 2) (.c (.int .i64 (.ofNat 0))), none⟩])
(.cond (.t 3) (.reg [⟨(some 4), .mov (.t 0), none⟩, ⟨(some 5), .build [(.int .i64 (.ofNat 0))] [(0, 1, (.t 4))], none⟩, ⟨(some 6), .mkif 87 (.t 5), none⟩, ⟨none, .fail, none⟩]) .skip))⟩
theorem c18_eq : compFn Tryz.prog 18 = some c18 := by kernel_rfl
noncomputable def c19 : FnI := ⟨28, [.tmp 6],
(.seq (.reg [⟨(some 6), .mov (.c (.int .i64 (.ofNat 0))), none⟩])
(.seq (.reg [⟨(some 8), .mov (.t 0), none⟩, ⟨(some 9), .nilchk (.t 8), none⟩, ⟨(some 10), .faddr 1 (.t 9), none⟩, ⟨(some 11), .load false 1 (.t 10), none⟩, ⟨(some 12), .mov (.t 1), none⟩, ⟨(some 13), .call 41 [(.t 11), (.c (.int .i64 (.ofNat 0))), (.t 12)], none⟩, ⟨(some 7), .mov (.t 13), none⟩])
(.seq (.seq (.reg [⟨(some 14), .mov (.t 7), none⟩, ⟨(some 15), .bin .neq (.t 14) (.c (.int .i64 (.ofNat 51))), none⟩])
(.cond (.t 15) (.reg [⟨(some 16), .mov (.t 0), none⟩, ⟨(some 17), .mov (.t 2), none⟩, ⟨(some 18), .nilchk (.t 16), none⟩, ⟨(some 19), .faddr 2 (.t 18), none⟩, ⟨none, .store 1 (.t 19) (.t 17), none⟩]) .skip))
(.seq (.seq (.reg [⟨(some 20), .mov (.t 7), none⟩, ⟨(some 21), .bin .neq (.t 20) (.c (.int .i64 (.ofNat 0))), none⟩])
(.cond (.t 21) (.seq (.reg [⟨(some 22), .mov (.t 7), none⟩, ⟨(some 6), .mov (.t 22), none⟩])
.ret) .skip))
(.seq (.reg [⟨(some 23), .mov (.t 0), none⟩, ⟨(some 24), .nilchk (.t 23), none⟩, ⟨(some 25), .faddr 1 (.t 24), none⟩, ⟨(some 26), .load false 1 (.t 25), none⟩, ⟨(some 27), .call 23 [(.t 26), (.c (.int .i64 (.ofNat 0)))], none⟩, ⟨(some 6), .mov (.t 27), none⟩])
.ret)))))⟩
theorem c19_eq : compFn Tryz.prog 19 = some c19 := by kernel_rfl
noncomputable def c23 : FnI := ⟨11, [.tmp 4],
(.seq (.reg [⟨(some 2), .box (.t 0), none⟩, ⟨(some 3), .box (.t 1), none⟩, ⟨(some 4), .mov (.c (.int .i64 (.ofNat 0))), none⟩])
(.seq (.reg [⟨(some 5), .load false 1 (.t 2), none⟩, ⟨(some 6), .mkfn 48 [] [(.t 2), (.t 3)], none⟩, ⟨(some 7), .mkfn 49 [] [(.t 3)], none⟩, ⟨(some 8), .build [.nilfn, (.int .i64 (.ofNat 0))] [(0, 1, (.t 7)), (1, 1, (.c (.int .i64 (.ofNat 2))))], none⟩, ⟨(some 9), .buildSl 2 1 [.nilfn, (.int .i64 (.ofNat 0))] [(0, 2, (.t 8))], none⟩, ⟨(some 10), .call 42 [(.t 5), (.t 6), (.t 9)], none⟩, ⟨(some 4), .mov (.t 10), none⟩])
.ret))⟩
theorem c23_eq : compFn Tryz.prog 23 = some c23 := by kernel_rfl
noncomputable def c25 : FnI := ⟨9, [.tmp 2],
(.seq (.reg [⟨(some 2), .mov (.c (.int .u64 (.ofNat 0))), none⟩])
(.seq (.seq (.reg [⟨(some 3), .mov (.t 0), none⟩, ⟨(some 4), .call 34 [(.t 3)], none⟩])
(.cond (.t 4) (.seq (.reg [⟨(some 2), .mov (.c (.int .u64 (.ofNat 0))), none⟩])
.ret) .skip))
(.seq (.reg [⟨(some 5), .mov (.t 0), none⟩, ⟨(some 6), .nilchk (.t 5), none⟩, ⟨(some 7), .faddr 4 (.t 6), none⟩, ⟨(some 8), .load false 1 (.t 7), none⟩, ⟨(some 2), .mov (.t 8), none⟩])
.ret)))⟩
theorem c25_eq : compFn Tryz.prog 25 = some c25 := by kernel_rfl
noncomputable def c26 : FnI := ⟨12, [.tmp 2],
(.seq (.reg [⟨(some 2), .mov (.c (.bool false)), none⟩])
(.seq (.reg [⟨(some 3), .mov (.t 0), none⟩, ⟨(some 4), .call 52 [(.t 3)], none⟩, ⟨(some 5), .un .not (.t 4), none⟩, ⟨(some 6), .mov (.t 5), none⟩, ⟨(some 7), .mov (.t 0), (some (6, true))⟩, ⟨(some 8), .nilchk (.t 7), (some (6, true))⟩, ⟨(some 9), .faddr 11 (.t 8), (some (6, true))⟩, ⟨(some 10), .load false 1 (.t 9), (some (6, true))⟩, ⟨(some 11), .pick (.t 6) (.t 10) (.c (.bool false)), none⟩, ⟨(some 2), .mov (.t 11), none⟩])
.ret))⟩
theorem c26_eq : compFn Tryz.prog 26 = some c26 := by kernel_rfl
noncomputable def c28 : FnI := ⟨98, [.cell 4 true 1],
(.seq (.reg [⟨(some 4), .alloc [.nilp], none⟩])
(.seq (.reg [⟨(some 16), .mov (.t 0), none⟩, ⟨(some 17), .call 30 [(.t 16), (.c (.int .i64 (.ofNat 1)))], none⟩, ⟨(some 5), .mov (.t 17), none⟩])
(.seq (.seq (.reg [⟨(some 18), .mov (.t 5), none⟩, ⟨(some 19), .len false (.t 18), none⟩, ⟨(some 20), .bin .eql (.t 19) (.c (.int .i64 (.ofNat 0))), none⟩])
(.cond (.t 20) (.seq (.reg [⟨(some 21), .mov (.t 1), none⟩, ⟨(some 22), .call 53 [(.t 21)], none⟩, ⟨(some 23), .build [.nilp] [(0, 1, (.t 22))], none⟩, ⟨none, .store 1 (.t 4) (.t 23), none⟩])
.ret) .skip))
(.seq (.reg [⟨(some 25), .mov (.t 5), none⟩, ⟨(some 26), .call 54 [(.t 25)], none⟩, ⟨(some 24), .mov (.t 26), none⟩, ⟨(some 27), .extract (.t 24) 0, none⟩, ⟨(some 28), .extract (.t 24) 1, none⟩, ⟨(some 6), .mov (.t 27), none⟩, ⟨(some 7), .mov (.t 28), none⟩])
(.seq (.reg [⟨(some 29), .mov (.t 7), none⟩, ⟨(some 30), .mov (.t 5), none⟩, ⟨(some 31), .len false (.t 30), none⟩, ⟨(some 32), .bin .lss (.t 29) (.t 31), none⟩, ⟨(some 33), .call 55 [(.t 32)], none⟩])
(.seq (.reg [⟨(some 8), .mov (.c .nilsl), none⟩])
(.seq (.reg [⟨(some 9), .mov (.c (.bool false)), none⟩, ⟨(some 10), .mov (.c (.bool false)), none⟩])
(.seq (.seq (.reg [⟨(some 34), .mov (.t 6), none⟩, ⟨(some 35), .len false (.t 34), none⟩, ⟨(some 36), .mov (.c (.int .i64 (.ofNat 0))), none⟩])
(.block 0 (.loop (.seq (.reg [⟨(some 37), .bin .lss (.t 36) (.t 35), none⟩])
(.seq (.cond (.t 37) .skip (.exit 0))
(.seq (.block 1 (.seq (.reg [⟨(some 38), .idxS 2 (.t 34) (.t 36), none⟩, ⟨(some 39), .load true 2 (.t 38), none⟩, ⟨(some 12), .alloc [(.int .u8 (.ofNat 0)), .nilsl], none⟩, ⟨none, .store 2 (.t 12) (.t 39), none⟩])
(.seq (.reg [⟨(some 40), .mov (.t 9), none⟩, ⟨(some 41), .call 55 [(.t 40)], none⟩])
(.seq (.reg [⟨(some 42), .faddr 0 (.t 12), none⟩, ⟨(some 43), .load false 1 (.t 42), none⟩])
(.block 2 (.seq (.reg [⟨(some 46), .bin .eql (.t 43) (.c (.int .u8 (.ofNat 2))), none⟩, ⟨(some 45), .mov (.t 46), none⟩])
(.cond (.t 45) (.seq (.reg [⟨(some 47), .mov (.t 10), none⟩, ⟨(some 48), .mov (.t 47), none⟩, ⟨(some 49), .faddr 1 (.t 12), (some (48, false))⟩, ⟨(some 50), .load false 1 (.t 49), (some (48, false))⟩, ⟨(some 51), .len false (.t 50), (some (48, false))⟩, ⟨(some 52), .bin .eql (.t 51) (.c (.int .i64 (.ofNat 0))), (some (48, false))⟩, ⟨(some 53), .pick (.t 48) (.c (.bool true)) (.t 52), none⟩, ⟨(some 54), .call 55 [(.t 53)], none⟩])
(.seq (.reg [⟨(some 55), .faddr 1 (.t 12), none⟩, ⟨(some 56), .load false 1 (.t 55), none⟩, ⟨(some 57), .len false (.t 56), none⟩, ⟨(some 58), .bin .lss (.t 57) (.c (.int .i64 (.ofNat 1000))), none⟩, ⟨(some 10), .mov (.t 58), none⟩])
(.reg [⟨(some 59), .mov (.t 8), none⟩, ⟨(some 60), .faddr 1 (.t 12), none⟩, ⟨(some 61), .load false 1 (.t 60), none⟩, ⟨(some 62), .append 1 1 (.t 59) (.t 61), none⟩, ⟨(some 8), .mov (.t 62), none⟩]))) (.seq (.reg [⟨(some 64), .bin .eql (.t 43) (.c (.int .u8 (.ofNat 3))), none⟩, ⟨(some 63), .mov (.t 64), none⟩])
(.cond (.t 63) (.seq (.reg [⟨(some 9), .mov (.c (.bool true)), none⟩])
(.dreg [⟨⟨(some 68), .mov (.t 8), none⟩, .quiet, 3, 0⟩, ⟨⟨(some 69), .len false (.t 68), none⟩, .quiet, 4, 8⟩, ⟨⟨(some 70), .cvInt .u64 (.t 69), none⟩, .quiet, 5, 24⟩, ⟨⟨(some 71), .call 40 [(.c .nilsl), (.t 70)], none⟩, .loud, 6, 56⟩, ⟨⟨(some 65), .faddr 1 (.t 12), none⟩, .quiet, 0, 0⟩, ⟨⟨(some 66), .load false 1 (.t 65), none⟩, .load, 1, 1⟩, ⟨⟨(some 67), .cvStr (.t 66), none⟩, .load, 2, 3⟩, ⟨⟨(some 72), .cvStr (.t 71), none⟩, .load, 7, 120⟩, ⟨⟨(some 73), .bin .neq (.t 67) (.t 72), none⟩, .quiet, 8, 255⟩, ⟨⟨(some 74), .call 55 [(.t 73)], none⟩, .loud, 9, 511⟩])) (.reg [⟨(some 44), .call 55 [(.c (.bool true))], none⟩]))))))))))
(.reg [⟨(some 75), .bin .add (.t 36) (.c (.int .i64 (.ofNat 1))), none⟩, ⟨(some 36), .mov (.t 75), none⟩])))))))
(.seq (.reg [⟨(some 76), .mov (.t 9), none⟩, ⟨(some 77), .un .not (.t 76), none⟩, ⟨(some 78), .call 55 [(.t 77)], none⟩])
(.seq (.reg [⟨(some 80), .mov (.t 8), none⟩, ⟨(some 81), .call 56 [(.t 80)], none⟩, ⟨(some 79), .mov (.t 81), none⟩, ⟨(some 82), .extract (.t 79) 0, none⟩, ⟨(some 83), .extract (.t 79) 1, none⟩, ⟨(some 13), .alloc [(.int .u64 (.ofNat 0)), .nilsl, .nilsl, .nilsl, .nilsl, .nilsl, .nilsl, (.int .u64 (.ofNat 0)), (.int .u64 (.ofNat 0)), (.int .u64 (.ofNat 0)), (.int .u64 (.ofNat 0)), (.int .u64 (.ofNat 0)), (.int .u64 (.ofNat 0)), .nilsl], none⟩, ⟨none, .store 14 (.t 13) (.t 82), none⟩, ⟨(some 14), .mov (.t 83), none⟩])
(.seq (.reg [⟨(some 84), .mov (.t 14), none⟩, ⟨(some 85), .bin .neq (.t 84) (.c (.int .i64 (.ofNat 0))), none⟩, ⟨(some 86), .call 55 [(.t 85)], none⟩])
(.seq (.reg [⟨(some 88), .mov (.t 1), none⟩, ⟨(some 89), .load true 14 (.t 13), none⟩, ⟨(some 90), .call 57 [(.t 88), (.t 89)], none⟩, ⟨(some 87), .mov (.t 90), none⟩, ⟨(some 91), .extract (.t 87) 0, none⟩, ⟨(some 92), .extract (.t 87) 1, none⟩, ⟨(some 15), .mov (.t 91), none⟩, ⟨(some 14), .mov (.t 92), none⟩])
(.seq (.reg [⟨(some 93), .mov (.t 14), none⟩, ⟨(some 94), .bin .neq (.t 93) (.c (.int .i64 (.ofNat 0))), none⟩, ⟨(some 95), .call 55 [(.t 94)], none⟩])
(.seq (.reg [⟨(some 96), .mov (.t 15), none⟩, ⟨(some 97), .build [.nilp] [(0, 1, (.t 96))], none⟩, ⟨none, .store 1 (.t 4) (.t 97), none⟩])
.ret))))))))))))))⟩
theorem c28_eq : compFn Tryz.prog 28 = some c28 := by kernel_rfl
noncomputable def c29 : FnI := ⟨68, [.tmp 4],
(.seq (.reg [⟨(some 2), .box (.t 0), none⟩, ⟨(some 4), .mov (.c (.int .i64 (.ofNat 0))), none⟩])
(.seq (.reg [⟨(some 16), .mov (.t 1), none⟩, ⟨(some 17), .call 54 [(.t 16)], none⟩, ⟨(some 15), .mov (.t 17), none⟩, ⟨(some 18), .extract (.t 15) 0, none⟩, ⟨(some 19), .extract (.t 15) 1, none⟩, ⟨(some 5), .mov (.t 18), none⟩, ⟨(some 6), .mov (.t 19), none⟩])
(.seq (.dreg [⟨⟨(some 20), .faddr 0 (.t 2), none⟩, .quiet, 0, 0⟩, ⟨⟨(some 21), .load false 1 (.t 20), none⟩, .load, 1, 1⟩, ⟨⟨(some 22), .call 25 [(.t 21)], none⟩, .loud, 2, 3⟩, ⟨⟨(some 23), .faddr 0 (.t 2), none⟩, .quiet, 3, 0⟩, ⟨⟨(some 24), .load false 1 (.t 23), none⟩, .load, 4, 8⟩, ⟨⟨(some 25), .call 25 [(.t 24)], none⟩, .loud, 5, 31⟩, ⟨⟨(some 7), .mov (.t 22), none⟩, .quiet, 6, 63⟩, ⟨⟨(some 8), .mov (.t 25), none⟩, .quiet, 7, 127⟩])
(.seq (.seq (.reg [⟨(some 26), .mov (.t 5), none⟩, ⟨(some 27), .len false (.t 26), none⟩, ⟨(some 28), .mov (.c (.int .i64 (.ofNat 0))), none⟩])
(.block 0 (.loop (.seq (.reg [⟨(some 29), .bin .lss (.t 28) (.t 27), none⟩])
(.seq (.cond (.t 29) .skip (.exit 0))
(.seq (.block 1 (.seq (.reg [⟨(some 30), .idxS 2 (.t 26) (.t 28), none⟩, ⟨(some 31), .load true 2 (.t 30), none⟩, ⟨(some 10), .alloc [(.int .u8 (.ofNat 0)), .nilsl], none⟩, ⟨none, .store 2 (.t 10) (.t 31), none⟩])
(.seq (.reg [⟨(some 33), .load true 2 (.t 10), none⟩, ⟨(some 34), .call 58 [(.t 33)], none⟩, ⟨(some 32), .mov (.t 34), none⟩, ⟨(some 35), .extract (.t 32) 0, none⟩, ⟨(some 36), .extract (.t 32) 1, none⟩, ⟨(some 12), .alloc [(.int .i64 (.ofNat 0)), (.int .u32 (.ofNat 0)), (.int .i64 (.ofNat 0)), (.int .i64 (.ofNat 0)), (.int .i64 (.ofNat 0)), (.int .i64 (.ofNat 0)), (.str []), (.str []), (.str []), (.str []), (.str []), (.str []), (.str []), (.str []), .nilsl, (.bool false), (.int .u64 (.ofNat 0)), (.int .u64 (.ofNat 0)), .nilsl], none⟩, ⟨(some 11), .mov (.t 35), none⟩, ⟨none, .store 19 (.t 12) (.t 36), none⟩])
(.seq (.seq (.reg [⟨(some 37), .mov (.t 11), none⟩, ⟨(some 38), .mov (.t 7), none⟩, ⟨(some 39), .bin .leq (.t 37) (.t 38), none⟩])
(.cond (.t 39) (.exit 1) .skip))
(.seq (.reg [⟨(some 40), .mov (.t 11), none⟩, ⟨(some 41), .mov (.t 8), none⟩, ⟨(some 42), .bin .add (.t 41) (.c (.int .u64 (.ofNat 1))), none⟩, ⟨(some 43), .bin .neq (.t 40) (.t 42), none⟩, ⟨(some 44), .call 55 [(.t 43)], none⟩])
(.seq (.reg [⟨(some 46), .faddr 0 (.t 2), none⟩, ⟨(some 47), .load false 1 (.t 46), none⟩, ⟨(some 48), .load true 19 (.t 12), none⟩, ⟨(some 49), .call 14 [(.t 47), (.t 48)], none⟩, ⟨(some 45), .mov (.t 49), none⟩, ⟨(some 50), .extract (.t 45) 0, none⟩, ⟨(some 51), .extract (.t 45) 1, none⟩, ⟨(some 13), .alloc [(.int .i64 (.ofNat 0)), (.int .u64 (.ofNat 0)), (.int .i64 (.ofNat 0))], none⟩, ⟨none, .store 3 (.t 13) (.t 50), none⟩, ⟨(some 14), .mov (.t 51), none⟩])
(.seq (.reg [⟨(some 52), .mov (.t 14), none⟩, ⟨(some 53), .mov (.t 52), none⟩, ⟨(some 54), .faddr 0 (.t 13), (some (53, false))⟩, ⟨(some 55), .load false 1 (.t 54), (some (53, false))⟩, ⟨(some 56), .bin .neq (.t 55) (.c (.int .i64 (.ofNat 0))), (some (53, false))⟩, ⟨(some 57), .pick (.t 53) (.c (.bool true)) (.t 56), none⟩, ⟨(some 58), .mov (.t 57), none⟩, ⟨(some 59), .faddr 1 (.t 13), (some (58, false))⟩, ⟨(some 60), .load false 1 (.t 59), (some (58, false))⟩, ⟨(some 61), .mov (.t 11), (some (58, false))⟩, ⟨(some 62), .bin .neq (.t 60) (.t 61), (some (58, false))⟩, ⟨(some 63), .pick (.t 58) (.c (.bool true)) (.t 62), none⟩, ⟨(some 64), .call 55 [(.t 63)], none⟩])
(.reg [⟨(some 65), .mov (.t 11), none⟩, ⟨(some 8), .mov (.t 65), none⟩]))))))))
(.reg [⟨(some 66), .bin .add (.t 28) (.c (.int .i64 (.ofNat 1))), none⟩, ⟨(some 28), .mov (.t 66), none⟩])))))))
(.seq (.reg [⟨(some 67), .mov (.t 6), none⟩, ⟨(some 4), .mov (.t 67), none⟩])
.ret)))))⟩
theorem c29_eq : compFn Tryz.prog 29 = some c29 := by kernel_rfl
noncomputable def c30 : FnI := ⟨21, [.tmp 4],
(.seq (.reg [⟨(some 4), .mov (.c .nilsl), none⟩])
(.seq (.seq (.reg [⟨(some 5), .mov (.t 0), none⟩, ⟨(some 6), .call 52 [(.t 5)], none⟩, ⟨(some 7), .mov (.t 6), none⟩, ⟨(some 8), .mov (.t 1), (some (7, false))⟩, ⟨(some 9), .call 45 [(.t 8)], (some (7, false))⟩, ⟨(some 10), .un .not (.t 9), (some (7, false))⟩, ⟨(some 11), .pick (.t 7) (.c (.bool true)) (.t 10), none⟩])
(.cond (.t 11) (.seq (.reg [⟨(some 4), .mov (.c .nilsl), none⟩])
.ret) .skip))
(.seq (.reg [⟨(some 12), .buildSl 1 0 [] [], none⟩, ⟨(some 13), .mov (.t 0), none⟩, ⟨(some 14), .mov (.t 1), none⟩, ⟨(some 15), .nilchk (.t 13), none⟩, ⟨(some 16), .faddr 2 (.t 15), none⟩, ⟨(some 17), .idxA 4 2 (.t 16) (.t 14), none⟩, ⟨(some 18), .faddr 0 (.t 17), none⟩, ⟨(some 19), .load false 1 (.t 18), none⟩, ⟨(some 20), .append 1 1 (.t 12) (.t 19), none⟩, ⟨(some 4), .mov (.t 20), none⟩])
.ret)))⟩
theorem c30_eq : compFn Tryz.prog 30 = some c30 := by kernel_rfl
noncomputable def c31 : FnI := ⟨20, [.tmp 4],
(.seq (.reg [⟨(some 4), .mov (.c (.int .i64 (.ofNat 0))), none⟩])
(.seq (.seq (.reg [⟨(some 5), .mov (.t 0), none⟩, ⟨(some 6), .call 52 [(.t 5)], none⟩, ⟨(some 7), .mov (.t 6), none⟩, ⟨(some 8), .mov (.t 1), (some (7, false))⟩, ⟨(some 9), .call 45 [(.t 8)], (some (7, false))⟩, ⟨(some 10), .un .not (.t 9), (some (7, false))⟩, ⟨(some 11), .pick (.t 7) (.c (.bool true)) (.t 10), none⟩])
(.cond (.t 11) (.seq (.reg [⟨(some 4), .mov (.c (.int .i64 (.ofNat 0))), none⟩])
.ret) .skip))
(.seq (.reg [⟨(some 12), .mov (.t 0), none⟩, ⟨(some 13), .mov (.t 1), none⟩, ⟨(some 14), .nilchk (.t 12), none⟩, ⟨(some 15), .faddr 2 (.t 14), none⟩, ⟨(some 16), .idxA 4 2 (.t 15) (.t 13), none⟩, ⟨(some 17), .faddr 0 (.t 16), none⟩, ⟨(some 18), .load false 1 (.t 17), none⟩, ⟨(some 19), .len false (.t 18), none⟩, ⟨(some 4), .mov (.t 19), none⟩])
.ret)))⟩
theorem c31_eq : compFn Tryz.prog 31 = some c31 := by kernel_rfl
noncomputable def c32 : FnI := ⟨8, [.tmp 2],
(.seq (.reg [⟨(some 2), .mov (.c .nilp), none⟩])
(.seq (.reg [⟨(some 3), .mov (.t 0), none⟩, ⟨(some 4), .mm true (.t 3) [(.c (.int .i64 (.ofNat 0)))], none⟩, ⟨(some 5), .mm false (.t 4) [(.c (.int .i64 (.ofNat 1048576)))], none⟩, ⟨(some 6), .build [(.bool false), (.int .i64 (.ofNat 0)), .nilsl, (.int .i64 (.ofNat 0)), .nilsl, (.int .i64 (.ofNat 0)), .nilsl, (.int .i64 (.ofNat 0)), .nilsl, (.int .i64 (.ofNat 0)), (.int .i64 (.ofNat 0)), (.bool false)] [(0, 1, (.c (.bool true))), (1, 1, (.t 5)), (10, 1, (.c (.int .i64 (.negSucc 0))))], none⟩, ⟨(some 7), .box (.t 6), none⟩, ⟨(some 2), .mov (.t 7), none⟩])
.ret))⟩
theorem c32_eq : compFn Tryz.prog 32 = some c32 := by kernel_rfl
noncomputable def c33 : FnI := ⟨57, [],
(.seq (.seq (.reg [⟨(some 8), .mov (.t 0), none⟩, ⟨(some 9), .call 52 [(.t 8)], none⟩])
(.cond (.t 9) .ret .skip))
(.seq (.seq (.reg [⟨(some 10), .mov (.c (.int .i64 (.ofNat 0))), none⟩])
(.block 0 (.loop (.seq (.reg [⟨(some 11), .bin .lss (.t 10) (.c (.int .i64 (.ofNat 4))), none⟩])
(.seq (.cond (.t 11) .skip (.exit 0))
(.seq (.block 1 (.seq (.reg [⟨(some 12), .mov (.t 10), none⟩, ⟨(some 4), .mov (.t 12), none⟩])
(.seq (.reg [⟨(some 13), .mov (.t 0), none⟩, ⟨(some 14), .mov (.t 4), none⟩, ⟨(some 15), .nilchk (.t 13), none⟩, ⟨(some 16), .faddr 2 (.t 15), none⟩, ⟨(some 17), .idxA 4 2 (.t 16) (.t 14), none⟩, ⟨(some 5), .mov (.t 17), none⟩])
(.seq (.dreg [⟨⟨(some 18), .mov (.t 5), none⟩, .quiet, 0, 0⟩, ⟨⟨(some 19), .nilchk (.t 18), none⟩, .quiet, 1, 1⟩, ⟨⟨(some 20), .faddr 0 (.t 19), none⟩, .quiet, 2, 3⟩, ⟨⟨(some 21), .load false 1 (.t 20), none⟩, .load, 3, 7⟩, ⟨⟨(some 22), .len false (.t 21), none⟩, .quiet, 4, 15⟩, ⟨⟨(some 23), .mov (.t 5), none⟩, .quiet, 5, 0⟩, ⟨⟨(some 24), .nilchk (.t 23), none⟩, .quiet, 6, 32⟩, ⟨⟨(some 25), .faddr 1 (.t 24), none⟩, .quiet, 7, 96⟩, ⟨⟨(some 26), .load false 1 (.t 25), none⟩, .load, 8, 224⟩, ⟨⟨(some 27), .bin .sub (.t 22) (.t 26), none⟩, .quiet, 9, 511⟩, ⟨⟨(some 6), .mov (.t 27), none⟩, .quiet, 10, 1023⟩])
(.seq (.dreg [⟨⟨(some 28), .mov (.t 5), none⟩, .quiet, 0, 0⟩, ⟨⟨(some 29), .nilchk (.t 28), none⟩, .quiet, 1, 1⟩, ⟨⟨(some 30), .faddr 1 (.t 29), none⟩, .quiet, 2, 3⟩, ⟨⟨(some 31), .load false 1 (.t 30), none⟩, .load, 3, 7⟩, ⟨⟨(some 32), .mov (.t 1), none⟩, .quiet, 4, 0⟩, ⟨⟨(some 33), .mm true (.t 32) [(.c (.int .i64 (.ofNat 0)))], none⟩, .quiet, 5, 16⟩, ⟨⟨(some 34), .mov (.t 6), none⟩, .quiet, 6, 0⟩, ⟨⟨(some 35), .bin .add (.t 34) (.c (.int .i64 (.ofNat 1))), none⟩, .quiet, 7, 64⟩, ⟨⟨(some 36), .bin .rem (.t 33) (.t 35), none⟩, .quiet, 8, 240⟩, ⟨⟨(some 37), .bin .add (.t 31) (.t 36), none⟩, .quiet, 9, 511⟩, ⟨⟨(some 7), .mov (.t 37), none⟩, .quiet, 10, 1023⟩])
(.reg [⟨(some 38), .mov (.t 5), none⟩, ⟨(some 39), .buildSl 1 0 [] [], none⟩, ⟨(some 40), .mov (.t 5), none⟩, ⟨(some 41), .nilchk (.t 40), none⟩, ⟨(some 42), .faddr 0 (.t 41), none⟩, ⟨(some 43), .load false 1 (.t 42), none⟩, ⟨(some 44), .mov (.t 7), none⟩, ⟨(some 45), .slS 1 (.t 43) none (some (.t 44)) none, none⟩, ⟨(some 46), .append 1 1 (.t 39) (.t 45), none⟩, ⟨(some 47), .mov (.t 7), none⟩, ⟨(some 48), .build [.nilsl, (.int .i64 (.ofNat 0))] [(0, 1, (.t 46)), (1, 1, (.t 47))], none⟩, ⟨(some 49), .nilchk (.t 38), none⟩, ⟨none, .store 2 (.t 49) (.t 48), none⟩]))))))
(.reg [⟨(some 50), .bin .add (.t 10) (.c (.int .i64 (.ofNat 1))), none⟩, ⟨(some 10), .mov (.t 50), none⟩])))))))
(.reg [⟨(some 51), .mov (.t 0), none⟩, ⟨(some 52), .mov (.t 0), none⟩, ⟨(some 53), .nilchk (.t 51), none⟩, ⟨(some 54), .faddr 11 (.t 53), none⟩, ⟨none, .store 1 (.t 54) (.c (.bool false)), none⟩, ⟨(some 55), .nilchk (.t 52), none⟩, ⟨(some 56), .faddr 10 (.t 55), none⟩, ⟨none, .store 1 (.t 56) (.c (.int .i64 (.negSucc 0))), none⟩])))⟩
theorem c33_eq : compFn Tryz.prog 33 = some c33 := by kernel_rfl
noncomputable def c34 : FnI := ⟨13, [.tmp 2],
(.seq (.reg [⟨(some 2), .mov (.c (.bool false)), none⟩])
(.seq (.reg [⟨(some 3), .mov (.t 0), none⟩, ⟨(some 4), .eq false .ptr (.t 3) (.c .nilp), none⟩, ⟨(some 5), .mov (.t 4), none⟩, ⟨(some 6), .mov (.t 0), (some (5, false))⟩, ⟨(some 7), .nilchk (.t 6), (some (5, false))⟩, ⟨(some 8), .faddr 0 (.t 7), (some (5, false))⟩, ⟨(some 9), .faddr 0 (.t 8), (some (5, false))⟩, ⟨(some 10), .load false 1 (.t 9), (some (5, false))⟩, ⟨(some 11), .eq false .ptr (.t 10) (.c .nilp), (some (5, false))⟩, ⟨(some 12), .pick (.t 5) (.c (.bool true)) (.t 11), none⟩, ⟨(some 2), .mov (.t 12), none⟩])
.ret))⟩
theorem c34_eq : compFn Tryz.prog 34 = some c34 := by kernel_rfl
noncomputable def c35 : FnI := ⟨16, [.cell 2 true 4],
(.seq (.reg [⟨(some 1), .box (.t 0), none⟩, ⟨(some 2), .alloc [.nilp, .nilp, .nilp, .nilp], none⟩])
(.seq (.dreg [⟨⟨(some 3), .faddr 0 (.t 1), none⟩, .quiet, 0, 0⟩, ⟨⟨(some 4), .load false 1 (.t 3), none⟩, .load, 1, 1⟩, ⟨⟨(some 5), .call 59 [(.t 4)], none⟩, .loud, 2, 3⟩, ⟨⟨(some 6), .faddr 1 (.t 1), none⟩, .quiet, 3, 0⟩, ⟨⟨(some 7), .load false 1 (.t 6), none⟩, .load, 4, 8⟩, ⟨⟨(some 8), .call 60 [(.t 7)], none⟩, .loud, 5, 31⟩, ⟨⟨(some 9), .faddr 2 (.t 1), none⟩, .quiet, 6, 0⟩, ⟨⟨(some 10), .load false 1 (.t 9), none⟩, .load, 7, 64⟩, ⟨⟨(some 11), .call 61 [(.t 10)], none⟩, .loud, 8, 255⟩, ⟨⟨(some 12), .faddr 3 (.t 1), none⟩, .quiet, 9, 0⟩, ⟨⟨(some 13), .load false 1 (.t 12), none⟩, .load, 10, 512⟩, ⟨⟨(some 14), .call 62 [(.t 13)], none⟩, .loud, 11, 2047⟩, ⟨⟨(some 15), .build [.nilp, .nilp, .nilp, .nilp] [(0, 1, (.t 5)), (1, 1, (.t 8)), (2, 1, (.t 11)), (3, 1, (.t 14))], none⟩, .quiet, 12, 4095⟩, ⟨⟨none, .store 4 (.t 2) (.t 15), none⟩, .loud, 13, 8191⟩])
.ret))⟩
theorem c35_eq : compFn Tryz.prog 35 = some c35 := by kernel_rfl
noncomputable def c36 : FnI := ⟨33, [.tmp 2],
(.seq (.reg [⟨(some 1), .box (.t 0), none⟩, ⟨(some 2), .mov (.c (.bool false)), none⟩])
(.seq (.reg [⟨(some 6), .faddr 0 (.t 1), none⟩, ⟨(some 7), .load false 1 (.t 6), none⟩, ⟨(some 8), .call 63 [(.t 7)], none⟩, ⟨(some 3), .mov (.t 8), none⟩])
(.seq (.seq (.reg [⟨(some 9), .mov (.t 3), none⟩, ⟨(some 10), .bin .eql (.t 9) (.c (.int .i64 (.ofNat 0))), none⟩])
(.cond (.t 10) (.seq (.reg [⟨(some 2), .mov (.c (.bool false)), none⟩])
.ret) .skip))
(.seq (.seq (.reg [⟨(some 11), .call 64 [(.t 1)], none⟩, ⟨(some 12), .mov (.c (.int .i64 (.ofNat 0))), none⟩])
(.block 0 (.loop (.seq (.reg [⟨(some 13), .bin .lss (.t 12) (.c (.int .i64 (.ofNat 16))), none⟩])
(.seq (.cond (.t 13) .skip (.exit 0))
(.seq (.block 1 (.seq (.reg [⟨(some 14), .mov (.t 12), none⟩, ⟨(some 15), .idxV 16 4 true (.t 11) (.t 12), none⟩, ⟨(some 5), .alloc [.nilfn, .nilfn, .nilfn, .nilfn], none⟩, ⟨(some 4), .mov (.t 14), none⟩, ⟨none, .store 4 (.t 5) (.t 15), none⟩])
(.seq (.reg [⟨(some 16), .mov (.t 3), none⟩, ⟨(some 17), .mov (.t 4), none⟩, ⟨(some 18), .bin .shr (.t 16) (.t 17), none⟩, ⟨(some 19), .bin .and (.t 18) (.c (.int .i64 (.ofNat 1))), none⟩, ⟨(some 20), .bin .eql (.t 19) (.c (.int .i64 (.ofNat 0))), none⟩, ⟨(some 21), .mov (.t 20), none⟩, ⟨(some 22), .faddr 2 (.t 5), (some (21, true))⟩, ⟨(some 23), .load false 1 (.t 22), (some (21, true))⟩, ⟨(some 24), .callv (.t 23) [], (some (21, true))⟩, ⟨(some 25), .pick (.t 21) (.t 24) (.c (.bool false)), none⟩, ⟨(some 26), .mov (.t 25), none⟩, ⟨(some 27), .faddr 3 (.t 5), (some (26, false))⟩, ⟨(some 28), .load false 1 (.t 27), (some (26, false))⟩, ⟨(some 29), .callv (.t 28) [], (some (26, false))⟩, ⟨(some 30), .un .not (.t 29), (some (26, false))⟩, ⟨(some 31), .pick (.t 26) (.c (.bool true)) (.t 30), none⟩])
(.cond (.t 31) (.seq (.reg [⟨(some 2), .mov (.c (.bool false)), none⟩])
.ret) .skip))))
(.reg [⟨(some 32), .bin .add (.t 12) (.c (.int .i64 (.ofNat 1))), none⟩, ⟨(some 12), .mov (.t 32), none⟩])))))))
(.seq (.reg [⟨(some 2), .mov (.c (.bool true)), none⟩])
.ret)))))⟩
theorem c36_eq : compFn Tryz.prog 36 = some c36 := by kernel_rfl
noncomputable def c37 : FnI := ⟨39, [.tmp 6, .tmp 7],
(.seq (.reg [⟨(some 3), .box (.t 0), none⟩, ⟨(some 4), .box (.t 1), none⟩, ⟨(some 6), .mov (.c (.int .i64 (.ofNat 0))), none⟩, ⟨(some 7), .mov (.c (.int .i64 (.ofNat 0))), none⟩])
(.seq (.seq (.reg [⟨(some 11), .faddr 0 (.t 4), none⟩, ⟨(some 12), .load false 1 (.t 11), none⟩, ⟨(some 13), .bin .neq (.t 12) (.c (.int .i64 (.ofNat 18))), none⟩])
(.cond (.t 13) (.seq (.reg [⟨(some 14), .load true 4 (.t 3), none⟩, ⟨(some 15), .load true 17 (.t 4), none⟩, ⟨(some 16), .mov (.t 2), none⟩, ⟨(some 17), .build [.nilp, .nilp, .nilp, .nilp, (.int .i64 (.ofNat 0)), (.int .i64 (.ofNat 0)), (.int .i64 (.ofNat 0)), (.int .i64 (.ofNat 0)), (.str []), (.str []), (.str []), (.str []), (.str []), (.str []), (.str []), (.str []), .nilsl, (.bool false), (.int .u64 (.ofNat 0)), (.int .u64 (.ofNat 0)), .nilsl, (.int .u64 (.ofNat 0))] [(0, 4, (.t 14)), (4, 17, (.t 15)), (21, 1, (.t 16))], none⟩, ⟨(some 18), .call 65 [(.t 17)], none⟩, ⟨(some 19), .callv (.t 18) [], none⟩, ⟨(some 6), .mov (.c (.int .i64 (.ofNat 0))), none⟩, ⟨(some 7), .mov (.t 19), none⟩])
.ret) .skip))
(.seq (.seq (.reg [⟨(some 20), .faddr 16 (.t 4), none⟩, ⟨(some 21), .load false 1 (.t 20), none⟩, ⟨(some 22), .len false (.t 21), none⟩, ⟨(some 23), .mov (.c (.int .i64 (.ofNat 0))), none⟩])
(.block 0 (.loop (.seq (.reg [⟨(some 24), .bin .lss (.t 23) (.t 22), none⟩])
(.seq (.cond (.t 24) .skip (.exit 0))
(.seq (.block 1 (.seq (.reg [⟨(some 25), .mov (.t 23), none⟩, ⟨(some 26), .idxS 17 (.t 21) (.t 23), none⟩, ⟨(some 27), .load true 17 (.t 26), none⟩, ⟨(some 9), .alloc [(.int .i64 (.ofNat 0)), (.int .i64 (.ofNat 0)), (.int .i64 (.ofNat 0)), (.int .i64 (.ofNat 0)), (.str []), (.str []), (.str []), (.str []), (.str []), (.str []), (.str []), (.str []), .nilsl, (.bool false), (.int .u64 (.ofNat 0)), (.int .u64 (.ofNat 0)), .nilsl], none⟩, ⟨(some 8), .mov (.t 25), none⟩, ⟨none, .store 17 (.t 9) (.t 27), none⟩])
(.seq (.reg [⟨(some 28), .load true 4 (.t 3), none⟩, ⟨(some 29), .load true 17 (.t 9), none⟩, ⟨(some 30), .mov (.t 2), none⟩, ⟨(some 31), .build [.nilp, .nilp, .nilp, .nilp, (.int .i64 (.ofNat 0)), (.int .i64 (.ofNat 0)), (.int .i64 (.ofNat 0)), (.int .i64 (.ofNat 0)), (.str []), (.str []), (.str []), (.str []), (.str []), (.str []), (.str []), (.str []), .nilsl, (.bool false), (.int .u64 (.ofNat 0)), (.int .u64 (.ofNat 0)), .nilsl, (.int .u64 (.ofNat 0))] [(0, 4, (.t 28)), (4, 17, (.t 29)), (21, 1, (.t 30))], none⟩, ⟨(some 32), .call 65 [(.t 31)], none⟩, ⟨(some 33), .callv (.t 32) [], none⟩, ⟨(some 10), .mov (.t 33), none⟩])
(.seq (.reg [⟨(some 34), .mov (.t 10), none⟩, ⟨(some 35), .bin .neq (.t 34) (.c (.int .i64 (.ofNat 0))), none⟩])
(.cond (.t 35) (.seq (.reg [⟨(some 36), .mov (.t 8), none⟩, ⟨(some 37), .mov (.t 10), none⟩, ⟨(some 6), .mov (.t 36), none⟩, ⟨(some 7), .mov (.t 37), none⟩])
.ret) .skip)))))
(.reg [⟨(some 38), .bin .add (.t 23) (.c (.int .i64 (.ofNat 1))), none⟩, ⟨(some 23), .mov (.t 38), none⟩])))))))
(.seq (.reg [⟨(some 6), .mov (.c (.int .i64 (.ofNat 0))), none⟩, ⟨(some 7), .mov (.c (.int .i64 (.ofNat 0))), none⟩])
.ret))))⟩
theorem c37_eq : compFn Tryz.prog 37 = some c37 := by kernel_rfl
noncomputable def c38 : FnI := ⟨29, [.tmp 2, .tmp 3],
(.seq (.reg [⟨(some 1), .box (.t 0), none⟩, ⟨(some 2), .mov (.c .nilsl), none⟩, ⟨(some 3), .mov (.c (.int .i64 (.ofNat 0))), none⟩])
(.seq (.seq (.reg [⟨(some 4), .faddr 2 (.t 1), none⟩, ⟨(some 5), .load true 17 (.t 4), none⟩, ⟨(some 6), .call 36 [(.t 5)], none⟩, ⟨(some 7), .un .not (.t 6), none⟩, ⟨(some 8), .mov (.t 7), none⟩, ⟨(some 9), .faddr 0 (.t 1), (some (8, false))⟩, ⟨(some 10), .load false 1 (.t 9), (some (8, false))⟩, ⟨(some 11), .bin .lss (.t 10) (.c (.int .i64 (.ofNat 0))), (some (8, false))⟩, ⟨(some 12), .pick (.t 8) (.c (.bool true)) (.t 11), none⟩, ⟨(some 13), .mov (.t 12), none⟩, ⟨(some 14), .faddr 0 (.t 1), (some (13, false))⟩, ⟨(some 15), .load false 1 (.t 14), (some (13, false))⟩, ⟨(some 16), .bin .gtr (.t 15) (.c (.int .i64 (.ofNat 15))), (some (13, false))⟩, ⟨(some 17), .pick (.t 13) (.c (.bool true)) (.t 16), none⟩])
(.cond (.t 17) (.seq (.reg [⟨(some 2), .mov (.c .nilsl), none⟩, ⟨(some 3), .mov (.c (.int .i64 (.ofNat 2))), none⟩])
.ret) .skip))
(.seq (.dreg [⟨⟨(some 18), .faddr 0 (.t 1), none⟩, .quiet, 0, 0⟩, ⟨⟨(some 19), .load false 1 (.t 18), none⟩, .load, 1, 1⟩, ⟨⟨(some 20), .cvInt .u64 (.t 19), none⟩, .quiet, 2, 3⟩, ⟨⟨(some 21), .call 40 [(.c .nilsl), (.t 20)], none⟩, .loud, 3, 7⟩, ⟨⟨(some 22), .faddr 1 (.t 1), none⟩, .quiet, 4, 0⟩, ⟨⟨(some 23), .load false 1 (.t 22), none⟩, .load, 5, 16⟩, ⟨⟨(some 24), .cvInt .u64 (.t 23), none⟩, .quiet, 6, 48⟩, ⟨⟨(some 25), .call 40 [(.t 21), (.t 24)], none⟩, .loud, 7, 127⟩, ⟨⟨(some 26), .faddr 2 (.t 1), none⟩, .quiet, 8, 0⟩, ⟨⟨(some 27), .load true 17 (.t 26), none⟩, .load, 9, 256⟩, ⟨⟨(some 28), .call 66 [(.t 25), (.t 27)], none⟩, .loud, 10, 1023⟩, ⟨⟨(some 2), .mov (.t 28), none⟩, .quiet, 11, 2047⟩, ⟨⟨(some 3), .mov (.c (.int .i64 (.ofNat 0))), none⟩, .quiet, 12, 4095⟩])
.ret)))⟩
theorem c38_eq : compFn Tryz.prog 38 = some c38 := by kernel_rfl
noncomputable def c39 : FnI := ⟨43, [.tmp 4, .tmp 5],
(.seq (.reg [⟨(some 3), .box (.t 1), none⟩, ⟨(some 4), .mov (.c .nilsl), none⟩, ⟨(some 5), .mov (.c (.int .i64 (.ofNat 0))), none⟩])
(.seq (.seq (.reg [⟨(some 9), .faddr 0 (.t 3), none⟩, ⟨(some 10), .load false 1 (.t 9), none⟩, ⟨(some 11), .bin .eql (.t 10) (.c (.int .u8 (.ofNat 0))), none⟩])
(.cond (.t 11) (.seq (.reg [⟨(some 4), .mov (.c .nilsl), none⟩, ⟨(some 5), .mov (.c (.int .i64 (.ofNat 2))), none⟩])
.ret) .skip))
(.seq (.seq (.reg [⟨(some 12), .faddr 1 (.t 3), none⟩, ⟨(some 13), .load false 1 (.t 12), none⟩, ⟨(some 14), .len false (.t 13), none⟩, ⟨(some 15), .bin .gtr (.t 14) (.c (.int .i64 (.ofNat 1000))), none⟩])
(.cond (.t 15) (.seq (.reg [⟨(some 4), .mov (.c .nilsl), none⟩, ⟨(some 5), .mov (.c (.int .i64 (.ofNat 3))), none⟩])
.ret) .skip))
(.seq (.reg [⟨(some 16), .faddr 1 (.t 3), none⟩, ⟨(some 17), .load false 1 (.t 16), none⟩, ⟨(some 18), .len false (.t 17), none⟩, ⟨(some 6), .mov (.t 18), none⟩])
(.seq (.reg [⟨(some 19), .faddr 0 (.t 3), none⟩, ⟨(some 20), .load false 1 (.t 19), none⟩, ⟨(some 21), .mov (.t 6), none⟩, ⟨(some 22), .bin .shr (.t 21) (.c (.int .u64 (.ofNat 8))), none⟩, ⟨(some 23), .cvInt .u8 (.t 22), none⟩, ⟨(some 24), .mov (.t 6), none⟩, ⟨(some 25), .cvInt .u8 (.t 24), none⟩, ⟨(some 26), .buildSl 1 3 [(.int .u8 (.ofNat 0)), (.int .u8 (.ofNat 0)), (.int .u8 (.ofNat 0))] [(0, 1, (.t 20)), (1, 1, (.t 23)), (2, 1, (.t 25))], none⟩, ⟨(some 7), .mov (.t 26), none⟩])
(.seq (.dreg [⟨⟨(some 27), .buildSl 1 0 [] [], none⟩, .quiet, 0, 0⟩, ⟨⟨(some 28), .mov (.t 0), none⟩, .quiet, 1, 0⟩, ⟨⟨(some 29), .append 1 1 (.t 27) (.t 28), none⟩, .loud, 2, 3⟩, ⟨⟨(some 30), .mov (.t 7), none⟩, .quiet, 3, 0⟩, ⟨⟨(some 31), .append 1 1 (.t 29) (.t 30), none⟩, .loud, 4, 15⟩, ⟨⟨(some 32), .faddr 1 (.t 3), none⟩, .quiet, 5, 0⟩, ⟨⟨(some 33), .load false 1 (.t 32), none⟩, .load, 6, 32⟩, ⟨⟨(some 34), .append 1 1 (.t 31) (.t 33), none⟩, .loud, 7, 127⟩, ⟨⟨(some 8), .mov (.t 34), none⟩, .quiet, 8, 255⟩])
(.seq (.reg [⟨(some 35), .mov (.t 8), none⟩, ⟨(some 36), .mov (.t 7), none⟩, ⟨(some 37), .faddr 1 (.t 3), none⟩, ⟨(some 38), .load false 1 (.t 37), none⟩, ⟨(some 39), .buildSl 1 2 [.nilsl, .nilsl] [(0, 1, (.t 36)), (1, 1, (.t 38))], none⟩, ⟨(some 40), .call 68 [(.t 39)], none⟩, ⟨(some 41), .call 67 [(.t 40)], none⟩, ⟨(some 42), .append 1 1 (.t 35) (.t 41), none⟩, ⟨(some 4), .mov (.t 42), none⟩, ⟨(some 5), .mov (.c (.int .i64 (.ofNat 0))), none⟩])
.ret)))))))⟩
theorem c39_eq : compFn Tryz.prog 39 = some c39 := by kernel_rfl
noncomputable def c40 : FnI := ⟨33, [.tmp 4],
(.seq (.reg [⟨(some 4), .mov (.c .nilsl), none⟩])
(.seq (.reg [⟨(some 5), .alloc [(.int .u8 (.ofNat 0)), (.int .u8 (.ofNat 0)), (.int .u8 (.ofNat 0)), (.int .u8 (.ofNat 0)), (.int .u8 (.ofNat 0)), (.int .u8 (.ofNat 0)), (.int .u8 (.ofNat 0)), (.int .u8 (.ofNat 0))], none⟩])
(.seq (.reg [⟨(some 6), .mov (.c (.int .i64 (.ofNat 0))), none⟩])
(.seq (.seq (.reg [⟨(some 9), .mov (.t 1), none⟩, ⟨(some 7), .mov (.t 9), none⟩])
(.block 0 (.loop (.seq (.seq (.reg [⟨(some 10), .mov (.t 7), none⟩, ⟨(some 11), .bin .gtr (.t 10) (.c (.int .u64 (.ofNat 0))), none⟩])
(.cond (.t 11) .skip (.exit 0)))
(.seq (.block 1 (.seq (.reg [⟨(some 14), .mov (.t 6), none⟩, ⟨(some 15), .bin .add (.t 14) (.c (.int .i64 (.ofNat 1))), none⟩, ⟨(some 6), .mov (.t 15), none⟩])
(.reg [⟨(some 16), .mov (.t 6), none⟩, ⟨(some 17), .bin .sub (.c (.int .i64 (.ofNat 8))) (.t 16), none⟩, ⟨(some 18), .mov (.t 7), none⟩, ⟨(some 19), .cvInt .u8 (.t 18), none⟩, ⟨(some 20), .idxA 8 1 (.t 5) (.t 17), none⟩, ⟨none, .store 1 (.t 20) (.t 19), none⟩])))
(.reg [⟨(some 12), .mov (.t 7), none⟩, ⟨(some 13), .bin .shr (.t 12) (.c (.int .u64 (.ofNat 8))), none⟩, ⟨(some 7), .mov (.t 13), none⟩]))))))
(.seq (.reg [⟨(some 21), .buildSl 1 0 [] [], none⟩, ⟨(some 22), .mov (.t 0), none⟩, ⟨(some 23), .append 1 1 (.t 21) (.t 22), none⟩, ⟨(some 24), .mov (.t 6), none⟩, ⟨(some 25), .cvInt .u8 (.t 24), none⟩, ⟨(some 26), .buildSl 1 1 [(.int .u8 (.ofNat 0))] [(0, 1, (.t 25))], none⟩, ⟨(some 27), .append 1 1 (.t 23) (.t 26), none⟩, ⟨(some 8), .mov (.t 27), none⟩])
(.seq (.reg [⟨(some 28), .mov (.t 8), none⟩, ⟨(some 29), .mov (.t 6), none⟩, ⟨(some 30), .bin .sub (.c (.int .i64 (.ofNat 8))) (.t 29), none⟩, ⟨(some 31), .slA 8 1 (.t 5) (some (.t 30)) none none, none⟩, ⟨(some 32), .append 1 1 (.t 28) (.t 31), none⟩, ⟨(some 4), .mov (.t 32), none⟩])
.ret))))))⟩
theorem c40_eq : compFn Tryz.prog 40 = some c40 := by kernel_rfl
noncomputable def c41 : FnI := ⟨50, [.tmp 6],
(.seq (.reg [⟨(some 3), .box (.t 0), none⟩, ⟨(some 4), .box (.t 1), none⟩, ⟨(some 5), .box (.t 2), none⟩, ⟨(some 6), .mov (.c (.int .i64 (.ofNat 0))), none⟩])
(.seq (.reg [⟨(some 10), .load false 1 (.t 3), none⟩, ⟨(some 11), .mkfn 70 [] [(.t 4)], none⟩, ⟨(some 12), .build [.nilfn, (.int .i64 (.ofNat 0))] [(0, 1, (.t 11)), (1, 1, (.c (.int .i64 (.ofNat 2))))], none⟩, ⟨(some 13), .mkfn 71 [] [(.t 5), (.t 3)], none⟩, ⟨(some 14), .build [.nilfn, (.int .i64 (.ofNat 0))] [(0, 1, (.t 13)), (1, 1, (.c (.int .i64 (.ofNat 51))))], none⟩, ⟨(some 15), .buildSl 2 2 [.nilfn, (.int .i64 (.ofNat 0)), .nilfn, (.int .i64 (.ofNat 0))] [(0, 2, (.t 12)), (2, 2, (.t 14))], none⟩, ⟨(some 16), .call 69 [(.t 10), (.t 15)], none⟩, ⟨(some 7), .mov (.t 16), none⟩])
(.seq (.seq (.reg [⟨(some 17), .mov (.t 7), none⟩, ⟨(some 18), .bin .neq (.t 17) (.c (.int .i64 (.ofNat 0))), none⟩])
(.cond (.t 18) (.seq (.reg [⟨(some 19), .mov (.t 7), none⟩, ⟨(some 6), .mov (.t 19), none⟩])
.ret) .skip))
(.seq (.dreg [⟨⟨(some 20), .load false 1 (.t 3), none⟩, .load, 0, 0⟩, ⟨⟨(some 21), .load false 1 (.t 4), none⟩, .load, 1, 0⟩, ⟨⟨(some 22), .nilchk (.t 20), none⟩, .quiet, 2, 1⟩, ⟨⟨(some 23), .faddr 2 (.t 22), none⟩, .quiet, 3, 5⟩, ⟨⟨(some 24), .idxA 4 2 (.t 23) (.t 21), none⟩, .quiet, 4, 15⟩, ⟨⟨(some 8), .mov (.t 24), none⟩, .quiet, 5, 31⟩])
(.seq (.dreg [⟨⟨(some 25), .mov (.t 8), none⟩, .quiet, 0, 0⟩, ⟨⟨(some 26), .nilchk (.t 25), none⟩, .quiet, 1, 1⟩, ⟨⟨(some 27), .faddr 0 (.t 26), none⟩, .quiet, 2, 3⟩, ⟨⟨(some 28), .load false 1 (.t 27), none⟩, .load, 3, 7⟩, ⟨⟨(some 29), .len false (.t 28), none⟩, .quiet, 4, 15⟩, ⟨⟨(some 30), .load false 1 (.t 5), none⟩, .load, 5, 0⟩, ⟨⟨(some 31), .len false (.t 30), none⟩, .quiet, 6, 32⟩, ⟨⟨(some 32), .bin .add (.t 29) (.t 31), none⟩, .quiet, 7, 127⟩, ⟨⟨(some 33), .mksl 1 1 [(.int .u8 (.ofNat 0))] (.t 32) (.t 32), none⟩, .quiet, 8, 255⟩, ⟨⟨(some 9), .mov (.t 33), none⟩, .quiet, 9, 511⟩])
(.seq (.dreg [⟨⟨(some 35), .mov (.t 9), none⟩, .quiet, 1, 0⟩, ⟨⟨(some 36), .mov (.t 8), none⟩, .quiet, 2, 0⟩, ⟨⟨(some 37), .nilchk (.t 36), none⟩, .quiet, 3, 4⟩, ⟨⟨(some 38), .faddr 0 (.t 37), none⟩, .quiet, 4, 12⟩, ⟨⟨(some 39), .load false 1 (.t 38), none⟩, .load, 5, 28⟩, ⟨⟨(some 40), .copy 1 (.t 35) (.t 39), none⟩, .loud, 6, 62⟩, ⟨⟨(some 34), .mov (.t 9), none⟩, .quiet, 0, 0⟩, ⟨⟨(some 41), .slS 1 (.t 34) (some (.t 40)) none none, none⟩, .quiet, 7, 127⟩, ⟨⟨(some 42), .load false 1 (.t 5), none⟩, .load, 8, 0⟩, ⟨⟨(some 43), .copy 1 (.t 41) (.t 42), none⟩, .loud, 9, 511⟩])
(.seq (.reg [⟨(some 44), .mov (.t 8), none⟩, ⟨(some 45), .mov (.t 9), none⟩, ⟨(some 46), .nilchk (.t 44), none⟩, ⟨(some 47), .faddr 0 (.t 46), none⟩, ⟨none, .store 1 (.t 47) (.t 45), none⟩])
(.seq (.seq (.reg [⟨(some 48), .load false 1 (.t 3), none⟩, ⟨(some 49), .call 73 [(.t 48)], none⟩])
(.cond (.t 49) (.seq (.reg [⟨(some 6), .mov (.c (.int .i64 (.ofNat 50))), none⟩])
.ret) .skip))
(.seq (.reg [⟨(some 6), .mov (.c (.int .i64 (.ofNat 0))), none⟩])
.ret)))))))))⟩
theorem c41_eq : compFn Tryz.prog 41 = some c41 := by kernel_rfl
noncomputable def c42 : FnI := ⟨18, [.tmp 6],
(.seq (.reg [⟨(some 6), .mov (.c (.int .i64 (.ofNat 0))), none⟩])
(.seq (.seq (.reg [⟨(some 8), .mov (.t 0), none⟩, ⟨(some 9), .mov (.t 2), none⟩, ⟨(some 10), .call 69 [(.t 8), (.t 9)], none⟩, ⟨(some 7), .mov (.t 10), none⟩])
(.seq (.reg [⟨(some 11), .mov (.t 7), none⟩, ⟨(some 12), .bin .neq (.t 11) (.c (.int .i64 (.ofNat 0))), none⟩])
(.cond (.t 12) (.seq (.reg [⟨(some 13), .mov (.t 7), none⟩, ⟨(some 6), .mov (.t 13), none⟩])
.ret) .skip)))
(.seq (.seq (.reg [⟨(some 14), .mov (.t 0), none⟩, ⟨(some 15), .call 73 [(.t 14)], none⟩])
(.cond (.t 15) (.seq (.reg [⟨(some 6), .mov (.c (.int .i64 (.ofNat 50))), none⟩])
.ret) .skip))
(.seq (.reg [⟨(some 16), .mov (.t 1), none⟩, ⟨(some 17), .callv (.t 16) [], none⟩])
(.seq (.reg [⟨(some 6), .mov (.c (.int .i64 (.ofNat 0))), none⟩])
.ret)))))⟩
theorem c42_eq : compFn Tryz.prog 42 = some c42 := by kernel_rfl
noncomputable def c45 : FnI := ⟨9, [.tmp 2],
(.seq (.reg [⟨(some 2), .mov (.c (.bool false)), none⟩])
(.seq (.reg [⟨(some 3), .mov (.t 0), none⟩, ⟨(some 4), .bin .geq (.t 3) (.c (.int .i64 (.ofNat 0))), none⟩, ⟨(some 5), .mov (.t 4), none⟩, ⟨(some 6), .mov (.t 0), (some (5, true))⟩, ⟨(some 7), .bin .lss (.t 6) (.c (.int .i64 (.ofNat 4))), (some (5, true))⟩, ⟨(some 8), .pick (.t 5) (.t 7) (.c (.bool false)), none⟩, ⟨(some 2), .mov (.t 8), none⟩])
.ret))⟩
theorem c45_eq : compFn Tryz.prog 45 = some c45 := by kernel_rfl
noncomputable def c47 : FnI := ⟨52, [.cell 2 true 2, .tmp 3, .tmp 4],
(.seq (.reg [⟨(some 1), .box (.t 0), none⟩, ⟨(some 2), .alloc [(.int .u8 (.ofNat 0)), .nilsl], none⟩, ⟨(some 3), .mov (.c (.int .i64 (.ofNat 0))), none⟩, ⟨(some 4), .mov (.c (.int .i64 (.ofNat 0))), none⟩])
(.scope (.seq (.reg [⟨(some 10), .mkfn 76 [] [(.t 1)], none⟩, ⟨(some 5), .alloc [.nilfn], none⟩, ⟨none, .store 1 (.t 5) (.t 10), none⟩])
(.seq (.reg [⟨(some 6), .mov (.c (.int .i64 (.ofNat 0))), none⟩])
(.seq .skip
(.seq (.seq (.reg [⟨(some 11), .mkfn 77 [] [(.t 1)], none⟩, ⟨(some 12), .build [.nilfn, (.int .i64 (.ofNat 0))] [(0, 1, (.t 11)), (1, 1, (.c (.int .i64 (.ofNat 30))))], none⟩, ⟨(some 13), .mkfn 78 [] [(.t 1)], none⟩, ⟨(some 14), .build [.nilfn, (.int .i64 (.ofNat 0))] [(0, 1, (.t 13)), (1, 1, (.c (.int .i64 (.ofNat 31))))], none⟩, ⟨(some 15), .mkfn 79 [] [(.t 5)], none⟩, ⟨(some 16), .build [.nilfn, (.int .i64 (.ofNat 0))] [(0, 1, (.t 15)), (1, 1, (.c (.int .i64 (.ofNat 3))))], none⟩, ⟨(some 17), .mkfn 80 [] [(.t 1), (.t 5)], none⟩, ⟨(some 18), .build [.nilfn, (.int .i64 (.ofNat 0))] [(0, 1, (.t 17)), (1, 1, (.c (.int .i64 (.ofNat 30))))], none⟩, ⟨(some 19), .mkfn 81 [] [(.t 1), (.t 5)], none⟩, ⟨(some 20), .build [.nilfn, (.int .i64 (.ofNat 0))] [(0, 1, (.t 19)), (1, 1, (.c (.int .i64 (.ofNat 32))))], none⟩, ⟨(some 21), .build [.nilfn, (.int .i64 (.ofNat 0)), .nilfn, (.int .i64 (.ofNat 0)), .nilfn, (.int .i64 (.ofNat 0)), .nilfn, (.int .i64 (.ofNat 0)), .nilfn, (.int .i64 (.ofNat 0))] [(0, 2, (.t 12)), (2, 2, (.t 14)), (4, 2, (.t 16)), (6, 2, (.t 18)), (8, 2, (.t 20))], none⟩, ⟨(some 22), .mov (.c (.int .i64 (.ofNat 0))), none⟩])
(.block 0 (.loop (.seq (.reg [⟨(some 23), .bin .lss (.t 22) (.c (.int .i64 (.ofNat 5))), none⟩])
(.seq (.cond (.t 23) .skip (.exit 0))
(.seq (.block 1 (.seq (.reg [⟨(some 24), .idxV 5 2 true (.t 21) (.t 22), none⟩, ⟨(some 8), .alloc [.nilfn, (.int .i64 (.ofNat 0))], none⟩, ⟨none, .store 2 (.t 8) (.t 24), none⟩])
(.seq (.reg [⟨(some 25), .faddr 0 (.t 8), none⟩, ⟨(some 26), .load false 1 (.t 25), none⟩, ⟨(some 27), .callv (.t 26) [], none⟩, ⟨(some 28), .un .not (.t 27), none⟩])
(.cond (.t 28) (.seq (.reg [⟨(some 29), .faddr 1 (.t 8), none⟩, ⟨(some 30), .load false 1 (.t 29), none⟩, ⟨(some 6), .mov (.t 30), none⟩])
(.exit 0)) .skip))))
(.reg [⟨(some 31), .bin .add (.t 22) (.c (.int .i64 (.ofNat 1))), none⟩, ⟨(some 22), .mov (.t 31), none⟩])))))))
(.seq (.seq (.reg [⟨(some 32), .mov (.t 6), none⟩, ⟨(some 33), .bin .neq (.t 32) (.c (.int .i64 (.ofNat 0))), none⟩])
(.cond (.t 33) (.seq (.reg [⟨(some 34), .build [(.int .u8 (.ofNat 0)), .nilsl] [], none⟩, ⟨(some 35), .mov (.t 6), none⟩, ⟨none, .store 2 (.t 2) (.t 34), none⟩, ⟨(some 3), .mov (.c (.int .i64 (.ofNat 0))), none⟩, ⟨(some 4), .mov (.t 35), none⟩])
.ret) .skip))
(.seq (.reg [⟨(some 36), .load false 1 (.t 5), none⟩, ⟨(some 37), .callv (.t 36) [], none⟩, ⟨(some 9), .mov (.t 37), none⟩])
(.seq (.dreg [⟨⟨(some 41), .buildSl 1 0 [] [], none⟩, .quiet, 3, 0⟩, ⟨⟨(some 42), .load false 1 (.t 1), none⟩, .load, 4, 0⟩, ⟨⟨(some 43), .mov (.t 9), none⟩, .quiet, 5, 0⟩, ⟨⟨(some 44), .bin .add (.c (.int .i64 (.ofNat 3))) (.t 43), none⟩, .quiet, 6, 32⟩, ⟨⟨(some 45), .mov (.t 9), none⟩, .quiet, 7, 0⟩, ⟨⟨(some 46), .bin .add (.c (.int .i64 (.ofNat 3))) (.t 45), none⟩, .quiet, 8, 128⟩, ⟨⟨(some 47), .slS 1 (.t 42) (some (.c (.int .i64 (.ofNat 3)))) (some (.t 44)) (some (.t 46)), none⟩, .quiet, 9, 496⟩, ⟨⟨(some 48), .append 1 1 (.t 41) (.t 47), none⟩, .loud, 10, 1016⟩, ⟨⟨(some 38), .load false 1 (.t 1), none⟩, .load, 0, 0⟩, ⟨⟨(some 39), .idxS 1 (.t 38) (.c (.int .i64 (.ofNat 0))), none⟩, .quiet, 1, 1⟩, ⟨⟨(some 40), .load false 1 (.t 39), none⟩, .load, 2, 3⟩, ⟨⟨(some 49), .build [(.int .u8 (.ofNat 0)), .nilsl] [(0, 1, (.t 40)), (1, 1, (.t 48))], none⟩, .quiet, 11, 2047⟩, ⟨⟨none, .store 2 (.t 2) (.t 49), none⟩, .loud, 14, 4095⟩, ⟨⟨(some 50), .mov (.t 9), none⟩, .quiet, 12, 0⟩, ⟨⟨(some 51), .bin .add (.t 50) (.c (.int .i64 (.ofNat 7))), none⟩, .quiet, 13, 4096⟩, ⟨⟨(some 3), .mov (.t 51), none⟩, .quiet, 15, 32767⟩, ⟨⟨(some 4), .mov (.c (.int .i64 (.ofNat 0))), none⟩, .quiet, 16, 65535⟩])
.ret)))))))))⟩
theorem c47_eq : compFn Tryz.prog 47 = some c47 := by kernel_rfl
noncomputable def c48 : FnI := ⟨16, [],
(.dreg [⟨⟨(some 2), .load false 1 (.t 0), none⟩, .load, 0, 0⟩, ⟨⟨(some 3), .load false 1 (.t 1), none⟩, .load, 1, 0⟩, ⟨⟨(some 4), .load false 1 (.t 0), none⟩, .load, 2, 0⟩, ⟨⟨(some 5), .load false 1 (.t 1), none⟩, .load, 3, 0⟩, ⟨⟨(some 6), .nilchk (.t 4), none⟩, .quiet, 4, 4⟩, ⟨⟨(some 7), .faddr 2 (.t 6), none⟩, .quiet, 5, 20⟩, ⟨⟨(some 8), .idxA 4 2 (.t 7) (.t 5), none⟩, .quiet, 6, 60⟩, ⟨⟨(some 9), .faddr 0 (.t 8), none⟩, .quiet, 7, 124⟩, ⟨⟨(some 10), .load false 1 (.t 9), none⟩, .load, 8, 252⟩, ⟨⟨(some 11), .len false (.t 10), none⟩, .quiet, 9, 508⟩, ⟨⟨(some 12), .nilchk (.t 2), none⟩, .quiet, 10, 1⟩, ⟨⟨(some 13), .faddr 2 (.t 12), none⟩, .quiet, 11, 1025⟩, ⟨⟨(some 14), .idxA 4 2 (.t 13) (.t 3), none⟩, .quiet, 12, 4095⟩, ⟨⟨(some 15), .faddr 1 (.t 14), none⟩, .quiet, 13, 8191⟩, ⟨⟨none, .store 1 (.t 15) (.t 11), none⟩, .loud, 14, 16383⟩])⟩
theorem c48_eq : compFn Tryz.prog 48 = some c48 := by kernel_rfl
noncomputable def c49 : FnI := ⟨4, [.tmp 1],
(.seq (.reg [⟨(some 1), .mov (.c (.bool false)), none⟩])
(.seq (.reg [⟨(some 2), .load false 1 (.t 0), none⟩, ⟨(some 3), .call 45 [(.t 2)], none⟩, ⟨(some 1), .mov (.t 3), none⟩])
.ret))⟩
theorem c49_eq : compFn Tryz.prog 49 = some c49 := by kernel_rfl
noncomputable def c52 : FnI := ⟨12, [.tmp 2],
(.seq (.reg [⟨(some 2), .mov (.c (.bool false)), none⟩])
(.seq (.reg [⟨(some 3), .mov (.t 0), none⟩, ⟨(some 4), .eq false .ptr (.t 3) (.c .nilp), none⟩, ⟨(some 5), .mov (.t 4), none⟩, ⟨(some 6), .mov (.t 0), (some (5, false))⟩, ⟨(some 7), .nilchk (.t 6), (some (5, false))⟩, ⟨(some 8), .faddr 0 (.t 7), (some (5, false))⟩, ⟨(some 9), .load false 1 (.t 8), (some (5, false))⟩, ⟨(some 10), .un .not (.t 9), (some (5, false))⟩, ⟨(some 11), .pick (.t 5) (.c (.bool true)) (.t 10), none⟩, ⟨(some 2), .mov (.t 11), none⟩])
.ret))⟩
theorem c52_eq : compFn Tryz.prog 52 = some c52 := by kernel_rfl
noncomputable def c53 : FnI := ⟨14, [.tmp 2],
(.seq (.reg [⟨(some 2), .mov (.c .nilp), none⟩])
(.seq (.reg [⟨(some 3), .mov (.t 0), none⟩, ⟨(some 4), .call 83 [(.t 3)], none⟩, ⟨(some 5), .mov (.t 0), none⟩, ⟨(some 6), .call 84 [(.t 5)], none⟩, ⟨(some 7), .mov (.t 0), none⟩, ⟨(some 8), .call 85 [(.t 7)], none⟩, ⟨(some 9), .mov (.t 0), none⟩, ⟨(some 10), .call 86 [(.t 9)], none⟩, ⟨(some 11), .build [.nilp, .nilp, .nilp, .nilp] [(0, 1, (.t 4)), (1, 1, (.t 6)), (2, 1, (.t 8)), (3, 1, (.t 10))], none⟩, ⟨(some 12), .build [.nilp, .nilp, .nilp, .nilp, (.int .u64 (.ofNat 0)), (.bool false), (.int .u32 (.ofNat 0)), (.int .u64 (.ofNat 0)), (.bool false), (.int .u32 (.ofNat 0)), (.int .u64 (.ofNat 0)), (.bool false), (.int .u32 (.ofNat 0)), (.int .u64 (.ofNat 0)), (.bool false), (.int .u32 (.ofNat 0)), (.int .u64 (.ofNat 0)), (.bool false), (.int .u32 (.ofNat 0)), (.int .u64 (.ofNat 0)), (.bool false), (.int .u32 (.ofNat 0)), (.int .u64 (.ofNat 0)), (.bool false), (.int .u32 (.ofNat 0)), (.int .u64 (.ofNat 0)), (.bool false), (.int .u32 (.ofNat 0)), (.int .u64 (.ofNat 0)), (.bool false), (.int .u32 (.ofNat 0)), (.int .u64 (.ofNat 0)), (.bool false), (.int .u32 (.ofNat 0)), (.int .u64 (.ofNat 0)), (.bool false), (.int .u32 (.ofNat 0)), (.int .u64 (.ofNat 0)), (.bool false), (.int .u32 (.ofNat 0)), (.int .u64 (.ofNat 0)), (.bool false), (.int .u32 (.ofNat 0)), (.int .u64 (.ofNat 0)), (.bool false), (.int .u32 (.ofNat 0)), (.int .u64 (.ofNat 0)), (.bool false), (.int .u32 (.ofNat 0)), (.int .u64 (.ofNat 0)), (.bool false), (.int .u32 (.ofNat 0)), (.int .u64 (.ofNat 0))] [(0, 4, (.t 11))], none⟩, ⟨(some 13), .box (.t 12), none⟩, ⟨(some 2), .mov (.t 13), none⟩])
.ret))⟩
theorem c53_eq : compFn Tryz.prog 53 = some c53 := by kernel_rfl
noncomputable def c54 : FnI := ⟨31, [.tmp 2, .tmp 3],
(.seq (.reg [⟨(some 2), .mov (.c .nilsl), none⟩, ⟨(some 3), .mov (.c (.int .i64 (.ofNat 0))), none⟩])
(.seq (.reg [⟨(some 10), .mov (.t 0), none⟩, ⟨(some 11), .call 87 [(.t 10)], none⟩, ⟨(some 9), .mov (.t 11), none⟩, ⟨(some 12), .extract (.t 9) 0, none⟩, ⟨(some 13), .extract (.t 9) 1, none⟩, ⟨(some 4), .mov (.t 12), none⟩, ⟨(some 5), .mov (.t 13), none⟩])
(.seq (.reg [⟨(some 14), .mov (.t 5), none⟩, ⟨(some 15), .bin .neq (.t 14) (.c (.int .i64 (.ofNat 0))), none⟩, ⟨(some 16), .mov (.t 15), none⟩, ⟨(some 17), .mov (.t 5), (some (16, true))⟩, ⟨(some 18), .bin .neq (.t 17) (.c (.int .i64 (.ofNat 30))), (some (16, true))⟩, ⟨(some 19), .pick (.t 16) (.t 18) (.c (.bool false)), none⟩, ⟨(some 20), .call 55 [(.t 19)], none⟩])
(.seq (.reg [⟨(some 6), .alloc [.nilsl], none⟩])
(.seq (.seq (.reg [⟨(some 21), .mov (.t 0), none⟩, ⟨(some 22), .call 88 [(.t 21)], none⟩])
(.block 0 (.rangef (.t 22) [23, 24] (.reg [⟨(some 8), .alloc [(.int .u8 (.ofNat 0)), .nilsl], none⟩, ⟨none, .store 2 (.t 8) (.t 24), none⟩]) (.block 1 (.reg [⟨(some 25), .load false 1 (.t 6), none⟩, ⟨(some 26), .load true 2 (.t 8), none⟩, ⟨(some 27), .buildSl 2 1 [(.int .u8 (.ofNat 0)), .nilsl] [(0, 2, (.t 26))], none⟩, ⟨(some 28), .append 2 32 (.t 25) (.t 27), none⟩, ⟨none, .store 1 (.t 6) (.t 28), none⟩])))))
(.seq (.reg [⟨(some 29), .load false 1 (.t 6), none⟩, ⟨(some 30), .mov (.t 4), none⟩, ⟨(some 2), .mov (.t 29), none⟩, ⟨(some 3), .mov (.t 30), none⟩])
.ret))))))⟩
theorem c54_eq : compFn Tryz.prog 54 = some c54 := by kernel_rfl
noncomputable def c55 : FnI := ⟨4, [],
(.seq (.reg [⟨(some 2), .mov (.t 0), none⟩])
(.cond (.t 2) (.reg [⟨(some 3), .call 18 [(.c (.int .i64 (.ofNat 52)))], none⟩]) .skip))⟩
theorem c55_eq : compFn Tryz.prog 55 = some c55 := by kernel_rfl
noncomputable def c58 : FnI := ⟨39, [.tmp 2, .cell 3 true 19],
(.seq (.reg [⟨(some 1), .box (.t 0), none⟩, ⟨(some 2), .mov (.c (.int .u64 (.ofNat 0))), none⟩, ⟨(some 3), .alloc [(.int .i64 (.ofNat 0)), (.int .u32 (.ofNat 0)), (.int .i64 (.ofNat 0)), (.int .i64 (.ofNat 0)), (.int .i64 (.ofNat 0)), (.int .i64 (.ofNat 0)), (.str []), (.str []), (.str []), (.str []), (.str []), (.str []), (.str []), (.str []), .nilsl, (.bool false), (.int .u64 (.ofNat 0)), (.int .u64 (.ofNat 0)), .nilsl], none⟩])
(.seq (.reg [⟨(some 8), .faddr 0 (.t 1), none⟩, ⟨(some 9), .load false 1 (.t 8), none⟩, ⟨(some 10), .bin .neq (.t 9) (.c (.int .u8 (.ofNat 1))), none⟩, ⟨(some 11), .call 55 [(.t 10)], none⟩])
(.seq (.reg [⟨(some 12), .faddr 1 (.t 1), none⟩, ⟨(some 13), .load false 1 (.t 12), none⟩, ⟨(some 14), .call 89 [(.t 13)], none⟩, ⟨(some 4), .mov (.t 14), none⟩])
(.seq (.reg [⟨(some 15), .mov (.t 4), none⟩, ⟨(some 16), .call 110 [(.t 15), (.c (.int .u64 (.ofNat 18446744073709551615)))], none⟩, ⟨(some 5), .mov (.t 16), none⟩])
(.seq (.reg [⟨(some 17), .mov (.t 4), none⟩, ⟨(some 18), .call 111 [(.t 17)], none⟩, ⟨(some 19), .bin .neq (.t 18) (.c (.int .i64 (.ofNat 0))), none⟩, ⟨(some 20), .call 55 [(.t 19)], none⟩])
(.seq (.dreg [⟨⟨(some 27), .mov (.t 4), none⟩, .quiet, 5, 0⟩, ⟨⟨(some 28), .call 113 [(.t 27)], none⟩, .loud, 6, 32⟩, ⟨⟨(some 22), .faddr 1 (.t 1), none⟩, .quiet, 0, 0⟩, ⟨⟨(some 23), .load false 1 (.t 22), none⟩, .load, 1, 1⟩, ⟨⟨(some 24), .faddr 1 (.t 1), none⟩, .quiet, 2, 0⟩, ⟨⟨(some 25), .load false 1 (.t 24), none⟩, .load, 3, 4⟩, ⟨⟨(some 26), .len false (.t 25), none⟩, .quiet, 4, 12⟩, ⟨⟨(some 29), .bin .sub (.t 26) (.t 28), none⟩, .quiet, 7, 124⟩, ⟨⟨(some 30), .slS 1 (.t 23) (some (.t 29)) none none, none⟩, .quiet, 8, 255⟩, ⟨⟨(some 31), .call 112 [(.t 30)], none⟩, .loud, 9, 511⟩, ⟨⟨(some 21), .mov (.t 31), none⟩, .quiet, 10, 1023⟩, ⟨⟨(some 32), .extract (.t 21) 0, none⟩, .quiet, 11, 2047⟩, ⟨⟨(some 6), .alloc [(.int .i64 (.ofNat 0)), (.int .u32 (.ofNat 0)), (.int .i64 (.ofNat 0)), (.int .i64 (.ofNat 0)), (.int .i64 (.ofNat 0)), (.int .i64 (.ofNat 0)), (.str []), (.str []), (.str []), (.str []), (.str []), (.str []), (.str []), (.str []), .nilsl, (.bool false), (.int .u64 (.ofNat 0)), (.int .u64 (.ofNat 0)), .nilsl], none⟩, .quiet, 13, 0⟩, ⟨⟨none, .store 19 (.t 6) (.t 32), none⟩, .loud, 14, 12287⟩, ⟨⟨(some 33), .extract (.t 21) 1, none⟩, .quiet, 12, 2047⟩, ⟨⟨(some 7), .mov (.t 33), none⟩, .quiet, 15, 32767⟩])
(.seq (.reg [⟨(some 34), .mov (.t 7), none⟩, ⟨(some 35), .bin .neq (.t 34) (.c (.int .i64 (.ofNat 0))), none⟩, ⟨(some 36), .call 55 [(.t 35)], none⟩])
(.seq (.dreg [⟨⟨(some 37), .mov (.t 5), none⟩, .quiet, 0, 0⟩, ⟨⟨(some 38), .load true 19 (.t 6), none⟩, .load, 1, 0⟩, ⟨⟨(some 2), .mov (.t 37), none⟩, .quiet, 2, 1⟩, ⟨⟨none, .store 19 (.t 3) (.t 38), none⟩, .loud, 3, 7⟩])
.ret))))))))⟩
theorem c58_eq : compFn Tryz.prog 58 = some c58 := by kernel_rfl
noncomputable def c59 : FnI := ⟨12, [.tmp 2],
(.seq (.reg [⟨(some 2), .mov (.c .nilp), none⟩])
(.seq (.seq (.reg [⟨(some 3), .mov (.t 0), none⟩, ⟨(some 4), .call 114 [(.t 3)], none⟩])
(.cond (.t 4) (.seq (.reg [⟨(some 2), .mov (.c .nilp), none⟩])
.ret) .skip))
(.seq (.reg [⟨(some 5), .mov (.t 0), none⟩, ⟨(some 6), .nilchk (.t 5), none⟩, ⟨(some 7), .faddr 0 (.t 6), none⟩, ⟨(some 8), .load false 1 (.t 7), none⟩, ⟨(some 9), .call 115 [(.t 8)], none⟩, ⟨(some 10), .build [.nilp] [(0, 1, (.t 9))], none⟩, ⟨(some 11), .box (.t 10), none⟩, ⟨(some 2), .mov (.t 11), none⟩])
.ret)))⟩
theorem c59_eq : compFn Tryz.prog 59 = some c59 := by kernel_rfl
noncomputable def c60 : FnI := ⟨12, [.tmp 2],
(.seq (.reg [⟨(some 2), .mov (.c .nilp), none⟩])
(.seq (.seq (.reg [⟨(some 3), .mov (.t 0), none⟩, ⟨(some 4), .call 116 [(.t 3)], none⟩])
(.cond (.t 4) (.seq (.reg [⟨(some 2), .mov (.c .nilp), none⟩])
.ret) .skip))
(.seq (.reg [⟨(some 5), .mov (.t 0), none⟩, ⟨(some 6), .nilchk (.t 5), none⟩, ⟨(some 7), .faddr 0 (.t 6), none⟩, ⟨(some 8), .load false 1 (.t 7), none⟩, ⟨(some 9), .call 117 [(.t 8)], none⟩, ⟨(some 10), .build [.nilp] [(0, 1, (.t 9))], none⟩, ⟨(some 11), .box (.t 10), none⟩, ⟨(some 2), .mov (.t 11), none⟩])
.ret)))⟩
theorem c60_eq : compFn Tryz.prog 60 = some c60 := by kernel_rfl
noncomputable def c61 : FnI := ⟨22, [.tmp 2],
(.seq (.reg [⟨(some 2), .mov (.c .nilp), none⟩])
(.seq (.seq (.reg [⟨(some 3), .mov (.t 0), none⟩, ⟨(some 4), .call 118 [(.t 3)], none⟩])
(.cond (.t 4) (.seq (.reg [⟨(some 2), .mov (.c .nilp), none⟩])
.ret) .skip))
(.seq (.dreg [⟨⟨(some 5), .mov (.t 0), none⟩, .quiet, 0, 0⟩, ⟨⟨(some 6), .nilchk (.t 5), none⟩, .quiet, 1, 1⟩, ⟨⟨(some 7), .faddr 0 (.t 6), none⟩, .quiet, 2, 3⟩, ⟨⟨(some 8), .load false 1 (.t 7), none⟩, .load, 3, 7⟩, ⟨⟨(some 9), .call 119 [(.t 8)], none⟩, .loud, 4, 15⟩, ⟨⟨(some 10), .mov (.t 0), none⟩, .quiet, 5, 0⟩, ⟨⟨(some 11), .nilchk (.t 10), none⟩, .quiet, 6, 32⟩, ⟨⟨(some 12), .faddr 1 (.t 11), none⟩, .quiet, 7, 96⟩, ⟨⟨(some 13), .load false 1 (.t 12), none⟩, .load, 8, 224⟩, ⟨⟨(some 14), .call 120 [(.t 13)], none⟩, .loud, 9, 511⟩, ⟨⟨(some 15), .mov (.t 0), none⟩, .quiet, 10, 0⟩, ⟨⟨(some 16), .nilchk (.t 15), none⟩, .quiet, 11, 1024⟩, ⟨⟨(some 17), .faddr 2 (.t 16), none⟩, .quiet, 12, 3072⟩, ⟨⟨(some 18), .load false 1 (.t 17), none⟩, .load, 13, 7168⟩, ⟨⟨(some 19), .call 121 [(.t 18)], none⟩, .loud, 14, 16383⟩, ⟨⟨(some 20), .build [.nilp, .nilp, .nilp] [(0, 1, (.t 9)), (1, 1, (.t 14)), (2, 1, (.t 19))], none⟩, .quiet, 15, 32767⟩, ⟨⟨(some 21), .box (.t 20), none⟩, .quiet, 16, 65535⟩, ⟨⟨(some 2), .mov (.t 21), none⟩, .quiet, 17, 131071⟩])
.ret)))⟩
theorem c61_eq : compFn Tryz.prog 61 = some c61 := by kernel_rfl
noncomputable def c62 : FnI := ⟨12, [.tmp 2],
(.seq (.reg [⟨(some 2), .mov (.c .nilp), none⟩])
(.seq (.seq (.reg [⟨(some 3), .mov (.t 0), none⟩, ⟨(some 4), .call 122 [(.t 3)], none⟩])
(.cond (.t 4) (.seq (.reg [⟨(some 2), .mov (.c .nilp), none⟩])
.ret) .skip))
(.seq (.reg [⟨(some 5), .mov (.t 0), none⟩, ⟨(some 6), .nilchk (.t 5), none⟩, ⟨(some 7), .faddr 0 (.t 6), none⟩, ⟨(some 8), .load false 1 (.t 7), none⟩, ⟨(some 9), .call 123 [(.t 8)], none⟩, ⟨(some 10), .build [.nilp] [(0, 1, (.t 9))], none⟩, ⟨(some 11), .box (.t 10), none⟩, ⟨(some 2), .mov (.t 11), none⟩])
.ret)))⟩
theorem c62_eq : compFn Tryz.prog 62 = some c62 := by kernel_rfl
noncomputable def c63 : FnI := ⟨37, [.tmp 2],
(.seq (.reg [⟨(some 2), .mov (.c (.int .i64 (.ofNat 0))), none⟩])
(.seq (.seq (.reg [⟨(some 3), .mov (.t 0), none⟩])
(.block 0 (.seq (.reg [⟨(some 5), .bin .eql (.t 3) (.c (.int .i64 (.ofNat 1))), none⟩, ⟨(some 4), .mov (.t 5), none⟩])
(.cond (.t 4) (.seq (.reg [⟨(some 2), .mov (.c (.int .i64 (.ofNat 65))), none⟩])
.ret) (.seq (.seq (.reg [⟨(some 7), .bin .eql (.t 3) (.c (.int .i64 (.ofNat 2))), none⟩, ⟨(some 6), .mov (.t 7), none⟩])
(.cond (.t 6) .skip (.reg [⟨(some 8), .bin .eql (.t 3) (.c (.int .i64 (.ofNat 16))), none⟩, ⟨(some 6), .mov (.t 8), none⟩])))
(.cond (.t 6) (.seq (.reg [⟨(some 2), .mov (.c (.int .i64 (.ofNat 1))), none⟩])
.ret) (.seq (.reg [⟨(some 10), .bin .eql (.t 3) (.c (.int .i64 (.ofNat 3))), none⟩, ⟨(some 9), .mov (.t 10), none⟩])
(.cond (.t 9) (.seq (.reg [⟨(some 2), .mov (.c (.int .i64 (.ofNat 2075))), none⟩])
.ret) (.seq (.seq (.reg [⟨(some 12), .bin .eql (.t 3) (.c (.int .i64 (.ofNat 4))), none⟩, ⟨(some 11), .mov (.t 12), none⟩])
(.cond (.t 11) .skip (.reg [⟨(some 13), .bin .eql (.t 3) (.c (.int .i64 (.ofNat 6))), none⟩, ⟨(some 11), .mov (.t 13), none⟩])))
(.cond (.t 11) (.seq (.reg [⟨(some 2), .mov (.c (.int .i64 (.ofNat 9))), none⟩])
.ret) (.seq (.reg [⟨(some 15), .bin .eql (.t 3) (.c (.int .i64 (.ofNat 5))), none⟩, ⟨(some 14), .mov (.t 15), none⟩])
(.cond (.t 14) (.seq (.reg [⟨(some 2), .mov (.c (.int .i64 (.ofNat 109))), none⟩])
.ret) (.seq (.reg [⟨(some 17), .bin .eql (.t 3) (.c (.int .i64 (.ofNat 7))), none⟩, ⟨(some 16), .mov (.t 17), none⟩])
(.cond (.t 16) (.seq (.reg [⟨(some 2), .mov (.c (.int .i64 (.ofNat 5632))), none⟩])
.ret) (.seq (.reg [⟨(some 19), .bin .eql (.t 3) (.c (.int .i64 (.ofNat 8))), none⟩, ⟨(some 18), .mov (.t 19), none⟩])
(.cond (.t 18) (.seq (.reg [⟨(some 2), .mov (.c (.int .i64 (.ofNat 13824))), none⟩])
.ret) (.seq (.reg [⟨(some 21), .bin .eql (.t 3) (.c (.int .i64 (.ofNat 9))), none⟩, ⟨(some 20), .mov (.t 21), none⟩])
(.cond (.t 20) (.seq (.reg [⟨(some 2), .mov (.c (.int .i64 (.ofNat 9728))), none⟩])
.ret) (.seq (.reg [⟨(some 23), .bin .eql (.t 3) (.c (.int .i64 (.ofNat 10))), none⟩, ⟨(some 22), .mov (.t 23), none⟩])
(.cond (.t 22) (.seq (.reg [⟨(some 2), .mov (.c (.int .i64 (.ofNat 384))), none⟩])
.ret) (.seq (.reg [⟨(some 25), .bin .eql (.t 3) (.c (.int .i64 (.ofNat 11))), none⟩, ⟨(some 24), .mov (.t 25), none⟩])
(.cond (.t 24) (.seq (.reg [⟨(some 2), .mov (.c (.int .i64 (.ofNat 8576))), none⟩])
.ret) (.seq (.reg [⟨(some 27), .bin .eql (.t 3) (.c (.int .i64 (.ofNat 12))), none⟩, ⟨(some 26), .mov (.t 27), none⟩])
(.cond (.t 26) (.seq (.reg [⟨(some 2), .mov (.c (.int .i64 (.ofNat 128))), none⟩])
.ret) (.seq (.reg [⟨(some 29), .bin .eql (.t 3) (.c (.int .i64 (.ofNat 13))), none⟩, ⟨(some 28), .mov (.t 29), none⟩])
(.cond (.t 28) (.seq (.reg [⟨(some 2), .mov (.c (.int .i64 (.ofNat 8320))), none⟩])
.ret) (.seq (.seq (.reg [⟨(some 31), .bin .eql (.t 3) (.c (.int .i64 (.ofNat 14))), none⟩, ⟨(some 30), .mov (.t 31), none⟩])
(.cond (.t 30) .skip (.reg [⟨(some 32), .bin .eql (.t 3) (.c (.int .i64 (.ofNat 15))), none⟩, ⟨(some 30), .mov (.t 32), none⟩])))
(.cond (.t 30) (.seq (.reg [⟨(some 2), .mov (.c (.int .i64 (.ofNat 16768))), none⟩])
.ret) (.seq (.reg [⟨(some 34), .bin .eql (.t 3) (.c (.int .i64 (.ofNat 17))), none⟩, ⟨(some 33), .mov (.t 34), none⟩])
(.cond (.t 33) (.seq (.reg [⟨(some 2), .mov (.c (.int .i64 (.ofNat 16384))), none⟩])
.ret) (.seq (.reg [⟨(some 36), .bin .eql (.t 3) (.c (.int .i64 (.ofNat 18))), none⟩, ⟨(some 35), .mov (.t 36), none⟩])
(.cond (.t 35) (.seq (.reg [⟨(some 2), .mov (.c (.int .i64 (.ofNat 32768))), none⟩])
.ret) .skip))))))))))))))))))))))))))))))))
(.seq (.reg [⟨(some 2), .mov (.c (.int .i64 (.ofNat 0))), none⟩])
.ret)))⟩
theorem c63_eq : compFn Tryz.prog 63 = some c63 := by kernel_rfl
noncomputable def c64 : FnI := ⟨68, [.cell 2 true 64],
(.seq (.reg [⟨(some 2), .alloc [.nilfn, .nilfn, .nilfn, .nilfn, .nilfn, .nilfn, .nilfn, .nilfn, .nilfn, .nilfn, .nilfn, .nilfn, .nilfn, .nilfn, .nilfn, .nilfn, .nilfn, .nilfn, .nilfn, .nilfn, .nilfn, .nilfn, .nilfn, .nilfn, .nilfn, .nilfn, .nilfn, .nilfn, .nilfn, .nilfn, .nilfn, .nilfn, .nilfn, .nilfn, .nilfn, .nilfn, .nilfn, .nilfn, .nilfn, .nilfn, .nilfn, .nilfn, .nilfn, .nilfn, .nilfn, .nilfn, .nilfn, .nilfn, .nilfn, .nilfn, .nilfn, .nilfn, .nilfn, .nilfn, .nilfn, .nilfn, .nilfn, .nilfn, .nilfn, .nilfn, .nilfn, .nilfn, .nilfn, .nilfn], none⟩])
(.seq (.dreg [⟨⟨(some 3), .mov (.t 0), none⟩, .quiet, 0, 0⟩, ⟨⟨(some 4), .nilchk (.t 3), none⟩, .quiet, 1, 1⟩, ⟨⟨(some 5), .faddr 1 (.t 4), none⟩, .quiet, 2, 3⟩, ⟨⟨(some 6), .call 124 [(.t 5)], none⟩, .loud, 3, 7⟩, ⟨⟨(some 7), .mov (.t 0), none⟩, .quiet, 4, 0⟩, ⟨⟨(some 8), .nilchk (.t 7), none⟩, .quiet, 5, 16⟩, ⟨⟨(some 9), .faddr 2 (.t 8), none⟩, .quiet, 6, 48⟩, ⟨⟨(some 10), .call 124 [(.t 9)], none⟩, .loud, 7, 127⟩, ⟨⟨(some 11), .mov (.t 0), none⟩, .quiet, 8, 0⟩, ⟨⟨(some 12), .nilchk (.t 11), none⟩, .quiet, 9, 256⟩, ⟨⟨(some 13), .faddr 3 (.t 12), none⟩, .quiet, 10, 768⟩, ⟨⟨(some 14), .call 124 [(.t 13)], none⟩, .loud, 11, 2047⟩, ⟨⟨(some 15), .mov (.t 0), none⟩, .quiet, 12, 0⟩, ⟨⟨(some 16), .nilchk (.t 15), none⟩, .quiet, 13, 4096⟩, ⟨⟨(some 17), .faddr 4 (.t 16), none⟩, .quiet, 14, 12288⟩, ⟨⟨(some 18), .call 125 [(.t 17)], none⟩, .loud, 15, 32767⟩, ⟨⟨(some 19), .mov (.t 0), none⟩, .quiet, 16, 0⟩, ⟨⟨(some 20), .nilchk (.t 19), none⟩, .quiet, 17, 65536⟩, ⟨⟨(some 21), .faddr 5 (.t 20), none⟩, .quiet, 18, 196608⟩, ⟨⟨(some 22), .call 125 [(.t 21)], none⟩, .loud, 19, 524287⟩, ⟨⟨(some 23), .mov (.t 0), none⟩, .quiet, 20, 0⟩, ⟨⟨(some 24), .nilchk (.t 23), none⟩, .quiet, 21, 1048576⟩, ⟨⟨(some 25), .faddr 6 (.t 24), none⟩, .quiet, 22, 3145728⟩, ⟨⟨(some 26), .call 125 [(.t 25)], none⟩, .loud, 23, 8388607⟩, ⟨⟨(some 27), .mov (.t 0), none⟩, .quiet, 24, 0⟩, ⟨⟨(some 28), .nilchk (.t 27), none⟩, .quiet, 25, 16777216⟩, ⟨⟨(some 29), .faddr 7 (.t 28), none⟩, .quiet, 26, 50331648⟩, ⟨⟨(some 30), .call 125 [(.t 29)], none⟩, .loud, 27, 134217727⟩, ⟨⟨(some 31), .mov (.t 0), none⟩, .quiet, 28, 0⟩, ⟨⟨(some 32), .nilchk (.t 31), none⟩, .quiet, 29, 268435456⟩, ⟨⟨(some 33), .faddr 8 (.t 32), none⟩, .quiet, 30, 805306368⟩, ⟨⟨(some 34), .call 125 [(.t 33)], none⟩, .loud, 31, 2147483647⟩, ⟨⟨(some 35), .mov (.t 0), none⟩, .quiet, 32, 0⟩, ⟨⟨(some 36), .nilchk (.t 35), none⟩, .quiet, 33, 4294967296⟩, ⟨⟨(some 37), .faddr 9 (.t 36), none⟩, .quiet, 34, 12884901888⟩, ⟨⟨(some 38), .call 125 [(.t 37)], none⟩, .loud, 35, 34359738367⟩, ⟨⟨(some 39), .mov (.t 0), none⟩, .quiet, 36, 0⟩, ⟨⟨(some 40), .nilchk (.t 39), none⟩, .quiet, 37, 68719476736⟩, ⟨⟨(some 41), .faddr 10 (.t 40), none⟩, .quiet, 38, 206158430208⟩, ⟨⟨(some 42), .call 125 [(.t 41)], none⟩, .loud, 39, 549755813887⟩, ⟨⟨(some 43), .mov (.t 0), none⟩, .quiet, 40, 0⟩, ⟨⟨(some 44), .nilchk (.t 43), none⟩, .quiet, 41, 1099511627776⟩, ⟨⟨(some 45), .faddr 11 (.t 44), none⟩, .quiet, 42, 3298534883328⟩, ⟨⟨(some 46), .call 125 [(.t 45)], none⟩, .loud, 43, 8796093022207⟩, ⟨⟨(some 47), .mov (.t 0), none⟩, .quiet, 44, 0⟩, ⟨⟨(some 48), .nilchk (.t 47), none⟩, .quiet, 45, 17592186044416⟩, ⟨⟨(some 49), .faddr 12 (.t 48), none⟩, .quiet, 46, 52776558133248⟩, ⟨⟨(some 50), .call 126 [(.t 49)], none⟩, .loud, 47, 140737488355327⟩, ⟨⟨(some 51), .mov (.t 0), none⟩, .quiet, 48, 0⟩, ⟨⟨(some 52), .nilchk (.t 51), none⟩, .quiet, 49, 281474976710656⟩, ⟨⟨(some 53), .faddr 13 (.t 52), none⟩, .quiet, 50, 844424930131968⟩, ⟨⟨(some 54), .call 127 [(.t 53)], none⟩, .loud, 51, 2251799813685247⟩, ⟨⟨(some 55), .mov (.t 0), none⟩, .quiet, 52, 0⟩, ⟨⟨(some 56), .nilchk (.t 55), none⟩, .quiet, 53, 4503599627370496⟩, ⟨⟨(some 57), .faddr 14 (.t 56), none⟩, .quiet, 54, 13510798882111488⟩, ⟨⟨(some 58), .call 128 [(.t 57)], none⟩, .loud, 55, 36028797018963967⟩, ⟨⟨(some 59), .mov (.t 0), none⟩, .quiet, 56, 0⟩, ⟨⟨(some 60), .nilchk (.t 59), none⟩, .quiet, 57, 72057594037927936⟩, ⟨⟨(some 61), .faddr 15 (.t 60), none⟩, .quiet, 58, 216172782113783808⟩, ⟨⟨(some 62), .call 128 [(.t 61)], none⟩, .loud, 59, 576460752303423487⟩, ⟨⟨(some 63), .mov (.t 0), none⟩, .quiet, 60, 0⟩, ⟨⟨(some 64), .nilchk (.t 63), none⟩, .quiet, 61, 1152921504606846976⟩, ⟨⟨(some 65), .faddr 16 (.t 64), none⟩, .quiet, 62, 3458764513820540928⟩, ⟨⟨(some 66), .call 129 [(.t 65)], none⟩, .loud, 63, 9223372036854775807⟩, ⟨⟨(some 67), .build [.nilfn, .nilfn, .nilfn, .nilfn, .nilfn, .nilfn, .nilfn, .nilfn, .nilfn, .nilfn, .nilfn, .nilfn, .nilfn, .nilfn, .nilfn, .nilfn, .nilfn, .nilfn, .nilfn, .nilfn, .nilfn, .nilfn, .nilfn, .nilfn, .nilfn, .nilfn, .nilfn, .nilfn, .nilfn, .nilfn, .nilfn, .nilfn, .nilfn, .nilfn, .nilfn, .nilfn, .nilfn, .nilfn, .nilfn, .nilfn, .nilfn, .nilfn, .nilfn, .nilfn, .nilfn, .nilfn, .nilfn, .nilfn, .nilfn, .nilfn, .nilfn, .nilfn, .nilfn, .nilfn, .nilfn, .nilfn, .nilfn, .nilfn, .nilfn, .nilfn, .nilfn, .nilfn, .nilfn, .nilfn] [(0, 4, (.t 6)), (4, 4, (.t 10)), (8, 4, (.t 14)), (12, 4, (.t 18)), (16, 4, (.t 22)), (20, 4, (.t 26)), (24, 4, (.t 30)), (28, 4, (.t 34)), (32, 4, (.t 38)), (36, 4, (.t 42)), (40, 4, (.t 46)), (44, 4, (.t 50)), (48, 4, (.t 54)), (52, 4, (.t 58)), (56, 4, (.t 62)), (60, 4, (.t 66))], none⟩, .quiet, 64, 18446744073709551615⟩, ⟨⟨none, .store 64 (.t 2) (.t 67), none⟩, .loud, 65, 36893488147419103231⟩])
.ret))⟩
theorem c64_eq : compFn Tryz.prog 64 = some c64 := by kernel_rfl
noncomputable def c65 : FnI := ⟨72, [.tmp 2],
(.seq (.reg [⟨(some 1), .box (.t 0), none⟩, ⟨(some 2), .mov (.c .nilfn), none⟩])
(.seq (.seq (.reg [⟨(some 3), .faddr 4 (.t 1), none⟩, ⟨(some 4), .faddr 0 (.t 3), none⟩, ⟨(some 5), .load false 1 (.t 4), none⟩])
(.block 0 (.seq (.reg [⟨(some 7), .bin .eql (.t 5) (.c (.int .i64 (.ofNat 1))), none⟩, ⟨(some 6), .mov (.t 7), none⟩])
(.cond (.t 6) (.seq (.reg [⟨(some 8), .load true 22 (.t 1), none⟩, ⟨(some 9), .mkfn 130 [(.t 8)] [], none⟩, ⟨(some 2), .mov (.t 9), none⟩])
.ret) (.seq (.reg [⟨(some 11), .bin .eql (.t 5) (.c (.int .i64 (.ofNat 2))), none⟩, ⟨(some 10), .mov (.t 11), none⟩])
(.cond (.t 10) (.seq (.reg [⟨(some 12), .load true 22 (.t 1), none⟩, ⟨(some 13), .mkfn 131 [(.t 12)] [], none⟩, ⟨(some 2), .mov (.t 13), none⟩])
.ret) (.seq (.reg [⟨(some 15), .bin .eql (.t 5) (.c (.int .i64 (.ofNat 3))), none⟩, ⟨(some 14), .mov (.t 15), none⟩])
(.cond (.t 14) (.seq (.reg [⟨(some 16), .load true 22 (.t 1), none⟩, ⟨(some 17), .mkfn 132 [(.t 16)] [], none⟩, ⟨(some 2), .mov (.t 17), none⟩])
.ret) (.seq (.reg [⟨(some 19), .bin .eql (.t 5) (.c (.int .i64 (.ofNat 4))), none⟩, ⟨(some 18), .mov (.t 19), none⟩])
(.cond (.t 18) (.seq (.reg [⟨(some 20), .load true 22 (.t 1), none⟩, ⟨(some 21), .mkfn 133 [(.t 20)] [], none⟩, ⟨(some 2), .mov (.t 21), none⟩])
.ret) (.seq (.reg [⟨(some 23), .bin .eql (.t 5) (.c (.int .i64 (.ofNat 5))), none⟩, ⟨(some 22), .mov (.t 23), none⟩])
(.cond (.t 22) (.seq (.reg [⟨(some 24), .load true 22 (.t 1), none⟩, ⟨(some 25), .mkfn 134 [(.t 24)] [], none⟩, ⟨(some 2), .mov (.t 25), none⟩])
.ret) (.seq (.reg [⟨(some 27), .bin .eql (.t 5) (.c (.int .i64 (.ofNat 6))), none⟩, ⟨(some 26), .mov (.t 27), none⟩])
(.cond (.t 26) (.seq (.reg [⟨(some 28), .load true 22 (.t 1), none⟩, ⟨(some 29), .mkfn 135 [(.t 28)] [], none⟩, ⟨(some 2), .mov (.t 29), none⟩])
.ret) (.seq (.reg [⟨(some 31), .bin .eql (.t 5) (.c (.int .i64 (.ofNat 7))), none⟩, ⟨(some 30), .mov (.t 31), none⟩])
(.cond (.t 30) (.seq (.reg [⟨(some 32), .load true 22 (.t 1), none⟩, ⟨(some 33), .mkfn 136 [(.t 32)] [], none⟩, ⟨(some 2), .mov (.t 33), none⟩])
.ret) (.seq (.reg [⟨(some 35), .bin .eql (.t 5) (.c (.int .i64 (.ofNat 8))), none⟩, ⟨(some 34), .mov (.t 35), none⟩])
(.cond (.t 34) (.seq (.reg [⟨(some 36), .load true 22 (.t 1), none⟩, ⟨(some 37), .mkfn 137 [(.t 36)] [], none⟩, ⟨(some 2), .mov (.t 37), none⟩])
.ret) (.seq (.reg [⟨(some 39), .bin .eql (.t 5) (.c (.int .i64 (.ofNat 9))), none⟩, ⟨(some 38), .mov (.t 39), none⟩])
(.cond (.t 38) (.seq (.reg [⟨(some 40), .load true 22 (.t 1), none⟩, ⟨(some 41), .mkfn 138 [(.t 40)] [], none⟩, ⟨(some 2), .mov (.t 41), none⟩])
.ret) (.seq (.reg [⟨(some 43), .bin .eql (.t 5) (.c (.int .i64 (.ofNat 10))), none⟩, ⟨(some 42), .mov (.t 43), none⟩])
(.cond (.t 42) (.seq (.reg [⟨(some 44), .load true 22 (.t 1), none⟩, ⟨(some 45), .mkfn 139 [(.t 44)] [], none⟩, ⟨(some 2), .mov (.t 45), none⟩])
.ret) (.seq (.reg [⟨(some 47), .bin .eql (.t 5) (.c (.int .i64 (.ofNat 11))), none⟩, ⟨(some 46), .mov (.t 47), none⟩])
(.cond (.t 46) (.seq (.reg [⟨(some 48), .load true 22 (.t 1), none⟩, ⟨(some 49), .mkfn 140 [(.t 48)] [], none⟩, ⟨(some 2), .mov (.t 49), none⟩])
.ret) (.seq (.reg [⟨(some 51), .bin .eql (.t 5) (.c (.int .i64 (.ofNat 12))), none⟩, ⟨(some 50), .mov (.t 51), none⟩])
(.cond (.t 50) (.seq (.reg [⟨(some 52), .load true 22 (.t 1), none⟩, ⟨(some 53), .mkfn 141 [(.t 52)] [], none⟩, ⟨(some 2), .mov (.t 53), none⟩])
.ret) (.seq (.reg [⟨(some 55), .bin .eql (.t 5) (.c (.int .i64 (.ofNat 13))), none⟩, ⟨(some 54), .mov (.t 55), none⟩])
(.cond (.t 54) (.seq (.reg [⟨(some 56), .load true 22 (.t 1), none⟩, ⟨(some 57), .mkfn 142 [(.t 56)] [], none⟩, ⟨(some 2), .mov (.t 57), none⟩])
.ret) (.seq (.reg [⟨(some 59), .bin .eql (.t 5) (.c (.int .i64 (.ofNat 14))), none⟩, ⟨(some 58), .mov (.t 59), none⟩])
(.cond (.t 58) (.seq (.reg [⟨(some 60), .load true 22 (.t 1), none⟩, ⟨(some 61), .mkfn 143 [(.t 60)] [], none⟩, ⟨(some 2), .mov (.t 61), none⟩])
.ret) (.seq (.reg [⟨(some 63), .bin .eql (.t 5) (.c (.int .i64 (.ofNat 15))), none⟩, ⟨(some 62), .mov (.t 63), none⟩])
(.cond (.t 62) (.seq (.reg [⟨(some 64), .load true 22 (.t 1), none⟩, ⟨(some 65), .mkfn 144 [(.t 64)] [], none⟩, ⟨(some 2), .mov (.t 65), none⟩])
.ret) (.seq (.reg [⟨(some 67), .bin .eql (.t 5) (.c (.int .i64 (.ofNat 16))), none⟩, ⟨(some 66), .mov (.t 67), none⟩])
(.cond (.t 66) (.seq (.reg [⟨(some 68), .load true 22 (.t 1), none⟩, ⟨(some 69), .mkfn 145 [(.t 68)] [], none⟩, ⟨(some 2), .mov (.t 69), none⟩])
.ret) .skip))))))))))))))))))))))))))))))))))
(.seq (.reg [⟨(some 70), .load true 22 (.t 1), none⟩, ⟨(some 71), .mkfn 146 [(.t 70)] [], none⟩, ⟨(some 2), .mov (.t 71), none⟩])
.ret)))⟩
theorem c65_eq : compFn Tryz.prog 65 = some c65 := by kernel_rfl
noncomputable def c66 : FnI := ⟨32, [.tmp 4],
(.seq (.reg [⟨(some 3), .box (.t 1), none⟩, ⟨(some 4), .mov (.c .nilsl), none⟩])
(.seq (.reg [⟨(some 8), .mov (.t 0), none⟩, ⟨(some 9), .faddr 0 (.t 3), none⟩, ⟨(some 10), .load false 1 (.t 9), none⟩, ⟨(some 11), .cvInt .u64 (.t 10), none⟩, ⟨(some 12), .call 40 [(.t 8), (.t 11)], none⟩, ⟨(some 0), .mov (.t 12), none⟩])
(.seq (.reg [⟨(some 13), .faddr 0 (.t 3), none⟩, ⟨(some 14), .load false 1 (.t 13), none⟩, ⟨(some 15), .call 63 [(.t 14)], none⟩, ⟨(some 5), .mov (.t 15), none⟩])
(.seq (.seq (.reg [⟨(some 16), .call 64 [(.t 3)], none⟩, ⟨(some 17), .mov (.c (.int .i64 (.ofNat 0))), none⟩])
(.block 0 (.loop (.seq (.reg [⟨(some 18), .bin .lss (.t 17) (.c (.int .i64 (.ofNat 16))), none⟩])
(.seq (.cond (.t 18) .skip (.exit 0))
(.seq (.block 1 (.seq (.reg [⟨(some 19), .mov (.t 17), none⟩, ⟨(some 20), .idxV 16 4 true (.t 16) (.t 17), none⟩, ⟨(some 7), .alloc [.nilfn, .nilfn, .nilfn, .nilfn], none⟩, ⟨(some 6), .mov (.t 19), none⟩, ⟨none, .store 4 (.t 7) (.t 20), none⟩])
(.seq (.reg [⟨(some 21), .mov (.t 5), none⟩, ⟨(some 22), .mov (.t 6), none⟩, ⟨(some 23), .bin .shr (.t 21) (.t 22), none⟩, ⟨(some 24), .bin .and (.t 23) (.c (.int .i64 (.ofNat 1))), none⟩, ⟨(some 25), .bin .eql (.t 24) (.c (.int .i64 (.ofNat 1))), none⟩])
(.cond (.t 25) (.reg [⟨(some 26), .faddr 0 (.t 7), none⟩, ⟨(some 27), .load false 1 (.t 26), none⟩, ⟨(some 28), .mov (.t 0), none⟩, ⟨(some 29), .callv (.t 27) [(.t 28)], none⟩, ⟨(some 0), .mov (.t 29), none⟩]) .skip))))
(.reg [⟨(some 30), .bin .add (.t 17) (.c (.int .i64 (.ofNat 1))), none⟩, ⟨(some 17), .mov (.t 30), none⟩])))))))
(.seq (.reg [⟨(some 31), .mov (.t 0), none⟩, ⟨(some 4), .mov (.t 31), none⟩])
.ret)))))⟩
theorem c66_eq : compFn Tryz.prog 66 = some c66 := by kernel_rfl
noncomputable def c67 : FnI := ⟨20, [.tmp 2],
(.seq (.reg [⟨(some 2), .mov (.c .nilsl), none⟩])
(.seq (.reg [⟨(some 5), .mksl 1 1 [(.int .u8 (.ofNat 0))] (.c (.int .i64 (.ofNat 4))) (.c (.int .i64 (.ofNat 4))), none⟩, ⟨(some 3), .mov (.t 5), none⟩])
(.seq (.seq (.reg [⟨(some 6), .mov (.c (.int .i64 (.ofNat 0))), none⟩])
(.block 0 (.loop (.seq (.reg [⟨(some 7), .bin .lss (.t 6) (.c (.int .i64 (.ofNat 4))), none⟩])
(.seq (.cond (.t 7) .skip (.exit 0))
(.seq (.block 1 (.seq (.reg [⟨(some 8), .mov (.t 6), none⟩, ⟨(some 4), .mov (.t 8), none⟩])
(.reg [⟨(some 9), .mov (.t 3), none⟩, ⟨(some 10), .mov (.t 4), none⟩, ⟨(some 11), .mov (.t 0), none⟩, ⟨(some 12), .mov (.t 4), none⟩, ⟨(some 13), .bin .mul (.c (.int .i64 (.ofNat 8))) (.t 12), none⟩, ⟨(some 14), .bin .sub (.c (.int .i64 (.ofNat 24))) (.t 13), none⟩, ⟨(some 15), .bin .shr (.t 11) (.t 14), none⟩, ⟨(some 16), .cvInt .u8 (.t 15), none⟩, ⟨(some 17), .idxS 1 (.t 9) (.t 10), none⟩, ⟨none, .store 1 (.t 17) (.t 16), none⟩])))
(.reg [⟨(some 18), .bin .add (.t 6) (.c (.int .i64 (.ofNat 1))), none⟩, ⟨(some 6), .mov (.t 18), none⟩])))))))
(.seq (.reg [⟨(some 19), .mov (.t 3), none⟩, ⟨(some 2), .mov (.t 19), none⟩])
.ret))))⟩
theorem c67_eq : compFn Tryz.prog 67 = some c67 := by kernel_rfl
noncomputable def c68 : FnI := ⟨17, [.tmp 2],
(.seq (.reg [⟨(some 2), .mov (.c (.int .u32 (.ofNat 0))), none⟩])
(.seq (.reg [⟨(some 3), .mov (.c (.int .u32 (.ofNat 0))), none⟩])
(.seq (.seq (.reg [⟨(some 6), .mov (.t 0), none⟩, ⟨(some 7), .len false (.t 6), none⟩, ⟨(some 8), .mov (.c (.int .i64 (.ofNat 0))), none⟩])
(.block 0 (.loop (.seq (.reg [⟨(some 9), .bin .lss (.t 8) (.t 7), none⟩])
(.seq (.cond (.t 9) .skip (.exit 0))
(.seq (.block 1 (.seq (.reg [⟨(some 10), .idxS 1 (.t 6) (.t 8), none⟩, ⟨(some 11), .load false 1 (.t 10), none⟩, ⟨(some 5), .mov (.t 11), none⟩])
(.reg [⟨(some 12), .mov (.t 3), none⟩, ⟨(some 13), .mov (.t 5), none⟩, ⟨(some 14), .call 147 [(.t 12), (.t 13)], none⟩, ⟨(some 3), .mov (.t 14), none⟩])))
(.reg [⟨(some 15), .bin .add (.t 8) (.c (.int .i64 (.ofNat 1))), none⟩, ⟨(some 8), .mov (.t 15), none⟩])))))))
(.seq (.reg [⟨(some 16), .mov (.t 3), none⟩, ⟨(some 2), .mov (.t 16), none⟩])
.ret))))⟩
theorem c68_eq : compFn Tryz.prog 68 = some c68 := by kernel_rfl
noncomputable def c69 : FnI := ⟨30, [.tmp 4],
(.seq (.reg [⟨(some 2), .box (.t 0), none⟩, ⟨(some 4), .mov (.c (.int .i64 (.ofNat 0))), none⟩])
(.scope (.seq (.seq (.reg [⟨(some 9), .load false 1 (.t 2), none⟩, ⟨(some 10), .call 52 [(.t 9)], none⟩])
(.cond (.t 10) (.seq (.reg [⟨(some 4), .mov (.c (.int .i64 (.ofNat 1))), none⟩])
.ret) .skip))
(.seq (.reg [⟨(some 11), .mkfn 148 [] [(.t 2)], none⟩, ⟨(some 12), .build [.nilfn, (.int .i64 (.ofNat 0))] [(0, 1, (.t 11)), (1, 1, (.c (.int .i64 (.ofNat 50))))], none⟩, ⟨(some 13), .buildSl 2 1 [.nilfn, (.int .i64 (.ofNat 0))] [(0, 2, (.t 12))], none⟩, ⟨(some 14), .mov (.t 1), none⟩, ⟨(some 15), .append 2 16 (.t 13) (.t 14), none⟩, ⟨(some 5), .mov (.t 15), none⟩])
(.seq (.reg [⟨(some 6), .mov (.c (.int .i64 (.ofNat 0))), none⟩])
(.seq .skip
(.seq (.seq (.reg [⟨(some 16), .mov (.t 5), none⟩, ⟨(some 17), .len false (.t 16), none⟩, ⟨(some 18), .mov (.c (.int .i64 (.ofNat 0))), none⟩])
(.block 0 (.loop (.seq (.reg [⟨(some 19), .bin .lss (.t 18) (.t 17), none⟩])
(.seq (.cond (.t 19) .skip (.exit 0))
(.seq (.block 1 (.seq (.reg [⟨(some 20), .idxS 2 (.t 16) (.t 18), none⟩, ⟨(some 21), .load true 2 (.t 20), none⟩, ⟨(some 8), .alloc [.nilfn, (.int .i64 (.ofNat 0))], none⟩, ⟨none, .store 2 (.t 8) (.t 21), none⟩])
(.seq (.reg [⟨(some 22), .faddr 0 (.t 8), none⟩, ⟨(some 23), .load false 1 (.t 22), none⟩, ⟨(some 24), .callv (.t 23) [], none⟩, ⟨(some 25), .un .not (.t 24), none⟩])
(.cond (.t 25) (.seq (.reg [⟨(some 26), .faddr 1 (.t 8), none⟩, ⟨(some 27), .load false 1 (.t 26), none⟩, ⟨(some 6), .mov (.t 27), none⟩])
(.exit 0)) .skip))))
(.reg [⟨(some 28), .bin .add (.t 18) (.c (.int .i64 (.ofNat 1))), none⟩, ⟨(some 18), .mov (.t 28), none⟩])))))))
(.seq (.reg [⟨(some 29), .mov (.t 6), none⟩, ⟨(some 4), .mov (.t 29), none⟩])
.ret))))))))⟩
theorem c69_eq : compFn Tryz.prog 69 = some c69 := by kernel_rfl
noncomputable def c70 : FnI := ⟨4, [.tmp 1],
(.seq (.reg [⟨(some 1), .mov (.c (.bool false)), none⟩])
(.seq (.reg [⟨(some 2), .load false 1 (.t 0), none⟩, ⟨(some 3), .call 45 [(.t 2)], none⟩, ⟨(some 1), .mov (.t 3), none⟩])
.ret))⟩
theorem c70_eq : compFn Tryz.prog 70 = some c70 := by kernel_rfl
noncomputable def c71 : FnI := ⟨13, [.tmp 2],
(.seq (.reg [⟨(some 2), .mov (.c (.bool false)), none⟩])
(.seq (.dreg [⟨⟨(some 9), .load false 1 (.t 1), none⟩, .load, 6, 0⟩, ⟨⟨(some 10), .call 72 [(.t 9)], none⟩, .loud, 7, 64⟩, ⟨⟨(some 3), .load false 1 (.t 0), none⟩, .load, 0, 0⟩, ⟨⟨(some 4), .len false (.t 3), none⟩, .quiet, 1, 1⟩, ⟨⟨(some 5), .load false 1 (.t 1), none⟩, .load, 2, 0⟩, ⟨⟨(some 6), .nilchk (.t 5), none⟩, .quiet, 3, 4⟩, ⟨⟨(some 7), .faddr 1 (.t 6), none⟩, .quiet, 4, 12⟩, ⟨⟨(some 8), .load false 1 (.t 7), none⟩, .load, 5, 28⟩, ⟨⟨(some 11), .bin .sub (.t 8) (.t 10), none⟩, .quiet, 8, 252⟩, ⟨⟨(some 12), .bin .leq (.t 4) (.t 11), none⟩, .quiet, 9, 511⟩, ⟨⟨(some 2), .mov (.t 12), none⟩, .quiet, 10, 1023⟩])
.ret))⟩
theorem c71_eq : compFn Tryz.prog 71 = some c71 := by kernel_rfl
noncomputable def c72 : FnI := ⟨22, [.tmp 2],
(.seq (.reg [⟨(some 2), .mov (.c (.int .i64 (.ofNat 0))), none⟩])
(.seq (.seq (.reg [⟨(some 6), .mov (.t 0), none⟩, ⟨(some 7), .call 52 [(.t 6)], none⟩])
(.cond (.t 7) (.seq (.reg [⟨(some 2), .mov (.c (.int .i64 (.ofNat 0))), none⟩])
.ret) .skip))
(.seq (.reg [⟨(some 3), .mov (.c (.int .i64 (.ofNat 0))), none⟩])
(.seq (.seq (.reg [⟨(some 8), .mov (.t 0), none⟩, ⟨(some 9), .nilchk (.t 8), none⟩, ⟨(some 10), .faddr 2 (.t 9), none⟩, ⟨(some 11), .load true 8 (.t 10), none⟩, ⟨(some 12), .mov (.c (.int .i64 (.ofNat 0))), none⟩])
(.block 0 (.loop (.seq (.reg [⟨(some 13), .bin .lss (.t 12) (.c (.int .i64 (.ofNat 4))), none⟩])
(.seq (.cond (.t 13) .skip (.exit 0))
(.seq (.block 1 (.seq (.reg [⟨(some 14), .idxV 4 2 true (.t 11) (.t 12), none⟩, ⟨(some 5), .alloc [.nilsl, (.int .i64 (.ofNat 0))], none⟩, ⟨none, .store 2 (.t 5) (.t 14), none⟩])
(.reg [⟨(some 15), .mov (.t 3), none⟩, ⟨(some 16), .faddr 0 (.t 5), none⟩, ⟨(some 17), .load false 1 (.t 16), none⟩, ⟨(some 18), .len false (.t 17), none⟩, ⟨(some 19), .bin .add (.t 15) (.t 18), none⟩, ⟨(some 3), .mov (.t 19), none⟩])))
(.reg [⟨(some 20), .bin .add (.t 12) (.c (.int .i64 (.ofNat 1))), none⟩, ⟨(some 12), .mov (.t 20), none⟩])))))))
(.seq (.reg [⟨(some 21), .mov (.t 3), none⟩, ⟨(some 2), .mov (.t 21), none⟩])
.ret)))))⟩
theorem c72_eq : compFn Tryz.prog 72 = some c72 := by kernel_rfl
noncomputable def c73 : FnI := ⟨25, [.tmp 2],
(.seq (.reg [⟨(some 2), .mov (.c (.bool false)), none⟩])
(.seq (.block 0 (.seq (.reg [⟨(some 4), .mov (.t 0), none⟩, ⟨(some 5), .nilchk (.t 4), none⟩, ⟨(some 6), .faddr 10 (.t 5), none⟩, ⟨(some 7), .load false 1 (.t 6), none⟩, ⟨(some 8), .bin .lss (.t 7) (.c (.int .i64 (.ofNat 0))), none⟩, ⟨(some 3), .mov (.t 8), none⟩])
(.cond (.t 3) (.seq (.reg [⟨(some 2), .mov (.c (.bool false)), none⟩])
.ret) (.seq (.reg [⟨(some 10), .mov (.t 0), none⟩, ⟨(some 11), .nilchk (.t 10), none⟩, ⟨(some 12), .faddr 10 (.t 11), none⟩, ⟨(some 13), .load false 1 (.t 12), none⟩, ⟨(some 14), .bin .eql (.t 13) (.c (.int .i64 (.ofNat 0))), none⟩, ⟨(some 9), .mov (.t 14), none⟩])
(.cond (.t 9) (.seq (.reg [⟨(some 15), .mov (.t 0), none⟩, ⟨(some 16), .nilchk (.t 15), none⟩, ⟨(some 17), .faddr 11 (.t 16), none⟩, ⟨none, .store 1 (.t 17) (.c (.bool true)), none⟩])
(.seq (.reg [⟨(some 2), .mov (.c (.bool true)), none⟩])
.ret)) .skip)))))
(.seq (.reg [⟨(some 18), .mov (.t 0), none⟩, ⟨(some 19), .nilchk (.t 18), none⟩, ⟨(some 20), .faddr 10 (.t 19), none⟩, ⟨(some 21), .load false 1 (.t 20), none⟩, ⟨(some 22), .bin .sub (.t 21) (.c (.int .i64 (.ofNat 1))), none⟩, ⟨(some 23), .nilchk (.t 18), none⟩, ⟨(some 24), .faddr 10 (.t 23), none⟩, ⟨none, .store 1 (.t 24) (.t 22), none⟩])
(.seq (.reg [⟨(some 2), .mov (.c (.bool false)), none⟩])
.ret))))⟩
theorem c73_eq : compFn Tryz.prog 73 = some c73 := by kernel_rfl
noncomputable def c76 : FnI := ⟨12, [.tmp 1],
(.seq (.reg [⟨(some 1), .mov (.c (.int .i64 (.ofNat 0))), none⟩])
(.seq (.dreg [⟨⟨(some 2), .load false 1 (.t 0), none⟩, .load, 0, 0⟩, ⟨⟨(some 3), .idxS 1 (.t 2) (.c (.int .i64 (.ofNat 1))), none⟩, .quiet, 1, 1⟩, ⟨⟨(some 4), .load false 1 (.t 3), none⟩, .load, 2, 3⟩, ⟨⟨(some 5), .cvInt .i64 (.t 4), none⟩, .quiet, 3, 7⟩, ⟨⟨(some 6), .bin .shl (.t 5) (.c (.int .u64 (.ofNat 8))), none⟩, .quiet, 4, 15⟩, ⟨⟨(some 7), .load false 1 (.t 0), none⟩, .load, 5, 0⟩, ⟨⟨(some 8), .idxS 1 (.t 7) (.c (.int .i64 (.ofNat 2))), none⟩, .quiet, 6, 32⟩, ⟨⟨(some 9), .load false 1 (.t 8), none⟩, .load, 7, 96⟩, ⟨⟨(some 10), .cvInt .i64 (.t 9), none⟩, .quiet, 8, 224⟩, ⟨⟨(some 11), .bin .or (.t 6) (.t 10), none⟩, .quiet, 9, 511⟩, ⟨⟨(some 1), .mov (.t 11), none⟩, .quiet, 10, 1023⟩])
.ret))⟩
theorem c76_eq : compFn Tryz.prog 76 = some c76 := by kernel_rfl
noncomputable def c77 : FnI := ⟨5, [.tmp 1],
(.seq (.reg [⟨(some 1), .mov (.c (.bool false)), none⟩])
(.seq (.reg [⟨(some 2), .load false 1 (.t 0), none⟩, ⟨(some 3), .len false (.t 2), none⟩, ⟨(some 4), .bin .geq (.t 3) (.c (.int .i64 (.ofNat 3))), none⟩, ⟨(some 1), .mov (.t 4), none⟩])
.ret))⟩
theorem c77_eq : compFn Tryz.prog 77 = some c77 := by kernel_rfl
noncomputable def c78 : FnI := ⟨6, [.tmp 1],
(.seq (.reg [⟨(some 1), .mov (.c (.bool false)), none⟩])
(.seq (.reg [⟨(some 2), .load false 1 (.t 0), none⟩, ⟨(some 3), .idxS 1 (.t 2) (.c (.int .i64 (.ofNat 0))), none⟩, ⟨(some 4), .load false 1 (.t 3), none⟩, ⟨(some 5), .bin .neq (.t 4) (.c (.int .u8 (.ofNat 0))), none⟩, ⟨(some 1), .mov (.t 5), none⟩])
.ret))⟩
theorem c78_eq : compFn Tryz.prog 78 = some c78 := by kernel_rfl
noncomputable def c79 : FnI := ⟨5, [.tmp 1],
(.seq (.reg [⟨(some 1), .mov (.c (.bool false)), none⟩])
(.seq (.reg [⟨(some 2), .load false 1 (.t 0), none⟩, ⟨(some 3), .callv (.t 2) [], none⟩, ⟨(some 4), .bin .leq (.t 3) (.c (.int .i64 (.ofNat 1000))), none⟩, ⟨(some 1), .mov (.t 4), none⟩])
.ret))⟩
theorem c79_eq : compFn Tryz.prog 79 = some c79 := by kernel_rfl
noncomputable def c80 : FnI := ⟨9, [.tmp 2],
(.seq (.reg [⟨(some 2), .mov (.c (.bool false)), none⟩])
(.seq (.dreg [⟨⟨(some 5), .load false 1 (.t 1), none⟩, .load, 2, 0⟩, ⟨⟨(some 6), .callv (.t 5) [], none⟩, .loud, 3, 4⟩, ⟨⟨(some 3), .load false 1 (.t 0), none⟩, .load, 0, 0⟩, ⟨⟨(some 4), .len false (.t 3), none⟩, .quiet, 1, 1⟩, ⟨⟨(some 7), .bin .add (.t 6) (.c (.int .i64 (.ofNat 7))), none⟩, .quiet, 4, 12⟩, ⟨⟨(some 8), .bin .geq (.t 4) (.t 7), none⟩, .quiet, 5, 31⟩, ⟨⟨(some 2), .mov (.t 8), none⟩, .quiet, 6, 63⟩])
.ret))⟩
theorem c80_eq : compFn Tryz.prog 80 = some c80 := by kernel_rfl
noncomputable def c81 : FnI := ⟨9, [.tmp 2],
(.seq (.reg [⟨(some 2), .mov (.c (.bool false)), none⟩])
(.seq (.dreg [⟨⟨(some 4), .load false 1 (.t 1), none⟩, .load, 1, 0⟩, ⟨⟨(some 5), .callv (.t 4) [], none⟩, .loud, 2, 2⟩, ⟨⟨(some 3), .load false 1 (.t 0), none⟩, .load, 0, 0⟩, ⟨⟨(some 6), .bin .add (.t 5) (.c (.int .i64 (.ofNat 7))), none⟩, .quiet, 3, 6⟩, ⟨⟨(some 7), .slS 1 (.t 3) none (some (.t 6)) none, none⟩, .quiet, 4, 15⟩, ⟨⟨(some 8), .call 82 [(.t 7)], none⟩, .loud, 5, 31⟩, ⟨⟨(some 2), .mov (.t 8), none⟩, .quiet, 6, 63⟩])
.ret))⟩
theorem c81_eq : compFn Tryz.prog 81 = some c81 := by kernel_rfl
noncomputable def c82 : FnI := ⟨22, [.tmp 2],
(.seq (.reg [⟨(some 2), .mov (.c (.bool false)), none⟩])
(.seq (.seq (.reg [⟨(some 4), .mov (.t 0), none⟩, ⟨(some 5), .len false (.t 4), none⟩, ⟨(some 6), .bin .lss (.t 5) (.c (.int .i64 (.ofNat 4))), none⟩])
(.cond (.t 6) (.seq (.reg [⟨(some 2), .mov (.c (.bool false)), none⟩])
.ret) .skip))
(.seq (.reg [⟨(some 7), .mov (.t 0), none⟩, ⟨(some 8), .len false (.t 7), none⟩, ⟨(some 9), .bin .sub (.t 8) (.c (.int .i64 (.ofNat 4))), none⟩, ⟨(some 3), .mov (.t 9), none⟩])
(.seq (.dreg [⟨⟨(some 10), .mov (.t 0), none⟩, .quiet, 0, 0⟩, ⟨⟨(some 11), .mov (.t 3), none⟩, .quiet, 1, 0⟩, ⟨⟨(some 12), .slS 1 (.t 10) none (some (.t 11)) none, none⟩, .quiet, 2, 3⟩, ⟨⟨(some 13), .buildSl 1 1 [.nilsl] [(0, 1, (.t 12))], none⟩, .quiet, 3, 7⟩, ⟨⟨(some 14), .call 68 [(.t 13)], none⟩, .loud, 4, 15⟩, ⟨⟨(some 15), .call 67 [(.t 14)], none⟩, .loud, 5, 31⟩, ⟨⟨(some 16), .cvStr (.t 15), none⟩, .load, 6, 63⟩, ⟨⟨(some 17), .mov (.t 0), none⟩, .quiet, 7, 0⟩, ⟨⟨(some 18), .mov (.t 3), none⟩, .quiet, 8, 0⟩, ⟨⟨(some 19), .slS 1 (.t 17) (some (.t 18)) none none, none⟩, .quiet, 9, 384⟩, ⟨⟨(some 20), .cvStr (.t 19), none⟩, .load, 10, 896⟩, ⟨⟨(some 21), .bin .eql (.t 16) (.t 20), none⟩, .quiet, 11, 2047⟩, ⟨⟨(some 2), .mov (.t 21), none⟩, .quiet, 12, 4095⟩])
.ret))))⟩
theorem c82_eq : compFn Tryz.prog 82 = some c82 := by kernel_rfl
noncomputable def c83 : FnI := ⟨7, [.tmp 2],
(.seq (.reg [⟨(some 2), .mov (.c .nilp), none⟩])
(.seq (.reg [⟨(some 3), .mov (.t 0), none⟩, ⟨(some 4), .call 168 [(.t 3)], none⟩, ⟨(some 5), .build [.nilp] [(0, 1, (.t 4))], none⟩, ⟨(some 6), .box (.t 5), none⟩, ⟨(some 2), .mov (.t 6), none⟩])
.ret))⟩
theorem c83_eq : compFn Tryz.prog 83 = some c83 := by kernel_rfl
noncomputable def c84 : FnI := ⟨7, [.tmp 2],
(.seq (.reg [⟨(some 2), .mov (.c .nilp), none⟩])
(.seq (.reg [⟨(some 3), .mov (.t 0), none⟩, ⟨(some 4), .call 169 [(.t 3)], none⟩, ⟨(some 5), .build [.nilp] [(0, 1, (.t 4))], none⟩, ⟨(some 6), .box (.t 5), none⟩, ⟨(some 2), .mov (.t 6), none⟩])
.ret))⟩
theorem c84_eq : compFn Tryz.prog 84 = some c84 := by kernel_rfl
noncomputable def c85 : FnI := ⟨11, [.tmp 2],
(.seq (.reg [⟨(some 2), .mov (.c .nilp), none⟩])
(.seq (.reg [⟨(some 3), .mov (.t 0), none⟩, ⟨(some 4), .call 170 [(.t 3)], none⟩, ⟨(some 5), .mov (.t 0), none⟩, ⟨(some 6), .call 171 [(.t 5)], none⟩, ⟨(some 7), .mov (.t 0), none⟩, ⟨(some 8), .call 172 [(.t 7)], none⟩, ⟨(some 9), .build [.nilp, .nilp, .nilp] [(0, 1, (.t 4)), (1, 1, (.t 6)), (2, 1, (.t 8))], none⟩, ⟨(some 10), .box (.t 9), none⟩, ⟨(some 2), .mov (.t 10), none⟩])
.ret))⟩
theorem c85_eq : compFn Tryz.prog 85 = some c85 := by kernel_rfl
noncomputable def c86 : FnI := ⟨7, [.tmp 2],
(.seq (.reg [⟨(some 2), .mov (.c .nilp), none⟩])
(.seq (.reg [⟨(some 3), .mov (.t 0), none⟩, ⟨(some 4), .call 173 [(.t 3)], none⟩, ⟨(some 5), .build [.nilp] [(0, 1, (.t 4))], none⟩, ⟨(some 6), .box (.t 5), none⟩, ⟨(some 2), .mov (.t 6), none⟩])
.ret))⟩
theorem c86_eq : compFn Tryz.prog 86 = some c86 := by kernel_rfl
noncomputable def c87 : FnI := ⟨8, [.tmp 2, .tmp 3],
(.seq (.reg [⟨(some 2), .mov (.c (.int .i64 (.ofNat 0))), none⟩, ⟨(some 3), .mov (.c (.int .i64 (.ofNat 0))), none⟩])
(.seq (.reg [⟨(some 4), .mov (.t 0), none⟩, ⟨(some 5), .call 174 [(.t 4), (.c (.fn (.func 175) [] []))], none⟩, ⟨(some 6), .extract (.t 5) 0, none⟩, ⟨(some 7), .extract (.t 5) 1, none⟩, ⟨(some 2), .mov (.t 6), none⟩, ⟨(some 3), .mov (.t 7), none⟩])
.ret))⟩
theorem c87_eq : compFn Tryz.prog 87 = some c87 := by kernel_rfl
noncomputable def c88 : FnI := ⟨8, [.tmp 2],
(.seq (.reg [⟨(some 2), .mov (.c .nilfn), none⟩])
(.seq (.reg [⟨(some 4), .buildSl 1 0 [] [], none⟩, ⟨(some 5), .mov (.t 0), none⟩, ⟨(some 6), .append 1 1 (.t 4) (.t 5), none⟩, ⟨(some 3), .alloc [.nilsl], none⟩, ⟨none, .store 1 (.t 3) (.t 6), none⟩])
(.seq (.reg [⟨(some 7), .mkfn 176 [] [(.t 3)], none⟩, ⟨(some 2), .mov (.t 7), none⟩])
.ret)))⟩
theorem c88_eq : compFn Tryz.prog 88 = some c88 := by kernel_rfl
noncomputable def c89 : FnI := ⟨8, [.tmp 2],
(.seq (.reg [⟨(some 2), .mov (.c .nilp), none⟩])
(.seq (.reg [⟨(some 3), .buildSl 1 0 [] [], none⟩, ⟨(some 4), .mov (.t 0), none⟩, ⟨(some 5), .append 1 1 (.t 3) (.t 4), none⟩, ⟨(some 6), .build [(.bool false), .nilsl, (.int .i64 (.ofNat 0))] [(0, 1, (.c (.bool true))), (1, 1, (.t 5))], none⟩, ⟨(some 7), .box (.t 6), none⟩, ⟨(some 2), .mov (.t 7), none⟩])
.ret))⟩
theorem c89_eq : compFn Tryz.prog 89 = some c89 := by kernel_rfl
noncomputable def c105 : FnI := ⟨18, [.tmp 2],
(.seq (.reg [⟨(some 2), .mov (.c (.int .i64 (.ofNat 0))), none⟩])
(.seq (.reg [⟨(some 6), .mov (.t 0), none⟩, ⟨(some 7), .mkfn 113 [(.t 6)] [], none⟩, ⟨(some 8), .mov (.t 0), none⟩, ⟨(some 9), .mkfn 111 [(.t 8)] [], none⟩, ⟨(some 3), .mov (.t 7), none⟩, ⟨(some 4), .mov (.t 9), none⟩])
(.seq (.seq (.reg [⟨(some 10), .mov (.t 4), none⟩, ⟨(some 11), .callv (.t 10) [], none⟩, ⟨(some 5), .mov (.t 11), none⟩])
(.seq (.reg [⟨(some 12), .mov (.t 5), none⟩, ⟨(some 13), .bin .neq (.t 12) (.c (.int .i64 (.ofNat 0))), none⟩])
(.cond (.t 13) (.seq (.reg [⟨(some 14), .mov (.t 5), none⟩, ⟨(some 2), .mov (.t 14), none⟩])
.ret) .skip)))
(.seq (.seq (.reg [⟨(some 15), .mov (.t 3), none⟩, ⟨(some 16), .callv (.t 15) [], none⟩, ⟨(some 17), .bin .gtr (.t 16) (.c (.int .i64 (.ofNat 0))), none⟩])
(.cond (.t 17) (.seq (.reg [⟨(some 2), .mov (.c (.int .i64 (.ofNat 41))), none⟩])
.ret) .skip))
(.seq (.reg [⟨(some 2), .mov (.c (.int .i64 (.ofNat 0))), none⟩])
.ret)))))⟩
theorem c105_eq : compFn Tryz.prog 105 = some c105 := by kernel_rfl
noncomputable def c110 : FnI := ⟨42, [.tmp 4],
(.seq (.reg [⟨(some 4), .mov (.c (.int .u64 (.ofNat 0))), none⟩])
(.seq (.seq (.reg [⟨(some 8), .mov (.t 0), none⟩, ⟨(some 9), .call 225 [(.t 8)], none⟩, ⟨(some 10), .un .not (.t 9), none⟩])
(.cond (.t 10) (.seq (.reg [⟨(some 4), .mov (.c (.int .u64 (.ofNat 0))), none⟩])
.ret) .skip))
(.seq (.reg [⟨(some 12), .mov (.t 0), none⟩, ⟨(some 13), .nilchk (.t 12), none⟩, ⟨(some 14), .faddr 1 (.t 13), none⟩, ⟨(some 15), .load false 1 (.t 14), none⟩, ⟨(some 16), .call 226 [(.t 15)], none⟩, ⟨(some 11), .mov (.t 16), none⟩, ⟨(some 17), .extract (.t 11) 0, none⟩, ⟨(some 18), .extract (.t 11) 1, none⟩, ⟨(some 19), .extract (.t 11) 2, none⟩, ⟨(some 5), .mov (.t 17), none⟩, ⟨(some 6), .mov (.t 18), none⟩, ⟨(some 7), .mov (.t 19), none⟩])
(.seq (.seq (.reg [⟨(some 20), .mov (.t 7), none⟩, ⟨(some 21), .bin .eql (.t 20) (.c (.int .i64 (.ofNat 0))), none⟩, ⟨(some 22), .mov (.t 21), none⟩, ⟨(some 23), .mov (.t 5), (some (22, true))⟩, ⟨(some 24), .mov (.t 1), (some (22, true))⟩, ⟨(some 25), .bin .gtr (.t 23) (.t 24), (some (22, true))⟩, ⟨(some 26), .pick (.t 22) (.t 25) (.c (.bool false)), none⟩])
(.cond (.t 26) (.reg [⟨(some 7), .mov (.c (.int .i64 (.ofNat 3))), none⟩]) .skip))
(.seq (.seq (.reg [⟨(some 27), .mov (.t 7), none⟩, ⟨(some 28), .bin .neq (.t 27) (.c (.int .i64 (.ofNat 0))), none⟩])
(.cond (.t 28) (.seq (.reg [⟨(some 29), .mov (.t 0), none⟩, ⟨(some 30), .mov (.t 7), none⟩, ⟨(some 31), .call 227 [(.t 29), (.t 30)], none⟩])
(.seq (.reg [⟨(some 4), .mov (.c (.int .u64 (.ofNat 0))), none⟩])
.ret)) .skip))
(.seq (.reg [⟨(some 32), .mov (.t 0), none⟩, ⟨(some 33), .mov (.t 0), none⟩, ⟨(some 34), .nilchk (.t 33), none⟩, ⟨(some 35), .faddr 1 (.t 34), none⟩, ⟨(some 36), .load false 1 (.t 35), none⟩, ⟨(some 37), .mov (.t 6), none⟩, ⟨(some 38), .slS 1 (.t 36) (some (.t 37)) none none, none⟩, ⟨(some 39), .nilchk (.t 32), none⟩, ⟨(some 40), .faddr 1 (.t 39), none⟩, ⟨none, .store 1 (.t 40) (.t 38), none⟩])
(.seq (.reg [⟨(some 41), .mov (.t 5), none⟩, ⟨(some 4), .mov (.t 41), none⟩])
.ret)))))))⟩
theorem c110_eq : compFn Tryz.prog 110 = some c110 := by kernel_rfl
noncomputable def c111 : FnI := ⟨9, [.tmp 2],
(.seq (.reg [⟨(some 2), .mov (.c (.int .i64 (.ofNat 0))), none⟩])
(.seq (.seq (.reg [⟨(some 3), .mov (.t 0), none⟩, ⟨(some 4), .eq false .ptr (.t 3) (.c .nilp), none⟩])
(.cond (.t 4) (.seq (.reg [⟨(some 2), .mov (.c (.int .i64 (.ofNat 0))), none⟩])
.ret) .skip))
(.seq (.reg [⟨(some 5), .mov (.t 0), none⟩, ⟨(some 6), .nilchk (.t 5), none⟩, ⟨(some 7), .faddr 2 (.t 6), none⟩, ⟨(some 8), .load false 1 (.t 7), none⟩, ⟨(some 2), .mov (.t 8), none⟩])
.ret)))⟩
theorem c111_eq : compFn Tryz.prog 111 = some c111 := by kernel_rfl
noncomputable def c112 : FnI := ⟨33, [.cell 2 true 19, .cell 3 false 1],
(.seq (.reg [⟨(some 2), .alloc [(.int .i64 (.ofNat 0)), (.int .u32 (.ofNat 0)), (.int .i64 (.ofNat 0)), (.int .i64 (.ofNat 0)), (.int .i64 (.ofNat 0)), (.int .i64 (.ofNat 0)), (.str []), (.str []), (.str []), (.str []), (.str []), (.str []), (.str []), (.str []), .nilsl, (.bool false), (.int .u64 (.ofNat 0)), (.int .u64 (.ofNat 0)), .nilsl], none⟩, ⟨(some 3), .alloc [(.int .i64 (.ofNat 0))], none⟩])
(.seq (.dfr [⟨(some 5), .mkfn 228 [] [(.t 2), (.t 3)], none⟩] (.t 5) 228)
(.seq (.reg [⟨(some 6), .mov (.t 0), none⟩, ⟨(some 7), .call 89 [(.t 6)], none⟩, ⟨(some 4), .mov (.t 7), none⟩])
(.seq (.reg [⟨(some 8), .mov (.t 4), none⟩, ⟨(some 9), .call 110 [(.t 8), (.c (.int .u64 (.ofNat 255)))], none⟩, ⟨(some 10), .cvInt .i64 (.t 9), none⟩, ⟨(some 11), .faddr 0 (.t 2), none⟩, ⟨none, .store 1 (.t 11) (.t 10), none⟩])
(.seq (.reg [⟨(some 12), .mov (.t 4), none⟩, ⟨(some 13), .call 110 [(.t 12), (.c (.int .u64 (.ofNat 4294967295)))], none⟩, ⟨(some 14), .cvInt .u32 (.t 13), none⟩, ⟨(some 15), .faddr 1 (.t 2), none⟩, ⟨none, .store 1 (.t 15) (.t 14), none⟩])
(.seq (.reg [⟨(some 16), .mov (.t 4), none⟩, ⟨(some 17), .call 229 [(.t 16), (.c (.bool false))], none⟩, ⟨(some 18), .faddr 2 (.t 2), none⟩, ⟨none, .store 17 (.t 18) (.t 17), none⟩])
(.seq (.reg [⟨(some 19), .mov (.t 4), none⟩, ⟨(some 20), .call 105 [(.t 19)], none⟩, ⟨none, .store 1 (.t 3) (.t 20), none⟩])
(.seq (.seq (.reg [⟨(some 21), .load false 1 (.t 3), none⟩, ⟨(some 22), .bin .eql (.t 21) (.c (.int .i64 (.ofNat 0))), none⟩, ⟨(some 23), .mov (.t 22), none⟩, ⟨(some 24), .faddr 0 (.t 2), (some (23, true))⟩, ⟨(some 25), .load false 1 (.t 24), (some (23, true))⟩, ⟨(some 26), .bin .gtr (.t 25) (.c (.int .i64 (.ofNat 15))), (some (23, true))⟩, ⟨(some 27), .pick (.t 23) (.t 26) (.c (.bool false)), none⟩])
(.cond (.t 27) (.reg [⟨none, .store 1 (.t 3) (.c (.int .i64 (.ofNat 2))), none⟩]) .skip))
(.seq (.seq (.reg [⟨(some 28), .load false 1 (.t 3), none⟩, ⟨(some 29), .bin .neq (.t 28) (.c (.int .i64 (.ofNat 0))), none⟩])
(.cond (.t 29) (.seq (.dreg [⟨⟨(some 30), .build [(.int .i64 (.ofNat 0)), (.int .u32 (.ofNat 0)), (.int .i64 (.ofNat 0)), (.int .i64 (.ofNat 0)), (.int .i64 (.ofNat 0)), (.int .i64 (.ofNat 0)), (.str []), (.str []), (.str []), (.str []), (.str []), (.str []), (.str []), (.str []), .nilsl, (.bool false), (.int .u64 (.ofNat 0)), (.int .u64 (.ofNat 0)), .nilsl] [], none⟩, .quiet, 0, 0⟩, ⟨⟨none, .store 19 (.t 2) (.t 30), none⟩, .loud, 2, 1⟩, ⟨⟨(some 31), .load false 1 (.t 3), none⟩, .load, 1, 0⟩, ⟨⟨none, .store 1 (.t 3) (.t 31), none⟩, .loud, 3, 7⟩])
.ret) .skip))
(.seq (.reg [⟨(some 32), .load true 19 (.t 2), none⟩, ⟨none, .store 19 (.t 2) (.t 32), none⟩, ⟨none, .store 1 (.t 3) (.c (.int .i64 (.ofNat 0))), none⟩])
.ret))))))))))⟩
theorem c112_eq : compFn Tryz.prog 112 = some c112 := by kernel_rfl
noncomputable def c113 : FnI := ⟨10, [.tmp 2],
(.seq (.reg [⟨(some 2), .mov (.c (.int .i64 (.ofNat 0))), none⟩])
(.seq (.seq (.reg [⟨(some 3), .mov (.t 0), none⟩, ⟨(some 4), .eq false .ptr (.t 3) (.c .nilp), none⟩])
(.cond (.t 4) (.seq (.reg [⟨(some 2), .mov (.c (.int .i64 (.ofNat 0))), none⟩])
.ret) .skip))
(.seq (.reg [⟨(some 5), .mov (.t 0), none⟩, ⟨(some 6), .nilchk (.t 5), none⟩, ⟨(some 7), .faddr 1 (.t 6), none⟩, ⟨(some 8), .load false 1 (.t 7), none⟩, ⟨(some 9), .len false (.t 8), none⟩, ⟨(some 2), .mov (.t 9), none⟩])
.ret)))⟩
theorem c113_eq : compFn Tryz.prog 113 = some c113 := by kernel_rfl
noncomputable def c114 : FnI := ⟨12, [.tmp 2],
(.seq (.reg [⟨(some 2), .mov (.c (.bool false)), none⟩])
(.seq (.reg [⟨(some 3), .mov (.t 0), none⟩, ⟨(some 4), .eq false .ptr (.t 3) (.c .nilp), none⟩, ⟨(some 5), .mov (.t 4), none⟩, ⟨(some 6), .mov (.t 0), (some (5, false))⟩, ⟨(some 7), .nilchk (.t 6), (some (5, false))⟩, ⟨(some 8), .faddr 0 (.t 7), (some (5, false))⟩, ⟨(some 9), .load false 1 (.t 8), (some (5, false))⟩, ⟨(some 10), .eq false .ptr (.t 9) (.c .nilp), (some (5, false))⟩, ⟨(some 11), .pick (.t 5) (.c (.bool true)) (.t 10), none⟩, ⟨(some 2), .mov (.t 11), none⟩])
.ret))⟩
theorem c114_eq : compFn Tryz.prog 114 = some c114 := by kernel_rfl
noncomputable def c115 : FnI := ⟨17, [.tmp 2],
(.seq (.reg [⟨(some 2), .mov (.c .nilp), none⟩])
(.seq (.seq (.reg [⟨(some 3), .mov (.t 0), none⟩, ⟨(some 4), .call 230 [(.t 3)], none⟩])
(.cond (.t 4) (.seq (.reg [⟨(some 2), .mov (.c .nilp), none⟩])
.ret) .skip))
(.seq (.dreg [⟨⟨(some 9), .mov (.t 0), none⟩, .quiet, 4, 0⟩, ⟨⟨(some 10), .call 231 [(.t 9)], none⟩, .loud, 5, 16⟩, ⟨⟨(some 5), .mov (.t 0), none⟩, .quiet, 0, 0⟩, ⟨⟨(some 6), .nilchk (.t 5), none⟩, .quiet, 1, 1⟩, ⟨⟨(some 7), .faddr 0 (.t 6), none⟩, .quiet, 2, 3⟩, ⟨⟨(some 8), .load false 1 (.t 7), none⟩, .load, 3, 7⟩, ⟨⟨(some 11), .mov (.t 0), none⟩, .quiet, 6, 0⟩, ⟨⟨(some 12), .nilchk (.t 11), none⟩, .quiet, 7, 64⟩, ⟨⟨(some 13), .faddr 2 (.t 12), none⟩, .quiet, 8, 192⟩, ⟨⟨(some 14), .load false 1 (.t 13), none⟩, .load, 9, 448⟩, ⟨⟨(some 15), .build [(.int .i64 (.ofNat 0)), .nilsl, (.int .u64 (.ofNat 0))] [(0, 1, (.t 8)), (1, 1, (.t 10)), (2, 1, (.t 14))], none⟩, .quiet, 10, 1023⟩, ⟨⟨(some 16), .box (.t 15), none⟩, .quiet, 11, 2047⟩, ⟨⟨(some 2), .mov (.t 16), none⟩, .quiet, 12, 4095⟩])
.ret)))⟩
theorem c115_eq : compFn Tryz.prog 115 = some c115 := by kernel_rfl
noncomputable def c116 : FnI := ⟨12, [.tmp 2],
(.seq (.reg [⟨(some 2), .mov (.c (.bool false)), none⟩])
(.seq (.reg [⟨(some 3), .mov (.t 0), none⟩, ⟨(some 4), .eq false .ptr (.t 3) (.c .nilp), none⟩, ⟨(some 5), .mov (.t 4), none⟩, ⟨(some 6), .mov (.t 0), (some (5, false))⟩, ⟨(some 7), .nilchk (.t 6), (some (5, false))⟩, ⟨(some 8), .faddr 0 (.t 7), (some (5, false))⟩, ⟨(some 9), .load false 1 (.t 8), (some (5, false))⟩, ⟨(some 10), .eq false .ptr (.t 9) (.c .nilp), (some (5, false))⟩, ⟨(some 11), .pick (.t 5) (.c (.bool true)) (.t 10), none⟩, ⟨(some 2), .mov (.t 11), none⟩])
.ret))⟩
theorem c116_eq : compFn Tryz.prog 116 = some c116 := by kernel_rfl
noncomputable def c117 : FnI := ⟨17, [.tmp 2],
(.seq (.reg [⟨(some 2), .mov (.c .nilp), none⟩])
(.seq (.seq (.reg [⟨(some 3), .mov (.t 0), none⟩, ⟨(some 4), .call 232 [(.t 3)], none⟩])
(.cond (.t 4) (.seq (.reg [⟨(some 2), .mov (.c .nilp), none⟩])
.ret) .skip))
(.seq (.dreg [⟨⟨(some 9), .mov (.t 0), none⟩, .quiet, 4, 0⟩, ⟨⟨(some 10), .call 233 [(.t 9)], none⟩, .loud, 5, 16⟩, ⟨⟨(some 5), .mov (.t 0), none⟩, .quiet, 0, 0⟩, ⟨⟨(some 6), .nilchk (.t 5), none⟩, .quiet, 1, 1⟩, ⟨⟨(some 7), .faddr 0 (.t 6), none⟩, .quiet, 2, 3⟩, ⟨⟨(some 8), .load false 1 (.t 7), none⟩, .load, 3, 7⟩, ⟨⟨(some 11), .mov (.t 0), none⟩, .quiet, 6, 0⟩, ⟨⟨(some 12), .nilchk (.t 11), none⟩, .quiet, 7, 64⟩, ⟨⟨(some 13), .faddr 2 (.t 12), none⟩, .quiet, 8, 192⟩, ⟨⟨(some 14), .load false 1 (.t 13), none⟩, .load, 9, 448⟩, ⟨⟨(some 15), .build [(.int .i64 (.ofNat 0)), .nilsl, (.int .u64 (.ofNat 0))] [(0, 1, (.t 8)), (1, 1, (.t 10)), (2, 1, (.t 14))], none⟩, .quiet, 10, 1023⟩, ⟨⟨(some 16), .box (.t 15), none⟩, .quiet, 11, 2047⟩, ⟨⟨(some 2), .mov (.t 16), none⟩, .quiet, 12, 4095⟩])
.ret)))⟩
theorem c117_eq : compFn Tryz.prog 117 = some c117 := by kernel_rfl
noncomputable def c118 : FnI := ⟨12, [.tmp 2],
(.seq (.reg [⟨(some 2), .mov (.c (.bool false)), none⟩])
(.seq (.reg [⟨(some 3), .mov (.t 0), none⟩, ⟨(some 4), .eq false .ptr (.t 3) (.c .nilp), none⟩, ⟨(some 5), .mov (.t 4), none⟩, ⟨(some 6), .mov (.t 0), (some (5, false))⟩, ⟨(some 7), .nilchk (.t 6), (some (5, false))⟩, ⟨(some 8), .faddr 0 (.t 7), (some (5, false))⟩, ⟨(some 9), .load false 1 (.t 8), (some (5, false))⟩, ⟨(some 10), .eq false .ptr (.t 9) (.c .nilp), (some (5, false))⟩, ⟨(some 11), .pick (.t 5) (.c (.bool true)) (.t 10), none⟩, ⟨(some 2), .mov (.t 11), none⟩])
.ret))⟩
theorem c118_eq : compFn Tryz.prog 118 = some c118 := by kernel_rfl
noncomputable def c119 : FnI := ⟨17, [.tmp 2],
(.seq (.reg [⟨(some 2), .mov (.c .nilp), none⟩])
(.seq (.seq (.reg [⟨(some 3), .mov (.t 0), none⟩, ⟨(some 4), .call 234 [(.t 3)], none⟩])
(.cond (.t 4) (.seq (.reg [⟨(some 2), .mov (.c .nilp), none⟩])
.ret) .skip))
(.seq (.dreg [⟨⟨(some 9), .mov (.t 0), none⟩, .quiet, 4, 0⟩, ⟨⟨(some 10), .call 235 [(.t 9)], none⟩, .loud, 5, 16⟩, ⟨⟨(some 5), .mov (.t 0), none⟩, .quiet, 0, 0⟩, ⟨⟨(some 6), .nilchk (.t 5), none⟩, .quiet, 1, 1⟩, ⟨⟨(some 7), .faddr 0 (.t 6), none⟩, .quiet, 2, 3⟩, ⟨⟨(some 8), .load false 1 (.t 7), none⟩, .load, 3, 7⟩, ⟨⟨(some 11), .mov (.t 0), none⟩, .quiet, 6, 0⟩, ⟨⟨(some 12), .nilchk (.t 11), none⟩, .quiet, 7, 64⟩, ⟨⟨(some 13), .faddr 2 (.t 12), none⟩, .quiet, 8, 192⟩, ⟨⟨(some 14), .load false 1 (.t 13), none⟩, .load, 9, 448⟩, ⟨⟨(some 15), .build [(.int .i64 (.ofNat 0)), .nilsl, (.int .u64 (.ofNat 0))] [(0, 1, (.t 8)), (1, 1, (.t 10)), (2, 1, (.t 14))], none⟩, .quiet, 10, 1023⟩, ⟨⟨(some 16), .box (.t 15), none⟩, .quiet, 11, 2047⟩, ⟨⟨(some 2), .mov (.t 16), none⟩, .quiet, 12, 4095⟩])
.ret)))⟩
theorem c119_eq : compFn Tryz.prog 119 = some c119 := by kernel_rfl
noncomputable def c120 : FnI := ⟨17, [.tmp 2],
(.seq (.reg [⟨(some 2), .mov (.c .nilp), none⟩])
(.seq (.seq (.reg [⟨(some 3), .mov (.t 0), none⟩, ⟨(some 4), .call 236 [(.t 3)], none⟩])
(.cond (.t 4) (.seq (.reg [⟨(some 2), .mov (.c .nilp), none⟩])
.ret) .skip))
(.seq (.dreg [⟨⟨(some 9), .mov (.t 0), none⟩, .quiet, 4, 0⟩, ⟨⟨(some 10), .call 237 [(.t 9)], none⟩, .loud, 5, 16⟩, ⟨⟨(some 5), .mov (.t 0), none⟩, .quiet, 0, 0⟩, ⟨⟨(some 6), .nilchk (.t 5), none⟩, .quiet, 1, 1⟩, ⟨⟨(some 7), .faddr 0 (.t 6), none⟩, .quiet, 2, 3⟩, ⟨⟨(some 8), .load false 1 (.t 7), none⟩, .load, 3, 7⟩, ⟨⟨(some 11), .mov (.t 0), none⟩, .quiet, 6, 0⟩, ⟨⟨(some 12), .nilchk (.t 11), none⟩, .quiet, 7, 64⟩, ⟨⟨(some 13), .faddr 2 (.t 12), none⟩, .quiet, 8, 192⟩, ⟨⟨(some 14), .load false 1 (.t 13), none⟩, .load, 9, 448⟩, ⟨⟨(some 15), .build [(.int .i64 (.ofNat 0)), .nilsl, (.int .u64 (.ofNat 0))] [(0, 1, (.t 8)), (1, 1, (.t 10)), (2, 1, (.t 14))], none⟩, .quiet, 10, 1023⟩, ⟨⟨(some 16), .box (.t 15), none⟩, .quiet, 11, 2047⟩, ⟨⟨(some 2), .mov (.t 16), none⟩, .quiet, 12, 4095⟩])
.ret)))⟩
theorem c120_eq : compFn Tryz.prog 120 = some c120 := by kernel_rfl
noncomputable def c121 : FnI := ⟨17, [.tmp 2],
(.seq (.reg [⟨(some 2), .mov (.c .nilp), none⟩])
(.seq (.seq (.reg [⟨(some 3), .mov (.t 0), none⟩, ⟨(some 4), .call 238 [(.t 3)], none⟩])
(.cond (.t 4) (.seq (.reg [⟨(some 2), .mov (.c .nilp), none⟩])
.ret) .skip))
(.seq (.dreg [⟨⟨(some 9), .mov (.t 0), none⟩, .quiet, 4, 0⟩, ⟨⟨(some 10), .call 239 [(.t 9)], none⟩, .loud, 5, 16⟩, ⟨⟨(some 5), .mov (.t 0), none⟩, .quiet, 0, 0⟩, ⟨⟨(some 6), .nilchk (.t 5), none⟩, .quiet, 1, 1⟩, ⟨⟨(some 7), .faddr 0 (.t 6), none⟩, .quiet, 2, 3⟩, ⟨⟨(some 8), .load false 1 (.t 7), none⟩, .load, 3, 7⟩, ⟨⟨(some 11), .mov (.t 0), none⟩, .quiet, 6, 0⟩, ⟨⟨(some 12), .nilchk (.t 11), none⟩, .quiet, 7, 64⟩, ⟨⟨(some 13), .faddr 2 (.t 12), none⟩, .quiet, 8, 192⟩, ⟨⟨(some 14), .load false 1 (.t 13), none⟩, .load, 9, 448⟩, ⟨⟨(some 15), .build [(.int .i64 (.ofNat 0)), .nilsl, (.int .u64 (.ofNat 0))] [(0, 1, (.t 8)), (1, 1, (.t 10)), (2, 1, (.t 14))], none⟩, .quiet, 10, 1023⟩, ⟨⟨(some 16), .box (.t 15), none⟩, .quiet, 11, 2047⟩, ⟨⟨(some 2), .mov (.t 16), none⟩, .quiet, 12, 4095⟩])
.ret)))⟩
theorem c121_eq : compFn Tryz.prog 121 = some c121 := by kernel_rfl
noncomputable def c122 : FnI := ⟨12, [.tmp 2],
(.seq (.reg [⟨(some 2), .mov (.c (.bool false)), none⟩])
(.seq (.reg [⟨(some 3), .mov (.t 0), none⟩, ⟨(some 4), .eq false .ptr (.t 3) (.c .nilp), none⟩, ⟨(some 5), .mov (.t 4), none⟩, ⟨(some 6), .mov (.t 0), (some (5, false))⟩, ⟨(some 7), .nilchk (.t 6), (some (5, false))⟩, ⟨(some 8), .faddr 0 (.t 7), (some (5, false))⟩, ⟨(some 9), .load false 1 (.t 8), (some (5, false))⟩, ⟨(some 10), .eq false .ptr (.t 9) (.c .nilp), (some (5, false))⟩, ⟨(some 11), .pick (.t 5) (.c (.bool true)) (.t 10), none⟩, ⟨(some 2), .mov (.t 11), none⟩])
.ret))⟩
theorem c122_eq : compFn Tryz.prog 122 = some c122 := by kernel_rfl
noncomputable def c123 : FnI := ⟨17, [.tmp 2],
(.seq (.reg [⟨(some 2), .mov (.c .nilp), none⟩])
(.seq (.seq (.reg [⟨(some 3), .mov (.t 0), none⟩, ⟨(some 4), .call 240 [(.t 3)], none⟩])
(.cond (.t 4) (.seq (.reg [⟨(some 2), .mov (.c .nilp), none⟩])
.ret) .skip))
(.seq (.dreg [⟨⟨(some 9), .mov (.t 0), none⟩, .quiet, 4, 0⟩, ⟨⟨(some 10), .call 241 [(.t 9)], none⟩, .loud, 5, 16⟩, ⟨⟨(some 5), .mov (.t 0), none⟩, .quiet, 0, 0⟩, ⟨⟨(some 6), .nilchk (.t 5), none⟩, .quiet, 1, 1⟩, ⟨⟨(some 7), .faddr 0 (.t 6), none⟩, .quiet, 2, 3⟩, ⟨⟨(some 8), .load false 1 (.t 7), none⟩, .load, 3, 7⟩, ⟨⟨(some 11), .mov (.t 0), none⟩, .quiet, 6, 0⟩, ⟨⟨(some 12), .nilchk (.t 11), none⟩, .quiet, 7, 64⟩, ⟨⟨(some 13), .faddr 2 (.t 12), none⟩, .quiet, 8, 192⟩, ⟨⟨(some 14), .load false 1 (.t 13), none⟩, .load, 9, 448⟩, ⟨⟨(some 15), .build [(.int .i64 (.ofNat 0)), .nilsl, (.int .u64 (.ofNat 0))] [(0, 1, (.t 8)), (1, 1, (.t 10)), (2, 1, (.t 14))], none⟩, .quiet, 10, 1023⟩, ⟨⟨(some 16), .box (.t 15), none⟩, .quiet, 11, 2047⟩, ⟨⟨(some 2), .mov (.t 16), none⟩, .quiet, 12, 4095⟩])
.ret)))⟩
theorem c123_eq : compFn Tryz.prog 123 = some c123 := by kernel_rfl
noncomputable def c124 : FnI := ⟨8, [.cell 2 true 4],
(.seq (.reg [⟨(some 1), .box (.t 0), none⟩, ⟨(some 2), .alloc [.nilfn, .nilfn, .nilfn, .nilfn], none⟩])
(.seq (.reg [⟨(some 3), .mkfn 242 [] [(.t 1)], none⟩, ⟨(some 4), .mkfn 243 [] [(.t 1)], none⟩, ⟨(some 5), .mkfn 244 [] [(.t 1)], none⟩, ⟨(some 6), .mkfn 245 [] [(.t 1)], none⟩, ⟨(some 7), .build [.nilfn, .nilfn, .nilfn, .nilfn] [(0, 1, (.t 3)), (1, 1, (.t 4)), (2, 1, (.t 5)), (3, 1, (.t 6))], none⟩, ⟨none, .store 4 (.t 2) (.t 7), none⟩])
.ret))⟩
theorem c124_eq : compFn Tryz.prog 124 = some c124 := by kernel_rfl
noncomputable def c125 : FnI := ⟨8, [.cell 2 true 4],
(.seq (.reg [⟨(some 1), .box (.t 0), none⟩, ⟨(some 2), .alloc [.nilfn, .nilfn, .nilfn, .nilfn], none⟩])
(.seq (.reg [⟨(some 3), .mkfn 246 [] [(.t 1)], none⟩, ⟨(some 4), .mkfn 248 [] [(.t 1)], none⟩, ⟨(some 5), .mkfn 250 [] [(.t 1)], none⟩, ⟨(some 6), .mkfn 251 [] [(.t 1)], none⟩, ⟨(some 7), .build [.nilfn, .nilfn, .nilfn, .nilfn] [(0, 1, (.t 3)), (1, 1, (.t 4)), (2, 1, (.t 5)), (3, 1, (.t 6))], none⟩, ⟨none, .store 4 (.t 2) (.t 7), none⟩])
.ret))⟩
theorem c125_eq : compFn Tryz.prog 125 = some c125 := by kernel_rfl
noncomputable def c126 : FnI := ⟨8, [.cell 2 true 4],
(.seq (.reg [⟨(some 1), .box (.t 0), none⟩, ⟨(some 2), .alloc [.nilfn, .nilfn, .nilfn, .nilfn], none⟩])
(.seq (.reg [⟨(some 3), .mkfn 252 [] [(.t 1)], none⟩, ⟨(some 4), .mkfn 254 [] [(.t 1)], none⟩, ⟨(some 5), .mkfn 255 [] [(.t 1)], none⟩, ⟨(some 6), .mkfn 256 [] [(.t 1)], none⟩, ⟨(some 7), .build [.nilfn, .nilfn, .nilfn, .nilfn] [(0, 1, (.t 3)), (1, 1, (.t 4)), (2, 1, (.t 5)), (3, 1, (.t 6))], none⟩, ⟨none, .store 4 (.t 2) (.t 7), none⟩])
.ret))⟩
theorem c126_eq : compFn Tryz.prog 126 = some c126 := by kernel_rfl
noncomputable def c127 : FnI := ⟨7, [.cell 2 true 4],
(.seq (.reg [⟨(some 1), .box (.t 0), none⟩, ⟨(some 2), .alloc [.nilfn, .nilfn, .nilfn, .nilfn], none⟩])
(.seq (.reg [⟨(some 3), .mkfn 257 [] [(.t 1)], none⟩, ⟨(some 4), .mkfn 259 [] [(.t 1)], none⟩, ⟨(some 5), .mkfn 260 [] [(.t 1)], none⟩, ⟨(some 6), .build [.nilfn, .nilfn, .nilfn, .nilfn] [(0, 1, (.t 3)), (1, 1, (.t 4)), (2, 1, (.t 5)), (3, 1, (.c (.fn (.func 261) [] [])))], none⟩, ⟨none, .store 4 (.t 2) (.t 6), none⟩])
.ret))⟩
theorem c127_eq : compFn Tryz.prog 127 = some c127 := by kernel_rfl
noncomputable def c128 : FnI := ⟨7, [.cell 2 true 4],
(.seq (.reg [⟨(some 1), .box (.t 0), none⟩, ⟨(some 2), .alloc [.nilfn, .nilfn, .nilfn, .nilfn], none⟩])
(.seq (.reg [⟨(some 3), .mkfn 262 [] [(.t 1)], none⟩, ⟨(some 4), .mkfn 263 [] [(.t 1)], none⟩, ⟨(some 5), .mkfn 264 [] [(.t 1)], none⟩, ⟨(some 6), .build [.nilfn, .nilfn, .nilfn, .nilfn] [(0, 1, (.t 3)), (1, 1, (.t 4)), (2, 1, (.t 5)), (3, 1, (.c (.fn (.func 265) [] [])))], none⟩, ⟨none, .store 4 (.t 2) (.t 6), none⟩])
.ret))⟩
theorem c128_eq : compFn Tryz.prog 128 = some c128 := by kernel_rfl
noncomputable def c129 : FnI := ⟨8, [.cell 2 true 4],
(.seq (.reg [⟨(some 1), .box (.t 0), none⟩, ⟨(some 2), .alloc [.nilfn, .nilfn, .nilfn, .nilfn], none⟩])
(.seq (.reg [⟨(some 3), .mkfn 266 [] [(.t 1)], none⟩, ⟨(some 4), .mkfn 267 [] [(.t 1)], none⟩, ⟨(some 5), .mkfn 268 [] [(.t 1)], none⟩, ⟨(some 6), .mkfn 269 [] [(.t 1)], none⟩, ⟨(some 7), .build [.nilfn, .nilfn, .nilfn, .nilfn] [(0, 1, (.t 3)), (1, 1, (.t 4)), (2, 1, (.t 5)), (3, 1, (.t 6))], none⟩, ⟨none, .store 4 (.t 2) (.t 7), none⟩])
.ret))⟩
theorem c129_eq : compFn Tryz.prog 129 = some c129 := by kernel_rfl
noncomputable def c130 : FnI := ⟨15, [.tmp 2],
(.seq (.reg [⟨(some 1), .box (.t 0), none⟩, ⟨(some 2), .mov (.c (.int .i64 (.ofNat 0))), none⟩])
(.seq (.reg [⟨(some 3), .faddr 0 (.t 1), none⟩, ⟨(some 4), .faddr 2 (.t 3), none⟩, ⟨(some 5), .load false 1 (.t 4), none⟩, ⟨(some 6), .faddr 4 (.t 1), none⟩, ⟨(some 7), .faddr 1 (.t 6), none⟩, ⟨(some 8), .load false 1 (.t 7), none⟩, ⟨(some 9), .faddr 4 (.t 1), none⟩, ⟨(some 10), .faddr 7 (.t 9), none⟩, ⟨(some 11), .load false 1 (.t 10), none⟩, ⟨(some 12), .faddr 21 (.t 1), none⟩, ⟨(some 13), .load false 1 (.t 12), none⟩, ⟨(some 14), .call 213 [(.t 5), (.t 8), (.t 11), (.t 13)], none⟩, ⟨(some 2), .mov (.t 14), none⟩])
.ret))⟩
theorem c130_eq : compFn Tryz.prog 130 = some c130 := by kernel_rfl
noncomputable def c147 : FnI := ⟨25, [.tmp 4],
(.seq (.reg [⟨(some 4), .mov (.c (.int .u32 (.ofNat 0))), none⟩])
(.seq (.reg [⟨(some 8), .mov (.t 0), none⟩, ⟨(some 9), .un .xor (.t 8), none⟩, ⟨(some 5), .mov (.t 9), none⟩])
(.seq (.seq (.reg [⟨(some 10), .mov (.t 1), none⟩, ⟨(some 11), .len false (.t 10), none⟩, ⟨(some 12), .mov (.c (.int .i64 (.ofNat 0))), none⟩])
(.block 0 (.loop (.seq (.reg [⟨(some 13), .bin .lss (.t 12) (.t 11), none⟩])
(.seq (.cond (.t 13) .skip (.exit 0))
(.seq (.block 1 (.seq (.reg [⟨(some 14), .idxS 1 (.t 10) (.t 12), none⟩, ⟨(some 15), .load false 1 (.t 14), none⟩, ⟨(some 7), .mov (.t 15), none⟩])
(.reg [⟨(some 16), .mov (.t 5), none⟩, ⟨(some 17), .mov (.t 7), none⟩, ⟨(some 18), .cvInt .u32 (.t 17), none⟩, ⟨(some 19), .bin .shl (.t 18) (.c (.int .u64 (.ofNat 24))), none⟩, ⟨(some 20), .bin .xor (.t 16) (.t 19), none⟩, ⟨(some 21), .call 287 [(.t 20), (.c (.int .i64 (.ofNat 8)))], none⟩, ⟨(some 5), .mov (.t 21), none⟩])))
(.reg [⟨(some 22), .bin .add (.t 12) (.c (.int .i64 (.ofNat 1))), none⟩, ⟨(some 12), .mov (.t 22), none⟩])))))))
(.seq (.reg [⟨(some 23), .mov (.t 5), none⟩, ⟨(some 24), .un .xor (.t 23), none⟩, ⟨(some 4), .mov (.t 24), none⟩])
.ret))))⟩
theorem c147_eq : compFn Tryz.prog 147 = some c147 := by kernel_rfl
noncomputable def c148 : FnI := ⟨7, [.tmp 1],
(.seq (.reg [⟨(some 1), .mov (.c (.bool false)), none⟩])
(.seq (.reg [⟨(some 2), .load false 1 (.t 0), none⟩, ⟨(some 3), .nilchk (.t 2), none⟩, ⟨(some 4), .faddr 11 (.t 3), none⟩, ⟨(some 5), .load false 1 (.t 4), none⟩, ⟨(some 6), .un .not (.t 5), none⟩, ⟨(some 1), .mov (.t 6), none⟩])
.ret))⟩
theorem c148_eq : compFn Tryz.prog 148 = some c148 := by kernel_rfl
noncomputable def c168 : FnI := ⟨8, [.tmp 2],
(.seq (.reg [⟨(some 2), .mov (.c .nilp), none⟩])
(.seq (.reg [⟨(some 3), .mov (.t 0), none⟩, ⟨(some 4), .mm true (.t 3) [(.c (.int .i64 (.ofNat 1)))], none⟩, ⟨(some 5), .mm false (.t 4) [(.c (.int .i64 (.ofNat 64)))], none⟩, ⟨(some 6), .build [(.int .i64 (.ofNat 0)), .nilsl, (.int .u64 (.ofNat 0))] [(0, 1, (.t 5))], none⟩, ⟨(some 7), .box (.t 6), none⟩, ⟨(some 2), .mov (.t 7), none⟩])
.ret))⟩
theorem c168_eq : compFn Tryz.prog 168 = some c168 := by kernel_rfl
noncomputable def c169 : FnI := ⟨8, [.tmp 2],
(.seq (.reg [⟨(some 2), .mov (.c .nilp), none⟩])
(.seq (.reg [⟨(some 3), .mov (.t 0), none⟩, ⟨(some 4), .mm true (.t 3) [(.c (.int .i64 (.ofNat 1)))], none⟩, ⟨(some 5), .mm false (.t 4) [(.c (.int .i64 (.ofNat 64)))], none⟩, ⟨(some 6), .build [(.int .i64 (.ofNat 0)), .nilsl, (.int .u64 (.ofNat 0))] [(0, 1, (.t 5))], none⟩, ⟨(some 7), .box (.t 6), none⟩, ⟨(some 2), .mov (.t 7), none⟩])
.ret))⟩
theorem c169_eq : compFn Tryz.prog 169 = some c169 := by kernel_rfl
noncomputable def c170 : FnI := ⟨8, [.tmp 2],
(.seq (.reg [⟨(some 2), .mov (.c .nilp), none⟩])
(.seq (.reg [⟨(some 3), .mov (.t 0), none⟩, ⟨(some 4), .mm true (.t 3) [(.c (.int .i64 (.ofNat 1)))], none⟩, ⟨(some 5), .mm false (.t 4) [(.c (.int .i64 (.ofNat 64)))], none⟩, ⟨(some 6), .build [(.int .i64 (.ofNat 0)), .nilsl, (.int .u64 (.ofNat 0))] [(0, 1, (.t 5))], none⟩, ⟨(some 7), .box (.t 6), none⟩, ⟨(some 2), .mov (.t 7), none⟩])
.ret))⟩
theorem c170_eq : compFn Tryz.prog 170 = some c170 := by kernel_rfl
noncomputable def c171 : FnI := ⟨8, [.tmp 2],
(.seq (.reg [⟨(some 2), .mov (.c .nilp), none⟩])
(.seq (.reg [⟨(some 3), .mov (.t 0), none⟩, ⟨(some 4), .mm true (.t 3) [(.c (.int .i64 (.ofNat 1)))], none⟩, ⟨(some 5), .mm false (.t 4) [(.c (.int .i64 (.ofNat 64)))], none⟩, ⟨(some 6), .build [(.int .i64 (.ofNat 0)), .nilsl, (.int .u64 (.ofNat 0))] [(0, 1, (.t 5))], none⟩, ⟨(some 7), .box (.t 6), none⟩, ⟨(some 2), .mov (.t 7), none⟩])
.ret))⟩
theorem c171_eq : compFn Tryz.prog 171 = some c171 := by kernel_rfl
noncomputable def c172 : FnI := ⟨8, [.tmp 2],
(.seq (.reg [⟨(some 2), .mov (.c .nilp), none⟩])
(.seq (.reg [⟨(some 3), .mov (.t 0), none⟩, ⟨(some 4), .mm true (.t 3) [(.c (.int .i64 (.ofNat 1)))], none⟩, ⟨(some 5), .mm false (.t 4) [(.c (.int .i64 (.ofNat 64)))], none⟩, ⟨(some 6), .build [(.int .i64 (.ofNat 0)), .nilsl, (.int .u64 (.ofNat 0))] [(0, 1, (.t 5))], none⟩, ⟨(some 7), .box (.t 6), none⟩, ⟨(some 2), .mov (.t 7), none⟩])
.ret))⟩
theorem c172_eq : compFn Tryz.prog 172 = some c172 := by kernel_rfl
noncomputable def c173 : FnI := ⟨8, [.tmp 2],
(.seq (.reg [⟨(some 2), .mov (.c .nilp), none⟩])
(.seq (.reg [⟨(some 3), .mov (.t 0), none⟩, ⟨(some 4), .mm true (.t 3) [(.c (.int .i64 (.ofNat 1)))], none⟩, ⟨(some 5), .mm false (.t 4) [(.c (.int .i64 (.ofNat 64)))], none⟩, ⟨(some 6), .build [(.int .i64 (.ofNat 0)), .nilsl, (.int .u64 (.ofNat 0))] [(0, 1, (.t 5))], none⟩, ⟨(some 7), .box (.t 6), none⟩, ⟨(some 2), .mov (.t 7), none⟩])
.ret))⟩
theorem c173_eq : compFn Tryz.prog 173 = some c173 := by kernel_rfl
noncomputable def c174 : FnI := ⟨35, [.tmp 4, .tmp 5],
(.seq (.reg [⟨(some 4), .mov (.c (.int .i64 (.ofNat 0))), none⟩, ⟨(some 5), .mov (.c (.int .i64 (.ofNat 0))), none⟩])
(.seq (.reg [⟨(some 6), .mov (.c (.int .i64 (.ofNat 0))), none⟩])
(.seq (.block 0 (.loop (.seq (.seq (.reg [⟨(some 10), .mov (.t 6), none⟩, ⟨(some 11), .mov (.t 0), none⟩, ⟨(some 12), .len false (.t 11), none⟩, ⟨(some 13), .bin .lss (.t 10) (.t 12), none⟩])
(.cond (.t 13) .skip (.exit 0)))
(.block 1 (.seq (.reg [⟨(some 15), .mov (.t 0), none⟩, ⟨(some 16), .mov (.t 6), none⟩, ⟨(some 17), .slS 1 (.t 15) (some (.t 16)) none none, none⟩, ⟨(some 18), .call 47 [(.t 17)], none⟩, ⟨(some 14), .mov (.t 18), none⟩, ⟨(some 19), .extract (.t 14) 0, none⟩, ⟨(some 20), .extract (.t 14) 1, none⟩, ⟨(some 21), .extract (.t 14) 2, none⟩, ⟨(some 7), .alloc [(.int .u8 (.ofNat 0)), .nilsl], none⟩, ⟨none, .store 2 (.t 7) (.t 19), none⟩, ⟨(some 8), .mov (.t 20), none⟩, ⟨(some 9), .mov (.t 21), none⟩])
(.seq (.seq (.reg [⟨(some 22), .mov (.t 9), none⟩, ⟨(some 23), .bin .neq (.t 22) (.c (.int .i64 (.ofNat 0))), none⟩])
(.cond (.t 23) (.seq (.reg [⟨(some 24), .mov (.t 6), none⟩, ⟨(some 25), .mov (.t 9), none⟩, ⟨(some 4), .mov (.t 24), none⟩, ⟨(some 5), .mov (.t 25), none⟩])
.ret) .skip))
(.seq (.seq (.reg [⟨(some 26), .mov (.t 1), none⟩, ⟨(some 27), .mov (.t 6), none⟩, ⟨(some 28), .load true 2 (.t 7), none⟩, ⟨(some 29), .callv (.t 26) [(.t 27), (.t 28)], none⟩, ⟨(some 30), .un .not (.t 29), none⟩])
(.cond (.t 30) (.exit 0) .skip))
(.reg [⟨(some 31), .mov (.t 6), none⟩, ⟨(some 32), .mov (.t 8), none⟩, ⟨(some 33), .bin .add (.t 31) (.t 32), none⟩, ⟨(some 6), .mov (.t 33), none⟩]))))))))
(.seq (.reg [⟨(some 34), .mov (.t 6), none⟩, ⟨(some 4), .mov (.t 34), none⟩, ⟨(some 5), .mov (.c (.int .i64 (.ofNat 0))), none⟩])
.ret))))⟩
theorem c174_eq : compFn Tryz.prog 174 = some c174 := by kernel_rfl
noncomputable def c175 : FnI := ⟨5, [.tmp 4],
(.seq (.reg [⟨(some 3), .box (.t 1), none⟩, ⟨(some 4), .mov (.c (.bool false)), none⟩])
(.seq (.reg [⟨(some 4), .mov (.c (.bool true)), none⟩])
.ret))⟩
theorem c175_eq : compFn Tryz.prog 175 = some c175 := by kernel_rfl
noncomputable def c176 : FnI := ⟨6, [],
(.reg [⟨(some 3), .load false 1 (.t 1), none⟩, ⟨(some 4), .mov (.t 0), none⟩, ⟨(some 5), .call 174 [(.t 3), (.t 4)], none⟩])⟩
theorem c176_eq : compFn Tryz.prog 176 = some c176 := by kernel_rfl
noncomputable def c209 : FnI := ⟨9, [.tmp 2],
(.seq (.reg [⟨(some 2), .mov (.c (.bool false)), none⟩])
(.seq (.reg [⟨(some 3), .mov (.t 0), none⟩, ⟨(some 4), .bin .geq (.t 3) (.c (.int .i64 (.ofNat 0))), none⟩, ⟨(some 5), .mov (.t 4), none⟩, ⟨(some 6), .mov (.t 0), (some (5, true))⟩, ⟨(some 7), .bin .lss (.t 6) (.c (.int .i64 (.ofNat 8))), (some (5, true))⟩, ⟨(some 8), .pick (.t 5) (.t 7) (.c (.bool false)), none⟩, ⟨(some 2), .mov (.t 8), none⟩])
.ret))⟩
theorem c209_eq : compFn Tryz.prog 209 = some c209 := by kernel_rfl
noncomputable def c211 : FnI := ⟨8, [.tmp 2],
(.seq (.reg [⟨(some 2), .mov (.c (.str [])), none⟩])
(.seq (.reg [⟨(some 3), .mov (.t 0), none⟩, ⟨(some 4), .cvInt .u8 (.t 3), none⟩, ⟨(some 5), .bin .add (.c (.int .u8 (.ofNat 48))) (.t 4), none⟩, ⟨(some 6), .buildSl 1 1 [(.int .u8 (.ofNat 0))] [(0, 1, (.t 5))], none⟩, ⟨(some 7), .cvStr (.t 6), none⟩, ⟨(some 2), .mov (.t 7), none⟩])
.ret))⟩
theorem c211_eq : compFn Tryz.prog 211 = some c211 := by kernel_rfl
noncomputable def c213 : FnI := ⟨37, [.tmp 8],
(.seq (.reg [⟨(some 8), .mov (.c (.int .i64 (.ofNat 0))), none⟩])
(.seq (.block 0 (.seq (.reg [⟨(some 12), .mov (.t 0), none⟩, ⟨(some 13), .call 118 [(.t 12)], none⟩, ⟨(some 11), .mov (.t 13), none⟩])
(.cond (.t 11) (.seq (.reg [⟨(some 8), .mov (.c (.int .i64 (.ofNat 1))), none⟩])
.ret) (.seq (.reg [⟨(some 15), .mov (.t 1), none⟩, ⟨(some 16), .call 209 [(.t 15)], none⟩, ⟨(some 17), .un .not (.t 16), none⟩, ⟨(some 14), .mov (.t 17), none⟩])
(.cond (.t 14) (.seq (.reg [⟨(some 8), .mov (.c (.int .i64 (.ofNat 2))), none⟩])
.ret) (.seq (.reg [⟨(some 19), .mov (.t 2), none⟩, ⟨(some 20), .len true (.t 19), none⟩, ⟨(some 21), .bin .gtr (.t 20) (.c (.int .i64 (.ofNat 32))), none⟩, ⟨(some 18), .mov (.t 21), none⟩])
(.cond (.t 18) (.seq (.reg [⟨(some 8), .mov (.c (.int .i64 (.ofNat 3))), none⟩])
.ret) .skip)))))))
(.seq (.dreg [⟨⟨(some 27), .mov (.t 1), none⟩, .quiet, 4, 0⟩, ⟨⟨(some 28), .call 211 [(.t 27)], none⟩, .loud, 5, 16⟩, ⟨⟨(some 23), .mov (.t 0), none⟩, .quiet, 0, 0⟩, ⟨⟨(some 24), .nilchk (.t 23), none⟩, .quiet, 1, 1⟩, ⟨⟨(some 25), .faddr 0 (.t 24), none⟩, .quiet, 2, 3⟩, ⟨⟨(some 26), .load false 1 (.t 25), none⟩, .load, 3, 7⟩, ⟨⟨(some 29), .mov (.t 1), none⟩, .quiet, 6, 0⟩, ⟨⟨(some 30), .mov (.t 2), none⟩, .quiet, 7, 0⟩, ⟨⟨(some 31), .build [(.int .i64 (.ofNat 0)), (.str []), (.int .u64 (.ofNat 0)), (.int .u64 (.ofNat 0))] [(0, 1, (.t 29)), (1, 1, (.t 30))], none⟩, .quiet, 8, 192⟩, ⟨⟨(some 32), .mov (.t 3), none⟩, .quiet, 9, 0⟩, ⟨⟨(some 33), .call 318 [(.t 26), (.t 28), (.t 31), (.t 32)], none⟩, .loud, 10, 1023⟩, ⟨⟨(some 22), .mov (.t 33), none⟩, .quiet, 11, 2047⟩, ⟨⟨(some 34), .extract (.t 22) 0, none⟩, .quiet, 12, 4095⟩, ⟨⟨(some 9), .alloc [(.str []), (.int .i64 (.ofNat 0)), (.str []), (.int .u64 (.ofNat 0)), (.int .u64 (.ofNat 0)), (.int .u64 (.ofNat 0)), (.int .u64 (.ofNat 0))], none⟩, .quiet, 14, 0⟩, ⟨⟨none, .store 7 (.t 9) (.t 34), none⟩, .loud, 15, 24575⟩, ⟨⟨(some 35), .extract (.t 22) 1, none⟩, .quiet, 13, 4095⟩, ⟨⟨(some 10), .mov (.t 35), none⟩, .quiet, 16, 65535⟩])
(.seq (.reg [⟨(some 36), .mov (.t 10), none⟩, ⟨(some 8), .mov (.t 36), none⟩])
.ret))))⟩
theorem c213_eq : compFn Tryz.prog 213 = some c213 := by kernel_rfl
noncomputable def c219 : FnI := ⟨16, [],
(.seq (.reg [⟨(some 4), .mov (.t 0), none⟩, ⟨(some 5), .call 234 [(.t 4)], none⟩, ⟨(some 6), .un .not (.t 5), none⟩])
(.cond (.t 6) (.reg [⟨(some 7), .mov (.t 0), none⟩, ⟨(some 8), .mov (.t 0), none⟩, ⟨(some 9), .nilchk (.t 8), none⟩, ⟨(some 10), .faddr 2 (.t 9), none⟩, ⟨(some 11), .load false 1 (.t 10), none⟩, ⟨(some 12), .mov (.t 1), none⟩, ⟨(some 13), .mm true (.t 11) [(.t 12)], none⟩, ⟨(some 14), .nilchk (.t 7), none⟩, ⟨(some 15), .faddr 2 (.t 14), none⟩, ⟨none, .store 1 (.t 15) (.t 13), none⟩]) .skip))⟩
theorem c219_eq : compFn Tryz.prog 219 = some c219 := by kernel_rfl
noncomputable def c225 : FnI := ⟨18, [.tmp 2],
(.seq (.reg [⟨(some 2), .mov (.c (.bool false)), none⟩])
(.seq (.reg [⟨(some 3), .mov (.t 0), none⟩, ⟨(some 4), .eq true .ptr (.t 3) (.c .nilp), none⟩, ⟨(some 5), .mov (.t 4), none⟩, ⟨(some 6), .mov (.t 0), (some (5, true))⟩, ⟨(some 7), .nilchk (.t 6), (some (5, true))⟩, ⟨(some 8), .faddr 0 (.t 7), (some (5, true))⟩, ⟨(some 9), .load false 1 (.t 8), (some (5, true))⟩, ⟨(some 10), .pick (.t 5) (.t 9) (.c (.bool false)), none⟩, ⟨(some 11), .mov (.t 10), none⟩, ⟨(some 12), .mov (.t 0), (some (11, true))⟩, ⟨(some 13), .nilchk (.t 12), (some (11, true))⟩, ⟨(some 14), .faddr 2 (.t 13), (some (11, true))⟩, ⟨(some 15), .load false 1 (.t 14), (some (11, true))⟩, ⟨(some 16), .bin .eql (.t 15) (.c (.int .i64 (.ofNat 0))), (some (11, true))⟩, ⟨(some 17), .pick (.t 11) (.t 16) (.c (.bool false)), none⟩, ⟨(some 2), .mov (.t 17), none⟩])
.ret))⟩
theorem c225_eq : compFn Tryz.prog 225 = some c225 := by kernel_rfl
noncomputable def c226 : FnI := ⟨58, [.tmp 2, .tmp 3, .tmp 4],
(.seq (.reg [⟨(some 2), .mov (.c (.int .u64 (.ofNat 0))), none⟩, ⟨(some 3), .mov (.c (.int .i64 (.ofNat 0))), none⟩, ⟨(some 4), .mov (.c (.int .i64 (.ofNat 0))), none⟩])
(.seq (.seq (.reg [⟨(some 9), .mov (.t 0), none⟩, ⟨(some 10), .len false (.t 9), none⟩, ⟨(some 11), .bin .eql (.t 10) (.c (.int .i64 (.ofNat 0))), none⟩])
(.cond (.t 11) (.seq (.reg [⟨(some 2), .mov (.c (.int .u64 (.ofNat 0))), none⟩, ⟨(some 3), .mov (.c (.int .i64 (.ofNat 0))), none⟩, ⟨(some 4), .mov (.c (.int .i64 (.ofNat 30))), none⟩])
.ret) .skip))
(.seq (.reg [⟨(some 12), .mov (.t 0), none⟩, ⟨(some 13), .idxS 1 (.t 12) (.c (.int .i64 (.ofNat 0))), none⟩, ⟨(some 14), .load false 1 (.t 13), none⟩, ⟨(some 15), .cvInt .i64 (.t 14), none⟩, ⟨(some 5), .mov (.t 15), none⟩])
(.seq (.block 0 (.seq (.reg [⟨(some 17), .mov (.t 5), none⟩, ⟨(some 18), .bin .gtr (.t 17) (.c (.int .i64 (.ofNat 8))), none⟩, ⟨(some 19), .mov (.t 18), none⟩, ⟨(some 20), .mov (.t 5), (some (19, false))⟩, ⟨(some 21), .bin .gtr (.t 20) (.c (.int .i64 (.ofNat 0))), (some (19, false))⟩, ⟨(some 22), .mov (.t 21), (some (19, false))⟩, ⟨(some 23), .mov (.t 0), (some (22, true))⟩, ⟨(some 24), .len false (.t 23), (some (22, true))⟩, ⟨(some 25), .bin .gtr (.t 24) (.c (.int .i64 (.ofNat 1))), (some (22, true))⟩, ⟨(some 26), .pick (.t 22) (.t 25) (.c (.bool false)), (some (19, false))⟩, ⟨(some 27), .mov (.t 26), (some (19, false))⟩, ⟨(some 28), .mov (.t 0), (some (27, true))⟩, ⟨(some 29), .idxS 1 (.t 28) (.c (.int .i64 (.ofNat 1))), (some (27, true))⟩, ⟨(some 30), .load false 1 (.t 29), (some (27, true))⟩, ⟨(some 31), .bin .eql (.t 30) (.c (.int .u8 (.ofNat 0))), (some (27, true))⟩, ⟨(some 32), .pick (.t 27) (.t 31) (.c (.bool false)), (some (19, false))⟩, ⟨(some 33), .pick (.t 19) (.c (.bool true)) (.t 32), none⟩, ⟨(some 16), .mov (.t 33), none⟩])
(.cond (.t 16) (.seq (.reg [⟨(some 2), .mov (.c (.int .u64 (.ofNat 0))), none⟩, ⟨(some 3), .mov (.c (.int .i64 (.ofNat 0))), none⟩, ⟨(some 4), .mov (.c (.int .i64 (.ofNat 40))), none⟩])
.ret) (.seq (.reg [⟨(some 35), .mov (.t 0), none⟩, ⟨(some 36), .len false (.t 35), none⟩, ⟨(some 37), .mov (.t 5), none⟩, ⟨(some 38), .bin .add (.t 37) (.c (.int .i64 (.ofNat 1))), none⟩, ⟨(some 39), .bin .lss (.t 36) (.t 38), none⟩, ⟨(some 34), .mov (.t 39), none⟩])
(.cond (.t 34) (.seq (.reg [⟨(some 2), .mov (.c (.int .u64 (.ofNat 0))), none⟩, ⟨(some 3), .mov (.c (.int .i64 (.ofNat 0))), none⟩, ⟨(some 4), .mov (.c (.int .i64 (.ofNat 30))), none⟩])
.ret) .skip)))))
(.seq (.reg [⟨(some 6), .mov (.c (.int .u64 (.ofNat 0))), none⟩])
(.seq (.seq (.reg [⟨(some 40), .mov (.t 0), none⟩, ⟨(some 41), .mov (.t 5), none⟩, ⟨(some 42), .bin .add (.t 41) (.c (.int .i64 (.ofNat 1))), none⟩, ⟨(some 43), .slS 1 (.t 40) (some (.c (.int .i64 (.ofNat 1)))) (some (.t 42)) none, none⟩, ⟨(some 44), .len false (.t 43), none⟩, ⟨(some 45), .mov (.c (.int .i64 (.ofNat 0))), none⟩])
(.block 1 (.loop (.seq (.reg [⟨(some 46), .bin .lss (.t 45) (.t 44), none⟩])
(.seq (.cond (.t 46) .skip (.exit 1))
(.seq (.block 2 (.seq (.reg [⟨(some 47), .idxS 1 (.t 43) (.t 45), none⟩, ⟨(some 48), .load false 1 (.t 47), none⟩, ⟨(some 8), .mov (.t 48), none⟩])
(.reg [⟨(some 49), .mov (.t 6), none⟩, ⟨(some 50), .bin .shl (.t 49) (.c (.int .u64 (.ofNat 8))), none⟩, ⟨(some 51), .mov (.t 8), none⟩, ⟨(some 52), .cvInt .u64 (.t 51), none⟩, ⟨(some 53), .bin .or (.t 50) (.t 52), none⟩, ⟨(some 6), .mov (.t 53), none⟩])))
(.reg [⟨(some 54), .bin .add (.t 45) (.c (.int .i64 (.ofNat 1))), none⟩, ⟨(some 45), .mov (.t 54), none⟩])))))))
(.seq (.reg [⟨(some 55), .mov (.t 6), none⟩, ⟨(some 56), .mov (.t 5), none⟩, ⟨(some 57), .bin .add (.t 56) (.c (.int .i64 (.ofNat 1))), none⟩, ⟨(some 2), .mov (.t 55), none⟩, ⟨(some 3), .mov (.t 57), none⟩, ⟨(some 4), .mov (.c (.int .i64 (.ofNat 0))), none⟩])
.ret)))))))⟩
theorem c226_eq : compFn Tryz.prog 226 = some c226 := by kernel_rfl
noncomputable def c229 : FnI := ⟨49, [.cell 4 true 17],
(.seq (.reg [⟨(some 4), .alloc [(.int .i64 (.ofNat 0)), (.int .i64 (.ofNat 0)), (.int .i64 (.ofNat 0)), (.int .i64 (.ofNat 0)), (.str []), (.str []), (.str []), (.str []), (.str []), (.str []), (.str []), (.str []), .nilsl, (.bool false), (.int .u64 (.ofNat 0)), (.int .u64 (.ofNat 0)), .nilsl], none⟩])
(.seq (.reg [⟨(some 9), .mov (.t 0), none⟩, ⟨(some 10), .call 110 [(.t 9), (.c (.int .u64 (.ofNat 255)))], none⟩, ⟨(some 11), .cvInt .i64 (.t 10), none⟩, ⟨(some 12), .build [(.int .i64 (.ofNat 0)), (.int .i64 (.ofNat 0)), (.int .i64 (.ofNat 0)), (.int .i64 (.ofNat 0)), (.str []), (.str []), (.str []), (.str []), (.str []), (.str []), (.str []), (.str []), .nilsl, (.bool false), (.int .u64 (.ofNat 0)), (.int .u64 (.ofNat 0)), .nilsl] [(0, 1, (.t 11))], none⟩, ⟨(some 5), .alloc [(.int .i64 (.ofNat 0)), (.int .i64 (.ofNat 0)), (.int .i64 (.ofNat 0)), (.int .i64 (.ofNat 0)), (.str []), (.str []), (.str []), (.str []), (.str []), (.str []), (.str []), (.str []), .nilsl, (.bool false), (.int .u64 (.ofNat 0)), (.int .u64 (.ofNat 0)), .nilsl], none⟩, ⟨none, .store 17 (.t 5) (.t 12), none⟩])
(.seq (.reg [⟨(some 13), .faddr 0 (.t 5), none⟩, ⟨(some 14), .load false 1 (.t 13), none⟩, ⟨(some 15), .call 63 [(.t 14)], none⟩, ⟨(some 6), .mov (.t 15), none⟩])
(.seq (.seq (.reg [⟨(some 16), .mov (.t 0), none⟩, ⟨(some 17), .call 111 [(.t 16)], none⟩, ⟨(some 18), .bin .eql (.t 17) (.c (.int .i64 (.ofNat 0))), none⟩, ⟨(some 19), .mov (.t 18), none⟩, ⟨(some 20), .mov (.t 6), (some (19, true))⟩, ⟨(some 21), .bin .eql (.t 20) (.c (.int .i64 (.ofNat 0))), (some (19, true))⟩, ⟨(some 22), .mov (.t 21), (some (19, true))⟩, ⟨(some 23), .mov (.t 1), (some (22, false))⟩, ⟨(some 24), .mov (.t 23), (some (22, false))⟩, ⟨(some 25), .faddr 0 (.t 5), (some (24, true))⟩, ⟨(some 26), .load false 1 (.t 25), (some (24, true))⟩, ⟨(some 27), .bin .eql (.t 26) (.c (.int .i64 (.ofNat 18))), (some (24, true))⟩, ⟨(some 28), .pick (.t 24) (.t 27) (.c (.bool false)), (some (22, false))⟩, ⟨(some 29), .pick (.t 22) (.c (.bool true)) (.t 28), (some (19, true))⟩, ⟨(some 30), .pick (.t 19) (.t 29) (.c (.bool false)), none⟩])
(.cond (.t 30) (.reg [⟨(some 31), .build [] [], none⟩, ⟨(some 32), .mkif 325 (.t 31), none⟩, ⟨none, .fail, none⟩]) .skip))
(.seq (.seq (.reg [⟨(some 33), .call 64 [(.t 5)], none⟩, ⟨(some 34), .mov (.c (.int .i64 (.ofNat 0))), none⟩])
(.block 0 (.loop (.seq (.reg [⟨(some 35), .bin .lss (.t 34) (.c (.int .i64 (.ofNat 16))), none⟩])
(.seq (.cond (.t 35) .skip (.exit 0))
(.seq (.block 1 (.seq (.reg [⟨(some 36), .mov (.t 34), none⟩, ⟨(some 37), .idxV 16 4 true (.t 33) (.t 34), none⟩, ⟨(some 8), .alloc [.nilfn, .nilfn, .nilfn, .nilfn], none⟩, ⟨(some 7), .mov (.t 36), none⟩, ⟨none, .store 4 (.t 8) (.t 37), none⟩])
(.seq (.reg [⟨(some 38), .mov (.t 6), none⟩, ⟨(some 39), .mov (.t 7), none⟩, ⟨(some 40), .bin .shr (.t 38) (.t 39), none⟩, ⟨(some 41), .bin .and (.t 40) (.c (.int .i64 (.ofNat 1))), none⟩, ⟨(some 42), .bin .eql (.t 41) (.c (.int .i64 (.ofNat 1))), none⟩])
(.cond (.t 42) (.reg [⟨(some 43), .faddr 1 (.t 8), none⟩, ⟨(some 44), .load false 1 (.t 43), none⟩, ⟨(some 45), .mov (.t 0), none⟩, ⟨(some 46), .callv (.t 44) [(.t 45)], none⟩]) .skip))))
(.reg [⟨(some 47), .bin .add (.t 34) (.c (.int .i64 (.ofNat 1))), none⟩, ⟨(some 34), .mov (.t 47), none⟩])))))))
(.seq (.reg [⟨(some 48), .load true 17 (.t 5), none⟩, ⟨none, .store 17 (.t 4) (.t 48), none⟩])
.ret))))))⟩
theorem c229_eq : compFn Tryz.prog 229 = some c229 := by kernel_rfl
noncomputable def c230 : FnI := ⟨12, [.tmp 2],
(.seq (.reg [⟨(some 2), .mov (.c (.bool false)), none⟩])
(.seq (.reg [⟨(some 3), .mov (.t 0), none⟩, ⟨(some 4), .eq false .ptr (.t 3) (.c .nilp), none⟩, ⟨(some 5), .mov (.t 4), none⟩, ⟨(some 6), .mov (.t 0), (some (5, false))⟩, ⟨(some 7), .nilchk (.t 6), (some (5, false))⟩, ⟨(some 8), .faddr 0 (.t 7), (some (5, false))⟩, ⟨(some 9), .load false 1 (.t 8), (some (5, false))⟩, ⟨(some 10), .bin .eql (.t 9) (.c (.int .i64 (.ofNat 0))), (some (5, false))⟩, ⟨(some 11), .pick (.t 5) (.c (.bool true)) (.t 10), none⟩, ⟨(some 2), .mov (.t 11), none⟩])
.ret))⟩
theorem c230_eq : compFn Tryz.prog 230 = some c230 := by kernel_rfl
noncomputable def c231 : FnI := ⟨11, [.tmp 2],
(.seq (.reg [⟨(some 2), .mov (.c .nilsl), none⟩])
(.seq (.seq (.reg [⟨(some 3), .mov (.t 0), none⟩, ⟨(some 4), .call 230 [(.t 3)], none⟩])
(.cond (.t 4) (.seq (.reg [⟨(some 2), .mov (.c .nilsl), none⟩])
.ret) .skip))
(.seq (.reg [⟨(some 5), .buildSl 9 0 [] [], none⟩, ⟨(some 6), .mov (.t 0), none⟩, ⟨(some 7), .nilchk (.t 6), none⟩, ⟨(some 8), .faddr 1 (.t 7), none⟩, ⟨(some 9), .load false 1 (.t 8), none⟩, ⟨(some 10), .append 9 96 (.t 5) (.t 9), none⟩, ⟨(some 2), .mov (.t 10), none⟩])
.ret)))⟩
theorem c231_eq : compFn Tryz.prog 231 = some c231 := by kernel_rfl
noncomputable def c232 : FnI := ⟨12, [.tmp 2],
(.seq (.reg [⟨(some 2), .mov (.c (.bool false)), none⟩])
(.seq (.reg [⟨(some 3), .mov (.t 0), none⟩, ⟨(some 4), .eq false .ptr (.t 3) (.c .nilp), none⟩, ⟨(some 5), .mov (.t 4), none⟩, ⟨(some 6), .mov (.t 0), (some (5, false))⟩, ⟨(some 7), .nilchk (.t 6), (some (5, false))⟩, ⟨(some 8), .faddr 0 (.t 7), (some (5, false))⟩, ⟨(some 9), .load false 1 (.t 8), (some (5, false))⟩, ⟨(some 10), .bin .eql (.t 9) (.c (.int .i64 (.ofNat 0))), (some (5, false))⟩, ⟨(some 11), .pick (.t 5) (.c (.bool true)) (.t 10), none⟩, ⟨(some 2), .mov (.t 11), none⟩])
.ret))⟩
theorem c232_eq : compFn Tryz.prog 232 = some c232 := by kernel_rfl
noncomputable def c233 : FnI := ⟨11, [.tmp 2],
(.seq (.reg [⟨(some 2), .mov (.c .nilsl), none⟩])
(.seq (.seq (.reg [⟨(some 3), .mov (.t 0), none⟩, ⟨(some 4), .call 232 [(.t 3)], none⟩])
(.cond (.t 4) (.seq (.reg [⟨(some 2), .mov (.c .nilsl), none⟩])
.ret) .skip))
(.seq (.reg [⟨(some 5), .buildSl 8 0 [] [], none⟩, ⟨(some 6), .mov (.t 0), none⟩, ⟨(some 7), .nilchk (.t 6), none⟩, ⟨(some 8), .faddr 1 (.t 7), none⟩, ⟨(some 9), .load false 1 (.t 8), none⟩, ⟨(some 10), .append 8 88 (.t 5) (.t 9), none⟩, ⟨(some 2), .mov (.t 10), none⟩])
.ret)))⟩
theorem c233_eq : compFn Tryz.prog 233 = some c233 := by kernel_rfl
noncomputable def c234 : FnI := ⟨12, [.tmp 2],
(.seq (.reg [⟨(some 2), .mov (.c (.bool false)), none⟩])
(.seq (.reg [⟨(some 3), .mov (.t 0), none⟩, ⟨(some 4), .eq false .ptr (.t 3) (.c .nilp), none⟩, ⟨(some 5), .mov (.t 4), none⟩, ⟨(some 6), .mov (.t 0), (some (5, false))⟩, ⟨(some 7), .nilchk (.t 6), (some (5, false))⟩, ⟨(some 8), .faddr 0 (.t 7), (some (5, false))⟩, ⟨(some 9), .load false 1 (.t 8), (some (5, false))⟩, ⟨(some 10), .bin .eql (.t 9) (.c (.int .i64 (.ofNat 0))), (some (5, false))⟩, ⟨(some 11), .pick (.t 5) (.c (.bool true)) (.t 10), none⟩, ⟨(some 2), .mov (.t 11), none⟩])
.ret))⟩
theorem c234_eq : compFn Tryz.prog 234 = some c234 := by kernel_rfl
noncomputable def c235 : FnI := ⟨11, [.tmp 2],
(.seq (.reg [⟨(some 2), .mov (.c .nilsl), none⟩])
(.seq (.seq (.reg [⟨(some 3), .mov (.t 0), none⟩, ⟨(some 4), .call 234 [(.t 3)], none⟩])
(.cond (.t 4) (.seq (.reg [⟨(some 2), .mov (.c .nilsl), none⟩])
.ret) .skip))
(.seq (.reg [⟨(some 5), .buildSl 7 0 [] [], none⟩, ⟨(some 6), .mov (.t 0), none⟩, ⟨(some 7), .nilchk (.t 6), none⟩, ⟨(some 8), .faddr 1 (.t 7), none⟩, ⟨(some 9), .load false 1 (.t 8), none⟩, ⟨(some 10), .append 7 72 (.t 5) (.t 9), none⟩, ⟨(some 2), .mov (.t 10), none⟩])
.ret)))⟩
theorem c235_eq : compFn Tryz.prog 235 = some c235 := by kernel_rfl
noncomputable def c236 : FnI := ⟨12, [.tmp 2],
(.seq (.reg [⟨(some 2), .mov (.c (.bool false)), none⟩])
(.seq (.reg [⟨(some 3), .mov (.t 0), none⟩, ⟨(some 4), .eq false .ptr (.t 3) (.c .nilp), none⟩, ⟨(some 5), .mov (.t 4), none⟩, ⟨(some 6), .mov (.t 0), (some (5, false))⟩, ⟨(some 7), .nilchk (.t 6), (some (5, false))⟩, ⟨(some 8), .faddr 0 (.t 7), (some (5, false))⟩, ⟨(some 9), .load false 1 (.t 8), (some (5, false))⟩, ⟨(some 10), .bin .eql (.t 9) (.c (.int .i64 (.ofNat 0))), (some (5, false))⟩, ⟨(some 11), .pick (.t 5) (.c (.bool true)) (.t 10), none⟩, ⟨(some 2), .mov (.t 11), none⟩])
.ret))⟩
theorem c236_eq : compFn Tryz.prog 236 = some c236 := by kernel_rfl
noncomputable def c237 : FnI := ⟨11, [.tmp 2],
(.seq (.reg [⟨(some 2), .mov (.c .nilsl), none⟩])
(.seq (.seq (.reg [⟨(some 3), .mov (.t 0), none⟩, ⟨(some 4), .call 236 [(.t 3)], none⟩])
(.cond (.t 4) (.seq (.reg [⟨(some 2), .mov (.c .nilsl), none⟩])
.ret) .skip))
(.seq (.reg [⟨(some 5), .buildSl 10 0 [] [], none⟩, ⟨(some 6), .mov (.t 0), none⟩, ⟨(some 7), .nilchk (.t 6), none⟩, ⟨(some 8), .faddr 1 (.t 7), none⟩, ⟨(some 9), .load false 1 (.t 8), none⟩, ⟨(some 10), .append 10 120 (.t 5) (.t 9), none⟩, ⟨(some 2), .mov (.t 10), none⟩])
.ret)))⟩
theorem c237_eq : compFn Tryz.prog 237 = some c237 := by kernel_rfl
noncomputable def c238 : FnI := ⟨12, [.tmp 2],
(.seq (.reg [⟨(some 2), .mov (.c (.bool false)), none⟩])
(.seq (.reg [⟨(some 3), .mov (.t 0), none⟩, ⟨(some 4), .eq false .ptr (.t 3) (.c .nilp), none⟩, ⟨(some 5), .mov (.t 4), none⟩, ⟨(some 6), .mov (.t 0), (some (5, false))⟩, ⟨(some 7), .nilchk (.t 6), (some (5, false))⟩, ⟨(some 8), .faddr 0 (.t 7), (some (5, false))⟩, ⟨(some 9), .load false 1 (.t 8), (some (5, false))⟩, ⟨(some 10), .bin .eql (.t 9) (.c (.int .i64 (.ofNat 0))), (some (5, false))⟩, ⟨(some 11), .pick (.t 5) (.c (.bool true)) (.t 10), none⟩, ⟨(some 2), .mov (.t 11), none⟩])
.ret))⟩
theorem c238_eq : compFn Tryz.prog 238 = some c238 := by kernel_rfl
noncomputable def c239 : FnI := ⟨11, [.tmp 2],
(.seq (.reg [⟨(some 2), .mov (.c .nilsl), none⟩])
(.seq (.seq (.reg [⟨(some 3), .mov (.t 0), none⟩, ⟨(some 4), .call 238 [(.t 3)], none⟩])
(.cond (.t 4) (.seq (.reg [⟨(some 2), .mov (.c .nilsl), none⟩])
.ret) .skip))
(.seq (.reg [⟨(some 5), .buildSl 10 0 [] [], none⟩, ⟨(some 6), .mov (.t 0), none⟩, ⟨(some 7), .nilchk (.t 6), none⟩, ⟨(some 8), .faddr 1 (.t 7), none⟩, ⟨(some 9), .load false 1 (.t 8), none⟩, ⟨(some 10), .append 10 112 (.t 5) (.t 9), none⟩, ⟨(some 2), .mov (.t 10), none⟩])
.ret)))⟩
theorem c239_eq : compFn Tryz.prog 239 = some c239 := by kernel_rfl
noncomputable def c240 : FnI := ⟨12, [.tmp 2],
(.seq (.reg [⟨(some 2), .mov (.c (.bool false)), none⟩])
(.seq (.reg [⟨(some 3), .mov (.t 0), none⟩, ⟨(some 4), .eq false .ptr (.t 3) (.c .nilp), none⟩, ⟨(some 5), .mov (.t 4), none⟩, ⟨(some 6), .mov (.t 0), (some (5, false))⟩, ⟨(some 7), .nilchk (.t 6), (some (5, false))⟩, ⟨(some 8), .faddr 0 (.t 7), (some (5, false))⟩, ⟨(some 9), .load false 1 (.t 8), (some (5, false))⟩, ⟨(some 10), .bin .eql (.t 9) (.c (.int .i64 (.ofNat 0))), (some (5, false))⟩, ⟨(some 11), .pick (.t 5) (.c (.bool true)) (.t 10), none⟩, ⟨(some 2), .mov (.t 11), none⟩])
.ret))⟩
theorem c240_eq : compFn Tryz.prog 240 = some c240 := by kernel_rfl
noncomputable def c241 : FnI := ⟨11, [.tmp 2],
(.seq (.reg [⟨(some 2), .mov (.c .nilsl), none⟩])
(.seq (.seq (.reg [⟨(some 3), .mov (.t 0), none⟩, ⟨(some 4), .call 240 [(.t 3)], none⟩])
(.cond (.t 4) (.seq (.reg [⟨(some 2), .mov (.c .nilsl), none⟩])
.ret) .skip))
(.seq (.reg [⟨(some 5), .buildSl 7 0 [] [], none⟩, ⟨(some 6), .mov (.t 0), none⟩, ⟨(some 7), .nilchk (.t 6), none⟩, ⟨(some 8), .faddr 1 (.t 7), none⟩, ⟨(some 9), .load false 1 (.t 8), none⟩, ⟨(some 10), .append 7 64 (.t 5) (.t 9), none⟩, ⟨(some 2), .mov (.t 10), none⟩])
.ret)))⟩
theorem c241_eq : compFn Tryz.prog 241 = some c241 := by kernel_rfl
noncomputable def c242 : FnI := ⟨10, [.tmp 3],
(.seq (.reg [⟨(some 3), .mov (.c .nilsl), none⟩])
(.seq (.reg [⟨(some 4), .mov (.t 0), none⟩, ⟨(some 5), .load false 1 (.t 1), none⟩, ⟨(some 6), .nilchk (.t 5), none⟩, ⟨(some 7), .load false 1 (.t 6), none⟩, ⟨(some 8), .cvInt .u64 (.t 7), none⟩, ⟨(some 9), .call 40 [(.t 4), (.t 8)], none⟩, ⟨(some 3), .mov (.t 9), none⟩])
.ret))⟩
theorem c242_eq : compFn Tryz.prog 242 = some c242 := by kernel_rfl
noncomputable def c243 : FnI := ⟨8, [],
(.dreg [⟨⟨(some 4), .mov (.t 0), none⟩, .quiet, 1, 0⟩, ⟨⟨(some 5), .call 110 [(.t 4), (.c (.int .u64 (.ofNat 65535)))], none⟩, .loud, 2, 2⟩, ⟨⟨(some 3), .load false 1 (.t 1), none⟩, .load, 0, 0⟩, ⟨⟨(some 6), .cvInt .i64 (.t 5), none⟩, .quiet, 3, 6⟩, ⟨⟨(some 7), .nilchk (.t 3), none⟩, .quiet, 4, 15⟩, ⟨⟨none, .store 1 (.t 7) (.t 6), none⟩, .loud, 5, 31⟩])⟩
theorem c243_eq : compFn Tryz.prog 243 = some c243 := by kernel_rfl
noncomputable def c244 : FnI := ⟨6, [.tmp 1],
(.seq (.reg [⟨(some 1), .mov (.c (.bool false)), none⟩])
(.seq (.reg [⟨(some 2), .load false 1 (.t 0), none⟩, ⟨(some 3), .nilchk (.t 2), none⟩, ⟨(some 4), .load false 1 (.t 3), none⟩, ⟨(some 5), .bin .neq (.t 4) (.c (.int .i64 (.ofNat 0))), none⟩, ⟨(some 1), .mov (.t 5), none⟩])
.ret))⟩
theorem c244_eq : compFn Tryz.prog 244 = some c244 := by kernel_rfl
noncomputable def c245 : FnI := ⟨12, [.tmp 1],
(.seq (.reg [⟨(some 1), .mov (.c (.bool false)), none⟩])
(.seq (.reg [⟨(some 2), .load false 1 (.t 0), none⟩, ⟨(some 3), .nilchk (.t 2), none⟩, ⟨(some 4), .load false 1 (.t 3), none⟩, ⟨(some 5), .bin .geq (.t 4) (.c (.int .i64 (.ofNat 0))), none⟩, ⟨(some 6), .mov (.t 5), none⟩, ⟨(some 7), .load false 1 (.t 0), (some (6, true))⟩, ⟨(some 8), .nilchk (.t 7), (some (6, true))⟩, ⟨(some 9), .load false 1 (.t 8), (some (6, true))⟩, ⟨(some 10), .bin .leq (.t 9) (.c (.int .i64 (.ofNat 65535))), (some (6, true))⟩, ⟨(some 11), .pick (.t 6) (.t 10) (.c (.bool false)), none⟩, ⟨(some 1), .mov (.t 11), none⟩])
.ret))⟩
theorem c245_eq : compFn Tryz.prog 245 = some c245 := by kernel_rfl
noncomputable def c246 : FnI := ⟨9, [.tmp 3],
(.seq (.reg [⟨(some 3), .mov (.c .nilsl), none⟩])
(.seq (.reg [⟨(some 4), .mov (.t 0), none⟩, ⟨(some 5), .load false 1 (.t 1), none⟩, ⟨(some 6), .nilchk (.t 5), none⟩, ⟨(some 7), .load false 1 (.t 6), none⟩, ⟨(some 8), .call 247 [(.t 4), (.t 7)], none⟩, ⟨(some 3), .mov (.t 8), none⟩])
.ret))⟩
theorem c246_eq : compFn Tryz.prog 246 = some c246 := by kernel_rfl
noncomputable def c247 : FnI := ⟨12, [.tmp 4],
(.seq (.reg [⟨(some 4), .mov (.c .nilsl), none⟩])
(.seq (.reg [⟨(some 5), .mov (.t 0), none⟩, ⟨(some 6), .mov (.t 1), none⟩, ⟨(some 7), .len true (.t 6), none⟩, ⟨(some 8), .cvInt .u64 (.t 7), none⟩, ⟨(some 9), .call 40 [(.t 5), (.t 8)], none⟩, ⟨(some 10), .mov (.t 1), none⟩, ⟨(some 11), .append 1 1 (.t 9) (.t 10), none⟩, ⟨(some 4), .mov (.t 11), none⟩])
.ret))⟩
theorem c247_eq : compFn Tryz.prog 247 = some c247 := by kernel_rfl
noncomputable def c248 : FnI := ⟨7, [],
(.dreg [⟨⟨(some 4), .mov (.t 0), none⟩, .quiet, 1, 0⟩, ⟨⟨(some 5), .call 249 [(.t 4), (.c (.int .i64 (.ofNat 80)))], none⟩, .loud, 2, 2⟩, ⟨⟨(some 3), .load false 1 (.t 1), none⟩, .load, 0, 0⟩, ⟨⟨(some 6), .nilchk (.t 3), none⟩, .quiet, 3, 7⟩, ⟨⟨none, .store 1 (.t 6) (.t 5), none⟩, .loud, 4, 15⟩])⟩
theorem c248_eq : compFn Tryz.prog 248 = some c248 := by kernel_rfl
noncomputable def c249 : FnI := ⟨70, [.tmp 4],
(.seq (.reg [⟨(some 4), .mov (.c (.str [])), none⟩])
(.seq (.seq (.reg [⟨(some 9), .mov (.t 0), none⟩, ⟨(some 10), .call 225 [(.t 9)], none⟩, ⟨(some 11), .un .not (.t 10), none⟩])
(.cond (.t 11) (.seq (.reg [⟨(some 4), .mov (.c (.str [])), none⟩])
.ret) .skip))
(.seq (.reg [⟨(some 13), .mov (.t 0), none⟩, ⟨(some 14), .nilchk (.t 13), none⟩, ⟨(some 15), .faddr 1 (.t 14), none⟩, ⟨(some 16), .load false 1 (.t 15), none⟩, ⟨(some 17), .call 226 [(.t 16)], none⟩, ⟨(some 12), .mov (.t 17), none⟩, ⟨(some 18), .extract (.t 12) 0, none⟩, ⟨(some 19), .extract (.t 12) 1, none⟩, ⟨(some 20), .extract (.t 12) 2, none⟩, ⟨(some 5), .mov (.t 18), none⟩, ⟨(some 6), .mov (.t 19), none⟩, ⟨(some 7), .mov (.t 20), none⟩])
(.seq (.block 0 (.seq (.reg [⟨(some 22), .mov (.t 7), none⟩, ⟨(some 23), .bin .neq (.t 22) (.c (.int .i64 (.ofNat 0))), none⟩, ⟨(some 21), .mov (.t 23), none⟩])
(.cond (.t 21) .skip (.seq (.reg [⟨(some 25), .mov (.t 5), none⟩, ⟨(some 26), .mov (.t 1), none⟩, ⟨(some 27), .mm true (.t 26) [(.c (.int .i64 (.ofNat 0)))], none⟩, ⟨(some 28), .cvInt .u64 (.t 27), none⟩, ⟨(some 29), .bin .gtr (.t 25) (.t 28), none⟩, ⟨(some 24), .mov (.t 29), none⟩])
(.cond (.t 24) (.reg [⟨(some 7), .mov (.c (.int .i64 (.ofNat 3))), none⟩]) (.seq (.reg [⟨(some 31), .mov (.t 5), none⟩, ⟨(some 32), .mov (.t 0), none⟩, ⟨(some 33), .nilchk (.t 32), none⟩, ⟨(some 34), .faddr 1 (.t 33), none⟩, ⟨(some 35), .load false 1 (.t 34), none⟩, ⟨(some 36), .len false (.t 35), none⟩, ⟨(some 37), .mov (.t 6), none⟩, ⟨(some 38), .bin .sub (.t 36) (.t 37), none⟩, ⟨(some 39), .cvInt .u64 (.t 38), none⟩, ⟨(some 40), .bin .gtr (.t 31) (.t 39), none⟩, ⟨(some 30), .mov (.t 40), none⟩])
(.cond (.t 30) (.reg [⟨(some 7), .mov (.c (.int .i64 (.ofNat 30))), none⟩]) .skip)))))))
(.seq (.seq (.reg [⟨(some 41), .mov (.t 7), none⟩, ⟨(some 42), .bin .neq (.t 41) (.c (.int .i64 (.ofNat 0))), none⟩])
(.cond (.t 42) (.seq (.reg [⟨(some 43), .mov (.t 0), none⟩, ⟨(some 44), .mov (.t 7), none⟩, ⟨(some 45), .call 227 [(.t 43), (.t 44)], none⟩])
(.seq (.reg [⟨(some 4), .mov (.c (.str [])), none⟩])
.ret)) .skip))
(.seq (.reg [⟨(some 46), .mov (.t 0), none⟩, ⟨(some 47), .nilchk (.t 46), none⟩, ⟨(some 48), .faddr 1 (.t 47), none⟩, ⟨(some 49), .load false 1 (.t 48), none⟩, ⟨(some 50), .mov (.t 6), none⟩, ⟨(some 51), .mov (.t 6), none⟩, ⟨(some 52), .mov (.t 5), none⟩, ⟨(some 53), .cvInt .i64 (.t 52), none⟩, ⟨(some 54), .bin .add (.t 51) (.t 53), none⟩, ⟨(some 55), .slS 1 (.t 49) (some (.t 50)) (some (.t 54)) none, none⟩, ⟨(some 56), .cvStr (.t 55), none⟩, ⟨(some 8), .mov (.t 56), none⟩])
(.seq (.reg [⟨(some 57), .mov (.t 0), none⟩, ⟨(some 58), .mov (.t 0), none⟩, ⟨(some 59), .nilchk (.t 58), none⟩, ⟨(some 60), .faddr 1 (.t 59), none⟩, ⟨(some 61), .load false 1 (.t 60), none⟩, ⟨(some 62), .mov (.t 6), none⟩, ⟨(some 63), .mov (.t 5), none⟩, ⟨(some 64), .cvInt .i64 (.t 63), none⟩, ⟨(some 65), .bin .add (.t 62) (.t 64), none⟩, ⟨(some 66), .slS 1 (.t 61) (some (.t 65)) none none, none⟩, ⟨(some 67), .nilchk (.t 57), none⟩, ⟨(some 68), .faddr 1 (.t 67), none⟩, ⟨none, .store 1 (.t 68) (.t 66), none⟩])
(.seq (.reg [⟨(some 69), .mov (.t 8), none⟩, ⟨(some 4), .mov (.t 69), none⟩])
.ret))))))))⟩
theorem c249_eq : compFn Tryz.prog 249 = some c249 := by kernel_rfl
noncomputable def c250 : FnI := ⟨6, [.tmp 1],
(.seq (.reg [⟨(some 1), .mov (.c (.bool false)), none⟩])
(.seq (.reg [⟨(some 2), .load false 1 (.t 0), none⟩, ⟨(some 3), .nilchk (.t 2), none⟩, ⟨(some 4), .load false 1 (.t 3), none⟩, ⟨(some 5), .bin .neq (.t 4) (.c (.str [])), none⟩, ⟨(some 1), .mov (.t 5), none⟩])
.ret))⟩
theorem c250_eq : compFn Tryz.prog 250 = some c250 := by kernel_rfl
noncomputable def c251 : FnI := ⟨7, [.tmp 1],
(.seq (.reg [⟨(some 1), .mov (.c (.bool false)), none⟩])
(.seq (.reg [⟨(some 2), .load false 1 (.t 0), none⟩, ⟨(some 3), .nilchk (.t 2), none⟩, ⟨(some 4), .load false 1 (.t 3), none⟩, ⟨(some 5), .len true (.t 4), none⟩, ⟨(some 6), .bin .leq (.t 5) (.c (.int .i64 (.ofNat 80))), none⟩, ⟨(some 1), .mov (.t 6), none⟩])
.ret))⟩
theorem c251_eq : compFn Tryz.prog 251 = some c251 := by kernel_rfl
noncomputable def c255 : FnI := ⟨7, [.tmp 1],
(.seq (.reg [⟨(some 1), .mov (.c (.bool false)), none⟩])
(.seq (.reg [⟨(some 2), .load false 1 (.t 0), none⟩, ⟨(some 3), .nilchk (.t 2), none⟩, ⟨(some 4), .load false 1 (.t 3), none⟩, ⟨(some 5), .len false (.t 4), none⟩, ⟨(some 6), .bin .gtr (.t 5) (.c (.int .i64 (.ofNat 0))), none⟩, ⟨(some 1), .mov (.t 6), none⟩])
.ret))⟩
theorem c255_eq : compFn Tryz.prog 255 = some c255 := by kernel_rfl
noncomputable def c256 : FnI := ⟨21, [.tmp 1],
(.seq (.reg [⟨(some 1), .mov (.c (.bool false)), none⟩])
(.seq (.seq (.reg [⟨(some 4), .load false 1 (.t 0), none⟩, ⟨(some 5), .nilchk (.t 4), none⟩, ⟨(some 6), .load false 1 (.t 5), none⟩, ⟨(some 7), .len false (.t 6), none⟩, ⟨(some 8), .mov (.c (.int .i64 (.ofNat 0))), none⟩])
(.block 0 (.loop (.seq (.reg [⟨(some 9), .bin .lss (.t 8) (.t 7), none⟩])
(.seq (.cond (.t 9) .skip (.exit 0))
(.seq (.block 1 (.seq (.reg [⟨(some 10), .idxS 1 (.t 6) (.t 8), none⟩, ⟨(some 11), .load false 1 (.t 10), none⟩, ⟨(some 3), .mov (.t 11), none⟩])
(.seq (.reg [⟨(some 12), .mov (.t 3), none⟩, ⟨(some 13), .len true (.t 12), none⟩, ⟨(some 14), .bin .gtr (.t 13) (.c (.int .i64 (.ofNat 80))), none⟩])
(.cond (.t 14) (.seq (.reg [⟨(some 1), .mov (.c (.bool false)), none⟩])
.ret) .skip))))
(.reg [⟨(some 15), .bin .add (.t 8) (.c (.int .i64 (.ofNat 1))), none⟩, ⟨(some 8), .mov (.t 15), none⟩])))))))
(.seq (.reg [⟨(some 16), .load false 1 (.t 0), none⟩, ⟨(some 17), .nilchk (.t 16), none⟩, ⟨(some 18), .load false 1 (.t 17), none⟩, ⟨(some 19), .len false (.t 18), none⟩, ⟨(some 20), .bin .leq (.t 19) (.c (.int .i64 (.ofNat 8))), none⟩, ⟨(some 1), .mov (.t 20), none⟩])
.ret)))⟩
theorem c256_eq : compFn Tryz.prog 256 = some c256 := by kernel_rfl
noncomputable def c260 : FnI := ⟨5, [.tmp 1],
(.seq (.reg [⟨(some 1), .mov (.c (.bool false)), none⟩])
(.seq (.reg [⟨(some 2), .load false 1 (.t 0), none⟩, ⟨(some 3), .nilchk (.t 2), none⟩, ⟨(some 4), .load false 1 (.t 3), none⟩, ⟨(some 1), .mov (.t 4), none⟩])
.ret))⟩
theorem c260_eq : compFn Tryz.prog 260 = some c260 := by kernel_rfl
noncomputable def c261 : FnI := ⟨1, [.tmp 0],
(.seq (.reg [⟨(some 0), .mov (.c (.bool false)), none⟩])
(.seq (.reg [⟨(some 0), .mov (.c (.bool true)), none⟩])
.ret))⟩
theorem c261_eq : compFn Tryz.prog 261 = some c261 := by kernel_rfl
noncomputable def c264 : FnI := ⟨6, [.tmp 1],
(.seq (.reg [⟨(some 1), .mov (.c (.bool false)), none⟩])
(.seq (.reg [⟨(some 2), .load false 1 (.t 0), none⟩, ⟨(some 3), .nilchk (.t 2), none⟩, ⟨(some 4), .load false 1 (.t 3), none⟩, ⟨(some 5), .bin .neq (.t 4) (.c (.int .u64 (.ofNat 0))), none⟩, ⟨(some 1), .mov (.t 5), none⟩])
.ret))⟩
theorem c264_eq : compFn Tryz.prog 264 = some c264 := by kernel_rfl
noncomputable def c265 : FnI := ⟨1, [.tmp 0],
(.seq (.reg [⟨(some 0), .mov (.c (.bool false)), none⟩])
(.seq (.reg [⟨(some 0), .mov (.c (.bool true)), none⟩])
.ret))⟩
theorem c265_eq : compFn Tryz.prog 265 = some c265 := by kernel_rfl
noncomputable def c268 : FnI := ⟨7, [.tmp 1],
(.seq (.reg [⟨(some 1), .mov (.c (.bool false)), none⟩])
(.seq (.reg [⟨(some 2), .load false 1 (.t 0), none⟩, ⟨(some 3), .nilchk (.t 2), none⟩, ⟨(some 4), .load false 1 (.t 3), none⟩, ⟨(some 5), .len false (.t 4), none⟩, ⟨(some 6), .bin .gtr (.t 5) (.c (.int .i64 (.ofNat 0))), none⟩, ⟨(some 1), .mov (.t 6), none⟩])
.ret))⟩
theorem c268_eq : compFn Tryz.prog 268 = some c268 := by kernel_rfl
noncomputable def c269 : FnI := ⟨26, [.tmp 1],
(.seq (.reg [⟨(some 1), .mov (.c (.bool false)), none⟩])
(.seq (.seq (.reg [⟨(some 4), .load false 1 (.t 0), none⟩, ⟨(some 5), .nilchk (.t 4), none⟩, ⟨(some 6), .load false 1 (.t 5), none⟩, ⟨(some 7), .len false (.t 6), none⟩, ⟨(some 8), .mov (.c (.int .i64 (.ofNat 0))), none⟩])
(.block 0 (.loop (.seq (.reg [⟨(some 9), .bin .lss (.t 8) (.t 7), none⟩])
(.seq (.cond (.t 9) .skip (.exit 0))
(.seq (.block 1 (.seq (.reg [⟨(some 10), .idxS 17 (.t 6) (.t 8), none⟩, ⟨(some 11), .load true 17 (.t 10), none⟩, ⟨(some 3), .alloc [(.int .i64 (.ofNat 0)), (.int .i64 (.ofNat 0)), (.int .i64 (.ofNat 0)), (.int .i64 (.ofNat 0)), (.str []), (.str []), (.str []), (.str []), (.str []), (.str []), (.str []), (.str []), .nilsl, (.bool false), (.int .u64 (.ofNat 0)), (.int .u64 (.ofNat 0)), .nilsl], none⟩, ⟨none, .store 17 (.t 3) (.t 11), none⟩])
(.seq (.reg [⟨(some 12), .faddr 0 (.t 3), none⟩, ⟨(some 13), .load false 1 (.t 12), none⟩, ⟨(some 14), .bin .eql (.t 13) (.c (.int .i64 (.ofNat 18))), none⟩, ⟨(some 15), .mov (.t 14), none⟩, ⟨(some 16), .load true 17 (.t 3), (some (15, false))⟩, ⟨(some 17), .call 36 [(.t 16)], (some (15, false))⟩, ⟨(some 18), .un .not (.t 17), (some (15, false))⟩, ⟨(some 19), .pick (.t 15) (.c (.bool true)) (.t 18), none⟩])
(.cond (.t 19) (.seq (.reg [⟨(some 1), .mov (.c (.bool false)), none⟩])
.ret) .skip))))
(.reg [⟨(some 20), .bin .add (.t 8) (.c (.int .i64 (.ofNat 1))), none⟩, ⟨(some 8), .mov (.t 20), none⟩])))))))
(.seq (.reg [⟨(some 21), .load false 1 (.t 0), none⟩, ⟨(some 22), .nilchk (.t 21), none⟩, ⟨(some 23), .load false 1 (.t 22), none⟩, ⟨(some 24), .len false (.t 23), none⟩, ⟨(some 25), .bin .leq (.t 24) (.c (.int .i64 (.ofNat 8))), none⟩, ⟨(some 1), .mov (.t 25), none⟩])
.ret)))⟩
theorem c269_eq : compFn Tryz.prog 269 = some c269 := by kernel_rfl
noncomputable def c287 : FnI := ⟨14, [.tmp 4],
(.seq (.reg [⟨(some 4), .mov (.c (.int .u32 (.ofNat 0))), none⟩])
(.seq (.reg [⟨(some 5), .mov (.c (.fn (.func 348) [] [])), none⟩])
(.seq (.seq (.reg [⟨(some 6), .mov (.t 1), none⟩, ⟨(some 7), .mov (.c (.int .i64 (.ofNat 0))), none⟩])
(.block 0 (.loop (.seq (.reg [⟨(some 8), .bin .lss (.t 7) (.t 6), none⟩])
(.seq (.cond (.t 8) .skip (.exit 0))
(.seq (.block 1 (.reg [⟨(some 9), .mov (.t 5), none⟩, ⟨(some 10), .mov (.t 0), none⟩, ⟨(some 11), .callv (.t 9) [(.t 10)], none⟩, ⟨(some 0), .mov (.t 11), none⟩]))
(.reg [⟨(some 12), .bin .add (.t 7) (.c (.int .i64 (.ofNat 1))), none⟩, ⟨(some 7), .mov (.t 12), none⟩])))))))
(.seq (.reg [⟨(some 13), .mov (.t 0), none⟩, ⟨(some 4), .mov (.t 13), none⟩])
.ret))))⟩
theorem c287_eq : compFn Tryz.prog 287 = some c287 := by kernel_rfl
noncomputable def c318 : FnI := ⟨94, [.cell 8 true 7, .tmp 9],
(.seq (.reg [⟨(some 6), .box (.t 2), none⟩, ⟨(some 8), .alloc [(.str []), (.int .i64 (.ofNat 0)), (.str []), (.int .u64 (.ofNat 0)), (.int .u64 (.ofNat 0)), (.int .u64 (.ofNat 0)), (.int .u64 (.ofNat 0))], none⟩, ⟨(some 9), .mov (.c (.int .i64 (.ofNat 0))), none⟩])
(.seq (.seq (.reg [⟨(some 13), .mov (.t 0), none⟩, ⟨(some 14), .call 234 [(.t 13)], none⟩])
(.cond (.t 14) (.seq (.reg [⟨(some 15), .build [(.str []), (.int .i64 (.ofNat 0)), (.str []), (.int .u64 (.ofNat 0)), (.int .u64 (.ofNat 0)), (.int .u64 (.ofNat 0)), (.int .u64 (.ofNat 0))] [], none⟩, ⟨none, .store 7 (.t 8) (.t 15), none⟩, ⟨(some 9), .mov (.c (.int .i64 (.ofNat 1))), none⟩])
.ret) .skip))
(.seq (.reg [⟨(some 17), .mov (.t 0), none⟩, ⟨(some 18), .mov (.t 1), none⟩, ⟨(some 19), .call 364 [(.t 17), (.t 18)], none⟩, ⟨(some 16), .mov (.t 19), none⟩, ⟨(some 20), .extract (.t 16) 0, none⟩, ⟨(some 21), .extract (.t 16) 1, none⟩, ⟨(some 10), .mov (.t 20), none⟩, ⟨(some 11), .mov (.t 21), none⟩])
(.seq (.seq (.dreg [⟨⟨(some 22), .mov (.t 11), none⟩, .quiet, 0, 0⟩, ⟨⟨(some 23), .un .not (.t 22), none⟩, .quiet, 1, 1⟩, ⟨⟨(some 24), .mov (.t 23), none⟩, .quiet, 2, 3⟩, ⟨⟨(some 25), .mov (.t 0), (some (24, true))⟩, .quiet, 3, 7⟩, ⟨⟨(some 26), .nilchk (.t 25), (some (24, true))⟩, .quiet, 4, 15⟩, ⟨⟨(some 27), .faddr 1 (.t 26), (some (24, true))⟩, .quiet, 5, 31⟩, ⟨⟨(some 28), .load false 1 (.t 27), (some (24, true))⟩, .load, 6, 63⟩, ⟨⟨(some 29), .len false (.t 28), (some (24, true))⟩, .quiet, 7, 127⟩, ⟨⟨(some 30), .mov (.t 0), (some (24, true))⟩, .quiet, 8, 7⟩, ⟨⟨(some 31), .nilchk (.t 30), (some (24, true))⟩, .quiet, 9, 263⟩, ⟨⟨(some 32), .faddr 0 (.t 31), (some (24, true))⟩, .quiet, 10, 775⟩, ⟨⟨(some 33), .load false 1 (.t 32), (some (24, true))⟩, .load, 11, 1799⟩, ⟨⟨(some 34), .bin .geq (.t 29) (.t 33), (some (24, true))⟩, .quiet, 12, 4095⟩, ⟨⟨(some 35), .pick (.t 24) (.t 34) (.c (.bool false)), none⟩, .quiet, 13, 8191⟩])
(.cond (.t 35) (.seq (.reg [⟨(some 36), .build [(.str []), (.int .i64 (.ofNat 0)), (.str []), (.int .u64 (.ofNat 0)), (.int .u64 (.ofNat 0)), (.int .u64 (.ofNat 0)), (.int .u64 (.ofNat 0))] [], none⟩, ⟨none, .store 7 (.t 8) (.t 36), none⟩, ⟨(some 9), .mov (.c (.int .i64 (.ofNat 5))), none⟩])
.ret) .skip))
(.seq (.reg [⟨(some 37), .mov (.t 1), none⟩, ⟨(some 38), .load true 4 (.t 6), none⟩, ⟨(some 39), .mov (.t 3), none⟩, ⟨(some 40), .mov (.t 3), none⟩, ⟨(some 41), .build [(.str []), (.int .i64 (.ofNat 0)), (.str []), (.int .u64 (.ofNat 0)), (.int .u64 (.ofNat 0)), (.int .u64 (.ofNat 0)), (.int .u64 (.ofNat 0))] [(0, 1, (.t 37)), (1, 4, (.t 38)), (5, 1, (.t 39)), (6, 1, (.t 40))], none⟩, ⟨(some 12), .alloc [(.str []), (.int .i64 (.ofNat 0)), (.str []), (.int .u64 (.ofNat 0)), (.int .u64 (.ofNat 0)), (.int .u64 (.ofNat 0)), (.int .u64 (.ofNat 0))], none⟩, ⟨none, .store 7 (.t 12) (.t 41), none⟩])
(.seq (.seq (.reg [⟨(some 42), .mov (.t 11), none⟩])
(.cond (.t 42) (.seq (.reg [⟨(some 43), .mov (.t 0), none⟩, ⟨(some 44), .nilchk (.t 43), none⟩, ⟨(some 45), .faddr 1 (.t 44), none⟩, ⟨(some 46), .load false 1 (.t 45), none⟩, ⟨(some 47), .mov (.t 10), none⟩, ⟨(some 48), .idxS 7 (.t 46) (.t 47), none⟩, ⟨(some 49), .faddr 5 (.t 48), none⟩, ⟨(some 50), .load false 1 (.t 49), none⟩, ⟨(some 51), .faddr 5 (.t 12), none⟩, ⟨none, .store 1 (.t 51) (.t 50), none⟩])
(.dreg [⟨⟨(some 52), .mov (.t 0), none⟩, .quiet, 0, 0⟩, ⟨⟨(some 53), .nilchk (.t 52), none⟩, .quiet, 1, 1⟩, ⟨⟨(some 54), .faddr 1 (.t 53), none⟩, .quiet, 2, 3⟩, ⟨⟨(some 55), .load false 1 (.t 54), none⟩, .load, 3, 7⟩, ⟨⟨(some 56), .mov (.t 10), none⟩, .quiet, 4, 0⟩, ⟨⟨(some 57), .load true 7 (.t 12), none⟩, .load, 5, 0⟩, ⟨⟨(some 58), .idxS 7 (.t 55) (.t 56), none⟩, .quiet, 6, 63⟩, ⟨⟨none, .store 7 (.t 58) (.t 57), none⟩, .loud, 7, 127⟩])) (.seq (.reg [⟨(some 59), .mov (.t 0), none⟩, ⟨(some 60), .mov (.t 0), none⟩, ⟨(some 61), .nilchk (.t 60), none⟩, ⟨(some 62), .faddr 1 (.t 61), none⟩, ⟨(some 63), .load false 1 (.t 62), none⟩, ⟨(some 64), .build [(.str []), (.int .i64 (.ofNat 0)), (.str []), (.int .u64 (.ofNat 0)), (.int .u64 (.ofNat 0)), (.int .u64 (.ofNat 0)), (.int .u64 (.ofNat 0))] [], none⟩, ⟨(some 65), .buildSl 7 1 [(.str []), (.int .i64 (.ofNat 0)), (.str []), (.int .u64 (.ofNat 0)), (.int .u64 (.ofNat 0)), (.int .u64 (.ofNat 0)), (.int .u64 (.ofNat 0))] [(0, 7, (.t 64))], none⟩, ⟨(some 66), .append 7 72 (.t 63) (.t 65), none⟩, ⟨(some 67), .nilchk (.t 59), none⟩, ⟨(some 68), .faddr 1 (.t 67), none⟩, ⟨none, .store 1 (.t 68) (.t 66), none⟩])
(.seq (.dreg [⟨⟨(some 69), .mov (.t 0), none⟩, .quiet, 0, 0⟩, ⟨⟨(some 70), .nilchk (.t 69), none⟩, .quiet, 1, 1⟩, ⟨⟨(some 71), .faddr 1 (.t 70), none⟩, .quiet, 2, 3⟩, ⟨⟨(some 72), .load false 1 (.t 71), none⟩, .load, 3, 7⟩, ⟨⟨(some 73), .mov (.t 10), none⟩, .quiet, 4, 0⟩, ⟨⟨(some 74), .bin .add (.t 73) (.c (.int .i64 (.ofNat 1))), none⟩, .quiet, 5, 16⟩, ⟨⟨(some 75), .slS 7 (.t 72) (some (.t 74)) none none, none⟩, .quiet, 6, 63⟩, ⟨⟨(some 76), .mov (.t 0), none⟩, .quiet, 7, 0⟩, ⟨⟨(some 77), .nilchk (.t 76), none⟩, .quiet, 8, 128⟩, ⟨⟨(some 78), .faddr 1 (.t 77), none⟩, .quiet, 9, 384⟩, ⟨⟨(some 79), .load false 1 (.t 78), none⟩, .load, 10, 896⟩, ⟨⟨(some 80), .mov (.t 10), none⟩, .quiet, 11, 0⟩, ⟨⟨(some 81), .slS 7 (.t 79) (some (.t 80)) none none, none⟩, .quiet, 12, 3968⟩, ⟨⟨(some 82), .copy 7 (.t 75) (.t 81), none⟩, .loud, 13, 8191⟩])
(.dreg [⟨⟨(some 83), .mov (.t 0), none⟩, .quiet, 0, 0⟩, ⟨⟨(some 84), .nilchk (.t 83), none⟩, .quiet, 1, 1⟩, ⟨⟨(some 85), .faddr 1 (.t 84), none⟩, .quiet, 2, 3⟩, ⟨⟨(some 86), .load false 1 (.t 85), none⟩, .load, 3, 7⟩, ⟨⟨(some 87), .mov (.t 10), none⟩, .quiet, 4, 0⟩, ⟨⟨(some 88), .load true 7 (.t 12), none⟩, .load, 5, 0⟩, ⟨⟨(some 89), .idxS 7 (.t 86) (.t 87), none⟩, .quiet, 6, 63⟩, ⟨⟨none, .store 7 (.t 89) (.t 88), none⟩, .loud, 7, 127⟩])))))
(.seq (.reg [⟨(some 90), .mov (.t 0), none⟩, ⟨(some 91), .mov (.t 3), none⟩, ⟨(some 92), .call 219 [(.t 90), (.t 91)], none⟩])
(.seq (.reg [⟨(some 93), .load true 7 (.t 12), none⟩, ⟨none, .store 7 (.t 8) (.t 93), none⟩, ⟨(some 9), .mov (.c (.int .i64 (.ofNat 0))), none⟩])
.ret))))))))⟩
theorem c318_eq : compFn Tryz.prog 318 = some c318 := by kernel_rfl
noncomputable def c348 : FnI := ⟨11, [.tmp 2],
(.seq (.reg [⟨(some 2), .mov (.c (.int .u32 (.ofNat 0))), none⟩])
(.seq (.seq (.reg [⟨(some 3), .mov (.t 0), none⟩, ⟨(some 4), .bin .shr (.t 3) (.c (.int .u64 (.ofNat 31))), none⟩, ⟨(some 5), .bin .eql (.t 4) (.c (.int .u32 (.ofNat 1))), none⟩])
(.cond (.t 5) (.seq (.reg [⟨(some 6), .mov (.t 0), none⟩, ⟨(some 7), .bin .shl (.t 6) (.c (.int .u64 (.ofNat 1))), none⟩, ⟨(some 8), .bin .xor (.t 7) (.c (.int .u32 (.ofNat 79764919))), none⟩, ⟨(some 2), .mov (.t 8), none⟩])
.ret) .skip))
(.seq (.reg [⟨(some 9), .mov (.t 0), none⟩, ⟨(some 10), .bin .shl (.t 9) (.c (.int .u64 (.ofNat 1))), none⟩, ⟨(some 2), .mov (.t 10), none⟩])
.ret)))⟩
theorem c348_eq : compFn Tryz.prog 348 = some c348 := by kernel_rfl
end Go.Proofs.YtkahmlbhgahbbaaGreat.AbsLedgerNone
