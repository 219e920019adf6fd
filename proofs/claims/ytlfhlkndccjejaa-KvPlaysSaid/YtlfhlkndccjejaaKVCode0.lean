/- The functions' code, as the evaluator takes it (part 0), and that it is what the evaluator's compiler makes of the program. -/
import Derived.Test.YtlfhlkndccjejaaAbsJ
import Derived.Test.YtlfhlkndccjejaaRows
set_option maxRecDepth 100000
namespace Go.Proofs.Ytlfhlkndccjejaa.KV
open Go.Proofs.Ytlfhlkndccjejaa.Abs
/-- sodality/sodalitylaw16.KvLoads -/
noncomputable def c4 : FnI := ⟨47, [.tmp 6],
(.seq (.reg (⟨(some 6), .mov (.c (.bool false)), none⟩ :: []))
(.seq (.reg (⟨(some 10), .mov (.t 0), none⟩ :: ⟨(some 11), .mov (.t 1), none⟩ :: ⟨(some 12), .mov (.t 2), none⟩ :: ⟨(some 13), .call 19 [(.t 10), (.t 11), (.t 12)], none⟩ :: ⟨(some 9), .mov (.t 13), none⟩ :: ⟨(some 14), .extract (.t 9) 0, none⟩ :: ⟨(some 15), .extract (.t 9) 1, none⟩ :: ⟨(some 7), .mov (.t 14), none⟩ :: ⟨(some 8), .mov (.t 15), none⟩ :: []))
(.seq (.seq (.reg (⟨(some 16), .mov (.t 0), none⟩ :: ⟨(some 17), .mov (.t 1), none⟩ :: ⟨(some 18), .mov (.t 2), none⟩ :: ⟨(some 19), .call 20 [(.t 16), (.t 17), (.t 18)], none⟩ :: ⟨(some 20), .un .not (.t 19), none⟩ :: []))
(.cond (.t 20) (.seq (.reg (⟨(some 21), .mov (.t 8), none⟩ :: ⟨(some 22), .bin .eql (.t 21) (.c (.int .i64 (.ofNat 2))), none⟩ :: ⟨(some 23), .mov (.t 22), none⟩ :: ⟨(some 24), .mov (.t 7), (some (23, true))⟩ :: ⟨(some 25), .eq false .ptr (.t 24) (.c .nilp), (some (23, true))⟩ :: ⟨(some 26), .pick (.t 23) (.t 25) (.c (.bool false)), none⟩ :: ⟨(some 27), .mov (.t 26), none⟩ :: ⟨(some 28), .call 21 [], (some (27, true))⟩ :: ⟨(some 29), .pick (.t 27) (.t 28) (.c (.bool false)), none⟩ :: ⟨(some 6), .mov (.t 29), none⟩ :: []))
.ret) .skip))
(.seq (.reg (⟨(some 30), .mov (.t 8), none⟩ :: ⟨(some 31), .bin .eql (.t 30) (.c (.int .i64 (.ofNat 0))), none⟩ :: ⟨(some 32), .mov (.t 31), none⟩ :: ⟨(some 33), .mov (.t 7), (some (32, true))⟩ :: ⟨(some 34), .call 23 [(.t 33), (.c (.str []))], (some (32, true))⟩ :: ⟨(some 35), .mov (.t 1), (some (32, true))⟩ :: ⟨(some 36), .call 22 [(.t 34), (.t 35)], (some (32, true))⟩ :: ⟨(some 37), .pick (.t 32) (.t 36) (.c (.bool false)), none⟩ :: ⟨(some 38), .mov (.t 37), none⟩ :: ⟨(some 39), .mov (.t 7), (some (38, true))⟩ :: ⟨(some 40), .call 24 [(.t 39)], (some (38, true))⟩ :: ⟨(some 41), .mov (.t 2), (some (38, true))⟩ :: ⟨(some 42), .bin .eql (.t 40) (.t 41), (some (38, true))⟩ :: ⟨(some 43), .pick (.t 38) (.t 42) (.c (.bool false)), none⟩ :: ⟨(some 44), .mov (.t 43), none⟩ :: ⟨(some 45), .call 21 [], (some (44, true))⟩ :: ⟨(some 46), .pick (.t 44) (.t 45) (.c (.bool false)), none⟩ :: ⟨(some 6), .mov (.t 46), none⟩ :: []))
.ret))))⟩
theorem c4_eq : compFn Try.prog 4 = some c4 := by kernel_rfl
/-- sodality/sodalitylaw16.KvPlays -/
noncomputable def c5 : FnI := ⟨81, [.tmp 4],
(.seq (.reg (⟨(some 4), .mov (.c (.bool false)), none⟩ :: []))
(.seq (.reg (⟨(some 12), .mov (.t 0), none⟩ :: ⟨(some 13), .call 25 [(.t 12)], none⟩ :: ⟨(some 5), .mov (.t 13), none⟩ :: []))
(.seq (.reg (⟨(some 14), .mov (.t 0), none⟩ :: ⟨(some 15), .call 26 [(.t 14)], none⟩ :: ⟨(some 6), .mov (.t 15), none⟩ :: []))
(.seq (.seq (.reg (⟨(some 7), .mov (.c (.int .i64 (.ofNat 0))), none⟩ :: []))
(.block 0 (.loop (.seq (.seq (.reg (⟨(some 16), .mov (.t 7), none⟩ :: ⟨(some 17), .mov (.t 1), none⟩ :: ⟨(some 18), .len false (.t 17), none⟩ :: ⟨(some 19), .bin .lss (.t 16) (.t 18), none⟩ :: ⟨(some 20), .mov (.t 19), none⟩ :: ⟨(some 21), .mov (.t 7), (some (20, true))⟩ :: ⟨(some 22), .bin .lss (.t 21) (.c (.int .i64 (.ofNat 100))), (some (20, true))⟩ :: ⟨(some 23), .pick (.t 20) (.t 22) (.c (.bool false)), none⟩ :: []))
(.cond (.t 23) .skip (.exit 0)))
(.seq (.block 1 (.seq (.seq (.reg (⟨(some 26), .mov (.t 5), none⟩ :: ⟨(some 27), .mov (.t 6), none⟩ :: ⟨(some 28), .mov (.t 1), none⟩ :: ⟨(some 29), .mov (.t 7), none⟩ :: ⟨(some 30), .idxS 6 (.t 28) (.t 29), none⟩ :: ⟨(some 31), .load true 6 (.t 30), none⟩ :: ⟨(some 32), .call 27 [(.t 26), (.t 27), (.t 31)], none⟩ :: ⟨(some 33), .un .not (.t 32), none⟩ :: []))
(.cond (.t 33) (.seq (.reg (⟨(some 4), .mov (.c (.bool false)), none⟩ :: []))
.ret) .skip))
(.seq (.reg (⟨(some 35), .mov (.t 5), none⟩ :: ⟨(some 36), .mov (.t 1), none⟩ :: ⟨(some 37), .mov (.t 7), none⟩ :: ⟨(some 38), .idxS 6 (.t 36) (.t 37), none⟩ :: ⟨(some 39), .faddr 1 (.t 38), none⟩ :: ⟨(some 40), .load false 1 (.t 39), none⟩ :: ⟨(some 41), .call 28 [(.t 35), (.t 40)], none⟩ :: ⟨(some 34), .mov (.t 41), none⟩ :: ⟨(some 42), .extract (.t 34) 0, none⟩ :: ⟨(some 43), .extract (.t 34) 1, none⟩ :: ⟨(some 8), .alloc [(.str []), (.str []), (.int .u64 (.ofNat 0)), (.int .u64 (.ofNat 0)), (.int .u64 (.ofNat 0)), (.int .u64 (.ofNat 0))], none⟩ :: ⟨none, .store 6 (.t 8) (.t 42), none⟩ :: ⟨(some 9), .mov (.t 43), none⟩ :: []))
(.seq (.reg (⟨(some 45), .mov (.t 6), none⟩ :: ⟨(some 46), .mov (.t 1), none⟩ :: ⟨(some 47), .mov (.t 7), none⟩ :: ⟨(some 48), .idxS 6 (.t 46) (.t 47), none⟩ :: ⟨(some 49), .faddr 1 (.t 48), none⟩ :: ⟨(some 50), .load false 1 (.t 49), none⟩ :: ⟨(some 51), .call 29 [(.t 45), (.t 50)], none⟩ :: ⟨(some 44), .mov (.t 51), none⟩ :: ⟨(some 52), .extract (.t 44) 0, none⟩ :: ⟨(some 53), .extract (.t 44) 1, none⟩ :: ⟨(some 10), .alloc [(.str []), (.str []), (.int .u64 (.ofNat 0)), (.int .u64 (.ofNat 0)), (.int .u64 (.ofNat 0)), (.int .u64 (.ofNat 0))], none⟩ :: ⟨none, .store 6 (.t 10) (.t 52), none⟩ :: ⟨(some 11), .mov (.t 53), none⟩ :: []))
(.seq (.dreg (⟨⟨(some 54), .load true 6 (.t 8), none⟩, .load, 0, 0⟩ :: ⟨⟨(some 55), .load true 6 (.t 10), none⟩, .load, 1, 0⟩ :: ⟨⟨(some 56), .eq true (.str0 [(0, 1, false), (1, 1, false), (2, 1, false), (3, 1, false), (4, 1, false), (5, 1, false)] [.str, .str, .int, .int, .int, .int]) (.t 54) (.t 55), none⟩, .quiet, 2, 3⟩ :: ⟨⟨(some 57), .mov (.t 56), none⟩, .quiet, 3, 7⟩ :: ⟨⟨(some 58), .mov (.t 9), (some (57, false))⟩, .quiet, 4, 15⟩ :: ⟨⟨(some 59), .mov (.t 11), (some (57, false))⟩, .quiet, 5, 15⟩ :: ⟨⟨(some 60), .eq true .bool (.t 58) (.t 59), (some (57, false))⟩, .quiet, 6, 63⟩ :: ⟨⟨(some 61), .pick (.t 57) (.c (.bool true)) (.t 60), none⟩, .quiet, 7, 127⟩ :: ⟨⟨(some 62), .mov (.t 61), none⟩, .quiet, 8, 255⟩ :: ⟨⟨(some 63), .mov (.t 5), (some (62, false))⟩, .quiet, 9, 511⟩ :: ⟨⟨(some 64), .call 24 [(.t 63)], (some (62, false))⟩, .loud, 10, 1023⟩ :: ⟨⟨(some 65), .mov (.t 6), (some (62, false))⟩, .quiet, 11, 511⟩ :: ⟨⟨(some 66), .nilchk (.t 65), (some (62, false))⟩, .quiet, 12, 2559⟩ :: ⟨⟨(some 67), .faddr 2 (.t 66), (some (62, false))⟩, .quiet, 13, 6655⟩ :: ⟨⟨(some 68), .load false 1 (.t 67), (some (62, false))⟩, .load, 14, 14847⟩ :: ⟨⟨(some 69), .bin .neq (.t 64) (.t 68), (some (62, false))⟩, .quiet, 15, 32767⟩ :: ⟨⟨(some 70), .pick (.t 62) (.c (.bool true)) (.t 69), none⟩, .quiet, 16, 65535⟩ :: []))
(.cond (.t 70) (.seq (.reg (⟨(some 4), .mov (.c (.bool false)), none⟩ :: []))
.ret) .skip))))))
(.reg (⟨(some 24), .mov (.t 7), none⟩ :: ⟨(some 25), .bin .add (.t 24) (.c (.int .i64 (.ofNat 1))), none⟩ :: ⟨(some 7), .mov (.t 25), none⟩ :: [])))))))
(.seq (.dreg (⟨⟨(some 71), .mov (.t 5), none⟩, .quiet, 0, 0⟩ :: ⟨⟨(some 72), .call 23 [(.t 71), (.c (.str []))], none⟩, .loud, 1, 1⟩ :: ⟨⟨(some 73), .mov (.t 6), none⟩, .quiet, 2, 0⟩ :: ⟨⟨(some 74), .nilchk (.t 73), none⟩, .quiet, 3, 4⟩ :: ⟨⟨(some 75), .faddr 1 (.t 74), none⟩, .quiet, 4, 12⟩ :: ⟨⟨(some 76), .load false 1 (.t 75), none⟩, .load, 5, 28⟩ :: ⟨⟨(some 77), .call 22 [(.t 72), (.t 76)], none⟩, .loud, 6, 63⟩ :: ⟨⟨(some 78), .mov (.t 77), none⟩, .quiet, 7, 127⟩ :: ⟨⟨(some 79), .call 21 [], (some (78, true))⟩, .loud, 8, 255⟩ :: ⟨⟨(some 80), .pick (.t 78) (.t 79) (.c (.bool false)), none⟩, .quiet, 9, 511⟩ :: ⟨⟨(some 4), .mov (.t 80), none⟩, .quiet, 10, 1023⟩ :: []))
.ret)))))⟩
theorem c5_eq : compFn Try.prog 5 = some c5 := by kernel_rfl
/-- sodality/sodalitylaw16.KvOnce -/
noncomputable def c6 : FnI := ⟨116, [.tmp 6],
(.seq (.reg (⟨(some 5), .box (.t 2), none⟩ :: ⟨(some 6), .mov (.c (.bool false)), none⟩ :: []))
(.seq (.dreg (⟨⟨(some 20), .idxA 2 1 (.t 5) (.c (.int .i64 (.ofNat 0))), none⟩, .quiet, 0, 0⟩ :: ⟨⟨(some 21), .load false 1 (.t 20), none⟩, .load, 1, 1⟩ :: ⟨⟨(some 22), .idxA 2 1 (.t 5) (.c (.int .i64 (.ofNat 1))), none⟩, .quiet, 2, 0⟩ :: ⟨⟨(some 23), .load false 1 (.t 22), none⟩, .load, 3, 4⟩ :: ⟨⟨(some 7), .mov (.t 21), none⟩, .quiet, 4, 3⟩ :: ⟨⟨(some 8), .mov (.t 23), none⟩, .quiet, 5, 31⟩ :: []))
(.seq (.reg (⟨(some 24), .call 25 [(.c (.int .i64 (.ofNat 20)))], none⟩ :: ⟨(some 9), .mov (.t 24), none⟩ :: []))
(.seq (.reg (⟨(some 10), .mov (.c (.int .u64 (.ofNat 0))), none⟩ :: []))
(.seq (.reg (⟨(some 25), .call 26 [(.c (.int .i64 (.ofNat 20)))], none⟩ :: ⟨(some 11), .mov (.t 25), none⟩ :: []))
(.seq (.seq (.reg (⟨(some 12), .mov (.c (.int .i64 (.ofNat 0))), none⟩ :: []))
(.block 0 (.loop (.seq (.seq (.reg (⟨(some 26), .mov (.t 12), none⟩ :: ⟨(some 27), .mov (.t 0), none⟩ :: ⟨(some 28), .len false (.t 27), none⟩ :: ⟨(some 29), .bin .lss (.t 26) (.t 28), none⟩ :: ⟨(some 30), .mov (.t 29), none⟩ :: ⟨(some 31), .mov (.t 12), (some (30, true))⟩ :: ⟨(some 32), .bin .lss (.t 31) (.c (.int .i64 (.ofNat 40))), (some (30, true))⟩ :: ⟨(some 33), .pick (.t 30) (.t 32) (.c (.bool false)), none⟩ :: []))
(.cond (.t 33) .skip (.exit 0)))
(.seq (.block 1 (.seq (.reg (⟨(some 36), .mov (.t 0), none⟩ :: ⟨(some 37), .mov (.t 12), none⟩ :: ⟨(some 38), .idxS 6 (.t 36) (.t 37), none⟩ :: ⟨(some 39), .load true 6 (.t 38), none⟩ :: ⟨(some 13), .alloc [(.int .i64 (.ofNat 0)), (.str []), (.str []), (.int .u64 (.ofNat 0)), (.int .u64 (.ofNat 0)), (.int .u64 (.ofNat 0))], none⟩ :: ⟨none, .store 6 (.t 13) (.t 39), none⟩ :: []))
(.seq (.reg (⟨(some 40), .mov (.t 10), none⟩ :: ⟨(some 41), .bin .add (.t 40) (.c (.int .u64 (.ofNat 1))), none⟩ :: ⟨(some 10), .mov (.t 41), none⟩ :: []))
(.seq (.reg (⟨(some 42), .mov (.t 10), none⟩ :: ⟨(some 43), .faddr 5 (.t 13), none⟩ :: ⟨none, .store 1 (.t 43) (.t 42), none⟩ :: []))
(.reg (⟨(some 44), .mov (.t 9), none⟩ :: ⟨(some 45), .mov (.t 11), none⟩ :: ⟨(some 46), .load true 6 (.t 13), none⟩ :: ⟨(some 47), .call 27 [(.t 44), (.t 45), (.t 46)], none⟩ :: []))))))
(.reg (⟨(some 34), .mov (.t 12), none⟩ :: ⟨(some 35), .bin .add (.t 34) (.c (.int .i64 (.ofNat 1))), none⟩ :: ⟨(some 12), .mov (.t 35), none⟩ :: [])))))))
(.seq (.reg (⟨(some 49), .mov (.t 9), none⟩ :: ⟨(some 50), .mov (.t 1), none⟩ :: ⟨(some 51), .call 28 [(.t 49), (.t 50)], none⟩ :: ⟨(some 48), .mov (.t 51), none⟩ :: ⟨(some 52), .extract (.t 48) 0, none⟩ :: ⟨(some 53), .extract (.t 48) 1, none⟩ :: ⟨(some 14), .alloc [(.str []), (.str []), (.int .u64 (.ofNat 0)), (.int .u64 (.ofNat 0)), (.int .u64 (.ofNat 0)), (.int .u64 (.ofNat 0))], none⟩ :: ⟨none, .store 6 (.t 14) (.t 52), none⟩ :: ⟨(some 15), .mov (.t 53), none⟩ :: []))
(.seq (.reg (⟨(some 54), .mov (.t 9), none⟩ :: ⟨(some 55), .mov (.t 1), none⟩ :: ⟨(some 56), .mov (.t 7), none⟩ :: ⟨(some 57), .faddr 5 (.t 14), none⟩ :: ⟨(some 58), .load false 1 (.t 57), none⟩ :: ⟨(some 59), .mov (.t 10), none⟩ :: ⟨(some 60), .bin .add (.t 59) (.c (.int .u64 (.ofNat 1))), none⟩ :: ⟨(some 61), .call 30 [(.t 54), (.t 55), (.t 56), (.t 58), (.t 60)], none⟩ :: ⟨(some 16), .mov (.t 61), none⟩ :: []))
(.seq (.reg (⟨(some 62), .mov (.t 9), none⟩ :: ⟨(some 63), .mov (.t 1), none⟩ :: ⟨(some 64), .mov (.t 8), none⟩ :: ⟨(some 65), .faddr 5 (.t 14), none⟩ :: ⟨(some 66), .load false 1 (.t 65), none⟩ :: ⟨(some 67), .mov (.t 10), none⟩ :: ⟨(some 68), .bin .add (.t 67) (.c (.int .u64 (.ofNat 2))), none⟩ :: ⟨(some 69), .call 30 [(.t 62), (.t 63), (.t 64), (.t 66), (.t 68)], none⟩ :: ⟨(some 17), .mov (.t 69), none⟩ :: []))
(.seq (.seq (.reg (⟨(some 70), .mov (.t 16), none⟩ :: ⟨(some 71), .bin .neq (.t 70) (.c (.int .i64 (.ofNat 0))), none⟩ :: []))
(.cond (.t 71) (.seq (.reg (⟨(some 72), .mov (.t 16), none⟩ :: ⟨(some 73), .bin .eql (.t 72) (.c (.int .i64 (.ofNat 10))), none⟩ :: ⟨(some 74), .mov (.t 73), none⟩ :: ⟨(some 75), .mov (.t 16), (some (74, false))⟩ :: ⟨(some 76), .bin .eql (.t 75) (.c (.int .i64 (.ofNat 3))), (some (74, false))⟩ :: ⟨(some 77), .pick (.t 74) (.c (.bool true)) (.t 76), none⟩ :: ⟨(some 78), .mov (.t 77), none⟩ :: ⟨(some 79), .mov (.t 16), (some (78, false))⟩ :: ⟨(some 80), .bin .eql (.t 79) (.c (.int .i64 (.ofNat 5))), (some (78, false))⟩ :: ⟨(some 81), .pick (.t 78) (.c (.bool true)) (.t 80), none⟩ :: ⟨(some 82), .mov (.t 81), none⟩ :: ⟨(some 83), .call 21 [], (some (82, true))⟩ :: ⟨(some 84), .pick (.t 82) (.t 83) (.c (.bool false)), none⟩ :: ⟨(some 6), .mov (.t 84), none⟩ :: []))
.ret) .skip))
(.seq (.reg (⟨(some 86), .mov (.t 9), none⟩ :: ⟨(some 87), .mov (.t 1), none⟩ :: ⟨(some 88), .call 28 [(.t 86), (.t 87)], none⟩ :: ⟨(some 85), .mov (.t 88), none⟩ :: ⟨(some 89), .extract (.t 85) 0, none⟩ :: ⟨(some 90), .extract (.t 85) 1, none⟩ :: ⟨(some 18), .alloc [(.str []), (.str []), (.int .u64 (.ofNat 0)), (.int .u64 (.ofNat 0)), (.int .u64 (.ofNat 0)), (.int .u64 (.ofNat 0))], none⟩ :: ⟨none, .store 6 (.t 18) (.t 89), none⟩ :: ⟨(some 19), .mov (.t 90), none⟩ :: []))
(.seq (.reg (⟨(some 91), .mov (.t 19), none⟩ :: ⟨(some 92), .mov (.t 91), none⟩ :: ⟨(some 93), .faddr 1 (.t 18), (some (92, true))⟩ :: ⟨(some 94), .load false 1 (.t 93), (some (92, true))⟩ :: ⟨(some 95), .mov (.t 7), (some (92, true))⟩ :: ⟨(some 96), .bin .eql (.t 94) (.t 95), (some (92, true))⟩ :: ⟨(some 97), .pick (.t 92) (.t 96) (.c (.bool false)), none⟩ :: ⟨(some 98), .mov (.t 97), none⟩ :: ⟨(some 99), .faddr 5 (.t 18), (some (98, true))⟩ :: ⟨(some 100), .load false 1 (.t 99), (some (98, true))⟩ :: ⟨(some 101), .mov (.t 10), (some (98, true))⟩ :: ⟨(some 102), .bin .add (.t 101) (.c (.int .u64 (.ofNat 1))), (some (98, true))⟩ :: ⟨(some 103), .bin .eql (.t 100) (.t 102), (some (98, true))⟩ :: ⟨(some 104), .pick (.t 98) (.t 103) (.c (.bool false)), none⟩ :: ⟨(some 105), .mov (.t 104), none⟩ :: ⟨(some 106), .mov (.t 17), (some (105, true))⟩ :: ⟨(some 107), .bin .eql (.t 106) (.c (.int .i64 (.ofNat 21))), (some (105, true))⟩ :: ⟨(some 108), .mov (.t 107), (some (105, true))⟩ :: ⟨(some 109), .mov (.t 17), (some (108, false))⟩ :: ⟨(some 110), .bin .eql (.t 109) (.c (.int .i64 (.ofNat 3))), (some (108, false))⟩ :: ⟨(some 111), .pick (.t 108) (.c (.bool true)) (.t 110), (some (105, true))⟩ :: ⟨(some 112), .pick (.t 105) (.t 111) (.c (.bool false)), none⟩ :: ⟨(some 113), .mov (.t 112), none⟩ :: ⟨(some 114), .call 21 [], (some (113, true))⟩ :: ⟨(some 115), .pick (.t 113) (.t 114) (.c (.bool false)), none⟩ :: ⟨(some 6), .mov (.t 115), none⟩ :: []))
.ret))))))))))))⟩
theorem c6_eq : compFn Try.prog 6 = some c6 := by kernel_rfl
/-- sodality/sodalitylaw16.KvHeld -/
noncomputable def c7 : FnI := ⟨90, [.tmp 6],
(.seq (.reg (⟨(some 6), .mov (.c (.bool false)), none⟩ :: []))
(.seq (.reg (⟨(some 13), .call 25 [(.c (.int .i64 (.ofNat 30)))], none⟩ :: ⟨(some 7), .mov (.t 13), none⟩ :: []))
(.seq (.reg (⟨(some 14), .call 26 [(.c (.int .i64 (.ofNat 30)))], none⟩ :: ⟨(some 8), .mov (.t 14), none⟩ :: []))
(.seq (.seq (.reg (⟨(some 15), .mov (.t 7), none⟩ :: ⟨(some 16), .mov (.t 0), none⟩ :: ⟨(some 17), .mov (.t 1), none⟩ :: ⟨(some 18), .call 31 [(.t 15), (.t 16), (.c (.str [120])), (.t 17), (.c (.int .u64 (.ofNat 1)))], none⟩ :: ⟨(some 19), .bin .neq (.t 18) (.c (.int .i64 (.ofNat 0))), none⟩ :: []))
(.cond (.t 19) (.seq (.reg (⟨(some 20), .mov (.t 8), none⟩ :: ⟨(some 21), .mov (.t 0), none⟩ :: ⟨(some 22), .mov (.t 1), none⟩ :: ⟨(some 23), .call 32 [(.t 20), (.t 21), (.c (.str [120])), (.t 22), (.c (.int .u64 (.ofNat 1)))], none⟩ :: ⟨(some 24), .bin .neq (.t 23) (.c (.int .i64 (.ofNat 0))), none⟩ :: ⟨(some 25), .mov (.t 24), none⟩ :: ⟨(some 26), .call 21 [], (some (25, true))⟩ :: ⟨(some 27), .pick (.t 25) (.t 26) (.c (.bool false)), none⟩ :: ⟨(some 6), .mov (.t 27), none⟩ :: []))
.ret) .skip))
(.seq (.reg (⟨(some 28), .mov (.t 8), none⟩ :: ⟨(some 29), .mov (.t 0), none⟩ :: ⟨(some 30), .mov (.t 1), none⟩ :: ⟨(some 31), .call 32 [(.t 28), (.t 29), (.c (.str [120])), (.t 30), (.c (.int .u64 (.ofNat 1)))], none⟩ :: []))
(.seq (.seq (.reg (⟨(some 9), .mov (.c (.int .i64 (.ofNat 0))), none⟩ :: []))
(.block 0 (.loop (.seq (.seq (.reg (⟨(some 32), .mov (.t 9), none⟩ :: ⟨(some 33), .mov (.t 2), none⟩ :: ⟨(some 34), .len false (.t 33), none⟩ :: ⟨(some 35), .bin .lss (.t 32) (.t 34), none⟩ :: ⟨(some 36), .mov (.t 35), none⟩ :: ⟨(some 37), .mov (.t 9), (some (36, true))⟩ :: ⟨(some 38), .bin .lss (.t 37) (.c (.int .i64 (.ofNat 60))), (some (36, true))⟩ :: ⟨(some 39), .pick (.t 36) (.t 38) (.c (.bool false)), none⟩ :: []))
(.cond (.t 39) .skip (.exit 0)))
(.seq (.block 1 (.seq (.reg (⟨(some 42), .mov (.t 2), none⟩ :: ⟨(some 43), .mov (.t 9), none⟩ :: ⟨(some 44), .idxS 6 (.t 42) (.t 43), none⟩ :: ⟨(some 45), .load true 6 (.t 44), none⟩ :: ⟨(some 10), .alloc [(.int .i64 (.ofNat 0)), (.str []), (.str []), (.int .u64 (.ofNat 0)), (.int .u64 (.ofNat 0)), (.int .u64 (.ofNat 0))], none⟩ :: ⟨none, .store 6 (.t 10) (.t 45), none⟩ :: []))
(.seq (.seq (.reg (⟨(some 46), .faddr 4 (.t 10), none⟩ :: ⟨(some 47), .load false 1 (.t 46), none⟩ :: ⟨(some 48), .mov (.t 1), none⟩ :: ⟨(some 49), .bin .eql (.t 47) (.t 48), none⟩ :: ⟨(some 50), .mov (.t 49), none⟩ :: ⟨(some 51), .faddr 1 (.t 10), (some (50, false))⟩ :: ⟨(some 52), .load false 1 (.t 51), (some (50, false))⟩ :: ⟨(some 53), .mov (.t 0), (some (50, false))⟩ :: ⟨(some 54), .bin .eql (.t 52) (.t 53), (some (50, false))⟩ :: ⟨(some 55), .mov (.t 54), (some (50, false))⟩ :: ⟨(some 56), .faddr 0 (.t 10), (some (55, true))⟩ :: ⟨(some 57), .load false 1 (.t 56), (some (55, true))⟩ :: ⟨(some 58), .bin .eql (.t 57) (.c (.int .i64 (.ofNat 2))), (some (55, true))⟩ :: ⟨(some 59), .mov (.t 58), (some (55, true))⟩ :: ⟨(some 60), .faddr 0 (.t 10), (some (59, false))⟩ :: ⟨(some 61), .load false 1 (.t 60), (some (59, false))⟩ :: ⟨(some 62), .bin .eql (.t 61) (.c (.int .i64 (.ofNat 3))), (some (59, false))⟩ :: ⟨(some 63), .pick (.t 59) (.c (.bool true)) (.t 62), (some (55, true))⟩ :: ⟨(some 64), .pick (.t 55) (.t 63) (.c (.bool false)), (some (50, false))⟩ :: ⟨(some 65), .pick (.t 50) (.c (.bool true)) (.t 64), none⟩ :: []))
(.cond (.t 65) (.exit 1) .skip))
(.seq (.reg (⟨(some 66), .mov (.t 7), none⟩ :: ⟨(some 67), .mov (.t 8), none⟩ :: ⟨(some 68), .load true 6 (.t 10), none⟩ :: ⟨(some 69), .call 27 [(.t 66), (.t 67), (.t 68)], none⟩ :: []))
(.seq (.reg (⟨(some 71), .mov (.t 7), none⟩ :: ⟨(some 72), .mov (.t 0), none⟩ :: ⟨(some 73), .call 28 [(.t 71), (.t 72)], none⟩ :: ⟨(some 70), .mov (.t 73), none⟩ :: ⟨(some 74), .extract (.t 70) 0, none⟩ :: ⟨(some 75), .extract (.t 70) 1, none⟩ :: ⟨(some 11), .alloc [(.str []), (.str []), (.int .u64 (.ofNat 0)), (.int .u64 (.ofNat 0)), (.int .u64 (.ofNat 0)), (.int .u64 (.ofNat 0))], none⟩ :: ⟨none, .store 6 (.t 11) (.t 74), none⟩ :: ⟨(some 12), .mov (.t 75), none⟩ :: []))
(.seq (.reg (⟨(some 76), .mov (.t 12), none⟩ :: ⟨(some 77), .un .not (.t 76), none⟩ :: ⟨(some 78), .mov (.t 77), none⟩ :: ⟨(some 79), .faddr 2 (.t 11), (some (78, false))⟩ :: ⟨(some 80), .load false 1 (.t 79), (some (78, false))⟩ :: ⟨(some 81), .mov (.t 1), (some (78, false))⟩ :: ⟨(some 82), .bin .neq (.t 80) (.t 81), (some (78, false))⟩ :: ⟨(some 83), .pick (.t 78) (.c (.bool true)) (.t 82), none⟩ :: ⟨(some 84), .mov (.t 83), none⟩ :: ⟨(some 85), .faddr 3 (.t 11), (some (84, false))⟩ :: ⟨(some 86), .load false 1 (.t 85), (some (84, false))⟩ :: ⟨(some 87), .bin .neq (.t 86) (.c (.int .u64 (.ofNat 1))), (some (84, false))⟩ :: ⟨(some 88), .pick (.t 84) (.c (.bool true)) (.t 87), none⟩ :: []))
(.cond (.t 88) (.seq (.reg (⟨(some 6), .mov (.c (.bool false)), none⟩ :: []))
.ret) .skip)))))))
(.reg (⟨(some 40), .mov (.t 9), none⟩ :: ⟨(some 41), .bin .add (.t 40) (.c (.int .i64 (.ofNat 1))), none⟩ :: ⟨(some 9), .mov (.t 41), none⟩ :: [])))))))
(.seq (.reg (⟨(some 89), .call 21 [], none⟩ :: ⟨(some 6), .mov (.t 89), none⟩ :: []))
.ret)))))))⟩
theorem c7_eq : compFn Try.prog 7 = some c7 := by kernel_rfl
/-- sodality/sodalitylaw16.KvBack -/
noncomputable def c8 : FnI := ⟨81, [.tmp 2],
(.seq (.reg (⟨(some 2), .mov (.c (.bool false)), none⟩ :: []))
(.seq (.reg (⟨(some 12), .call 25 [(.c (.int .i64 (.ofNat 64)))], none⟩ :: ⟨(some 3), .mov (.t 12), none⟩ :: []))
(.seq (.reg (⟨(some 13), .call 26 [(.c (.int .i64 (.ofNat 64)))], none⟩ :: ⟨(some 4), .mov (.t 13), none⟩ :: []))
(.seq (.reg (⟨(some 5), .mov (.c (.int .u64 (.ofNat 0))), none⟩ :: []))
(.seq (.seq (.reg (⟨(some 6), .mov (.c (.int .i64 (.ofNat 0))), none⟩ :: []))
(.block 0 (.loop (.seq (.seq (.reg (⟨(some 14), .mov (.t 6), none⟩ :: ⟨(some 15), .mov (.t 0), none⟩ :: ⟨(some 16), .len false (.t 15), none⟩ :: ⟨(some 17), .bin .lss (.t 14) (.t 16), none⟩ :: ⟨(some 18), .mov (.t 17), none⟩ :: ⟨(some 19), .mov (.t 6), (some (18, true))⟩ :: ⟨(some 20), .bin .lss (.t 19) (.c (.int .i64 (.ofNat 80))), (some (18, true))⟩ :: ⟨(some 21), .pick (.t 18) (.t 20) (.c (.bool false)), none⟩ :: []))
(.cond (.t 21) .skip (.exit 0)))
(.seq (.block 1 (.seq (.reg (⟨(some 24), .mov (.t 0), none⟩ :: ⟨(some 25), .mov (.t 6), none⟩ :: ⟨(some 26), .idxS 6 (.t 24) (.t 25), none⟩ :: ⟨(some 27), .load true 6 (.t 26), none⟩ :: ⟨(some 7), .alloc [(.int .i64 (.ofNat 0)), (.str []), (.str []), (.int .u64 (.ofNat 0)), (.int .u64 (.ofNat 0)), (.int .u64 (.ofNat 0))], none⟩ :: ⟨none, .store 6 (.t 7) (.t 27), none⟩ :: []))
(.seq (.reg (⟨(some 28), .mov (.t 5), none⟩ :: ⟨(some 29), .bin .add (.t 28) (.c (.int .u64 (.ofNat 1))), none⟩ :: ⟨(some 5), .mov (.t 29), none⟩ :: []))
(.seq (.reg (⟨(some 30), .mov (.t 5), none⟩ :: ⟨(some 31), .faddr 5 (.t 7), none⟩ :: ⟨none, .store 1 (.t 31) (.t 30), none⟩ :: []))
(.seq (.seq (.reg (⟨(some 32), .mov (.t 6), none⟩ :: ⟨(some 33), .bin .eql (.t 32) (.c (.int .i64 (.ofNat 60))), none⟩ :: []))
(.cond (.t 33) (.seq (.reg (⟨(some 35), .mov (.t 3), none⟩ :: ⟨(some 36), .call 23 [(.t 35), (.c (.str []))], none⟩ :: ⟨(some 37), .mov (.t 3), none⟩ :: ⟨(some 38), .call 24 [(.t 37)], none⟩ :: ⟨(some 39), .call 19 [(.c (.int .i64 (.ofNat 64))), (.t 36), (.t 38)], none⟩ :: ⟨(some 34), .mov (.t 39), none⟩ :: ⟨(some 40), .extract (.t 34) 0, none⟩ :: ⟨(some 41), .extract (.t 34) 1, none⟩ :: ⟨(some 8), .mov (.t 40), none⟩ :: ⟨(some 9), .mov (.t 41), none⟩ :: []))
(.seq (.seq (.reg (⟨(some 42), .mov (.t 9), none⟩ :: ⟨(some 43), .bin .neq (.t 42) (.c (.int .i64 (.ofNat 0))), none⟩ :: []))
(.cond (.t 43) (.seq (.reg (⟨(some 2), .mov (.c (.bool false)), none⟩ :: []))
.ret) .skip))
(.reg (⟨(some 44), .mov (.t 8), none⟩ :: ⟨(some 3), .mov (.t 44), none⟩ :: [])))) .skip))
(.seq (.reg (⟨(some 45), .mov (.t 3), none⟩ :: ⟨(some 46), .mov (.t 4), none⟩ :: ⟨(some 47), .load true 6 (.t 7), none⟩ :: ⟨(some 48), .call 27 [(.t 45), (.t 46), (.t 47)], none⟩ :: ⟨(some 49), .un .not (.t 48), none⟩ :: []))
(.cond (.t 49) (.seq (.reg (⟨(some 2), .mov (.c (.bool false)), none⟩ :: []))
.ret) .skip)))))))
(.reg (⟨(some 22), .mov (.t 6), none⟩ :: ⟨(some 23), .bin .add (.t 22) (.c (.int .i64 (.ofNat 1))), none⟩ :: ⟨(some 6), .mov (.t 23), none⟩ :: [])))))))
(.seq (.reg (⟨(some 51), .mov (.t 3), none⟩ :: ⟨(some 52), .call 23 [(.t 51), (.c (.str []))], none⟩ :: ⟨(some 53), .mov (.t 3), none⟩ :: ⟨(some 54), .call 24 [(.t 53)], none⟩ :: ⟨(some 55), .call 19 [(.c (.int .i64 (.ofNat 64))), (.t 52), (.t 54)], none⟩ :: ⟨(some 50), .mov (.t 55), none⟩ :: ⟨(some 56), .extract (.t 50) 0, none⟩ :: ⟨(some 57), .extract (.t 50) 1, none⟩ :: ⟨(some 10), .mov (.t 56), none⟩ :: ⟨(some 11), .mov (.t 57), none⟩ :: []))
(.seq (.dreg (⟨⟨(some 58), .mov (.t 11), none⟩, .quiet, 0, 0⟩ :: ⟨⟨(some 59), .bin .eql (.t 58) (.c (.int .i64 (.ofNat 0))), none⟩, .quiet, 1, 1⟩ :: ⟨⟨(some 60), .mov (.t 59), none⟩, .quiet, 2, 3⟩ :: ⟨⟨(some 61), .mov (.t 10), (some (60, true))⟩, .quiet, 3, 7⟩ :: ⟨⟨(some 62), .call 23 [(.t 61), (.c (.str []))], (some (60, true))⟩, .loud, 4, 15⟩ :: ⟨⟨(some 63), .mov (.t 4), (some (60, true))⟩, .quiet, 5, 7⟩ :: ⟨⟨(some 64), .nilchk (.t 63), (some (60, true))⟩, .quiet, 6, 39⟩ :: ⟨⟨(some 65), .faddr 1 (.t 64), (some (60, true))⟩, .quiet, 7, 103⟩ :: ⟨⟨(some 66), .load false 1 (.t 65), (some (60, true))⟩, .load, 8, 231⟩ :: ⟨⟨(some 67), .call 22 [(.t 62), (.t 66)], (some (60, true))⟩, .loud, 9, 511⟩ :: ⟨⟨(some 68), .pick (.t 60) (.t 67) (.c (.bool false)), none⟩, .quiet, 10, 1023⟩ :: ⟨⟨(some 69), .mov (.t 68), none⟩, .quiet, 11, 2047⟩ :: ⟨⟨(some 70), .mov (.t 10), (some (69, true))⟩, .quiet, 12, 4095⟩ :: ⟨⟨(some 71), .call 24 [(.t 70)], (some (69, true))⟩, .loud, 13, 8191⟩ :: ⟨⟨(some 72), .mov (.t 4), (some (69, true))⟩, .quiet, 14, 4095⟩ :: ⟨⟨(some 73), .nilchk (.t 72), (some (69, true))⟩, .quiet, 15, 20479⟩ :: ⟨⟨(some 74), .faddr 2 (.t 73), (some (69, true))⟩, .quiet, 16, 53247⟩ :: ⟨⟨(some 75), .load false 1 (.t 74), (some (69, true))⟩, .load, 17, 118783⟩ :: ⟨⟨(some 76), .bin .eql (.t 71) (.t 75), (some (69, true))⟩, .quiet, 18, 262143⟩ :: ⟨⟨(some 77), .pick (.t 69) (.t 76) (.c (.bool false)), none⟩, .quiet, 19, 524287⟩ :: ⟨⟨(some 78), .mov (.t 77), none⟩, .quiet, 20, 1048575⟩ :: ⟨⟨(some 79), .call 21 [], (some (78, true))⟩, .loud, 21, 2097151⟩ :: ⟨⟨(some 80), .pick (.t 78) (.t 79) (.c (.bool false)), none⟩, .quiet, 22, 4194303⟩ :: ⟨⟨(some 2), .mov (.t 80), none⟩, .quiet, 23, 8388607⟩ :: []))
.ret)))))))⟩
theorem c8_eq : compFn Try.prog 8 = some c8 := by kernel_rfl
/-- sodality/kv.Load -/
noncomputable def c19 : FnI := ⟨61, [.tmp 6, .tmp 7],
(.seq (.reg (⟨(some 6), .mov (.c .nilp), none⟩ :: ⟨(some 7), .mov (.c (.int .i64 (.ofNat 0))), none⟩ :: []))
(.seq (.reg (⟨(some 14), .mov (.t 0), none⟩ :: ⟨(some 15), .call 25 [(.t 14)], none⟩ :: ⟨(some 8), .mov (.t 15), none⟩ :: []))
(.seq (.reg (⟨(some 9), .mov (.c (.str [])), none⟩ :: []))
(.seq (.seq (.reg (⟨(some 16), .mov (.t 1), none⟩ :: ⟨(some 17), .len false (.t 16), none⟩ :: ⟨(some 18), .mov (.c (.int .i64 (.ofNat 0))), none⟩ :: []))
(.block 0 (.loop (.seq (.reg (⟨(some 19), .bin .lss (.t 18) (.t 17), none⟩ :: []))
(.seq (.cond (.t 19) .skip (.exit 0))
(.seq (.block 1 (.seq (.reg (⟨(some 20), .idxS 6 (.t 16) (.t 18), none⟩ :: ⟨(some 21), .load true 6 (.t 20), none⟩ :: ⟨(some 11), .alloc [(.str []), (.str []), (.int .u64 (.ofNat 0)), (.int .u64 (.ofNat 0)), (.int .u64 (.ofNat 0)), (.int .u64 (.ofNat 0))], none⟩ :: ⟨none, .store 6 (.t 11) (.t 21), none⟩ :: []))
(.seq (.seq (.reg (⟨(some 22), .load true 6 (.t 11), none⟩ :: ⟨(some 23), .mov (.t 9), none⟩ :: ⟨(some 24), .mov (.t 2), none⟩ :: ⟨(some 25), .call 61 [(.t 22), (.t 23), (.t 24)], none⟩ :: ⟨(some 26), .un .not (.t 25), none⟩ :: []))
(.cond (.t 26) (.seq (.reg (⟨(some 6), .mov (.c .nilp), none⟩ :: ⟨(some 7), .mov (.c (.int .i64 (.ofNat 2))), none⟩ :: []))
.ret) .skip))
(.seq (.reg (⟨(some 27), .faddr 0 (.t 11), none⟩ :: ⟨(some 28), .load false 1 (.t 27), none⟩ :: ⟨(some 9), .mov (.t 28), none⟩ :: []))
(.seq (.seq (.reg (⟨(some 29), .mov (.t 8), none⟩ :: ⟨(some 30), .load true 6 (.t 11), none⟩ :: ⟨(some 31), .faddr 4 (.t 11), none⟩ :: ⟨(some 32), .load false 1 (.t 31), none⟩ :: ⟨(some 33), .call 62 [(.t 29), (.t 30), (.t 32)], none⟩ :: ⟨(some 34), .bin .neq (.t 33) (.c (.int .i64 (.ofNat 0))), none⟩ :: ⟨(some 35), .mov (.t 34), none⟩ :: ⟨(some 36), .mov (.t 8), (some (35, false))⟩ :: ⟨(some 37), .load true 6 (.t 11), (some (35, false))⟩ :: ⟨(some 38), .faddr 5 (.t 11), (some (35, false))⟩ :: ⟨(some 39), .load false 1 (.t 38), (some (35, false))⟩ :: ⟨(some 40), .call 62 [(.t 36), (.t 37), (.t 39)], (some (35, false))⟩ :: ⟨(some 41), .bin .neq (.t 40) (.c (.int .i64 (.ofNat 0))), (some (35, false))⟩ :: ⟨(some 42), .pick (.t 35) (.c (.bool true)) (.t 41), none⟩ :: []))
(.cond (.t 42) (.seq (.reg (⟨(some 6), .mov (.c .nilp), none⟩ :: ⟨(some 7), .mov (.c (.int .i64 (.ofNat 2))), none⟩ :: []))
.ret) .skip))
(.seq (.reg (⟨(some 44), .mov (.t 8), none⟩ :: ⟨(some 45), .faddr 0 (.t 11), none⟩ :: ⟨(some 46), .load false 1 (.t 45), none⟩ :: ⟨(some 47), .call 28 [(.t 44), (.t 46)], none⟩ :: ⟨(some 43), .mov (.t 47), none⟩ :: ⟨(some 48), .extract (.t 43) 0, none⟩ :: ⟨(some 49), .extract (.t 43) 1, none⟩ :: ⟨(some 12), .alloc [(.str []), (.str []), (.int .u64 (.ofNat 0)), (.int .u64 (.ofNat 0)), (.int .u64 (.ofNat 0)), (.int .u64 (.ofNat 0))], none⟩ :: ⟨none, .store 6 (.t 12) (.t 48), none⟩ :: ⟨(some 13), .mov (.t 49), none⟩ :: []))
(.seq (.reg (⟨(some 50), .load true 6 (.t 12), none⟩ :: ⟨(some 51), .load true 6 (.t 11), none⟩ :: ⟨(some 52), .eq true (.str0 [(0, 1, false), (1, 1, false), (2, 1, false), (3, 1, false), (4, 1, false), (5, 1, false)] [.str, .str, .int, .int, .int, .int]) (.t 50) (.t 51), none⟩ :: []))
(.cond (.t 52) (.seq (.reg (⟨(some 6), .mov (.c .nilp), none⟩ :: ⟨(some 7), .mov (.c (.int .i64 (.ofNat 2))), none⟩ :: []))
.ret) .skip))))))))
(.reg (⟨(some 53), .bin .add (.t 18) (.c (.int .i64 (.ofNat 1))), none⟩ :: ⟨(some 18), .mov (.t 53), none⟩ :: []))))))))
(.seq (.reg (⟨(some 54), .mov (.t 8), none⟩ :: ⟨(some 55), .nilchk (.t 54), none⟩ :: ⟨(some 56), .faddr 0 (.t 55), none⟩ :: ⟨(some 57), .load false 1 (.t 56), none⟩ :: ⟨(some 58), .mov (.t 2), none⟩ :: ⟨(some 59), .call 63 [(.t 57), (.t 58)], none⟩ :: []))
(.seq (.reg (⟨(some 60), .mov (.t 8), none⟩ :: ⟨(some 6), .mov (.t 60), none⟩ :: ⟨(some 7), .mov (.c (.int .i64 (.ofNat 0))), none⟩ :: []))
.ret))))))⟩
theorem c19_eq : compFn Try.prog 19 = some c19 := by kernel_rfl
/-- sodality/sodalityref16.May -/
noncomputable def c20 : FnI := ⟨61, [.tmp 6],
(.seq (.reg (⟨(some 6), .mov (.c (.bool false)), none⟩ :: []))
(.seq (.seq (.reg (⟨(some 9), .mov (.t 1), none⟩ :: ⟨(some 10), .len false (.t 9), none⟩ :: ⟨(some 11), .mov (.t 0), none⟩ :: ⟨(some 12), .call 26 [(.t 11)], none⟩ :: ⟨(some 13), .nilchk (.t 12), none⟩ :: ⟨(some 14), .faddr 0 (.t 13), none⟩ :: ⟨(some 15), .load false 1 (.t 14), none⟩ :: ⟨(some 16), .bin .gtr (.t 10) (.t 15), none⟩ :: []))
(.cond (.t 16) (.seq (.reg (⟨(some 6), .mov (.c (.bool false)), none⟩ :: []))
.ret) .skip))
(.seq (.seq (.reg (⟨(some 7), .mov (.c (.int .i64 (.ofNat 0))), none⟩ :: []))
(.block 0 (.loop (.seq (.seq (.reg (⟨(some 17), .mov (.t 7), none⟩ :: ⟨(some 18), .mov (.t 1), none⟩ :: ⟨(some 19), .len false (.t 18), none⟩ :: ⟨(some 20), .bin .lss (.t 17) (.t 19), none⟩ :: []))
(.cond (.t 20) .skip (.exit 0)))
(.seq (.block 1 (.seq (.reg (⟨(some 23), .mov (.t 1), none⟩ :: ⟨(some 24), .mov (.t 7), none⟩ :: ⟨(some 25), .idxS 6 (.t 23) (.t 24), none⟩ :: ⟨(some 26), .load true 6 (.t 25), none⟩ :: ⟨(some 8), .alloc [(.str []), (.str []), (.int .u64 (.ofNat 0)), (.int .u64 (.ofNat 0)), (.int .u64 (.ofNat 0)), (.int .u64 (.ofNat 0))], none⟩ :: ⟨none, .store 6 (.t 8) (.t 26), none⟩ :: []))
(.seq (.dreg (⟨⟨(some 27), .faddr 0 (.t 8), none⟩, .quiet, 0, 0⟩ :: ⟨⟨(some 28), .load false 1 (.t 27), none⟩, .load, 1, 1⟩ :: ⟨⟨(some 29), .faddr 1 (.t 8), none⟩, .quiet, 2, 0⟩ :: ⟨⟨(some 30), .load false 1 (.t 29), none⟩, .load, 3, 4⟩ :: ⟨⟨(some 31), .call 64 [(.t 28), (.t 30)], none⟩, .loud, 4, 15⟩ :: ⟨⟨(some 32), .bin .neq (.t 31) (.c (.int .i64 (.ofNat 0))), none⟩, .quiet, 5, 31⟩ :: ⟨⟨(some 33), .mov (.t 32), none⟩, .quiet, 6, 63⟩ :: ⟨⟨(some 34), .mov (.t 7), (some (33, false))⟩, .quiet, 7, 127⟩ :: ⟨⟨(some 35), .bin .gtr (.t 34) (.c (.int .i64 (.ofNat 0))), (some (33, false))⟩, .quiet, 8, 255⟩ :: ⟨⟨(some 36), .mov (.t 35), (some (33, false))⟩, .quiet, 9, 511⟩ :: ⟨⟨(some 37), .mov (.t 1), (some (36, true))⟩, .quiet, 10, 1023⟩ :: ⟨⟨(some 38), .mov (.t 7), (some (36, true))⟩, .quiet, 11, 1023⟩ :: ⟨⟨(some 39), .bin .sub (.t 38) (.c (.int .i64 (.ofNat 1))), (some (36, true))⟩, .quiet, 12, 3071⟩ :: ⟨⟨(some 40), .idxS 6 (.t 37) (.t 39), (some (36, true))⟩, .quiet, 13, 8191⟩ :: ⟨⟨(some 41), .faddr 0 (.t 40), (some (36, true))⟩, .quiet, 14, 16383⟩ :: ⟨⟨(some 42), .load false 1 (.t 41), (some (36, true))⟩, .load, 15, 32767⟩ :: ⟨⟨(some 43), .faddr 0 (.t 8), (some (36, true))⟩, .quiet, 16, 1023⟩ :: ⟨⟨(some 44), .load false 1 (.t 43), (some (36, true))⟩, .load, 17, 66559⟩ :: ⟨⟨(some 45), .bin .geq (.t 42) (.t 44), (some (36, true))⟩, .quiet, 18, 262143⟩ :: ⟨⟨(some 46), .pick (.t 36) (.t 45) (.c (.bool false)), (some (33, false))⟩, .quiet, 19, 524287⟩ :: ⟨⟨(some 47), .pick (.t 33) (.c (.bool true)) (.t 46), none⟩, .quiet, 20, 1048575⟩ :: ⟨⟨(some 48), .mov (.t 47), none⟩, .quiet, 21, 2097151⟩ :: ⟨⟨(some 49), .faddr 4 (.t 8), (some (48, false))⟩, .quiet, 22, 4194303⟩ :: ⟨⟨(some 50), .load false 1 (.t 49), (some (48, false))⟩, .load, 23, 8388607⟩ :: ⟨⟨(some 51), .faddr 5 (.t 8), (some (48, false))⟩, .quiet, 24, 4194303⟩ :: ⟨⟨(some 52), .load false 1 (.t 51), (some (48, false))⟩, .load, 25, 20971519⟩ :: ⟨⟨(some 53), .bin .gtr (.t 50) (.t 52), (some (48, false))⟩, .quiet, 26, 67108863⟩ :: ⟨⟨(some 54), .pick (.t 48) (.c (.bool true)) (.t 53), none⟩, .quiet, 27, 134217727⟩ :: ⟨⟨(some 55), .mov (.t 54), none⟩, .quiet, 28, 268435455⟩ :: ⟨⟨(some 56), .faddr 5 (.t 8), (some (55, false))⟩, .quiet, 29, 536870911⟩ :: ⟨⟨(some 57), .load false 1 (.t 56), (some (55, false))⟩, .load, 30, 1073741823⟩ :: ⟨⟨(some 58), .mov (.t 2), (some (55, false))⟩, .quiet, 31, 536870911⟩ :: ⟨⟨(some 59), .bin .gtr (.t 57) (.t 58), (some (55, false))⟩, .quiet, 32, 4294967295⟩ :: ⟨⟨(some 60), .pick (.t 55) (.c (.bool true)) (.t 59), none⟩, .quiet, 33, 8589934591⟩ :: []))
(.cond (.t 60) (.seq (.reg (⟨(some 6), .mov (.c (.bool false)), none⟩ :: []))
.ret) .skip))))
(.reg (⟨(some 21), .mov (.t 7), none⟩ :: ⟨(some 22), .bin .add (.t 21) (.c (.int .i64 (.ofNat 1))), none⟩ :: ⟨(some 7), .mov (.t 22), none⟩ :: [])))))))
(.seq (.reg (⟨(some 6), .mov (.c (.bool true)), none⟩ :: []))
.ret))))⟩
theorem c20_eq : compFn Try.prog 20 = some c20 := by kernel_rfl
/-- sodality/sodalitylaw16.works -/
noncomputable def c21 : FnI := ⟨23, [.tmp 0],
(.seq (.reg (⟨(some 0), .mov (.c (.bool false)), none⟩ :: []))
(.seq (.reg (⟨(some 5), .call 25 [(.c (.int .i64 (.ofNat 9)))], none⟩ :: ⟨(some 1), .mov (.t 5), none⟩ :: []))
(.seq (.reg (⟨(some 6), .mov (.t 1), none⟩ :: ⟨(some 7), .call 65 [(.t 6), (.c (.str [97])), (.c (.str [49])), (.c (.int .u64 (.ofNat 3)))], none⟩ :: ⟨(some 2), .mov (.t 7), none⟩ :: []))
(.seq (.reg (⟨(some 9), .mov (.t 1), none⟩ :: ⟨(some 10), .call 28 [(.t 9), (.c (.str [97]))], none⟩ :: ⟨(some 8), .mov (.t 10), none⟩ :: ⟨(some 11), .extract (.t 8) 0, none⟩ :: ⟨(some 12), .extract (.t 8) 1, none⟩ :: ⟨(some 3), .alloc [(.str []), (.str []), (.int .u64 (.ofNat 0)), (.int .u64 (.ofNat 0)), (.int .u64 (.ofNat 0)), (.int .u64 (.ofNat 0))], none⟩ :: ⟨none, .store 6 (.t 3) (.t 11), none⟩ :: ⟨(some 4), .mov (.t 12), none⟩ :: []))
(.seq (.reg (⟨(some 13), .mov (.t 2), none⟩ :: ⟨(some 14), .bin .eql (.t 13) (.c (.int .i64 (.ofNat 0))), none⟩ :: ⟨(some 15), .mov (.t 14), none⟩ :: ⟨(some 16), .mov (.t 4), (some (15, true))⟩ :: ⟨(some 17), .pick (.t 15) (.t 16) (.c (.bool false)), none⟩ :: ⟨(some 18), .mov (.t 17), none⟩ :: ⟨(some 19), .load true 6 (.t 3), (some (18, true))⟩ :: ⟨(some 20), .build [(.str []), (.str []), (.int .u64 (.ofNat 0)), (.int .u64 (.ofNat 0)), (.int .u64 (.ofNat 0)), (.int .u64 (.ofNat 0))] [(0, 1, (.c (.str [97]))), (1, 1, (.c (.str [49]))), (4, 1, (.c (.int .u64 (.ofNat 3)))), (5, 1, (.c (.int .u64 (.ofNat 3))))], (some (18, true))⟩ :: ⟨(some 21), .eq false (.str0 [(0, 1, false), (1, 1, false), (2, 1, false), (3, 1, false), (4, 1, false), (5, 1, false)] [.str, .str, .int, .int, .int, .int]) (.t 19) (.t 20), (some (18, true))⟩ :: ⟨(some 22), .pick (.t 18) (.t 21) (.c (.bool false)), none⟩ :: ⟨(some 0), .mov (.t 22), none⟩ :: []))
.ret)))))⟩
theorem c21_eq : compFn Try.prog 21 = some c21 := by kernel_rfl
/-- sodality/sodalityref16.Same -/
noncomputable def c22 : FnI := ⟨26, [.tmp 4],
(.seq (.reg (⟨(some 4), .mov (.c (.bool false)), none⟩ :: []))
(.seq (.seq (.reg (⟨(some 6), .mov (.t 0), none⟩ :: ⟨(some 7), .len false (.t 6), none⟩ :: ⟨(some 8), .mov (.t 1), none⟩ :: ⟨(some 9), .len false (.t 8), none⟩ :: ⟨(some 10), .bin .neq (.t 7) (.t 9), none⟩ :: []))
(.cond (.t 10) (.seq (.reg (⟨(some 4), .mov (.c (.bool false)), none⟩ :: []))
.ret) .skip))
(.seq (.seq (.reg (⟨(some 5), .mov (.c (.int .i64 (.ofNat 0))), none⟩ :: []))
(.block 0 (.loop (.seq (.seq (.reg (⟨(some 11), .mov (.t 5), none⟩ :: ⟨(some 12), .mov (.t 0), none⟩ :: ⟨(some 13), .len false (.t 12), none⟩ :: ⟨(some 14), .bin .lss (.t 11) (.t 13), none⟩ :: []))
(.cond (.t 14) .skip (.exit 0)))
(.seq (.block 1 (.seq (.dreg (⟨⟨(some 17), .mov (.t 0), none⟩, .quiet, 0, 0⟩ :: ⟨⟨(some 18), .mov (.t 5), none⟩, .quiet, 1, 0⟩ :: ⟨⟨(some 19), .idxS 6 (.t 17) (.t 18), none⟩, .quiet, 2, 3⟩ :: ⟨⟨(some 20), .load true 6 (.t 19), none⟩, .load, 3, 7⟩ :: ⟨⟨(some 21), .mov (.t 1), none⟩, .quiet, 4, 0⟩ :: ⟨⟨(some 22), .mov (.t 5), none⟩, .quiet, 5, 0⟩ :: ⟨⟨(some 23), .idxS 6 (.t 21) (.t 22), none⟩, .quiet, 6, 48⟩ :: ⟨⟨(some 24), .load true 6 (.t 23), none⟩, .load, 7, 112⟩ :: ⟨⟨(some 25), .eq true (.str0 [(0, 1, false), (1, 1, false), (2, 1, false), (3, 1, false), (4, 1, false), (5, 1, false)] [.str, .str, .int, .int, .int, .int]) (.t 20) (.t 24), none⟩, .quiet, 8, 255⟩ :: []))
(.cond (.t 25) (.seq (.reg (⟨(some 4), .mov (.c (.bool false)), none⟩ :: []))
.ret) .skip)))
(.reg (⟨(some 15), .mov (.t 5), none⟩ :: ⟨(some 16), .bin .add (.t 15) (.c (.int .i64 (.ofNat 1))), none⟩ :: ⟨(some 5), .mov (.t 16), none⟩ :: [])))))))
(.seq (.reg (⟨(some 4), .mov (.c (.bool true)), none⟩ :: []))
.ret))))⟩
theorem c22_eq : compFn Try.prog 22 = some c22 := by kernel_rfl
/-- (*sodality/kv.Kv).List -/
noncomputable def c23 : FnI := ⟨28, [.tmp 4],
(.seq (.reg (⟨(some 4), .mov (.c .nilsl), none⟩ :: []))
(.seq (.seq (.reg (⟨(some 8), .mov (.t 0), none⟩ :: ⟨(some 9), .call 66 [(.t 8)], none⟩ :: []))
(.cond (.t 9) (.seq (.reg (⟨(some 4), .mov (.c .nilsl), none⟩ :: []))
.ret) .skip))
(.seq (.reg (⟨(some 5), .mov (.c .nilsl), none⟩ :: []))
(.seq (.seq (.reg (⟨(some 10), .mov (.t 0), none⟩ :: ⟨(some 11), .nilchk (.t 10), none⟩ :: ⟨(some 12), .faddr 0 (.t 11), none⟩ :: ⟨(some 13), .load false 1 (.t 12), none⟩ :: ⟨(some 14), .mov (.t 1), none⟩ :: ⟨(some 15), .call 67 [(.t 13), (.t 14)], none⟩ :: ⟨(some 16), .len false (.t 15), none⟩ :: ⟨(some 17), .mov (.c (.int .i64 (.ofNat 0))), none⟩ :: []))
(.block 0 (.loop (.seq (.reg (⟨(some 18), .bin .lss (.t 17) (.t 16), none⟩ :: []))
(.seq (.cond (.t 18) .skip (.exit 0))
(.seq (.block 1 (.seq (.reg (⟨(some 19), .idxS 9 (.t 15) (.t 17), none⟩ :: ⟨(some 20), .load true 9 (.t 19), none⟩ :: ⟨(some 7), .alloc [(.str []), (.str []), (.str []), (.int .u64 (.ofNat 0)), (.int .u64 (.ofNat 0)), (.int .u64 (.ofNat 0)), (.int .u64 (.ofNat 0)), (.int .u64 (.ofNat 0)), (.int .u64 (.ofNat 0))], none⟩ :: ⟨none, .store 9 (.t 7) (.t 20), none⟩ :: []))
(.reg (⟨(some 21), .mov (.t 5), none⟩ :: ⟨(some 22), .load true 9 (.t 7), none⟩ :: ⟨(some 23), .call 68 [(.t 22)], none⟩ :: ⟨(some 24), .buildSl 6 1 [(.str []), (.str []), (.int .u64 (.ofNat 0)), (.int .u64 (.ofNat 0)), (.int .u64 (.ofNat 0)), (.int .u64 (.ofNat 0))] [(0, 6, (.t 23))], none⟩ :: ⟨(some 25), .append 6 64 (.t 21) (.t 24), none⟩ :: ⟨(some 5), .mov (.t 25), none⟩ :: []))))
(.reg (⟨(some 26), .bin .add (.t 17) (.c (.int .i64 (.ofNat 1))), none⟩ :: ⟨(some 17), .mov (.t 26), none⟩ :: []))))))))
(.seq (.reg (⟨(some 27), .mov (.t 5), none⟩ :: ⟨(some 4), .mov (.t 27), none⟩ :: []))
.ret)))))⟩
theorem c23_eq : compFn Try.prog 23 = some c23 := by kernel_rfl
/-- (*sodality/kv.Kv).Last -/
noncomputable def c24 : FnI := ⟨10, [.tmp 2],
(.seq (.reg (⟨(some 2), .mov (.c (.int .u64 (.ofNat 0))), none⟩ :: []))
(.seq (.seq (.reg (⟨(some 3), .mov (.t 0), none⟩ :: ⟨(some 4), .call 66 [(.t 3)], none⟩ :: []))
(.cond (.t 4) (.seq (.reg (⟨(some 2), .mov (.c (.int .u64 (.ofNat 0))), none⟩ :: []))
.ret) .skip))
(.seq (.reg (⟨(some 5), .mov (.t 0), none⟩ :: ⟨(some 6), .nilchk (.t 5), none⟩ :: ⟨(some 7), .faddr 0 (.t 6), none⟩ :: ⟨(some 8), .load false 1 (.t 7), none⟩ :: ⟨(some 9), .call 69 [(.t 8)], none⟩ :: ⟨(some 2), .mov (.t 9), none⟩ :: []))
.ret)))⟩
theorem c24_eq : compFn Try.prog 24 = some c24 := by kernel_rfl
/-- sodality/kv.New -/
noncomputable def c25 : FnI := ⟨7, [.tmp 2],
(.seq (.reg (⟨(some 2), .mov (.c .nilp), none⟩ :: []))
(.seq (.reg (⟨(some 3), .mov (.t 0), none⟩ :: ⟨(some 4), .call 70 [(.t 3)], none⟩ :: ⟨(some 5), .build [.nilp] [(0, 1, (.t 4))], none⟩ :: ⟨(some 6), .box (.t 5), none⟩ :: ⟨(some 2), .mov (.t 6), none⟩ :: []))
.ret))⟩
theorem c25_eq : compFn Try.prog 25 = some c25 := by kernel_rfl
/-- sodality/sodalityref16.New -/
noncomputable def c26 : FnI := ⟨10, [.tmp 2],
(.seq (.reg (⟨(some 2), .mov (.c .nilp), none⟩ :: []))
(.seq (.seq (.reg (⟨(some 3), .mov (.t 0), none⟩ :: ⟨(some 4), .bin .lss (.t 3) (.c (.int .i64 (.ofNat 1))), none⟩ :: []))
(.cond (.t 4) (.reg (⟨(some 0), .mov (.c (.int .i64 (.ofNat 1))), none⟩ :: [])) .skip))
(.seq (.seq (.reg (⟨(some 5), .mov (.t 0), none⟩ :: ⟨(some 6), .bin .gtr (.t 5) (.c (.int .i64 (.ofNat 64))), none⟩ :: []))
(.cond (.t 6) (.reg (⟨(some 0), .mov (.c (.int .i64 (.ofNat 64))), none⟩ :: [])) .skip))
(.seq (.reg (⟨(some 7), .mov (.t 0), none⟩ :: ⟨(some 8), .build [(.int .i64 (.ofNat 0)), .nilsl, (.int .u64 (.ofNat 0))] [(0, 1, (.t 7))], none⟩ :: ⟨(some 9), .box (.t 8), none⟩ :: ⟨(some 2), .mov (.t 9), none⟩ :: []))
.ret))))⟩
theorem c26_eq : compFn Try.prog 26 = some c26 := by kernel_rfl
/-- sodality/sodalitylaw16.step -/
noncomputable def c27 : FnI := ⟨195, [.tmp 6],
(.seq (.reg (⟨(some 5), .box (.t 2), none⟩ :: ⟨(some 6), .mov (.c (.bool false)), none⟩ :: []))
(.seq (.seq (.reg (⟨(some 8), .faddr 0 (.t 5), none⟩ :: ⟨(some 9), .load false 1 (.t 8), none⟩ :: []))
(.block 0 (.seq (.reg (⟨(some 11), .bin .eql (.t 9) (.c (.int .i64 (.ofNat 0))), none⟩ :: ⟨(some 10), .mov (.t 11), none⟩ :: []))
(.cond (.t 10) (.seq (.dreg (⟨⟨(some 12), .mov (.t 0), none⟩, .quiet, 0, 0⟩ :: ⟨⟨(some 13), .faddr 1 (.t 5), none⟩, .quiet, 1, 0⟩ :: ⟨⟨(some 14), .load false 1 (.t 13), none⟩, .load, 2, 2⟩ :: ⟨⟨(some 15), .faddr 2 (.t 5), none⟩, .quiet, 3, 0⟩ :: ⟨⟨(some 16), .load false 1 (.t 15), none⟩, .load, 4, 8⟩ :: ⟨⟨(some 17), .faddr 5 (.t 5), none⟩, .quiet, 5, 0⟩ :: ⟨⟨(some 18), .load false 1 (.t 17), none⟩, .load, 6, 32⟩ :: ⟨⟨(some 19), .call 65 [(.t 12), (.t 14), (.t 16), (.t 18)], none⟩, .loud, 7, 127⟩ :: ⟨⟨(some 20), .mov (.t 1), none⟩, .quiet, 8, 0⟩ :: ⟨⟨(some 21), .faddr 1 (.t 5), none⟩, .quiet, 9, 0⟩ :: ⟨⟨(some 22), .load false 1 (.t 21), none⟩, .load, 10, 512⟩ :: ⟨⟨(some 23), .faddr 2 (.t 5), none⟩, .quiet, 11, 0⟩ :: ⟨⟨(some 24), .load false 1 (.t 23), none⟩, .load, 12, 2048⟩ :: ⟨⟨(some 25), .faddr 5 (.t 5), none⟩, .quiet, 13, 0⟩ :: ⟨⟨(some 26), .load false 1 (.t 25), none⟩, .load, 14, 8192⟩ :: ⟨⟨(some 27), .call 71 [(.t 20), (.t 22), (.t 24), (.t 26)], none⟩, .loud, 15, 32767⟩ :: ⟨⟨(some 28), .bin .eql (.t 19) (.t 27), none⟩, .quiet, 16, 65535⟩ :: ⟨⟨(some 6), .mov (.t 28), none⟩, .quiet, 17, 131071⟩ :: []))
.ret) (.seq (.reg (⟨(some 30), .bin .eql (.t 9) (.c (.int .i64 (.ofNat 1))), none⟩ :: ⟨(some 29), .mov (.t 30), none⟩ :: []))
(.cond (.t 29) (.seq (.dreg (⟨⟨(some 31), .mov (.t 0), none⟩, .quiet, 0, 0⟩ :: ⟨⟨(some 32), .faddr 1 (.t 5), none⟩, .quiet, 1, 0⟩ :: ⟨⟨(some 33), .load false 1 (.t 32), none⟩, .load, 2, 2⟩ :: ⟨⟨(some 34), .faddr 2 (.t 5), none⟩, .quiet, 3, 0⟩ :: ⟨⟨(some 35), .load false 1 (.t 34), none⟩, .load, 4, 8⟩ :: ⟨⟨(some 36), .faddr 3 (.t 5), none⟩, .quiet, 5, 0⟩ :: ⟨⟨(some 37), .load false 1 (.t 36), none⟩, .load, 6, 32⟩ :: ⟨⟨(some 38), .faddr 5 (.t 5), none⟩, .quiet, 7, 0⟩ :: ⟨⟨(some 39), .load false 1 (.t 38), none⟩, .load, 8, 128⟩ :: ⟨⟨(some 40), .call 30 [(.t 31), (.t 33), (.t 35), (.t 37), (.t 39)], none⟩, .loud, 9, 511⟩ :: ⟨⟨(some 41), .mov (.t 1), none⟩, .quiet, 10, 0⟩ :: ⟨⟨(some 42), .faddr 1 (.t 5), none⟩, .quiet, 11, 0⟩ :: ⟨⟨(some 43), .load false 1 (.t 42), none⟩, .load, 12, 2048⟩ :: ⟨⟨(some 44), .faddr 2 (.t 5), none⟩, .quiet, 13, 0⟩ :: ⟨⟨(some 45), .load false 1 (.t 44), none⟩, .load, 14, 8192⟩ :: ⟨⟨(some 46), .faddr 3 (.t 5), none⟩, .quiet, 15, 0⟩ :: ⟨⟨(some 47), .load false 1 (.t 46), none⟩, .load, 16, 32768⟩ :: ⟨⟨(some 48), .faddr 5 (.t 5), none⟩, .quiet, 17, 0⟩ :: ⟨⟨(some 49), .load false 1 (.t 48), none⟩, .load, 18, 131072⟩ :: ⟨⟨(some 50), .call 72 [(.t 41), (.t 43), (.t 45), (.t 47), (.t 49)], none⟩, .loud, 19, 524287⟩ :: ⟨⟨(some 51), .bin .eql (.t 40) (.t 50), none⟩, .quiet, 20, 1048575⟩ :: ⟨⟨(some 6), .mov (.t 51), none⟩, .quiet, 21, 2097151⟩ :: []))
.ret) (.seq (.reg (⟨(some 53), .bin .eql (.t 9) (.c (.int .i64 (.ofNat 2))), none⟩ :: ⟨(some 52), .mov (.t 53), none⟩ :: []))
(.cond (.t 52) (.seq (.dreg (⟨⟨(some 54), .mov (.t 0), none⟩, .quiet, 0, 0⟩ :: ⟨⟨(some 55), .faddr 1 (.t 5), none⟩, .quiet, 1, 0⟩ :: ⟨⟨(some 56), .load false 1 (.t 55), none⟩, .load, 2, 2⟩ :: ⟨⟨(some 57), .faddr 5 (.t 5), none⟩, .quiet, 3, 0⟩ :: ⟨⟨(some 58), .load false 1 (.t 57), none⟩, .load, 4, 8⟩ :: ⟨⟨(some 59), .call 73 [(.t 54), (.t 56), (.t 58)], none⟩, .loud, 5, 31⟩ :: ⟨⟨(some 60), .mov (.t 1), none⟩, .quiet, 6, 0⟩ :: ⟨⟨(some 61), .faddr 1 (.t 5), none⟩, .quiet, 7, 0⟩ :: ⟨⟨(some 62), .load false 1 (.t 61), none⟩, .load, 8, 128⟩ :: ⟨⟨(some 63), .faddr 5 (.t 5), none⟩, .quiet, 9, 0⟩ :: ⟨⟨(some 64), .load false 1 (.t 63), none⟩, .load, 10, 512⟩ :: ⟨⟨(some 65), .call 74 [(.t 60), (.t 62), (.c (.bool false)), (.c (.int .u64 (.ofNat 0))), (.t 64)], none⟩, .loud, 11, 2047⟩ :: ⟨⟨(some 66), .bin .eql (.t 59) (.t 65), none⟩, .quiet, 12, 4095⟩ :: ⟨⟨(some 6), .mov (.t 66), none⟩, .quiet, 13, 8191⟩ :: []))
.ret) (.seq (.reg (⟨(some 68), .bin .eql (.t 9) (.c (.int .i64 (.ofNat 3))), none⟩ :: ⟨(some 67), .mov (.t 68), none⟩ :: []))
(.cond (.t 67) (.seq (.dreg (⟨⟨(some 69), .mov (.t 0), none⟩, .quiet, 0, 0⟩ :: ⟨⟨(some 70), .faddr 1 (.t 5), none⟩, .quiet, 1, 0⟩ :: ⟨⟨(some 71), .load false 1 (.t 70), none⟩, .load, 2, 2⟩ :: ⟨⟨(some 72), .faddr 3 (.t 5), none⟩, .quiet, 3, 0⟩ :: ⟨⟨(some 73), .load false 1 (.t 72), none⟩, .load, 4, 8⟩ :: ⟨⟨(some 74), .faddr 5 (.t 5), none⟩, .quiet, 5, 0⟩ :: ⟨⟨(some 75), .load false 1 (.t 74), none⟩, .load, 6, 32⟩ :: ⟨⟨(some 76), .call 75 [(.t 69), (.t 71), (.t 73), (.t 75)], none⟩, .loud, 7, 127⟩ :: ⟨⟨(some 77), .mov (.t 1), none⟩, .quiet, 8, 0⟩ :: ⟨⟨(some 78), .faddr 1 (.t 5), none⟩, .quiet, 9, 0⟩ :: ⟨⟨(some 79), .load false 1 (.t 78), none⟩, .load, 10, 512⟩ :: ⟨⟨(some 80), .faddr 3 (.t 5), none⟩, .quiet, 11, 0⟩ :: ⟨⟨(some 81), .load false 1 (.t 80), none⟩, .load, 12, 2048⟩ :: ⟨⟨(some 82), .faddr 5 (.t 5), none⟩, .quiet, 13, 0⟩ :: ⟨⟨(some 83), .load false 1 (.t 82), none⟩, .load, 14, 8192⟩ :: ⟨⟨(some 84), .call 74 [(.t 77), (.t 79), (.c (.bool true)), (.t 81), (.t 83)], none⟩, .loud, 15, 32767⟩ :: ⟨⟨(some 85), .bin .eql (.t 76) (.t 84), none⟩, .quiet, 16, 65535⟩ :: ⟨⟨(some 6), .mov (.t 85), none⟩, .quiet, 17, 131071⟩ :: []))
.ret) (.seq (.reg (⟨(some 87), .bin .eql (.t 9) (.c (.int .i64 (.ofNat 4))), none⟩ :: ⟨(some 86), .mov (.t 87), none⟩ :: []))
(.cond (.t 86) (.seq (.dreg (⟨⟨(some 88), .mov (.t 0), none⟩, .quiet, 0, 0⟩ :: ⟨⟨(some 89), .faddr 1 (.t 5), none⟩, .quiet, 1, 0⟩ :: ⟨⟨(some 90), .load false 1 (.t 89), none⟩, .load, 2, 2⟩ :: ⟨⟨(some 91), .faddr 2 (.t 5), none⟩, .quiet, 3, 0⟩ :: ⟨⟨(some 92), .load false 1 (.t 91), none⟩, .load, 4, 8⟩ :: ⟨⟨(some 93), .faddr 4 (.t 5), none⟩, .quiet, 5, 0⟩ :: ⟨⟨(some 94), .load false 1 (.t 93), none⟩, .load, 6, 32⟩ :: ⟨⟨(some 95), .faddr 5 (.t 5), none⟩, .quiet, 7, 0⟩ :: ⟨⟨(some 96), .load false 1 (.t 95), none⟩, .load, 8, 128⟩ :: ⟨⟨(some 97), .call 31 [(.t 88), (.t 90), (.t 92), (.t 94), (.t 96)], none⟩, .loud, 9, 511⟩ :: ⟨⟨(some 98), .mov (.t 1), none⟩, .quiet, 10, 0⟩ :: ⟨⟨(some 99), .faddr 1 (.t 5), none⟩, .quiet, 11, 0⟩ :: ⟨⟨(some 100), .load false 1 (.t 99), none⟩, .load, 12, 2048⟩ :: ⟨⟨(some 101), .faddr 2 (.t 5), none⟩, .quiet, 13, 0⟩ :: ⟨⟨(some 102), .load false 1 (.t 101), none⟩, .load, 14, 8192⟩ :: ⟨⟨(some 103), .faddr 4 (.t 5), none⟩, .quiet, 15, 0⟩ :: ⟨⟨(some 104), .load false 1 (.t 103), none⟩, .load, 16, 32768⟩ :: ⟨⟨(some 105), .faddr 5 (.t 5), none⟩, .quiet, 17, 0⟩ :: ⟨⟨(some 106), .load false 1 (.t 105), none⟩, .load, 18, 131072⟩ :: ⟨⟨(some 107), .call 32 [(.t 98), (.t 100), (.t 102), (.t 104), (.t 106)], none⟩, .loud, 19, 524287⟩ :: ⟨⟨(some 108), .bin .eql (.t 97) (.t 107), none⟩, .quiet, 20, 1048575⟩ :: ⟨⟨(some 6), .mov (.t 108), none⟩, .quiet, 21, 2097151⟩ :: []))
.ret) (.seq (.reg (⟨(some 110), .bin .eql (.t 9) (.c (.int .i64 (.ofNat 5))), none⟩ :: ⟨(some 109), .mov (.t 110), none⟩ :: []))
(.cond (.t 109) (.seq (.dreg (⟨⟨(some 111), .mov (.t 0), none⟩, .quiet, 0, 0⟩ :: ⟨⟨(some 112), .faddr 1 (.t 5), none⟩, .quiet, 1, 0⟩ :: ⟨⟨(some 113), .load false 1 (.t 112), none⟩, .load, 2, 2⟩ :: ⟨⟨(some 114), .faddr 2 (.t 5), none⟩, .quiet, 3, 0⟩ :: ⟨⟨(some 115), .load false 1 (.t 114), none⟩, .load, 4, 8⟩ :: ⟨⟨(some 116), .faddr 4 (.t 5), none⟩, .quiet, 5, 0⟩ :: ⟨⟨(some 117), .load false 1 (.t 116), none⟩, .load, 6, 32⟩ :: ⟨⟨(some 118), .faddr 5 (.t 5), none⟩, .quiet, 7, 0⟩ :: ⟨⟨(some 119), .load false 1 (.t 118), none⟩, .load, 8, 128⟩ :: ⟨⟨(some 120), .call 76 [(.t 111), (.t 113), (.t 115), (.t 117), (.t 119)], none⟩, .loud, 9, 511⟩ :: ⟨⟨(some 121), .mov (.t 1), none⟩, .quiet, 10, 0⟩ :: ⟨⟨(some 122), .faddr 1 (.t 5), none⟩, .quiet, 11, 0⟩ :: ⟨⟨(some 123), .load false 1 (.t 122), none⟩, .load, 12, 2048⟩ :: ⟨⟨(some 124), .faddr 2 (.t 5), none⟩, .quiet, 13, 0⟩ :: ⟨⟨(some 125), .load false 1 (.t 124), none⟩, .load, 14, 8192⟩ :: ⟨⟨(some 126), .faddr 4 (.t 5), none⟩, .quiet, 15, 0⟩ :: ⟨⟨(some 127), .load false 1 (.t 126), none⟩, .load, 16, 32768⟩ :: ⟨⟨(some 128), .faddr 5 (.t 5), none⟩, .quiet, 17, 0⟩ :: ⟨⟨(some 129), .load false 1 (.t 128), none⟩, .load, 18, 131072⟩ :: ⟨⟨(some 130), .call 77 [(.t 121), (.t 123), (.t 125), (.t 127), (.t 129)], none⟩, .loud, 19, 524287⟩ :: ⟨⟨(some 131), .bin .eql (.t 120) (.t 130), none⟩, .quiet, 20, 1048575⟩ :: ⟨⟨(some 6), .mov (.t 131), none⟩, .quiet, 21, 2097151⟩ :: []))
.ret) (.seq (.reg (⟨(some 133), .bin .eql (.t 9) (.c (.int .i64 (.ofNat 6))), none⟩ :: ⟨(some 132), .mov (.t 133), none⟩ :: []))
(.cond (.t 132) (.seq (.dreg (⟨⟨(some 134), .mov (.t 0), none⟩, .quiet, 0, 0⟩ :: ⟨⟨(some 135), .faddr 4 (.t 5), none⟩, .quiet, 1, 0⟩ :: ⟨⟨(some 136), .load false 1 (.t 135), none⟩, .load, 2, 2⟩ :: ⟨⟨(some 137), .faddr 5 (.t 5), none⟩, .quiet, 3, 0⟩ :: ⟨⟨(some 138), .load false 1 (.t 137), none⟩, .load, 4, 8⟩ :: ⟨⟨(some 139), .call 78 [(.t 134), (.t 136), (.t 138)], none⟩, .loud, 5, 31⟩ :: ⟨⟨(some 140), .mov (.t 1), none⟩, .quiet, 6, 0⟩ :: ⟨⟨(some 141), .faddr 4 (.t 5), none⟩, .quiet, 7, 0⟩ :: ⟨⟨(some 142), .load false 1 (.t 141), none⟩, .load, 8, 128⟩ :: ⟨⟨(some 143), .faddr 5 (.t 5), none⟩, .quiet, 9, 0⟩ :: ⟨⟨(some 144), .load false 1 (.t 143), none⟩, .load, 10, 512⟩ :: ⟨⟨(some 145), .call 79 [(.t 140), (.t 142), (.t 144)], none⟩, .loud, 11, 2047⟩ :: ⟨⟨(some 146), .call 56 [(.t 139), (.t 145)], none⟩, .loud, 12, 4095⟩ :: ⟨⟨(some 6), .mov (.t 146), none⟩, .quiet, 13, 8191⟩ :: []))
.ret) (.seq (.reg (⟨(some 148), .bin .eql (.t 9) (.c (.int .i64 (.ofNat 7))), none⟩ :: ⟨(some 147), .mov (.t 148), none⟩ :: []))
(.cond (.t 147) (.seq (.dreg (⟨⟨(some 149), .mov (.t 0), none⟩, .quiet, 0, 0⟩ :: ⟨⟨(some 150), .faddr 1 (.t 5), none⟩, .quiet, 1, 0⟩ :: ⟨⟨(some 151), .load false 1 (.t 150), none⟩, .load, 2, 2⟩ :: ⟨⟨(some 152), .call 23 [(.t 149), (.t 151)], none⟩, .loud, 3, 7⟩ :: ⟨⟨(some 153), .mov (.t 1), none⟩, .quiet, 4, 0⟩ :: ⟨⟨(some 154), .faddr 1 (.t 5), none⟩, .quiet, 5, 0⟩ :: ⟨⟨(some 155), .load false 1 (.t 154), none⟩, .load, 6, 32⟩ :: ⟨⟨(some 156), .call 80 [(.t 153), (.t 155)], none⟩, .loud, 7, 127⟩ :: ⟨⟨(some 157), .call 22 [(.t 152), (.t 156)], none⟩, .loud, 8, 255⟩ :: ⟨⟨(some 6), .mov (.t 157), none⟩, .quiet, 9, 511⟩ :: []))
.ret) (.seq (.reg (⟨(some 159), .bin .eql (.t 9) (.c (.int .i64 (.ofNat 8))), none⟩ :: ⟨(some 158), .mov (.t 159), none⟩ :: []))
(.cond (.t 158) (.seq (.reg (⟨(some 160), .mov (.t 0), none⟩ :: ⟨(some 161), .call 81 [(.t 160)], none⟩ :: ⟨(some 7), .mov (.t 161), none⟩ :: []))
(.seq (.seq (.dreg (⟨⟨(some 162), .mov (.t 7), none⟩, .quiet, 0, 0⟩ :: ⟨⟨(some 163), .call 23 [(.t 162), (.c (.str []))], none⟩, .loud, 1, 1⟩ :: ⟨⟨(some 164), .mov (.t 1), none⟩, .quiet, 2, 0⟩ :: ⟨⟨(some 165), .nilchk (.t 164), none⟩, .quiet, 3, 4⟩ :: ⟨⟨(some 166), .faddr 1 (.t 165), none⟩, .quiet, 4, 12⟩ :: ⟨⟨(some 167), .load false 1 (.t 166), none⟩, .load, 5, 28⟩ :: ⟨⟨(some 168), .call 22 [(.t 163), (.t 167)], none⟩, .loud, 6, 63⟩ :: ⟨⟨(some 169), .un .not (.t 168), none⟩, .quiet, 7, 127⟩ :: ⟨⟨(some 170), .mov (.t 169), none⟩, .quiet, 8, 255⟩ :: ⟨⟨(some 171), .mov (.t 7), (some (170, false))⟩, .quiet, 9, 511⟩ :: ⟨⟨(some 172), .call 24 [(.t 171)], (some (170, false))⟩, .loud, 10, 1023⟩ :: ⟨⟨(some 173), .mov (.t 1), (some (170, false))⟩, .quiet, 11, 511⟩ :: ⟨⟨(some 174), .nilchk (.t 173), (some (170, false))⟩, .quiet, 12, 2559⟩ :: ⟨⟨(some 175), .faddr 2 (.t 174), (some (170, false))⟩, .quiet, 13, 6655⟩ :: ⟨⟨(some 176), .load false 1 (.t 175), (some (170, false))⟩, .load, 14, 14847⟩ :: ⟨⟨(some 177), .bin .neq (.t 172) (.t 176), (some (170, false))⟩, .quiet, 15, 32767⟩ :: ⟨⟨(some 178), .pick (.t 170) (.c (.bool true)) (.t 177), none⟩, .quiet, 16, 65535⟩ :: []))
(.cond (.t 178) (.seq (.reg (⟨(some 6), .mov (.c (.bool false)), none⟩ :: []))
.ret) .skip))
(.seq (.reg (⟨(some 179), .mov (.t 7), none⟩ :: ⟨(some 180), .faddr 1 (.t 5), none⟩ :: ⟨(some 181), .load false 1 (.t 180), none⟩ :: ⟨(some 182), .faddr 5 (.t 5), none⟩ :: ⟨(some 183), .load false 1 (.t 182), none⟩ :: ⟨(some 184), .call 65 [(.t 179), (.t 181), (.c (.str [111, 116, 104, 101, 114])), (.t 183)], none⟩ :: []))
(.seq (.reg (⟨(some 185), .mov (.t 7), none⟩ :: ⟨(some 186), .faddr 4 (.t 5), none⟩ :: ⟨(some 187), .load false 1 (.t 186), none⟩ :: ⟨(some 188), .faddr 5 (.t 5), none⟩ :: ⟨(some 189), .load false 1 (.t 188), none⟩ :: ⟨(some 190), .call 78 [(.t 185), (.t 187), (.t 189)], none⟩ :: []))
(.reg (⟨(some 191), .mov (.t 7), none⟩ :: ⟨(some 192), .faddr 1 (.t 5), none⟩ :: ⟨(some 193), .load false 1 (.t 192), none⟩ :: ⟨(some 194), .call 73 [(.t 191), (.t 193), (.c (.int .u64 (.ofNat 18446744073709551615)))], none⟩ :: [])))))) .skip))))))))))))))))))))
(.seq (.reg (⟨(some 6), .mov (.c (.bool true)), none⟩ :: []))
.ret)))⟩
theorem c27_eq : compFn Try.prog 27 = some c27 := by kernel_rfl
/-- (*sodality/kv.Kv).Get -/
noncomputable def c28 : FnI := ⟨25, [.cell 4 true 6, .tmp 5],
(.seq (.reg (⟨(some 4), .alloc [(.str []), (.str []), (.int .u64 (.ofNat 0)), (.int .u64 (.ofNat 0)), (.int .u64 (.ofNat 0)), (.int .u64 (.ofNat 0))], none⟩ :: ⟨(some 5), .mov (.c (.bool false)), none⟩ :: []))
(.seq (.seq (.reg (⟨(some 8), .mov (.t 0), none⟩ :: ⟨(some 9), .call 66 [(.t 8)], none⟩ :: []))
(.cond (.t 9) (.seq (.reg (⟨(some 10), .build [(.str []), (.str []), (.int .u64 (.ofNat 0)), (.int .u64 (.ofNat 0)), (.int .u64 (.ofNat 0)), (.int .u64 (.ofNat 0))] [], none⟩ :: ⟨none, .store 6 (.t 4) (.t 10), none⟩ :: ⟨(some 5), .mov (.c (.bool false)), none⟩ :: []))
.ret) .skip))
(.seq (.reg (⟨(some 12), .mov (.t 0), none⟩ :: ⟨(some 13), .nilchk (.t 12), none⟩ :: ⟨(some 14), .faddr 0 (.t 13), none⟩ :: ⟨(some 15), .load false 1 (.t 14), none⟩ :: ⟨(some 16), .mov (.t 1), none⟩ :: ⟨(some 17), .call 82 [(.t 15), (.t 16)], none⟩ :: ⟨(some 11), .mov (.t 17), none⟩ :: ⟨(some 18), .extract (.t 11) 0, none⟩ :: ⟨(some 19), .extract (.t 11) 1, none⟩ :: ⟨(some 6), .alloc [(.str []), (.str []), (.str []), (.int .u64 (.ofNat 0)), (.int .u64 (.ofNat 0)), (.int .u64 (.ofNat 0)), (.int .u64 (.ofNat 0)), (.int .u64 (.ofNat 0)), (.int .u64 (.ofNat 0))], none⟩ :: ⟨none, .store 9 (.t 6) (.t 18), none⟩ :: ⟨(some 7), .mov (.t 19), none⟩ :: []))
(.seq (.seq (.reg (⟨(some 20), .mov (.t 7), none⟩ :: ⟨(some 21), .un .not (.t 20), none⟩ :: []))
(.cond (.t 21) (.seq (.reg (⟨(some 22), .build [(.str []), (.str []), (.int .u64 (.ofNat 0)), (.int .u64 (.ofNat 0)), (.int .u64 (.ofNat 0)), (.int .u64 (.ofNat 0))] [], none⟩ :: ⟨none, .store 6 (.t 4) (.t 22), none⟩ :: ⟨(some 5), .mov (.c (.bool false)), none⟩ :: []))
.ret) .skip))
(.seq (.reg (⟨(some 23), .load true 9 (.t 6), none⟩ :: ⟨(some 24), .call 68 [(.t 23)], none⟩ :: ⟨none, .store 6 (.t 4) (.t 24), none⟩ :: ⟨(some 5), .mov (.c (.bool true)), none⟩ :: []))
.ret)))))⟩
theorem c28_eq : compFn Try.prog 28 = some c28 := by kernel_rfl
/-- (*sodality/sodalityref16.Kv).Get -/
noncomputable def c29 : FnI := ⟨34, [.cell 4 true 6, .tmp 5],
(.seq (.reg (⟨(some 4), .alloc [(.str []), (.str []), (.int .u64 (.ofNat 0)), (.int .u64 (.ofNat 0)), (.int .u64 (.ofNat 0)), (.int .u64 (.ofNat 0))], none⟩ :: ⟨(some 5), .mov (.c (.bool false)), none⟩ :: []))
(.seq (.seq (.reg (⟨(some 6), .mov (.c (.int .i64 (.ofNat 0))), none⟩ :: []))
(.block 0 (.loop (.seq (.seq (.reg (⟨(some 7), .mov (.t 6), none⟩ :: ⟨(some 8), .mov (.t 0), none⟩ :: ⟨(some 9), .nilchk (.t 8), none⟩ :: ⟨(some 10), .faddr 1 (.t 9), none⟩ :: ⟨(some 11), .load false 1 (.t 10), none⟩ :: ⟨(some 12), .len false (.t 11), none⟩ :: ⟨(some 13), .bin .lss (.t 7) (.t 12), none⟩ :: []))
(.cond (.t 13) .skip (.exit 0)))
(.seq (.block 1 (.seq (.reg (⟨(some 16), .mov (.t 0), none⟩ :: ⟨(some 17), .nilchk (.t 16), none⟩ :: ⟨(some 18), .faddr 1 (.t 17), none⟩ :: ⟨(some 19), .load false 1 (.t 18), none⟩ :: ⟨(some 20), .mov (.t 6), none⟩ :: ⟨(some 21), .idxS 6 (.t 19) (.t 20), none⟩ :: ⟨(some 22), .faddr 0 (.t 21), none⟩ :: ⟨(some 23), .load false 1 (.t 22), none⟩ :: ⟨(some 24), .mov (.t 1), none⟩ :: ⟨(some 25), .bin .eql (.t 23) (.t 24), none⟩ :: []))
(.cond (.t 25) (.seq (.reg (⟨(some 26), .mov (.t 0), none⟩ :: ⟨(some 27), .nilchk (.t 26), none⟩ :: ⟨(some 28), .faddr 1 (.t 27), none⟩ :: ⟨(some 29), .load false 1 (.t 28), none⟩ :: ⟨(some 30), .mov (.t 6), none⟩ :: ⟨(some 31), .idxS 6 (.t 29) (.t 30), none⟩ :: ⟨(some 32), .load true 6 (.t 31), none⟩ :: ⟨none, .store 6 (.t 4) (.t 32), none⟩ :: ⟨(some 5), .mov (.c (.bool true)), none⟩ :: []))
.ret) .skip)))
(.reg (⟨(some 14), .mov (.t 6), none⟩ :: ⟨(some 15), .bin .add (.t 14) (.c (.int .i64 (.ofNat 1))), none⟩ :: ⟨(some 6), .mov (.t 15), none⟩ :: [])))))))
(.seq (.reg (⟨(some 33), .build [(.str []), (.str []), (.int .u64 (.ofNat 0)), (.int .u64 (.ofNat 0)), (.int .u64 (.ofNat 0)), (.int .u64 (.ofNat 0))] [], none⟩ :: ⟨none, .store 6 (.t 4) (.t 33), none⟩ :: ⟨(some 5), .mov (.c (.bool false)), none⟩ :: []))
.ret)))⟩
theorem c29_eq : compFn Try.prog 29 = some c29 := by kernel_rfl
/-- (*sodality/kv.Kv).Cas -/
noncomputable def c30 : FnI := ⟨23, [.tmp 10],
(.seq (.reg (⟨(some 10), .mov (.c (.int .i64 (.ofNat 0))), none⟩ :: []))
(.seq (.reg (⟨(some 11), .mov (.t 0), none⟩ :: ⟨(some 12), .mov (.t 1), none⟩ :: ⟨(some 13), .mov (.t 2), none⟩ :: ⟨(some 14), .call 84 [(.t 13)], none⟩ :: ⟨(some 15), .mov (.t 3), none⟩ :: ⟨(some 16), .call 85 [(.t 15)], none⟩ :: ⟨(some 17), .buildSl 1 2 [.nilfn, .nilfn] [(0, 1, (.t 14)), (1, 1, (.t 16))], none⟩ :: ⟨(some 18), .mov (.t 2), none⟩ :: ⟨(some 19), .call 86 [(.t 18)], none⟩ :: ⟨(some 20), .build [.nilsl, .nilfn] [(0, 1, (.t 17)), (1, 1, (.t 19))], none⟩ :: ⟨(some 21), .mov (.t 4), none⟩ :: ⟨(some 22), .call 83 [(.t 11), (.t 12), (.t 20), (.t 21)], none⟩ :: ⟨(some 10), .mov (.t 22), none⟩ :: []))
.ret))⟩
theorem c30_eq : compFn Try.prog 30 = some c30 := by kernel_rfl
/-- (*sodality/kv.Kv).Lock -/
noncomputable def c31 : FnI := ⟨25, [.tmp 10],
(.seq (.reg (⟨(some 7), .box (.t 2), none⟩ :: ⟨(some 8), .box (.t 3), none⟩ :: ⟨(some 10), .mov (.c (.int .i64 (.ofNat 0))), none⟩ :: []))
(.seq (.reg (⟨(some 13), .mkfn 87 [] [(.t 8)], none⟩ :: ⟨(some 11), .mov (.t 13), none⟩ :: []))
(.seq (.reg (⟨(some 14), .mkfn 88 [] [(.t 8), (.t 7)], none⟩ :: ⟨(some 12), .mov (.t 14), none⟩ :: []))
(.seq (.reg (⟨(some 15), .mov (.t 0), none⟩ :: ⟨(some 16), .mov (.t 1), none⟩ :: ⟨(some 17), .load false 1 (.t 7), none⟩ :: ⟨(some 18), .call 84 [(.t 17)], none⟩ :: ⟨(some 19), .mov (.t 11), none⟩ :: ⟨(some 20), .buildSl 1 2 [.nilfn, .nilfn] [(0, 1, (.t 18)), (1, 1, (.t 19))], none⟩ :: ⟨(some 21), .mov (.t 12), none⟩ :: ⟨(some 22), .build [.nilsl, .nilfn] [(0, 1, (.t 20)), (1, 1, (.t 21))], none⟩ :: ⟨(some 23), .mov (.t 4), none⟩ :: ⟨(some 24), .call 83 [(.t 15), (.t 16), (.t 22), (.t 23)], none⟩ :: ⟨(some 10), .mov (.t 24), none⟩ :: []))
.ret))))⟩
theorem c31_eq : compFn Try.prog 31 = some c31 := by kernel_rfl
/-- (*sodality/sodalityref16.Kv).Lock -/
noncomputable def c32 : FnI := ⟨54, [.tmp 10],
(.seq (.reg (⟨(some 10), .mov (.c (.int .i64 (.ofNat 0))), none⟩ :: []))
(.seq (.seq (.reg (⟨(some 14), .mov (.t 1), none⟩ :: ⟨(some 15), .mov (.t 2), none⟩ :: ⟨(some 16), .call 64 [(.t 14), (.t 15)], none⟩ :: ⟨(some 11), .mov (.t 16), none⟩ :: []))
(.seq (.reg (⟨(some 17), .mov (.t 11), none⟩ :: ⟨(some 18), .bin .neq (.t 17) (.c (.int .i64 (.ofNat 0))), none⟩ :: []))
(.cond (.t 18) (.seq (.reg (⟨(some 19), .mov (.t 11), none⟩ :: ⟨(some 10), .mov (.t 19), none⟩ :: []))
.ret) .skip)))
(.seq (.seq (.reg (⟨(some 20), .mov (.t 3), none⟩ :: ⟨(some 21), .bin .eql (.t 20) (.c (.int .u64 (.ofNat 0))), none⟩ :: []))
(.cond (.t 21) (.seq (.reg (⟨(some 10), .mov (.c (.int .i64 (.ofNat 2))), none⟩ :: []))
.ret) .skip))
(.seq (.reg (⟨(some 23), .mov (.t 0), none⟩ :: ⟨(some 24), .mov (.t 1), none⟩ :: ⟨(some 25), .call 29 [(.t 23), (.t 24)], none⟩ :: ⟨(some 22), .mov (.t 25), none⟩ :: ⟨(some 26), .extract (.t 22) 0, none⟩ :: ⟨(some 27), .extract (.t 22) 1, none⟩ :: ⟨(some 12), .alloc [(.str []), (.str []), (.int .u64 (.ofNat 0)), (.int .u64 (.ofNat 0)), (.int .u64 (.ofNat 0)), (.int .u64 (.ofNat 0))], none⟩ :: ⟨none, .store 6 (.t 12) (.t 26), none⟩ :: ⟨(some 13), .mov (.t 27), none⟩ :: []))
(.seq (.seq (.reg (⟨(some 28), .faddr 2 (.t 12), none⟩ :: ⟨(some 29), .load false 1 (.t 28), none⟩ :: ⟨(some 30), .bin .neq (.t 29) (.c (.int .u64 (.ofNat 0))), none⟩ :: ⟨(some 31), .mov (.t 30), none⟩ :: ⟨(some 32), .faddr 2 (.t 12), (some (31, true))⟩ :: ⟨(some 33), .load false 1 (.t 32), (some (31, true))⟩ :: ⟨(some 34), .mov (.t 3), (some (31, true))⟩ :: ⟨(some 35), .bin .neq (.t 33) (.t 34), (some (31, true))⟩ :: ⟨(some 36), .pick (.t 31) (.t 35) (.c (.bool false)), none⟩ :: []))
(.cond (.t 36) (.seq (.reg (⟨(some 10), .mov (.c (.int .i64 (.ofNat 22))), none⟩ :: []))
.ret) .skip))
(.seq (.seq (.reg (⟨(some 37), .faddr 2 (.t 12), none⟩ :: ⟨(some 38), .load false 1 (.t 37), none⟩ :: ⟨(some 39), .bin .eql (.t 38) (.c (.int .u64 (.ofNat 0))), none⟩ :: []))
(.cond (.t 39) (.reg (⟨(some 40), .faddr 3 (.t 12), none⟩ :: ⟨(some 41), .load false 1 (.t 40), none⟩ :: ⟨(some 42), .bin .add (.t 41) (.c (.int .u64 (.ofNat 1))), none⟩ :: ⟨(some 43), .faddr 3 (.t 12), none⟩ :: ⟨none, .store 1 (.t 43) (.t 42), none⟩ :: [])) .skip))
(.seq (.reg (⟨(some 44), .mov (.t 1), none⟩ :: ⟨(some 45), .faddr 0 (.t 12), none⟩ :: ⟨none, .store 1 (.t 45) (.t 44), none⟩ :: []))
(.seq (.reg (⟨(some 46), .mov (.t 2), none⟩ :: ⟨(some 47), .faddr 1 (.t 12), none⟩ :: ⟨none, .store 1 (.t 47) (.t 46), none⟩ :: []))
(.seq (.reg (⟨(some 48), .mov (.t 3), none⟩ :: ⟨(some 49), .faddr 2 (.t 12), none⟩ :: ⟨none, .store 1 (.t 49) (.t 48), none⟩ :: []))
(.seq (.reg (⟨(some 50), .mov (.t 0), none⟩ :: ⟨(some 51), .load true 6 (.t 12), none⟩ :: ⟨(some 52), .mov (.t 4), none⟩ :: ⟨(some 53), .call 89 [(.t 50), (.t 51), (.t 52)], none⟩ :: ⟨(some 10), .mov (.t 53), none⟩ :: []))
.ret))))))))))⟩
theorem c32_eq : compFn Try.prog 32 = some c32 := by kernel_rfl
/-- sodality/sodalityref01.Same -/
noncomputable def c56 : FnI := ⟨26, [.tmp 4],
(.seq (.reg (⟨(some 4), .mov (.c (.bool false)), none⟩ :: []))
(.seq (.seq (.reg (⟨(some 6), .mov (.t 0), none⟩ :: ⟨(some 7), .len false (.t 6), none⟩ :: ⟨(some 8), .mov (.t 1), none⟩ :: ⟨(some 9), .len false (.t 8), none⟩ :: ⟨(some 10), .bin .neq (.t 7) (.t 9), none⟩ :: []))
(.cond (.t 10) (.seq (.reg (⟨(some 4), .mov (.c (.bool false)), none⟩ :: []))
.ret) .skip))
(.seq (.seq (.reg (⟨(some 5), .mov (.c (.int .i64 (.ofNat 0))), none⟩ :: []))
(.block 0 (.loop (.seq (.seq (.reg (⟨(some 11), .mov (.t 5), none⟩ :: ⟨(some 12), .mov (.t 0), none⟩ :: ⟨(some 13), .len false (.t 12), none⟩ :: ⟨(some 14), .bin .lss (.t 11) (.t 13), none⟩ :: []))
(.cond (.t 14) .skip (.exit 0)))
(.seq (.block 1 (.seq (.dreg (⟨⟨(some 17), .mov (.t 0), none⟩, .quiet, 0, 0⟩ :: ⟨⟨(some 18), .mov (.t 5), none⟩, .quiet, 1, 0⟩ :: ⟨⟨(some 19), .idxS 1 (.t 17) (.t 18), none⟩, .quiet, 2, 3⟩ :: ⟨⟨(some 20), .load false 1 (.t 19), none⟩, .load, 3, 7⟩ :: ⟨⟨(some 21), .mov (.t 1), none⟩, .quiet, 4, 0⟩ :: ⟨⟨(some 22), .mov (.t 5), none⟩, .quiet, 5, 0⟩ :: ⟨⟨(some 23), .idxS 1 (.t 21) (.t 22), none⟩, .quiet, 6, 48⟩ :: ⟨⟨(some 24), .load false 1 (.t 23), none⟩, .load, 7, 112⟩ :: ⟨⟨(some 25), .bin .neq (.t 20) (.t 24), none⟩, .quiet, 8, 255⟩ :: []))
(.cond (.t 25) (.seq (.reg (⟨(some 4), .mov (.c (.bool false)), none⟩ :: []))
.ret) .skip)))
(.reg (⟨(some 15), .mov (.t 5), none⟩ :: ⟨(some 16), .bin .add (.t 15) (.c (.int .i64 (.ofNat 1))), none⟩ :: ⟨(some 5), .mov (.t 16), none⟩ :: [])))))))
(.seq (.reg (⟨(some 4), .mov (.c (.bool true)), none⟩ :: []))
.ret))))⟩
theorem c56_eq : compFn Try.prog 56 = some c56 := by kernel_rfl
/-- sodality/kv.fits -/
noncomputable def c61 : FnI := ⟨35, [.tmp 6],
(.seq (.reg (⟨(some 3), .box (.t 0), none⟩ :: ⟨(some 6), .mov (.c (.bool false)), none⟩ :: []))
(.seq (.reg (⟨(some 7), .faddr 0 (.t 3), none⟩ :: ⟨(some 8), .load false 1 (.t 7), none⟩ :: ⟨(some 9), .call 113 [(.t 8)], none⟩ :: ⟨(some 10), .mov (.t 9), none⟩ :: ⟨(some 11), .faddr 0 (.t 3), (some (10, true))⟩ :: ⟨(some 12), .load false 1 (.t 11), (some (10, true))⟩ :: ⟨(some 13), .mov (.t 1), (some (10, true))⟩ :: ⟨(some 14), .bin .gtr (.t 12) (.t 13), (some (10, true))⟩ :: ⟨(some 15), .pick (.t 10) (.t 14) (.c (.bool false)), none⟩ :: ⟨(some 16), .mov (.t 15), none⟩ :: ⟨(some 17), .faddr 1 (.t 3), (some (16, true))⟩ :: ⟨(some 18), .load false 1 (.t 17), (some (16, true))⟩ :: ⟨(some 19), .len true (.t 18), (some (16, true))⟩ :: ⟨(some 20), .bin .leq (.t 19) (.c (.int .i64 (.ofNat 64))), (some (16, true))⟩ :: ⟨(some 21), .pick (.t 16) (.t 20) (.c (.bool false)), none⟩ :: ⟨(some 22), .mov (.t 21), none⟩ :: ⟨(some 23), .faddr 4 (.t 3), (some (22, true))⟩ :: ⟨(some 24), .load false 1 (.t 23), (some (22, true))⟩ :: ⟨(some 25), .faddr 5 (.t 3), (some (22, true))⟩ :: ⟨(some 26), .load false 1 (.t 25), (some (22, true))⟩ :: ⟨(some 27), .bin .leq (.t 24) (.t 26), (some (22, true))⟩ :: ⟨(some 28), .pick (.t 22) (.t 27) (.c (.bool false)), none⟩ :: ⟨(some 29), .mov (.t 28), none⟩ :: ⟨(some 30), .faddr 5 (.t 3), (some (29, true))⟩ :: ⟨(some 31), .load false 1 (.t 30), (some (29, true))⟩ :: ⟨(some 32), .mov (.t 2), (some (29, true))⟩ :: ⟨(some 33), .bin .leq (.t 31) (.t 32), (some (29, true))⟩ :: ⟨(some 34), .pick (.t 29) (.t 33) (.c (.bool false)), none⟩ :: ⟨(some 6), .mov (.t 34), none⟩ :: []))
.ret))⟩
theorem c61_eq : compFn Try.prog 61 = some c61 := by kernel_rfl
/-- (*sodality/kv.Kv).put -/
noncomputable def c62 : FnI := ⟨27, [.tmp 6],
(.seq (.reg (⟨(some 4), .box (.t 1), none⟩ :: ⟨(some 6), .mov (.c (.int .i64 (.ofNat 0))), none⟩ :: []))
(.seq (.reg (⟨(some 10), .faddr 0 (.t 4), none⟩ :: ⟨(some 11), .load false 1 (.t 10), none⟩ :: ⟨(some 7), .mov (.t 11), none⟩ :: []))
(.seq (.reg (⟨(some 12), .faddr 0 (.t 4), none⟩ :: ⟨none, .store 1 (.t 12) (.c (.str [])), none⟩ :: ⟨(some 13), .faddr 4 (.t 4), none⟩ :: ⟨none, .store 1 (.t 13) (.c (.int .u64 (.ofNat 0))), none⟩ :: ⟨(some 14), .faddr 5 (.t 4), none⟩ :: ⟨none, .store 1 (.t 14) (.c (.int .u64 (.ofNat 0))), none⟩ :: []))
(.seq (.dreg (⟨⟨(some 16), .mov (.t 0), none⟩, .quiet, 0, 0⟩ :: ⟨⟨(some 17), .nilchk (.t 16), none⟩, .quiet, 1, 1⟩ :: ⟨⟨(some 18), .faddr 0 (.t 17), none⟩, .quiet, 2, 3⟩ :: ⟨⟨(some 19), .load false 1 (.t 18), none⟩, .load, 3, 7⟩ :: ⟨⟨(some 20), .mov (.t 7), none⟩, .quiet, 4, 0⟩ :: ⟨⟨(some 21), .load true 6 (.t 4), none⟩, .load, 5, 0⟩ :: ⟨⟨(some 22), .mov (.t 2), none⟩, .quiet, 6, 0⟩ :: ⟨⟨(some 23), .call 114 [(.t 19), (.t 20), (.t 21), (.t 22)], none⟩, .loud, 7, 127⟩ :: ⟨⟨(some 15), .mov (.t 23), none⟩, .quiet, 8, 255⟩ :: ⟨⟨(some 24), .extract (.t 15) 0, none⟩, .quiet, 9, 511⟩ :: ⟨⟨(some 8), .alloc [(.str []), (.str []), (.str []), (.int .u64 (.ofNat 0)), (.int .u64 (.ofNat 0)), (.int .u64 (.ofNat 0)), (.int .u64 (.ofNat 0)), (.int .u64 (.ofNat 0)), (.int .u64 (.ofNat 0))], none⟩, .quiet, 11, 0⟩ :: ⟨⟨none, .store 9 (.t 8) (.t 24), none⟩, .loud, 12, 3071⟩ :: ⟨⟨(some 25), .extract (.t 15) 1, none⟩, .quiet, 10, 511⟩ :: ⟨⟨(some 9), .mov (.t 25), none⟩, .quiet, 13, 8191⟩ :: []))
(.seq (.reg (⟨(some 26), .mov (.t 9), none⟩ :: ⟨(some 6), .mov (.t 26), none⟩ :: []))
.ret)))))⟩
theorem c62_eq : compFn Try.prog 62 = some c62 := by kernel_rfl
/-- (*sodality/table.Table[sodality/api.Entry]).Raise -/
noncomputable def c63 : FnI := ⟨16, [],
(.seq (.reg (⟨(some 4), .mov (.t 0), none⟩ :: ⟨(some 5), .call 115 [(.t 4)], none⟩ :: ⟨(some 6), .un .not (.t 5), none⟩ :: []))
(.cond (.t 6) (.reg (⟨(some 7), .mov (.t 0), none⟩ :: ⟨(some 8), .mov (.t 0), none⟩ :: ⟨(some 9), .nilchk (.t 8), none⟩ :: ⟨(some 10), .faddr 2 (.t 9), none⟩ :: ⟨(some 11), .load false 1 (.t 10), none⟩ :: ⟨(some 12), .mov (.t 1), none⟩ :: ⟨(some 13), .mm true (.t 11) [(.t 12)], none⟩ :: ⟨(some 14), .nilchk (.t 7), none⟩ :: ⟨(some 15), .faddr 2 (.t 14), none⟩ :: ⟨none, .store 1 (.t 15) (.t 13), none⟩ :: [])) .skip))⟩
theorem c63_eq : compFn Try.prog 63 = some c63 := by kernel_rfl
/-- sodality/sodalityref16.wrong -/
noncomputable def c64 : FnI := ⟨11, [.tmp 4],
(.seq (.reg (⟨(some 4), .mov (.c (.int .i64 (.ofNat 0))), none⟩ :: []))
(.seq (.seq (.reg (⟨(some 5), .mov (.t 0), none⟩ :: ⟨(some 6), .call 116 [(.t 5)], none⟩ :: ⟨(some 7), .un .not (.t 6), none⟩ :: []))
(.cond (.t 7) (.seq (.reg (⟨(some 4), .mov (.c (.int .i64 (.ofNat 10))), none⟩ :: []))
.ret) .skip))
(.seq (.seq (.reg (⟨(some 8), .mov (.t 1), none⟩ :: ⟨(some 9), .len true (.t 8), none⟩ :: ⟨(some 10), .bin .gtr (.t 9) (.c (.int .i64 (.ofNat 64))), none⟩ :: []))
(.cond (.t 10) (.seq (.reg (⟨(some 4), .mov (.c (.int .i64 (.ofNat 3))), none⟩ :: []))
.ret) .skip))
(.seq (.reg (⟨(some 4), .mov (.c (.int .i64 (.ofNat 0))), none⟩ :: []))
.ret))))⟩
theorem c64_eq : compFn Try.prog 64 = some c64 := by kernel_rfl
/-- (*sodality/kv.Kv).Set -/
noncomputable def c65 : FnI := ⟨19, [.tmp 8],
(.seq (.reg (⟨(some 8), .mov (.c (.int .i64 (.ofNat 0))), none⟩ :: []))
(.seq (.reg (⟨(some 9), .mov (.t 0), none⟩ :: ⟨(some 10), .mov (.t 1), none⟩ :: ⟨(some 11), .mov (.t 2), none⟩ :: ⟨(some 12), .call 84 [(.t 11)], none⟩ :: ⟨(some 13), .buildSl 1 1 [.nilfn] [(0, 1, (.t 12))], none⟩ :: ⟨(some 14), .mov (.t 2), none⟩ :: ⟨(some 15), .call 86 [(.t 14)], none⟩ :: ⟨(some 16), .build [.nilsl, .nilfn] [(0, 1, (.t 13)), (1, 1, (.t 15))], none⟩ :: ⟨(some 17), .mov (.t 3), none⟩ :: ⟨(some 18), .call 83 [(.t 9), (.t 10), (.t 16), (.t 17)], none⟩ :: ⟨(some 8), .mov (.t 18), none⟩ :: []))
.ret))⟩
theorem c65_eq : compFn Try.prog 65 = some c65 := by kernel_rfl
/-- (*sodality/kv.Kv).none -/
noncomputable def c66 : FnI := ⟨12, [.tmp 2],
(.seq (.reg (⟨(some 2), .mov (.c (.bool false)), none⟩ :: []))
(.seq (.reg (⟨(some 3), .mov (.t 0), none⟩ :: ⟨(some 4), .eq false .ptr (.t 3) (.c .nilp), none⟩ :: ⟨(some 5), .mov (.t 4), none⟩ :: ⟨(some 6), .mov (.t 0), (some (5, false))⟩ :: ⟨(some 7), .nilchk (.t 6), (some (5, false))⟩ :: ⟨(some 8), .faddr 0 (.t 7), (some (5, false))⟩ :: ⟨(some 9), .load false 1 (.t 8), (some (5, false))⟩ :: ⟨(some 10), .eq false .ptr (.t 9) (.c .nilp), (some (5, false))⟩ :: ⟨(some 11), .pick (.t 5) (.c (.bool true)) (.t 10), none⟩ :: ⟨(some 2), .mov (.t 11), none⟩ :: []))
.ret))⟩
theorem c66_eq : compFn Try.prog 66 = some c66 := by kernel_rfl
/-- (*sodality/table.Table[sodality/api.Entry]).Under -/
noncomputable def c67 : FnI := ⟨19, [.tmp 4],
(.seq (.reg (⟨(some 3), .box (.t 1), none⟩ :: ⟨(some 4), .mov (.c .nilsl), none⟩ :: []))
(.seq (.reg (⟨(some 5), .alloc [.nilsl], none⟩ :: []))
(.seq (.seq (.reg (⟨(some 7), .mov (.t 0), none⟩ :: ⟨(some 8), .call 117 [(.t 7)], none⟩ :: []))
(.block 0 (.rangef (.t 8) [9] (.reg (⟨(some 6), .alloc [(.str []), (.str []), (.str []), (.int .u64 (.ofNat 0)), (.int .u64 (.ofNat 0)), (.int .u64 (.ofNat 0)), (.int .u64 (.ofNat 0)), (.int .u64 (.ofNat 0)), (.int .u64 (.ofNat 0))], none⟩ :: ⟨none, .store 9 (.t 6) (.t 9), none⟩ :: [])) (.block 1 (.seq (.reg (⟨(some 10), .faddr 0 (.t 6), none⟩ :: ⟨(some 11), .load false 1 (.t 10), none⟩ :: ⟨(some 12), .load false 1 (.t 3), none⟩ :: ⟨(some 13), .call 118 [(.t 11), (.t 12)], none⟩ :: []))
(.cond (.t 13) (.reg (⟨(some 14), .load false 1 (.t 5), none⟩ :: ⟨(some 15), .load true 9 (.t 6), none⟩ :: ⟨(some 16), .buildSl 9 1 [(.str []), (.str []), (.str []), (.int .u64 (.ofNat 0)), (.int .u64 (.ofNat 0)), (.int .u64 (.ofNat 0)), (.int .u64 (.ofNat 0)), (.int .u64 (.ofNat 0)), (.int .u64 (.ofNat 0))] [(0, 9, (.t 15))], none⟩ :: ⟨(some 17), .append 9 96 (.t 14) (.t 16), none⟩ :: ⟨none, .store 1 (.t 5) (.t 17), none⟩ :: [])) .skip))))))
(.seq (.reg (⟨(some 18), .load false 1 (.t 5), none⟩ :: ⟨(some 4), .mov (.t 18), none⟩ :: []))
.ret))))⟩
theorem c67_eq : compFn Try.prog 67 = some c67 := by kernel_rfl
/-- sodality/kv.told -/
noncomputable def c68 : FnI := ⟨16, [.cell 2 true 6],
(.seq (.reg (⟨(some 1), .box (.t 0), none⟩ :: ⟨(some 2), .alloc [(.str []), (.str []), (.int .u64 (.ofNat 0)), (.int .u64 (.ofNat 0)), (.int .u64 (.ofNat 0)), (.int .u64 (.ofNat 0))], none⟩ :: []))
(.seq (.reg (⟨(some 4), .faddr 1 (.t 1), none⟩ :: ⟨(some 5), .load true 6 (.t 4), none⟩ :: ⟨(some 3), .alloc [(.str []), (.str []), (.int .u64 (.ofNat 0)), (.int .u64 (.ofNat 0)), (.int .u64 (.ofNat 0)), (.int .u64 (.ofNat 0))], none⟩ :: ⟨none, .store 6 (.t 3) (.t 5), none⟩ :: []))
(.seq (.dreg (⟨⟨(some 6), .faddr 0 (.t 1), none⟩, .quiet, 0, 0⟩ :: ⟨⟨(some 7), .load false 1 (.t 6), none⟩, .load, 1, 1⟩ :: ⟨⟨(some 12), .faddr 0 (.t 3), none⟩, .quiet, 6, 3⟩ :: ⟨⟨none, .store 1 (.t 12) (.t 7), none⟩, .loud, 7, 67⟩ :: ⟨⟨(some 8), .faddr 7 (.t 1), none⟩, .quiet, 2, 0⟩ :: ⟨⟨(some 9), .load false 1 (.t 8), none⟩, .load, 3, 4⟩ :: ⟨⟨(some 13), .faddr 4 (.t 3), none⟩, .quiet, 8, 207⟩ :: ⟨⟨none, .store 1 (.t 13) (.t 9), none⟩, .loud, 9, 463⟩ :: ⟨⟨(some 10), .faddr 8 (.t 1), none⟩, .quiet, 4, 0⟩ :: ⟨⟨(some 11), .load false 1 (.t 10), none⟩, .load, 5, 16⟩ :: ⟨⟨(some 14), .faddr 5 (.t 3), none⟩, .quiet, 10, 1023⟩ :: ⟨⟨none, .store 1 (.t 14) (.t 11), none⟩, .loud, 11, 2047⟩ :: []))
(.seq (.reg (⟨(some 15), .load true 6 (.t 3), none⟩ :: ⟨none, .store 6 (.t 2) (.t 15), none⟩ :: []))
.ret))))⟩
theorem c68_eq : compFn Try.prog 68 = some c68 := by kernel_rfl
/-- (*sodality/table.Table[sodality/api.Entry]).Last -/
noncomputable def c69 : FnI := ⟨9, [.tmp 2],
(.seq (.reg (⟨(some 2), .mov (.c (.int .u64 (.ofNat 0))), none⟩ :: []))
(.seq (.seq (.reg (⟨(some 3), .mov (.t 0), none⟩ :: ⟨(some 4), .call 115 [(.t 3)], none⟩ :: []))
(.cond (.t 4) (.seq (.reg (⟨(some 2), .mov (.c (.int .u64 (.ofNat 0))), none⟩ :: []))
.ret) .skip))
(.seq (.reg (⟨(some 5), .mov (.t 0), none⟩ :: ⟨(some 6), .nilchk (.t 5), none⟩ :: ⟨(some 7), .faddr 2 (.t 6), none⟩ :: ⟨(some 8), .load false 1 (.t 7), none⟩ :: ⟨(some 2), .mov (.t 8), none⟩ :: []))
.ret)))⟩
theorem c69_eq : compFn Try.prog 69 = some c69 := by kernel_rfl
/-- sodality/table.New[sodality/api.Entry] -/
noncomputable def c70 : FnI := ⟨8, [.tmp 2],
(.seq (.reg (⟨(some 2), .mov (.c .nilp), none⟩ :: []))
(.seq (.reg (⟨(some 3), .mov (.t 0), none⟩ :: ⟨(some 4), .mm true (.t 3) [(.c (.int .i64 (.ofNat 1)))], none⟩ :: ⟨(some 5), .mm false (.t 4) [(.c (.int .i64 (.ofNat 64)))], none⟩ :: ⟨(some 6), .build [(.int .i64 (.ofNat 0)), .nilsl, (.int .u64 (.ofNat 0))] [(0, 1, (.t 5))], none⟩ :: ⟨(some 7), .box (.t 6), none⟩ :: ⟨(some 2), .mov (.t 7), none⟩ :: []))
.ret))⟩
theorem c70_eq : compFn Try.prog 70 = some c70 := by kernel_rfl
/-- (*sodality/sodalityref16.Kv).Set -/
noncomputable def c71 : FnI := ⟨32, [.tmp 8],
(.seq (.reg (⟨(some 8), .mov (.c (.int .i64 (.ofNat 0))), none⟩ :: []))
(.seq (.seq (.reg (⟨(some 12), .mov (.t 1), none⟩ :: ⟨(some 13), .mov (.t 2), none⟩ :: ⟨(some 14), .call 64 [(.t 12), (.t 13)], none⟩ :: ⟨(some 9), .mov (.t 14), none⟩ :: []))
(.seq (.reg (⟨(some 15), .mov (.t 9), none⟩ :: ⟨(some 16), .bin .neq (.t 15) (.c (.int .i64 (.ofNat 0))), none⟩ :: []))
(.cond (.t 16) (.seq (.reg (⟨(some 17), .mov (.t 9), none⟩ :: ⟨(some 8), .mov (.t 17), none⟩ :: []))
.ret) .skip)))
(.seq (.reg (⟨(some 19), .mov (.t 0), none⟩ :: ⟨(some 20), .mov (.t 1), none⟩ :: ⟨(some 21), .call 29 [(.t 19), (.t 20)], none⟩ :: ⟨(some 18), .mov (.t 21), none⟩ :: ⟨(some 22), .extract (.t 18) 0, none⟩ :: ⟨(some 23), .extract (.t 18) 1, none⟩ :: ⟨(some 10), .alloc [(.str []), (.str []), (.int .u64 (.ofNat 0)), (.int .u64 (.ofNat 0)), (.int .u64 (.ofNat 0)), (.int .u64 (.ofNat 0))], none⟩ :: ⟨none, .store 6 (.t 10) (.t 22), none⟩ :: ⟨(some 11), .mov (.t 23), none⟩ :: []))
(.seq (.reg (⟨(some 24), .mov (.t 1), none⟩ :: ⟨(some 25), .faddr 0 (.t 10), none⟩ :: ⟨none, .store 1 (.t 25) (.t 24), none⟩ :: []))
(.seq (.reg (⟨(some 26), .mov (.t 2), none⟩ :: ⟨(some 27), .faddr 1 (.t 10), none⟩ :: ⟨none, .store 1 (.t 27) (.t 26), none⟩ :: []))
(.seq (.reg (⟨(some 28), .mov (.t 0), none⟩ :: ⟨(some 29), .load true 6 (.t 10), none⟩ :: ⟨(some 30), .mov (.t 3), none⟩ :: ⟨(some 31), .call 89 [(.t 28), (.t 29), (.t 30)], none⟩ :: ⟨(some 8), .mov (.t 31), none⟩ :: []))
.ret))))))⟩
theorem c71_eq : compFn Try.prog 71 = some c71 := by kernel_rfl
/-- (*sodality/sodalityref16.Kv).Cas -/
noncomputable def c72 : FnI := ⟨50, [.tmp 10],
(.seq (.reg (⟨(some 10), .mov (.c (.int .i64 (.ofNat 0))), none⟩ :: []))
(.seq (.seq (.reg (⟨(some 14), .mov (.t 1), none⟩ :: ⟨(some 15), .mov (.t 2), none⟩ :: ⟨(some 16), .call 64 [(.t 14), (.t 15)], none⟩ :: ⟨(some 11), .mov (.t 16), none⟩ :: []))
(.seq (.reg (⟨(some 17), .mov (.t 11), none⟩ :: ⟨(some 18), .bin .neq (.t 17) (.c (.int .i64 (.ofNat 0))), none⟩ :: []))
(.cond (.t 18) (.seq (.reg (⟨(some 19), .mov (.t 11), none⟩ :: ⟨(some 10), .mov (.t 19), none⟩ :: []))
.ret) .skip)))
(.seq (.reg (⟨(some 21), .mov (.t 0), none⟩ :: ⟨(some 22), .mov (.t 1), none⟩ :: ⟨(some 23), .call 29 [(.t 21), (.t 22)], none⟩ :: ⟨(some 20), .mov (.t 23), none⟩ :: ⟨(some 24), .extract (.t 20) 0, none⟩ :: ⟨(some 25), .extract (.t 20) 1, none⟩ :: ⟨(some 12), .alloc [(.str []), (.str []), (.int .u64 (.ofNat 0)), (.int .u64 (.ofNat 0)), (.int .u64 (.ofNat 0)), (.int .u64 (.ofNat 0))], none⟩ :: ⟨none, .store 6 (.t 12) (.t 24), none⟩ :: ⟨(some 13), .mov (.t 25), none⟩ :: []))
(.seq (.seq (.reg (⟨(some 26), .mov (.t 3), none⟩ :: ⟨(some 27), .bin .eql (.t 26) (.c (.int .u64 (.ofNat 0))), none⟩ :: ⟨(some 28), .mov (.t 27), none⟩ :: ⟨(some 29), .mov (.t 13), (some (28, true))⟩ :: ⟨(some 30), .pick (.t 28) (.t 29) (.c (.bool false)), none⟩ :: ⟨(some 31), .mov (.t 30), none⟩ :: ⟨(some 32), .mov (.t 3), (some (31, false))⟩ :: ⟨(some 33), .bin .neq (.t 32) (.c (.int .u64 (.ofNat 0))), (some (31, false))⟩ :: ⟨(some 34), .mov (.t 33), (some (31, false))⟩ :: ⟨(some 35), .mov (.t 13), (some (34, true))⟩ :: ⟨(some 36), .un .not (.t 35), (some (34, true))⟩ :: ⟨(some 37), .mov (.t 36), (some (34, true))⟩ :: ⟨(some 38), .faddr 5 (.t 12), (some (37, false))⟩ :: ⟨(some 39), .load false 1 (.t 38), (some (37, false))⟩ :: ⟨(some 40), .mov (.t 3), (some (37, false))⟩ :: ⟨(some 41), .bin .neq (.t 39) (.t 40), (some (37, false))⟩ :: ⟨(some 42), .pick (.t 37) (.c (.bool true)) (.t 41), (some (34, true))⟩ :: ⟨(some 43), .pick (.t 34) (.t 42) (.c (.bool false)), (some (31, false))⟩ :: ⟨(some 44), .pick (.t 31) (.c (.bool true)) (.t 43), none⟩ :: []))
(.cond (.t 44) (.seq (.reg (⟨(some 10), .mov (.c (.int .i64 (.ofNat 21))), none⟩ :: []))
.ret) .skip))
(.seq (.reg (⟨(some 45), .mov (.t 0), none⟩ :: ⟨(some 46), .mov (.t 1), none⟩ :: ⟨(some 47), .mov (.t 2), none⟩ :: ⟨(some 48), .mov (.t 4), none⟩ :: ⟨(some 49), .call 71 [(.t 45), (.t 46), (.t 47), (.t 48)], none⟩ :: ⟨(some 10), .mov (.t 49), none⟩ :: []))
.ret)))))⟩
theorem c72_eq : compFn Try.prog 72 = some c72 := by kernel_rfl
/-- (*sodality/kv.Kv).Del -/
noncomputable def c73 : FnI := ⟨13, [.tmp 6],
(.seq (.reg (⟨(some 6), .mov (.c (.int .i64 (.ofNat 0))), none⟩ :: []))
(.seq (.reg (⟨(some 7), .mov (.t 0), none⟩ :: ⟨(some 8), .mov (.t 1), none⟩ :: ⟨(some 9), .buildSl 1 1 [.nilfn] [(0, 1, (.c (.fn (.func 119) [] [])))], none⟩ :: ⟨(some 10), .build [.nilsl, .nilfn] [(0, 1, (.t 9))], none⟩ :: ⟨(some 11), .mov (.t 2), none⟩ :: ⟨(some 12), .call 83 [(.t 7), (.t 8), (.t 10), (.t 11)], none⟩ :: ⟨(some 6), .mov (.t 12), none⟩ :: []))
.ret))⟩
theorem c73_eq : compFn Try.prog 73 = some c73 := by kernel_rfl
/-- (*sodality/sodalityref16.Kv).Del -/
noncomputable def c74 : FnI := ⟨38, [.tmp 10],
(.seq (.reg (⟨(some 10), .mov (.c (.int .i64 (.ofNat 0))), none⟩ :: []))
(.seq (.seq (.reg (⟨(some 14), .mov (.t 1), none⟩ :: ⟨(some 15), .call 64 [(.t 14), (.c (.str []))], none⟩ :: ⟨(some 11), .mov (.t 15), none⟩ :: []))
(.seq (.reg (⟨(some 16), .mov (.t 11), none⟩ :: ⟨(some 17), .bin .neq (.t 16) (.c (.int .i64 (.ofNat 0))), none⟩ :: []))
(.cond (.t 17) (.seq (.reg (⟨(some 18), .mov (.t 11), none⟩ :: ⟨(some 10), .mov (.t 18), none⟩ :: []))
.ret) .skip)))
(.seq (.reg (⟨(some 20), .mov (.t 0), none⟩ :: ⟨(some 21), .mov (.t 1), none⟩ :: ⟨(some 22), .call 29 [(.t 20), (.t 21)], none⟩ :: ⟨(some 19), .mov (.t 22), none⟩ :: ⟨(some 23), .extract (.t 19) 0, none⟩ :: ⟨(some 24), .extract (.t 19) 1, none⟩ :: ⟨(some 12), .alloc [(.str []), (.str []), (.int .u64 (.ofNat 0)), (.int .u64 (.ofNat 0)), (.int .u64 (.ofNat 0)), (.int .u64 (.ofNat 0))], none⟩ :: ⟨none, .store 6 (.t 12) (.t 23), none⟩ :: ⟨(some 13), .mov (.t 24), none⟩ :: []))
(.seq (.seq (.reg (⟨(some 25), .mov (.t 13), none⟩ :: ⟨(some 26), .un .not (.t 25), none⟩ :: []))
(.cond (.t 26) (.seq (.reg (⟨(some 10), .mov (.c (.int .i64 (.ofNat 4))), none⟩ :: []))
.ret) .skip))
(.seq (.seq (.reg (⟨(some 27), .mov (.t 2), none⟩ :: ⟨(some 28), .mov (.t 27), none⟩ :: ⟨(some 29), .faddr 5 (.t 12), (some (28, true))⟩ :: ⟨(some 30), .load false 1 (.t 29), (some (28, true))⟩ :: ⟨(some 31), .mov (.t 3), (some (28, true))⟩ :: ⟨(some 32), .bin .neq (.t 30) (.t 31), (some (28, true))⟩ :: ⟨(some 33), .pick (.t 28) (.t 32) (.c (.bool false)), none⟩ :: []))
(.cond (.t 33) (.seq (.reg (⟨(some 10), .mov (.c (.int .i64 (.ofNat 21))), none⟩ :: []))
.ret) .skip))
(.seq (.reg (⟨(some 34), .mov (.t 0), none⟩ :: ⟨(some 35), .mov (.t 1), none⟩ :: ⟨(some 36), .mov (.t 4), none⟩ :: ⟨(some 37), .call 120 [(.t 34), (.t 35), (.t 36)], none⟩ :: []))
(.seq (.reg (⟨(some 10), .mov (.c (.int .i64 (.ofNat 0))), none⟩ :: []))
.ret)))))))⟩
theorem c74_eq : compFn Try.prog 74 = some c74 := by kernel_rfl
/-- (*sodality/kv.Kv).DelCas -/
noncomputable def c75 : FnI := ⟨18, [.tmp 8],
(.seq (.reg (⟨(some 6), .box (.t 2), none⟩ :: ⟨(some 8), .mov (.c (.int .i64 (.ofNat 0))), none⟩ :: []))
(.seq (.reg (⟨(some 10), .mkfn 121 [] [(.t 6)], none⟩ :: ⟨(some 9), .mov (.t 10), none⟩ :: []))
(.seq (.reg (⟨(some 11), .mov (.t 0), none⟩ :: ⟨(some 12), .mov (.t 1), none⟩ :: ⟨(some 13), .mov (.t 9), none⟩ :: ⟨(some 14), .buildSl 1 2 [.nilfn, .nilfn] [(0, 1, (.c (.fn (.func 119) [] []))), (1, 1, (.t 13))], none⟩ :: ⟨(some 15), .build [.nilsl, .nilfn] [(0, 1, (.t 14))], none⟩ :: ⟨(some 16), .mov (.t 3), none⟩ :: ⟨(some 17), .call 83 [(.t 11), (.t 12), (.t 15), (.t 16)], none⟩ :: ⟨(some 8), .mov (.t 17), none⟩ :: []))
.ret)))⟩
theorem c75_eq : compFn Try.prog 75 = some c75 := by kernel_rfl
/-- (*sodality/kv.Kv).Unlock -/
noncomputable def c76 : FnI := ⟨25, [.tmp 10],
(.seq (.reg (⟨(some 7), .box (.t 2), none⟩ :: ⟨(some 8), .box (.t 3), none⟩ :: ⟨(some 10), .mov (.c (.int .i64 (.ofNat 0))), none⟩ :: []))
(.seq (.reg (⟨(some 13), .mkfn 122 [] [(.t 8)], none⟩ :: ⟨(some 11), .mov (.t 13), none⟩ :: []))
(.seq (.reg (⟨(some 14), .mkfn 123 [] [(.t 7)], none⟩ :: ⟨(some 12), .mov (.t 14), none⟩ :: []))
(.seq (.reg (⟨(some 15), .mov (.t 0), none⟩ :: ⟨(some 16), .mov (.t 1), none⟩ :: ⟨(some 17), .load false 1 (.t 7), none⟩ :: ⟨(some 18), .call 84 [(.t 17)], none⟩ :: ⟨(some 19), .mov (.t 11), none⟩ :: ⟨(some 20), .buildSl 1 3 [.nilfn, .nilfn, .nilfn] [(0, 1, (.t 18)), (1, 1, (.c (.fn (.func 119) [] []))), (2, 1, (.t 19))], none⟩ :: ⟨(some 21), .mov (.t 12), none⟩ :: ⟨(some 22), .build [.nilsl, .nilfn] [(0, 1, (.t 20)), (1, 1, (.t 21))], none⟩ :: ⟨(some 23), .mov (.t 4), none⟩ :: ⟨(some 24), .call 83 [(.t 15), (.t 16), (.t 22), (.t 23)], none⟩ :: ⟨(some 10), .mov (.t 24), none⟩ :: []))
.ret))))⟩
theorem c76_eq : compFn Try.prog 76 = some c76 := by kernel_rfl
/-- (*sodality/sodalityref16.Kv).Unlock -/
noncomputable def c77 : FnI := ⟨43, [.tmp 10],
(.seq (.reg (⟨(some 10), .mov (.c (.int .i64 (.ofNat 0))), none⟩ :: []))
(.seq (.seq (.reg (⟨(some 14), .mov (.t 1), none⟩ :: ⟨(some 15), .mov (.t 2), none⟩ :: ⟨(some 16), .call 64 [(.t 14), (.t 15)], none⟩ :: ⟨(some 11), .mov (.t 16), none⟩ :: []))
(.seq (.reg (⟨(some 17), .mov (.t 11), none⟩ :: ⟨(some 18), .bin .neq (.t 17) (.c (.int .i64 (.ofNat 0))), none⟩ :: []))
(.cond (.t 18) (.seq (.reg (⟨(some 19), .mov (.t 11), none⟩ :: ⟨(some 10), .mov (.t 19), none⟩ :: []))
.ret) .skip)))
(.seq (.reg (⟨(some 21), .mov (.t 0), none⟩ :: ⟨(some 22), .mov (.t 1), none⟩ :: ⟨(some 23), .call 29 [(.t 21), (.t 22)], none⟩ :: ⟨(some 20), .mov (.t 23), none⟩ :: ⟨(some 24), .extract (.t 20) 0, none⟩ :: ⟨(some 25), .extract (.t 20) 1, none⟩ :: ⟨(some 12), .alloc [(.str []), (.str []), (.int .u64 (.ofNat 0)), (.int .u64 (.ofNat 0)), (.int .u64 (.ofNat 0)), (.int .u64 (.ofNat 0))], none⟩ :: ⟨none, .store 6 (.t 12) (.t 24), none⟩ :: ⟨(some 13), .mov (.t 25), none⟩ :: []))
(.seq (.seq (.reg (⟨(some 26), .mov (.t 13), none⟩ :: ⟨(some 27), .un .not (.t 26), none⟩ :: []))
(.cond (.t 27) (.seq (.reg (⟨(some 10), .mov (.c (.int .i64 (.ofNat 4))), none⟩ :: []))
.ret) .skip))
(.seq (.seq (.reg (⟨(some 28), .mov (.t 3), none⟩ :: ⟨(some 29), .bin .eql (.t 28) (.c (.int .u64 (.ofNat 0))), none⟩ :: ⟨(some 30), .mov (.t 29), none⟩ :: ⟨(some 31), .faddr 2 (.t 12), (some (30, false))⟩ :: ⟨(some 32), .load false 1 (.t 31), (some (30, false))⟩ :: ⟨(some 33), .mov (.t 3), (some (30, false))⟩ :: ⟨(some 34), .bin .neq (.t 32) (.t 33), (some (30, false))⟩ :: ⟨(some 35), .pick (.t 30) (.c (.bool true)) (.t 34), none⟩ :: []))
(.cond (.t 35) (.seq (.reg (⟨(some 10), .mov (.c (.int .i64 (.ofNat 22))), none⟩ :: []))
.ret) .skip))
(.seq (.reg (⟨(some 36), .mov (.t 2), none⟩ :: ⟨(some 37), .faddr 1 (.t 12), none⟩ :: ⟨none, .store 1 (.t 37) (.t 36), none⟩ :: []))
(.seq (.reg (⟨(some 38), .faddr 2 (.t 12), none⟩ :: ⟨none, .store 1 (.t 38) (.c (.int .u64 (.ofNat 0))), none⟩ :: []))
(.seq (.reg (⟨(some 39), .mov (.t 0), none⟩ :: ⟨(some 40), .load true 6 (.t 12), none⟩ :: ⟨(some 41), .mov (.t 4), none⟩ :: ⟨(some 42), .call 89 [(.t 39), (.t 40), (.t 41)], none⟩ :: ⟨(some 10), .mov (.t 42), none⟩ :: []))
.ret))))))))⟩
theorem c77_eq : compFn Try.prog 77 = some c77 := by kernel_rfl
/-- (*sodality/kv.Kv).Free -/
noncomputable def c78 : FnI := ⟨39, [.tmp 6],
(.seq (.reg (⟨(some 6), .mov (.c .nilsl), none⟩ :: []))
(.seq (.seq (.reg (⟨(some 10), .mov (.t 0), none⟩ :: ⟨(some 11), .call 66 [(.t 10)], none⟩ :: ⟨(some 12), .mov (.t 11), none⟩ :: ⟨(some 13), .mov (.t 1), (some (12, false))⟩ :: ⟨(some 14), .bin .eql (.t 13) (.c (.int .u64 (.ofNat 0))), (some (12, false))⟩ :: ⟨(some 15), .pick (.t 12) (.c (.bool true)) (.t 14), none⟩ :: []))
(.cond (.t 15) (.seq (.reg (⟨(some 6), .mov (.c .nilsl), none⟩ :: []))
.ret) .skip))
(.seq (.reg (⟨(some 7), .mov (.c .nilsl), none⟩ :: []))
(.seq (.seq (.reg (⟨(some 16), .mov (.t 0), none⟩ :: ⟨(some 17), .call 23 [(.t 16), (.c (.str []))], none⟩ :: ⟨(some 18), .len false (.t 17), none⟩ :: ⟨(some 19), .mov (.c (.int .i64 (.ofNat 0))), none⟩ :: []))
(.block 0 (.loop (.seq (.reg (⟨(some 20), .bin .lss (.t 19) (.t 18), none⟩ :: []))
(.seq (.cond (.t 20) .skip (.exit 0))
(.seq (.block 1 (.seq (.reg (⟨(some 21), .idxS 6 (.t 17) (.t 19), none⟩ :: ⟨(some 22), .load true 6 (.t 21), none⟩ :: ⟨(some 9), .alloc [(.str []), (.str []), (.int .u64 (.ofNat 0)), (.int .u64 (.ofNat 0)), (.int .u64 (.ofNat 0)), (.int .u64 (.ofNat 0))], none⟩ :: ⟨none, .store 6 (.t 9) (.t 22), none⟩ :: []))
(.seq (.reg (⟨(some 23), .faddr 2 (.t 9), none⟩ :: ⟨(some 24), .load false 1 (.t 23), none⟩ :: ⟨(some 25), .mov (.t 1), none⟩ :: ⟨(some 26), .bin .eql (.t 24) (.t 25), none⟩ :: []))
(.cond (.t 26) (.seq (.reg (⟨(some 27), .faddr 2 (.t 9), none⟩ :: ⟨none, .store 1 (.t 27) (.c (.int .u64 (.ofNat 0))), none⟩ :: []))
(.seq (.reg (⟨(some 28), .mov (.t 0), none⟩ :: ⟨(some 29), .load true 6 (.t 9), none⟩ :: ⟨(some 30), .mov (.t 2), none⟩ :: ⟨(some 31), .call 62 [(.t 28), (.t 29), (.t 30)], none⟩ :: []))
(.reg (⟨(some 32), .mov (.t 7), none⟩ :: ⟨(some 33), .faddr 0 (.t 9), none⟩ :: ⟨(some 34), .load false 1 (.t 33), none⟩ :: ⟨(some 35), .buildSl 1 1 [(.str [])] [(0, 1, (.t 34))], none⟩ :: ⟨(some 36), .append 1 16 (.t 32) (.t 35), none⟩ :: ⟨(some 7), .mov (.t 36), none⟩ :: [])))) .skip))))
(.reg (⟨(some 37), .bin .add (.t 19) (.c (.int .i64 (.ofNat 1))), none⟩ :: ⟨(some 19), .mov (.t 37), none⟩ :: []))))))))
(.seq (.reg (⟨(some 38), .mov (.t 7), none⟩ :: ⟨(some 6), .mov (.t 38), none⟩ :: []))
.ret)))))⟩
theorem c78_eq : compFn Try.prog 78 = some c78 := by kernel_rfl
/-- (*sodality/sodalityref16.Kv).Free -/
noncomputable def c79 : FnI := ⟨67, [.tmp 6],
(.seq (.reg (⟨(some 6), .mov (.c .nilsl), none⟩ :: []))
(.seq (.reg (⟨(some 7), .mov (.c .nilsl), none⟩ :: []))
(.seq (.seq (.reg (⟨(some 8), .mov (.c (.int .i64 (.ofNat 0))), none⟩ :: []))
(.block 0 (.loop (.seq (.seq (.reg (⟨(some 12), .mov (.t 8), none⟩ :: ⟨(some 13), .mov (.t 0), none⟩ :: ⟨(some 14), .nilchk (.t 13), none⟩ :: ⟨(some 15), .faddr 1 (.t 14), none⟩ :: ⟨(some 16), .load false 1 (.t 15), none⟩ :: ⟨(some 17), .len false (.t 16), none⟩ :: ⟨(some 18), .bin .lss (.t 12) (.t 17), none⟩ :: []))
(.cond (.t 18) .skip (.exit 0)))
(.seq (.block 1 (.seq (.reg (⟨(some 21), .mov (.t 1), none⟩ :: ⟨(some 22), .bin .neq (.t 21) (.c (.int .u64 (.ofNat 0))), none⟩ :: ⟨(some 23), .mov (.t 22), none⟩ :: ⟨(some 24), .mov (.t 0), (some (23, true))⟩ :: ⟨(some 25), .nilchk (.t 24), (some (23, true))⟩ :: ⟨(some 26), .faddr 1 (.t 25), (some (23, true))⟩ :: ⟨(some 27), .load false 1 (.t 26), (some (23, true))⟩ :: ⟨(some 28), .mov (.t 8), (some (23, true))⟩ :: ⟨(some 29), .idxS 6 (.t 27) (.t 28), (some (23, true))⟩ :: ⟨(some 30), .faddr 2 (.t 29), (some (23, true))⟩ :: ⟨(some 31), .load false 1 (.t 30), (some (23, true))⟩ :: ⟨(some 32), .mov (.t 1), (some (23, true))⟩ :: ⟨(some 33), .bin .eql (.t 31) (.t 32), (some (23, true))⟩ :: ⟨(some 34), .pick (.t 23) (.t 33) (.c (.bool false)), none⟩ :: []))
(.cond (.t 34) (.reg (⟨(some 35), .mov (.t 7), none⟩ :: ⟨(some 36), .mov (.t 0), none⟩ :: ⟨(some 37), .nilchk (.t 36), none⟩ :: ⟨(some 38), .faddr 1 (.t 37), none⟩ :: ⟨(some 39), .load false 1 (.t 38), none⟩ :: ⟨(some 40), .mov (.t 8), none⟩ :: ⟨(some 41), .idxS 6 (.t 39) (.t 40), none⟩ :: ⟨(some 42), .faddr 0 (.t 41), none⟩ :: ⟨(some 43), .load false 1 (.t 42), none⟩ :: ⟨(some 44), .buildSl 1 1 [(.str [])] [(0, 1, (.t 43))], none⟩ :: ⟨(some 45), .append 1 16 (.t 35) (.t 44), none⟩ :: ⟨(some 7), .mov (.t 45), none⟩ :: [])) .skip)))
(.reg (⟨(some 19), .mov (.t 8), none⟩ :: ⟨(some 20), .bin .add (.t 19) (.c (.int .i64 (.ofNat 1))), none⟩ :: ⟨(some 8), .mov (.t 20), none⟩ :: [])))))))
(.seq (.seq (.reg (⟨(some 9), .mov (.c (.int .i64 (.ofNat 0))), none⟩ :: []))
(.block 2 (.loop (.seq (.seq (.reg (⟨(some 46), .mov (.t 9), none⟩ :: ⟨(some 47), .mov (.t 7), none⟩ :: ⟨(some 48), .len false (.t 47), none⟩ :: ⟨(some 49), .bin .lss (.t 46) (.t 48), none⟩ :: []))
(.cond (.t 49) .skip (.exit 2)))
(.seq (.block 3 (.seq (.reg (⟨(some 53), .mov (.t 0), none⟩ :: ⟨(some 54), .mov (.t 7), none⟩ :: ⟨(some 55), .mov (.t 9), none⟩ :: ⟨(some 56), .idxS 1 (.t 54) (.t 55), none⟩ :: ⟨(some 57), .load false 1 (.t 56), none⟩ :: ⟨(some 58), .call 29 [(.t 53), (.t 57)], none⟩ :: ⟨(some 52), .mov (.t 58), none⟩ :: ⟨(some 59), .extract (.t 52) 0, none⟩ :: ⟨(some 60), .extract (.t 52) 1, none⟩ :: ⟨(some 10), .alloc [(.str []), (.str []), (.int .u64 (.ofNat 0)), (.int .u64 (.ofNat 0)), (.int .u64 (.ofNat 0)), (.int .u64 (.ofNat 0))], none⟩ :: ⟨none, .store 6 (.t 10) (.t 59), none⟩ :: ⟨(some 11), .mov (.t 60), none⟩ :: []))
(.seq (.reg (⟨(some 61), .faddr 2 (.t 10), none⟩ :: ⟨none, .store 1 (.t 61) (.c (.int .u64 (.ofNat 0))), none⟩ :: []))
(.reg (⟨(some 62), .mov (.t 0), none⟩ :: ⟨(some 63), .load true 6 (.t 10), none⟩ :: ⟨(some 64), .mov (.t 2), none⟩ :: ⟨(some 65), .call 89 [(.t 62), (.t 63), (.t 64)], none⟩ :: [])))))
(.reg (⟨(some 50), .mov (.t 9), none⟩ :: ⟨(some 51), .bin .add (.t 50) (.c (.int .i64 (.ofNat 1))), none⟩ :: ⟨(some 9), .mov (.t 51), none⟩ :: [])))))))
(.seq (.reg (⟨(some 66), .mov (.t 7), none⟩ :: ⟨(some 6), .mov (.t 66), none⟩ :: []))
.ret)))))⟩
theorem c79_eq : compFn Try.prog 79 = some c79 := by kernel_rfl
/-- (*sodality/sodalityref16.Kv).List -/
noncomputable def c80 : FnI := ⟨37, [.tmp 4],
(.seq (.reg (⟨(some 4), .mov (.c .nilsl), none⟩ :: []))
(.seq (.reg (⟨(some 5), .mov (.c .nilsl), none⟩ :: []))
(.seq (.seq (.reg (⟨(some 6), .mov (.c (.int .i64 (.ofNat 0))), none⟩ :: []))
(.block 0 (.loop (.seq (.seq (.reg (⟨(some 7), .mov (.t 6), none⟩ :: ⟨(some 8), .mov (.t 0), none⟩ :: ⟨(some 9), .nilchk (.t 8), none⟩ :: ⟨(some 10), .faddr 1 (.t 9), none⟩ :: ⟨(some 11), .load false 1 (.t 10), none⟩ :: ⟨(some 12), .len false (.t 11), none⟩ :: ⟨(some 13), .bin .lss (.t 7) (.t 12), none⟩ :: []))
(.cond (.t 13) .skip (.exit 0)))
(.seq (.block 1 (.seq (.reg (⟨(some 16), .mov (.t 0), none⟩ :: ⟨(some 17), .nilchk (.t 16), none⟩ :: ⟨(some 18), .faddr 1 (.t 17), none⟩ :: ⟨(some 19), .load false 1 (.t 18), none⟩ :: ⟨(some 20), .mov (.t 6), none⟩ :: ⟨(some 21), .idxS 6 (.t 19) (.t 20), none⟩ :: ⟨(some 22), .faddr 0 (.t 21), none⟩ :: ⟨(some 23), .load false 1 (.t 22), none⟩ :: ⟨(some 24), .mov (.t 1), none⟩ :: ⟨(some 25), .call 124 [(.t 23), (.t 24)], none⟩ :: []))
(.cond (.t 25) (.reg (⟨(some 26), .mov (.t 5), none⟩ :: ⟨(some 27), .mov (.t 0), none⟩ :: ⟨(some 28), .nilchk (.t 27), none⟩ :: ⟨(some 29), .faddr 1 (.t 28), none⟩ :: ⟨(some 30), .load false 1 (.t 29), none⟩ :: ⟨(some 31), .mov (.t 6), none⟩ :: ⟨(some 32), .idxS 6 (.t 30) (.t 31), none⟩ :: ⟨(some 33), .load true 6 (.t 32), none⟩ :: ⟨(some 34), .buildSl 6 1 [(.str []), (.str []), (.int .u64 (.ofNat 0)), (.int .u64 (.ofNat 0)), (.int .u64 (.ofNat 0)), (.int .u64 (.ofNat 0))] [(0, 6, (.t 33))], none⟩ :: ⟨(some 35), .append 6 64 (.t 26) (.t 34), none⟩ :: ⟨(some 5), .mov (.t 35), none⟩ :: [])) .skip)))
(.reg (⟨(some 14), .mov (.t 6), none⟩ :: ⟨(some 15), .bin .add (.t 14) (.c (.int .i64 (.ofNat 1))), none⟩ :: ⟨(some 6), .mov (.t 15), none⟩ :: [])))))))
(.seq (.reg (⟨(some 36), .mov (.t 5), none⟩ :: ⟨(some 4), .mov (.t 36), none⟩ :: []))
.ret))))⟩
theorem c80_eq : compFn Try.prog 80 = some c80 := by kernel_rfl
/-- (*sodality/kv.Kv).Copy -/
noncomputable def c81 : FnI := ⟨12, [.tmp 2],
(.seq (.reg (⟨(some 2), .mov (.c .nilp), none⟩ :: []))
(.seq (.seq (.reg (⟨(some 3), .mov (.t 0), none⟩ :: ⟨(some 4), .call 66 [(.t 3)], none⟩ :: []))
(.cond (.t 4) (.seq (.reg (⟨(some 2), .mov (.c .nilp), none⟩ :: []))
.ret) .skip))
(.seq (.reg (⟨(some 5), .mov (.t 0), none⟩ :: ⟨(some 6), .nilchk (.t 5), none⟩ :: ⟨(some 7), .faddr 0 (.t 6), none⟩ :: ⟨(some 8), .load false 1 (.t 7), none⟩ :: ⟨(some 9), .call 125 [(.t 8)], none⟩ :: ⟨(some 10), .build [.nilp] [(0, 1, (.t 9))], none⟩ :: ⟨(some 11), .box (.t 10), none⟩ :: ⟨(some 2), .mov (.t 11), none⟩ :: []))
.ret)))⟩
theorem c81_eq : compFn Try.prog 81 = some c81 := by kernel_rfl
/-- (*sodality/table.Table[sodality/api.Entry]).Get -/
noncomputable def c82 : FnI := ⟨27, [.cell 4 true 9, .tmp 5],
(.seq (.reg (⟨(some 4), .alloc [(.str []), (.str []), (.str []), (.int .u64 (.ofNat 0)), (.int .u64 (.ofNat 0)), (.int .u64 (.ofNat 0)), (.int .u64 (.ofNat 0)), (.int .u64 (.ofNat 0)), (.int .u64 (.ofNat 0))], none⟩ :: ⟨(some 5), .mov (.c (.bool false)), none⟩ :: []))
(.seq (.seq (.reg (⟨(some 8), .mov (.t 0), none⟩ :: ⟨(some 9), .call 115 [(.t 8)], none⟩ :: []))
(.cond (.t 9) (.seq (.reg (⟨(some 10), .build [(.str []), (.str []), (.str []), (.int .u64 (.ofNat 0)), (.int .u64 (.ofNat 0)), (.int .u64 (.ofNat 0)), (.int .u64 (.ofNat 0)), (.int .u64 (.ofNat 0)), (.int .u64 (.ofNat 0))] [], none⟩ :: ⟨none, .store 9 (.t 4) (.t 10), none⟩ :: ⟨(some 5), .mov (.c (.bool false)), none⟩ :: []))
.ret) .skip))
(.seq (.reg (⟨(some 12), .mov (.t 0), none⟩ :: ⟨(some 13), .mov (.t 1), none⟩ :: ⟨(some 14), .call 126 [(.t 12), (.t 13)], none⟩ :: ⟨(some 11), .mov (.t 14), none⟩ :: ⟨(some 15), .extract (.t 11) 0, none⟩ :: ⟨(some 16), .extract (.t 11) 1, none⟩ :: ⟨(some 6), .mov (.t 15), none⟩ :: ⟨(some 7), .mov (.t 16), none⟩ :: []))
(.seq (.seq (.reg (⟨(some 17), .mov (.t 7), none⟩ :: ⟨(some 18), .un .not (.t 17), none⟩ :: []))
(.cond (.t 18) (.seq (.reg (⟨(some 19), .build [(.str []), (.str []), (.str []), (.int .u64 (.ofNat 0)), (.int .u64 (.ofNat 0)), (.int .u64 (.ofNat 0)), (.int .u64 (.ofNat 0)), (.int .u64 (.ofNat 0)), (.int .u64 (.ofNat 0))] [], none⟩ :: ⟨none, .store 9 (.t 4) (.t 19), none⟩ :: ⟨(some 5), .mov (.c (.bool false)), none⟩ :: []))
.ret) .skip))
(.seq (.reg (⟨(some 20), .mov (.t 0), none⟩ :: ⟨(some 21), .nilchk (.t 20), none⟩ :: ⟨(some 22), .faddr 1 (.t 21), none⟩ :: ⟨(some 23), .load false 1 (.t 22), none⟩ :: ⟨(some 24), .mov (.t 6), none⟩ :: ⟨(some 25), .idxS 9 (.t 23) (.t 24), none⟩ :: ⟨(some 26), .load true 9 (.t 25), none⟩ :: ⟨none, .store 9 (.t 4) (.t 26), none⟩ :: ⟨(some 5), .mov (.c (.bool true)), none⟩ :: []))
.ret)))))⟩
theorem c82_eq : compFn Try.prog 82 = some c82 := by kernel_rfl
/-- (*sodality/kv.Kv).apply -/
noncomputable def c83 : FnI := ⟨63, [.tmp 8],
(.seq (.reg (⟨(some 6), .box (.t 2), none⟩ :: ⟨(some 8), .mov (.c (.int .i64 (.ofNat 0))), none⟩ :: []))
(.scope (.seq (.seq (.reg (⟨(some 14), .mov (.t 0), none⟩ :: ⟨(some 15), .call 66 [(.t 14)], none⟩ :: []))
(.cond (.t 15) (.seq (.reg (⟨(some 8), .mov (.c (.int .i64 (.ofNat 1))), none⟩ :: []))
.ret) .skip))
(.seq (.seq (.reg (⟨(some 16), .mov (.t 1), none⟩ :: ⟨(some 17), .call 113 [(.t 16)], none⟩ :: ⟨(some 18), .un .not (.t 17), none⟩ :: []))
(.cond (.t 18) (.seq (.reg (⟨(some 8), .mov (.c (.int .i64 (.ofNat 10))), none⟩ :: []))
.ret) .skip))
(.seq (.reg (⟨(some 20), .mov (.t 0), none⟩ :: ⟨(some 21), .mov (.t 1), none⟩ :: ⟨(some 22), .call 28 [(.t 20), (.t 21)], none⟩ :: ⟨(some 19), .mov (.t 22), none⟩ :: ⟨(some 23), .extract (.t 19) 0, none⟩ :: ⟨(some 24), .extract (.t 19) 1, none⟩ :: ⟨(some 9), .alloc [(.str []), (.str []), (.int .u64 (.ofNat 0)), (.int .u64 (.ofNat 0)), (.int .u64 (.ofNat 0)), (.int .u64 (.ofNat 0))], none⟩ :: ⟨none, .store 6 (.t 9) (.t 23), none⟩ :: ⟨(some 10), .mov (.t 24), none⟩ :: []))
(.seq (.reg (⟨(some 11), .mov (.c (.int .i64 (.ofNat 0))), none⟩ :: []))
(.seq .skip
(.seq (.seq (.reg (⟨(some 25), .faddr 0 (.t 6), none⟩ :: ⟨(some 26), .load false 1 (.t 25), none⟩ :: ⟨(some 27), .len false (.t 26), none⟩ :: ⟨(some 28), .mov (.c (.int .i64 (.ofNat 0))), none⟩ :: []))
(.block 0 (.loop (.seq (.reg (⟨(some 29), .bin .lss (.t 28) (.t 27), none⟩ :: []))
(.seq (.cond (.t 29) .skip (.exit 0))
(.seq (.block 1 (.seq (.reg (⟨(some 30), .idxS 1 (.t 26) (.t 28), none⟩ :: ⟨(some 31), .load false 1 (.t 30), none⟩ :: ⟨(some 13), .mov (.t 31), none⟩ :: []))
(.seq (.reg (⟨(some 32), .mov (.t 13), none⟩ :: ⟨(some 33), .load true 6 (.t 9), none⟩ :: ⟨(some 34), .mov (.t 10), none⟩ :: ⟨(some 35), .callv (.t 32) [(.t 33), (.t 34)], none⟩ :: ⟨(some 11), .mov (.t 35), none⟩ :: []))
(.seq (.reg (⟨(some 36), .mov (.t 11), none⟩ :: ⟨(some 37), .bin .neq (.t 36) (.c (.int .i64 (.ofNat 0))), none⟩ :: []))
(.cond (.t 37) (.exit 0) .skip)))))
(.reg (⟨(some 38), .bin .add (.t 28) (.c (.int .i64 (.ofNat 1))), none⟩ :: ⟨(some 28), .mov (.t 38), none⟩ :: []))))))))
(.seq (.block 2 (.seq (.reg (⟨(some 40), .mov (.t 11), none⟩ :: ⟨(some 41), .bin .neq (.t 40) (.c (.int .i64 (.ofNat 0))), none⟩ :: ⟨(some 39), .mov (.t 41), none⟩ :: []))
(.cond (.t 39) (.seq (.reg (⟨(some 42), .mov (.t 11), none⟩ :: ⟨(some 8), .mov (.t 42), none⟩ :: []))
.ret) (.seq (.reg (⟨(some 44), .faddr 1 (.t 6), none⟩ :: ⟨(some 45), .load false 1 (.t 44), none⟩ :: ⟨(some 46), .eq false .fn (.t 45) (.c .nilfn), none⟩ :: ⟨(some 43), .mov (.t 46), none⟩ :: []))
(.cond (.t 43) (.seq (.reg (⟨(some 47), .mov (.t 0), none⟩ :: ⟨(some 48), .nilchk (.t 47), none⟩ :: ⟨(some 49), .faddr 0 (.t 48), none⟩ :: ⟨(some 50), .load false 1 (.t 49), none⟩ :: ⟨(some 51), .mov (.t 1), none⟩ :: ⟨(some 52), .mov (.t 3), none⟩ :: ⟨(some 53), .call 127 [(.t 50), (.t 51), (.t 52)], none⟩ :: []))
(.seq (.reg (⟨(some 8), .mov (.c (.int .i64 (.ofNat 0))), none⟩ :: []))
.ret)) .skip)))))
(.seq (.reg (⟨(some 54), .mov (.t 1), none⟩ :: ⟨(some 55), .faddr 0 (.t 9), none⟩ :: ⟨none, .store 1 (.t 55) (.t 54), none⟩ :: []))
(.seq (.reg (⟨(some 56), .faddr 1 (.t 6), none⟩ :: ⟨(some 57), .load false 1 (.t 56), none⟩ :: ⟨(some 58), .callv (.t 57) [(.t 9)], none⟩ :: []))
(.seq (.reg (⟨(some 59), .mov (.t 0), none⟩ :: ⟨(some 60), .load true 6 (.t 9), none⟩ :: ⟨(some 61), .mov (.t 3), none⟩ :: ⟨(some 62), .call 62 [(.t 59), (.t 60), (.t 61)], none⟩ :: ⟨(some 8), .mov (.t 62), none⟩ :: []))
.ret))))))))))))⟩
theorem c83_eq : compFn Try.prog 83 = some c83 := by kernel_rfl
/-- sodality/kv.short -/
noncomputable def c84 : FnI := ⟨4, [.tmp 2],
(.seq (.reg (⟨(some 1), .box (.t 0), none⟩ :: ⟨(some 2), .mov (.c .nilfn), none⟩ :: []))
(.seq (.reg (⟨(some 3), .mkfn 128 [] [(.t 1)], none⟩ :: ⟨(some 2), .mov (.t 3), none⟩ :: []))
.ret))⟩
theorem c84_eq : compFn Try.prog 84 = some c84 := by kernel_rfl
/-- sodality/kv.unturned -/
noncomputable def c85 : FnI := ⟨4, [.tmp 2],
(.seq (.reg (⟨(some 1), .box (.t 0), none⟩ :: ⟨(some 2), .mov (.c .nilfn), none⟩ :: []))
(.seq (.reg (⟨(some 3), .mkfn 129 [] [(.t 1)], none⟩ :: ⟨(some 2), .mov (.t 3), none⟩ :: []))
.ret))⟩
theorem c85_eq : compFn Try.prog 85 = some c85 := by kernel_rfl
/-- sodality/kv.value -/
noncomputable def c86 : FnI := ⟨4, [.tmp 2],
(.seq (.reg (⟨(some 1), .box (.t 0), none⟩ :: ⟨(some 2), .mov (.c .nilfn), none⟩ :: []))
(.seq (.reg (⟨(some 3), .mkfn 130 [] [(.t 1)], none⟩ :: ⟨(some 2), .mov (.t 3), none⟩ :: []))
.ret))⟩
theorem c86_eq : compFn Try.prog 86 = some c86 := by kernel_rfl
/-- (*sodality/kv.Kv).Lock$1 -/
noncomputable def c87 : FnI := ⟨19, [.tmp 5],
(.seq (.reg (⟨(some 3), .box (.t 0), none⟩ :: ⟨(some 5), .mov (.c (.int .i64 (.ofNat 0))), none⟩ :: []))
(.seq (.block 0 (.seq (.reg (⟨(some 7), .load false 1 (.t 2), none⟩ :: ⟨(some 8), .bin .eql (.t 7) (.c (.int .u64 (.ofNat 0))), none⟩ :: ⟨(some 6), .mov (.t 8), none⟩ :: []))
(.cond (.t 6) (.seq (.reg (⟨(some 5), .mov (.c (.int .i64 (.ofNat 2))), none⟩ :: []))
.ret) (.seq (.reg (⟨(some 10), .faddr 2 (.t 3), none⟩ :: ⟨(some 11), .load false 1 (.t 10), none⟩ :: ⟨(some 12), .bin .neq (.t 11) (.c (.int .u64 (.ofNat 0))), none⟩ :: ⟨(some 13), .mov (.t 12), none⟩ :: ⟨(some 14), .faddr 2 (.t 3), (some (13, true))⟩ :: ⟨(some 15), .load false 1 (.t 14), (some (13, true))⟩ :: ⟨(some 16), .load false 1 (.t 2), (some (13, true))⟩ :: ⟨(some 17), .bin .neq (.t 15) (.t 16), (some (13, true))⟩ :: ⟨(some 18), .pick (.t 13) (.t 17) (.c (.bool false)), none⟩ :: ⟨(some 9), .mov (.t 18), none⟩ :: []))
(.cond (.t 9) (.seq (.reg (⟨(some 5), .mov (.c (.int .i64 (.ofNat 22))), none⟩ :: []))
.ret) .skip)))))
(.seq (.reg (⟨(some 5), .mov (.c (.int .i64 (.ofNat 0))), none⟩ :: []))
.ret)))⟩
theorem c87_eq : compFn Try.prog 87 = some c87 := by kernel_rfl
/-- (*sodality/kv.Kv).Lock$2 -/
noncomputable def c88 : FnI := ⟨25, [],
(.seq (.seq (.dreg (⟨⟨(some 4), .mov (.t 0), none⟩, .quiet, 0, 0⟩ :: ⟨⟨(some 5), .nilchk (.t 4), none⟩, .quiet, 1, 1⟩ :: ⟨⟨(some 6), .faddr 2 (.t 5), none⟩, .quiet, 2, 3⟩ :: ⟨⟨(some 7), .load false 1 (.t 6), none⟩, .load, 3, 7⟩ :: ⟨⟨(some 8), .load false 1 (.t 1), none⟩, .load, 4, 0⟩ :: ⟨⟨(some 9), .bin .neq (.t 7) (.t 8), none⟩, .quiet, 5, 31⟩ :: []))
(.cond (.t 9) (.reg (⟨(some 10), .mov (.t 0), none⟩ :: ⟨(some 11), .nilchk (.t 10), none⟩ :: ⟨(some 12), .faddr 3 (.t 11), none⟩ :: ⟨(some 13), .load false 1 (.t 12), none⟩ :: ⟨(some 14), .bin .add (.t 13) (.c (.int .u64 (.ofNat 1))), none⟩ :: ⟨(some 15), .nilchk (.t 10), none⟩ :: ⟨(some 16), .faddr 3 (.t 15), none⟩ :: ⟨none, .store 1 (.t 16) (.t 14), none⟩ :: [])) .skip))
(.dreg (⟨⟨(some 17), .mov (.t 0), none⟩, .quiet, 0, 0⟩ :: ⟨⟨(some 19), .load false 1 (.t 1), none⟩, .load, 2, 0⟩ :: ⟨⟨(some 21), .nilchk (.t 17), none⟩, .quiet, 4, 5⟩ :: ⟨⟨(some 22), .faddr 2 (.t 21), none⟩, .quiet, 5, 21⟩ :: ⟨⟨none, .store 1 (.t 22) (.t 19), none⟩, .loud, 6, 53⟩ :: ⟨⟨(some 18), .mov (.t 0), none⟩, .quiet, 1, 0⟩ :: ⟨⟨(some 20), .load false 1 (.t 2), none⟩, .load, 3, 0⟩ :: ⟨⟨(some 23), .nilchk (.t 18), none⟩, .quiet, 7, 127⟩ :: ⟨⟨(some 24), .faddr 1 (.t 23), none⟩, .quiet, 8, 255⟩ :: ⟨⟨none, .store 1 (.t 24) (.t 20), none⟩, .loud, 9, 511⟩ :: [])))⟩
theorem c88_eq : compFn Try.prog 88 = some c88 := by kernel_rfl
/-- (*sodality/sodalityref16.Kv).put -/
noncomputable def c89 : FnI := ⟨107, [.tmp 6],
(.seq (.reg (⟨(some 4), .box (.t 1), none⟩ :: ⟨(some 6), .mov (.c (.int .i64 (.ofNat 0))), none⟩ :: []))
(.seq (.reg (⟨(some 13), .mov (.t 0), none⟩ :: ⟨(some 14), .faddr 0 (.t 4), none⟩ :: ⟨(some 15), .load false 1 (.t 14), none⟩ :: ⟨(some 16), .call 29 [(.t 13), (.t 15)], none⟩ :: ⟨(some 12), .mov (.t 16), none⟩ :: ⟨(some 17), .extract (.t 12) 0, none⟩ :: ⟨(some 18), .extract (.t 12) 1, none⟩ :: ⟨(some 7), .alloc [(.str []), (.str []), (.int .u64 (.ofNat 0)), (.int .u64 (.ofNat 0)), (.int .u64 (.ofNat 0)), (.int .u64 (.ofNat 0))], none⟩ :: ⟨none, .store 6 (.t 7) (.t 17), none⟩ :: ⟨(some 8), .mov (.t 18), none⟩ :: []))
(.seq (.seq (.dreg (⟨⟨(some 19), .mov (.t 8), none⟩, .quiet, 0, 0⟩ :: ⟨⟨(some 20), .un .not (.t 19), none⟩, .quiet, 1, 1⟩ :: ⟨⟨(some 21), .mov (.t 20), none⟩, .quiet, 2, 3⟩ :: ⟨⟨(some 22), .mov (.t 0), (some (21, true))⟩, .quiet, 3, 7⟩ :: ⟨⟨(some 23), .nilchk (.t 22), (some (21, true))⟩, .quiet, 4, 15⟩ :: ⟨⟨(some 24), .faddr 1 (.t 23), (some (21, true))⟩, .quiet, 5, 31⟩ :: ⟨⟨(some 25), .load false 1 (.t 24), (some (21, true))⟩, .load, 6, 63⟩ :: ⟨⟨(some 26), .len false (.t 25), (some (21, true))⟩, .quiet, 7, 127⟩ :: ⟨⟨(some 27), .mov (.t 0), (some (21, true))⟩, .quiet, 8, 7⟩ :: ⟨⟨(some 28), .nilchk (.t 27), (some (21, true))⟩, .quiet, 9, 263⟩ :: ⟨⟨(some 29), .faddr 0 (.t 28), (some (21, true))⟩, .quiet, 10, 775⟩ :: ⟨⟨(some 30), .load false 1 (.t 29), (some (21, true))⟩, .load, 11, 1799⟩ :: ⟨⟨(some 31), .bin .geq (.t 26) (.t 30), (some (21, true))⟩, .quiet, 12, 4095⟩ :: ⟨⟨(some 32), .pick (.t 21) (.t 31) (.c (.bool false)), none⟩, .quiet, 13, 8191⟩ :: []))
(.cond (.t 32) (.seq (.reg (⟨(some 6), .mov (.c (.int .i64 (.ofNat 5))), none⟩ :: []))
.ret) .skip))
(.seq (.reg (⟨(some 33), .mov (.t 2), none⟩ :: ⟨(some 34), .faddr 4 (.t 4), none⟩ :: ⟨none, .store 1 (.t 34) (.t 33), none⟩ :: []))
(.seq (.seq (.reg (⟨(some 35), .mov (.t 8), none⟩ :: []))
(.cond (.t 35) (.reg (⟨(some 36), .faddr 4 (.t 7), none⟩ :: ⟨(some 37), .load false 1 (.t 36), none⟩ :: ⟨(some 38), .faddr 4 (.t 4), none⟩ :: ⟨none, .store 1 (.t 38) (.t 37), none⟩ :: [])) .skip))
(.seq (.reg (⟨(some 39), .mov (.t 2), none⟩ :: ⟨(some 40), .faddr 5 (.t 4), none⟩ :: ⟨none, .store 1 (.t 40) (.t 39), none⟩ :: []))
(.seq (.reg (⟨(some 9), .mov (.c .nilsl), none⟩ :: []))
(.seq (.reg (⟨(some 10), .mov (.c (.bool false)), none⟩ :: []))
(.seq (.seq (.reg (⟨(some 11), .mov (.c (.int .i64 (.ofNat 0))), none⟩ :: []))
(.block 0 (.loop (.seq (.seq (.reg (⟨(some 41), .mov (.t 11), none⟩ :: ⟨(some 42), .mov (.t 0), none⟩ :: ⟨(some 43), .nilchk (.t 42), none⟩ :: ⟨(some 44), .faddr 1 (.t 43), none⟩ :: ⟨(some 45), .load false 1 (.t 44), none⟩ :: ⟨(some 46), .len false (.t 45), none⟩ :: ⟨(some 47), .bin .lss (.t 41) (.t 46), none⟩ :: []))
(.cond (.t 47) .skip (.exit 0)))
(.seq (.block 1 (.seq (.seq (.dreg (⟨⟨(some 50), .mov (.t 0), none⟩, .quiet, 0, 0⟩ :: ⟨⟨(some 51), .nilchk (.t 50), none⟩, .quiet, 1, 1⟩ :: ⟨⟨(some 52), .faddr 1 (.t 51), none⟩, .quiet, 2, 3⟩ :: ⟨⟨(some 53), .load false 1 (.t 52), none⟩, .load, 3, 7⟩ :: ⟨⟨(some 54), .mov (.t 11), none⟩, .quiet, 4, 0⟩ :: ⟨⟨(some 55), .idxS 6 (.t 53) (.t 54), none⟩, .quiet, 5, 31⟩ :: ⟨⟨(some 56), .faddr 0 (.t 55), none⟩, .quiet, 6, 63⟩ :: ⟨⟨(some 57), .load false 1 (.t 56), none⟩, .load, 7, 127⟩ :: ⟨⟨(some 58), .faddr 0 (.t 4), none⟩, .quiet, 8, 0⟩ :: ⟨⟨(some 59), .load false 1 (.t 58), none⟩, .load, 9, 256⟩ :: ⟨⟨(some 60), .bin .eql (.t 57) (.t 59), none⟩, .quiet, 10, 1023⟩ :: []))
(.cond (.t 60) (.seq (.reg (⟨(some 61), .mov (.t 9), none⟩ :: ⟨(some 62), .load true 6 (.t 4), none⟩ :: ⟨(some 63), .buildSl 6 1 [(.str []), (.str []), (.int .u64 (.ofNat 0)), (.int .u64 (.ofNat 0)), (.int .u64 (.ofNat 0)), (.int .u64 (.ofNat 0))] [(0, 6, (.t 62))], none⟩ :: ⟨(some 64), .append 6 64 (.t 61) (.t 63), none⟩ :: ⟨(some 9), .mov (.t 64), none⟩ :: []))
(.seq (.reg (⟨(some 10), .mov (.c (.bool true)), none⟩ :: []))
(.exit 1))) .skip))
(.seq (.seq (.dreg (⟨⟨(some 65), .mov (.t 10), none⟩, .quiet, 0, 0⟩ :: ⟨⟨(some 66), .un .not (.t 65), none⟩, .quiet, 1, 1⟩ :: ⟨⟨(some 67), .mov (.t 66), none⟩, .quiet, 2, 3⟩ :: ⟨⟨(some 68), .mov (.t 0), (some (67, true))⟩, .quiet, 3, 7⟩ :: ⟨⟨(some 69), .nilchk (.t 68), (some (67, true))⟩, .quiet, 4, 15⟩ :: ⟨⟨(some 70), .faddr 1 (.t 69), (some (67, true))⟩, .quiet, 5, 31⟩ :: ⟨⟨(some 71), .load false 1 (.t 70), (some (67, true))⟩, .load, 6, 63⟩ :: ⟨⟨(some 72), .mov (.t 11), (some (67, true))⟩, .quiet, 7, 7⟩ :: ⟨⟨(some 73), .idxS 6 (.t 71) (.t 72), (some (67, true))⟩, .quiet, 8, 255⟩ :: ⟨⟨(some 74), .faddr 0 (.t 73), (some (67, true))⟩, .quiet, 9, 511⟩ :: ⟨⟨(some 75), .load false 1 (.t 74), (some (67, true))⟩, .load, 10, 1023⟩ :: ⟨⟨(some 76), .faddr 0 (.t 4), (some (67, true))⟩, .quiet, 11, 7⟩ :: ⟨⟨(some 77), .load false 1 (.t 76), (some (67, true))⟩, .load, 12, 2055⟩ :: ⟨⟨(some 78), .bin .gtr (.t 75) (.t 77), (some (67, true))⟩, .quiet, 13, 8191⟩ :: ⟨⟨(some 79), .pick (.t 67) (.t 78) (.c (.bool false)), none⟩, .quiet, 14, 16383⟩ :: []))
(.cond (.t 79) (.seq (.reg (⟨(some 80), .mov (.t 9), none⟩ :: ⟨(some 81), .load true 6 (.t 4), none⟩ :: ⟨(some 82), .buildSl 6 1 [(.str []), (.str []), (.int .u64 (.ofNat 0)), (.int .u64 (.ofNat 0)), (.int .u64 (.ofNat 0)), (.int .u64 (.ofNat 0))] [(0, 6, (.t 81))], none⟩ :: ⟨(some 83), .append 6 64 (.t 80) (.t 82), none⟩ :: ⟨(some 9), .mov (.t 83), none⟩ :: []))
(.reg (⟨(some 10), .mov (.c (.bool true)), none⟩ :: []))) .skip))
(.reg (⟨(some 84), .mov (.t 9), none⟩ :: ⟨(some 85), .mov (.t 0), none⟩ :: ⟨(some 86), .nilchk (.t 85), none⟩ :: ⟨(some 87), .faddr 1 (.t 86), none⟩ :: ⟨(some 88), .load false 1 (.t 87), none⟩ :: ⟨(some 89), .mov (.t 11), none⟩ :: ⟨(some 90), .idxS 6 (.t 88) (.t 89), none⟩ :: ⟨(some 91), .load true 6 (.t 90), none⟩ :: ⟨(some 92), .buildSl 6 1 [(.str []), (.str []), (.int .u64 (.ofNat 0)), (.int .u64 (.ofNat 0)), (.int .u64 (.ofNat 0)), (.int .u64 (.ofNat 0))] [(0, 6, (.t 91))], none⟩ :: ⟨(some 93), .append 6 64 (.t 84) (.t 92), none⟩ :: ⟨(some 9), .mov (.t 93), none⟩ :: [])))))
(.reg (⟨(some 48), .mov (.t 11), none⟩ :: ⟨(some 49), .bin .add (.t 48) (.c (.int .i64 (.ofNat 1))), none⟩ :: ⟨(some 11), .mov (.t 49), none⟩ :: [])))))))
(.seq (.seq (.reg (⟨(some 94), .mov (.t 10), none⟩ :: ⟨(some 95), .un .not (.t 94), none⟩ :: []))
(.cond (.t 95) (.reg (⟨(some 96), .mov (.t 9), none⟩ :: ⟨(some 97), .load true 6 (.t 4), none⟩ :: ⟨(some 98), .buildSl 6 1 [(.str []), (.str []), (.int .u64 (.ofNat 0)), (.int .u64 (.ofNat 0)), (.int .u64 (.ofNat 0)), (.int .u64 (.ofNat 0))] [(0, 6, (.t 97))], none⟩ :: ⟨(some 99), .append 6 64 (.t 96) (.t 98), none⟩ :: ⟨(some 9), .mov (.t 99), none⟩ :: [])) .skip))
(.seq (.reg (⟨(some 100), .mov (.t 0), none⟩ :: ⟨(some 101), .mov (.t 9), none⟩ :: ⟨(some 102), .nilchk (.t 100), none⟩ :: ⟨(some 103), .faddr 1 (.t 102), none⟩ :: ⟨none, .store 1 (.t 103) (.t 101), none⟩ :: []))
(.seq (.reg (⟨(some 104), .mov (.t 0), none⟩ :: ⟨(some 105), .mov (.t 2), none⟩ :: ⟨(some 106), .call 131 [(.t 104), (.t 105)], none⟩ :: []))
(.seq (.reg (⟨(some 6), .mov (.c (.int .i64 (.ofNat 0))), none⟩ :: []))
.ret)))))))))))))⟩
theorem c89_eq : compFn Try.prog 89 = some c89 := by kernel_rfl
/-- sodality/name.Key -/
noncomputable def c113 : FnI := ⟨32, [.tmp 2],
(.seq (.reg (⟨(some 2), .mov (.c (.bool false)), none⟩ :: []))
(.seq (.seq (.reg (⟨(some 6), .mov (.t 0), none⟩ :: ⟨(some 7), .len true (.t 6), none⟩ :: ⟨(some 8), .bin .lss (.t 7) (.c (.int .i64 (.ofNat 1))), none⟩ :: ⟨(some 9), .mov (.t 8), none⟩ :: ⟨(some 10), .mov (.t 0), (some (9, false))⟩ :: ⟨(some 11), .len true (.t 10), (some (9, false))⟩ :: ⟨(some 12), .bin .gtr (.t 11) (.c (.int .i64 (.ofNat 32))), (some (9, false))⟩ :: ⟨(some 13), .pick (.t 9) (.c (.bool true)) (.t 12), none⟩ :: []))
(.cond (.t 13) (.seq (.reg (⟨(some 2), .mov (.c (.bool false)), none⟩ :: []))
.ret) .skip))
(.seq (.reg (⟨(some 14), .mov (.t 0), none⟩ :: ⟨(some 15), .build [(.str [])] [(0, 1, (.t 14))], none⟩ :: ⟨(some 16), .box (.t 15), none⟩ :: ⟨(some 17), .mkfn 141 [(.t 16)] [], none⟩ :: ⟨(some 3), .mov (.t 17), none⟩ :: []))
(.block 0 (.loop (.block 1 (.seq (.reg (⟨(some 19), .mov (.t 3), none⟩ :: ⟨(some 20), .callv (.t 19) [], none⟩ :: ⟨(some 18), .mov (.t 20), none⟩ :: ⟨(some 21), .extract (.t 18) 0, none⟩ :: ⟨(some 22), .extract (.t 18) 1, none⟩ :: ⟨(some 4), .mov (.t 21), none⟩ :: ⟨(some 5), .mov (.t 22), none⟩ :: []))
(.seq (.seq (.reg (⟨(some 23), .mov (.t 4), none⟩ :: ⟨(some 24), .bin .eql (.t 23) (.c (.str [])), none⟩ :: ⟨(some 25), .mov (.t 24), none⟩ :: ⟨(some 26), .mov (.t 4), (some (25, false))⟩ :: ⟨(some 27), .call 142 [(.t 26), (.c (.fn (.func 143) [] []))], (some (25, false))⟩ :: ⟨(some 28), .un .not (.t 27), (some (25, false))⟩ :: ⟨(some 29), .pick (.t 25) (.c (.bool true)) (.t 28), none⟩ :: []))
(.cond (.t 29) (.seq (.reg (⟨(some 2), .mov (.c (.bool false)), none⟩ :: []))
.ret) .skip))
(.seq (.reg (⟨(some 30), .mov (.t 5), none⟩ :: ⟨(some 31), .un .not (.t 30), none⟩ :: []))
(.cond (.t 31) (.seq (.reg (⟨(some 2), .mov (.c (.bool true)), none⟩ :: []))
.ret) .skip))))))))))⟩
theorem c113_eq : compFn Try.prog 113 = some c113 := by kernel_rfl
/-- (*sodality/table.Table[sodality/api.Entry]).Put -/
noncomputable def c114 : FnI := ⟨94, [.cell 8 true 9, .tmp 9],
(.seq (.reg (⟨(some 6), .box (.t 2), none⟩ :: ⟨(some 8), .alloc [(.str []), (.str []), (.str []), (.int .u64 (.ofNat 0)), (.int .u64 (.ofNat 0)), (.int .u64 (.ofNat 0)), (.int .u64 (.ofNat 0)), (.int .u64 (.ofNat 0)), (.int .u64 (.ofNat 0))], none⟩ :: ⟨(some 9), .mov (.c (.int .i64 (.ofNat 0))), none⟩ :: []))
(.seq (.seq (.reg (⟨(some 13), .mov (.t 0), none⟩ :: ⟨(some 14), .call 115 [(.t 13)], none⟩ :: []))
(.cond (.t 14) (.seq (.reg (⟨(some 15), .build [(.str []), (.str []), (.str []), (.int .u64 (.ofNat 0)), (.int .u64 (.ofNat 0)), (.int .u64 (.ofNat 0)), (.int .u64 (.ofNat 0)), (.int .u64 (.ofNat 0)), (.int .u64 (.ofNat 0))] [], none⟩ :: ⟨none, .store 9 (.t 8) (.t 15), none⟩ :: ⟨(some 9), .mov (.c (.int .i64 (.ofNat 1))), none⟩ :: []))
.ret) .skip))
(.seq (.reg (⟨(some 17), .mov (.t 0), none⟩ :: ⟨(some 18), .mov (.t 1), none⟩ :: ⟨(some 19), .call 126 [(.t 17), (.t 18)], none⟩ :: ⟨(some 16), .mov (.t 19), none⟩ :: ⟨(some 20), .extract (.t 16) 0, none⟩ :: ⟨(some 21), .extract (.t 16) 1, none⟩ :: ⟨(some 10), .mov (.t 20), none⟩ :: ⟨(some 11), .mov (.t 21), none⟩ :: []))
(.seq (.seq (.dreg (⟨⟨(some 22), .mov (.t 11), none⟩, .quiet, 0, 0⟩ :: ⟨⟨(some 23), .un .not (.t 22), none⟩, .quiet, 1, 1⟩ :: ⟨⟨(some 24), .mov (.t 23), none⟩, .quiet, 2, 3⟩ :: ⟨⟨(some 25), .mov (.t 0), (some (24, true))⟩, .quiet, 3, 7⟩ :: ⟨⟨(some 26), .nilchk (.t 25), (some (24, true))⟩, .quiet, 4, 15⟩ :: ⟨⟨(some 27), .faddr 1 (.t 26), (some (24, true))⟩, .quiet, 5, 31⟩ :: ⟨⟨(some 28), .load false 1 (.t 27), (some (24, true))⟩, .load, 6, 63⟩ :: ⟨⟨(some 29), .len false (.t 28), (some (24, true))⟩, .quiet, 7, 127⟩ :: ⟨⟨(some 30), .mov (.t 0), (some (24, true))⟩, .quiet, 8, 7⟩ :: ⟨⟨(some 31), .nilchk (.t 30), (some (24, true))⟩, .quiet, 9, 263⟩ :: ⟨⟨(some 32), .faddr 0 (.t 31), (some (24, true))⟩, .quiet, 10, 775⟩ :: ⟨⟨(some 33), .load false 1 (.t 32), (some (24, true))⟩, .load, 11, 1799⟩ :: ⟨⟨(some 34), .bin .geq (.t 29) (.t 33), (some (24, true))⟩, .quiet, 12, 4095⟩ :: ⟨⟨(some 35), .pick (.t 24) (.t 34) (.c (.bool false)), none⟩, .quiet, 13, 8191⟩ :: []))
(.cond (.t 35) (.seq (.reg (⟨(some 36), .build [(.str []), (.str []), (.str []), (.int .u64 (.ofNat 0)), (.int .u64 (.ofNat 0)), (.int .u64 (.ofNat 0)), (.int .u64 (.ofNat 0)), (.int .u64 (.ofNat 0)), (.int .u64 (.ofNat 0))] [], none⟩ :: ⟨none, .store 9 (.t 8) (.t 36), none⟩ :: ⟨(some 9), .mov (.c (.int .i64 (.ofNat 5))), none⟩ :: []))
.ret) .skip))
(.seq (.reg (⟨(some 37), .mov (.t 1), none⟩ :: ⟨(some 38), .load true 6 (.t 6), none⟩ :: ⟨(some 39), .mov (.t 3), none⟩ :: ⟨(some 40), .mov (.t 3), none⟩ :: ⟨(some 41), .build [(.str []), (.str []), (.str []), (.int .u64 (.ofNat 0)), (.int .u64 (.ofNat 0)), (.int .u64 (.ofNat 0)), (.int .u64 (.ofNat 0)), (.int .u64 (.ofNat 0)), (.int .u64 (.ofNat 0))] [(0, 1, (.t 37)), (1, 6, (.t 38)), (7, 1, (.t 39)), (8, 1, (.t 40))], none⟩ :: ⟨(some 12), .alloc [(.str []), (.str []), (.str []), (.int .u64 (.ofNat 0)), (.int .u64 (.ofNat 0)), (.int .u64 (.ofNat 0)), (.int .u64 (.ofNat 0)), (.int .u64 (.ofNat 0)), (.int .u64 (.ofNat 0))], none⟩ :: ⟨none, .store 9 (.t 12) (.t 41), none⟩ :: []))
(.seq (.seq (.reg (⟨(some 42), .mov (.t 11), none⟩ :: []))
(.cond (.t 42) (.seq (.reg (⟨(some 43), .mov (.t 0), none⟩ :: ⟨(some 44), .nilchk (.t 43), none⟩ :: ⟨(some 45), .faddr 1 (.t 44), none⟩ :: ⟨(some 46), .load false 1 (.t 45), none⟩ :: ⟨(some 47), .mov (.t 10), none⟩ :: ⟨(some 48), .idxS 9 (.t 46) (.t 47), none⟩ :: ⟨(some 49), .faddr 7 (.t 48), none⟩ :: ⟨(some 50), .load false 1 (.t 49), none⟩ :: ⟨(some 51), .faddr 7 (.t 12), none⟩ :: ⟨none, .store 1 (.t 51) (.t 50), none⟩ :: []))
(.dreg (⟨⟨(some 52), .mov (.t 0), none⟩, .quiet, 0, 0⟩ :: ⟨⟨(some 53), .nilchk (.t 52), none⟩, .quiet, 1, 1⟩ :: ⟨⟨(some 54), .faddr 1 (.t 53), none⟩, .quiet, 2, 3⟩ :: ⟨⟨(some 55), .load false 1 (.t 54), none⟩, .load, 3, 7⟩ :: ⟨⟨(some 56), .mov (.t 10), none⟩, .quiet, 4, 0⟩ :: ⟨⟨(some 57), .load true 9 (.t 12), none⟩, .load, 5, 0⟩ :: ⟨⟨(some 58), .idxS 9 (.t 55) (.t 56), none⟩, .quiet, 6, 63⟩ :: ⟨⟨none, .store 9 (.t 58) (.t 57), none⟩, .loud, 7, 127⟩ :: []))) (.seq (.reg (⟨(some 59), .mov (.t 0), none⟩ :: ⟨(some 60), .mov (.t 0), none⟩ :: ⟨(some 61), .nilchk (.t 60), none⟩ :: ⟨(some 62), .faddr 1 (.t 61), none⟩ :: ⟨(some 63), .load false 1 (.t 62), none⟩ :: ⟨(some 64), .build [(.str []), (.str []), (.str []), (.int .u64 (.ofNat 0)), (.int .u64 (.ofNat 0)), (.int .u64 (.ofNat 0)), (.int .u64 (.ofNat 0)), (.int .u64 (.ofNat 0)), (.int .u64 (.ofNat 0))] [], none⟩ :: ⟨(some 65), .buildSl 9 1 [(.str []), (.str []), (.str []), (.int .u64 (.ofNat 0)), (.int .u64 (.ofNat 0)), (.int .u64 (.ofNat 0)), (.int .u64 (.ofNat 0)), (.int .u64 (.ofNat 0)), (.int .u64 (.ofNat 0))] [(0, 9, (.t 64))], none⟩ :: ⟨(some 66), .append 9 96 (.t 63) (.t 65), none⟩ :: ⟨(some 67), .nilchk (.t 59), none⟩ :: ⟨(some 68), .faddr 1 (.t 67), none⟩ :: ⟨none, .store 1 (.t 68) (.t 66), none⟩ :: []))
(.seq (.dreg (⟨⟨(some 69), .mov (.t 0), none⟩, .quiet, 0, 0⟩ :: ⟨⟨(some 70), .nilchk (.t 69), none⟩, .quiet, 1, 1⟩ :: ⟨⟨(some 71), .faddr 1 (.t 70), none⟩, .quiet, 2, 3⟩ :: ⟨⟨(some 72), .load false 1 (.t 71), none⟩, .load, 3, 7⟩ :: ⟨⟨(some 73), .mov (.t 10), none⟩, .quiet, 4, 0⟩ :: ⟨⟨(some 74), .bin .add (.t 73) (.c (.int .i64 (.ofNat 1))), none⟩, .quiet, 5, 16⟩ :: ⟨⟨(some 75), .slS 9 (.t 72) (some (.t 74)) none none, none⟩, .quiet, 6, 63⟩ :: ⟨⟨(some 76), .mov (.t 0), none⟩, .quiet, 7, 0⟩ :: ⟨⟨(some 77), .nilchk (.t 76), none⟩, .quiet, 8, 128⟩ :: ⟨⟨(some 78), .faddr 1 (.t 77), none⟩, .quiet, 9, 384⟩ :: ⟨⟨(some 79), .load false 1 (.t 78), none⟩, .load, 10, 896⟩ :: ⟨⟨(some 80), .mov (.t 10), none⟩, .quiet, 11, 0⟩ :: ⟨⟨(some 81), .slS 9 (.t 79) (some (.t 80)) none none, none⟩, .quiet, 12, 3968⟩ :: ⟨⟨(some 82), .copy 9 (.t 75) (.t 81), none⟩, .loud, 13, 8191⟩ :: []))
(.dreg (⟨⟨(some 83), .mov (.t 0), none⟩, .quiet, 0, 0⟩ :: ⟨⟨(some 84), .nilchk (.t 83), none⟩, .quiet, 1, 1⟩ :: ⟨⟨(some 85), .faddr 1 (.t 84), none⟩, .quiet, 2, 3⟩ :: ⟨⟨(some 86), .load false 1 (.t 85), none⟩, .load, 3, 7⟩ :: ⟨⟨(some 87), .mov (.t 10), none⟩, .quiet, 4, 0⟩ :: ⟨⟨(some 88), .load true 9 (.t 12), none⟩, .load, 5, 0⟩ :: ⟨⟨(some 89), .idxS 9 (.t 86) (.t 87), none⟩, .quiet, 6, 63⟩ :: ⟨⟨none, .store 9 (.t 89) (.t 88), none⟩, .loud, 7, 127⟩ :: []))))))
(.seq (.reg (⟨(some 90), .mov (.t 0), none⟩ :: ⟨(some 91), .mov (.t 3), none⟩ :: ⟨(some 92), .call 63 [(.t 90), (.t 91)], none⟩ :: []))
(.seq (.reg (⟨(some 93), .load true 9 (.t 12), none⟩ :: ⟨none, .store 9 (.t 8) (.t 93), none⟩ :: ⟨(some 9), .mov (.c (.int .i64 (.ofNat 0))), none⟩ :: []))
.ret))))))))⟩
theorem c114_eq : compFn Try.prog 114 = some c114 := by kernel_rfl
/-- (*sodality/table.Table[sodality/api.Entry]).none -/
noncomputable def c115 : FnI := ⟨12, [.tmp 2],
(.seq (.reg (⟨(some 2), .mov (.c (.bool false)), none⟩ :: []))
(.seq (.reg (⟨(some 3), .mov (.t 0), none⟩ :: ⟨(some 4), .eq false .ptr (.t 3) (.c .nilp), none⟩ :: ⟨(some 5), .mov (.t 4), none⟩ :: ⟨(some 6), .mov (.t 0), (some (5, false))⟩ :: ⟨(some 7), .nilchk (.t 6), (some (5, false))⟩ :: ⟨(some 8), .faddr 0 (.t 7), (some (5, false))⟩ :: ⟨(some 9), .load false 1 (.t 8), (some (5, false))⟩ :: ⟨(some 10), .bin .eql (.t 9) (.c (.int .i64 (.ofNat 0))), (some (5, false))⟩ :: ⟨(some 11), .pick (.t 5) (.c (.bool true)) (.t 10), none⟩ :: ⟨(some 2), .mov (.t 11), none⟩ :: []))
.ret))⟩
theorem c115_eq : compFn Try.prog 115 = some c115 := by kernel_rfl
/-- sodality/sodalityref01.Key -/
noncomputable def c116 : FnI := ⟨61, [.tmp 2],
(.seq (.reg (⟨(some 2), .mov (.c (.bool false)), none⟩ :: []))
(.seq (.seq (.reg (⟨(some 4), .mov (.t 0), none⟩ :: ⟨(some 5), .len true (.t 4), none⟩ :: ⟨(some 6), .bin .lss (.t 5) (.c (.int .i64 (.ofNat 1))), none⟩ :: ⟨(some 7), .mov (.t 6), none⟩ :: ⟨(some 8), .mov (.t 0), (some (7, false))⟩ :: ⟨(some 9), .len true (.t 8), (some (7, false))⟩ :: ⟨(some 10), .bin .gtr (.t 9) (.c (.int .i64 (.ofNat 32))), (some (7, false))⟩ :: ⟨(some 11), .pick (.t 7) (.c (.bool true)) (.t 10), none⟩ :: []))
(.cond (.t 11) (.seq (.reg (⟨(some 2), .mov (.c (.bool false)), none⟩ :: []))
.ret) .skip))
(.seq (.seq (.reg (⟨(some 3), .mov (.c (.int .i64 (.ofNat 0))), none⟩ :: []))
(.block 0 (.loop (.seq (.seq (.reg (⟨(some 12), .mov (.t 3), none⟩ :: ⟨(some 13), .mov (.t 0), none⟩ :: ⟨(some 14), .len true (.t 13), none⟩ :: ⟨(some 15), .bin .lss (.t 12) (.t 14), none⟩ :: []))
(.cond (.t 15) .skip (.exit 0)))
(.seq (.block 1 (.seq (.reg (⟨(some 18), .mov (.t 0), none⟩ :: ⟨(some 19), .mov (.t 3), none⟩ :: ⟨(some 20), .idxStr (.t 18) (.t 19), none⟩ :: ⟨(some 21), .bin .eql (.t 20) (.c (.int .u8 (.ofNat 47))), none⟩ :: []))
(.cond (.t 21) (.seq (.reg (⟨(some 22), .mov (.t 3), none⟩ :: ⟨(some 23), .bin .eql (.t 22) (.c (.int .i64 (.ofNat 0))), none⟩ :: ⟨(some 24), .mov (.t 23), none⟩ :: ⟨(some 25), .mov (.t 3), (some (24, false))⟩ :: ⟨(some 26), .mov (.t 0), (some (24, false))⟩ :: ⟨(some 27), .len true (.t 26), (some (24, false))⟩ :: ⟨(some 28), .bin .sub (.t 27) (.c (.int .i64 (.ofNat 1))), (some (24, false))⟩ :: ⟨(some 29), .bin .eql (.t 25) (.t 28), (some (24, false))⟩ :: ⟨(some 30), .pick (.t 24) (.c (.bool true)) (.t 29), none⟩ :: ⟨(some 31), .mov (.t 30), none⟩ :: ⟨(some 32), .mov (.t 0), (some (31, false))⟩ :: ⟨(some 33), .mov (.t 3), (some (31, false))⟩ :: ⟨(some 34), .bin .sub (.t 33) (.c (.int .i64 (.ofNat 1))), (some (31, false))⟩ :: ⟨(some 35), .idxStr (.t 32) (.t 34), (some (31, false))⟩ :: ⟨(some 36), .bin .eql (.t 35) (.c (.int .u8 (.ofNat 47))), (some (31, false))⟩ :: ⟨(some 37), .pick (.t 31) (.c (.bool true)) (.t 36), none⟩ :: []))
(.cond (.t 37) (.seq (.reg (⟨(some 2), .mov (.c (.bool false)), none⟩ :: []))
.ret) .skip)) (.seq (.reg (⟨(some 38), .mov (.t 0), none⟩ :: ⟨(some 39), .mov (.t 3), none⟩ :: ⟨(some 40), .idxStr (.t 38) (.t 39), none⟩ :: ⟨(some 41), .call 145 [(.t 40)], none⟩ :: ⟨(some 42), .un .not (.t 41), none⟩ :: ⟨(some 43), .mov (.t 42), none⟩ :: ⟨(some 44), .mov (.t 0), (some (43, true))⟩ :: ⟨(some 45), .mov (.t 3), (some (43, true))⟩ :: ⟨(some 46), .idxStr (.t 44) (.t 45), (some (43, true))⟩ :: ⟨(some 47), .bin .neq (.t 46) (.c (.int .u8 (.ofNat 45))), (some (43, true))⟩ :: ⟨(some 48), .pick (.t 43) (.t 47) (.c (.bool false)), none⟩ :: ⟨(some 49), .mov (.t 48), none⟩ :: ⟨(some 50), .mov (.t 0), (some (49, true))⟩ :: ⟨(some 51), .mov (.t 3), (some (49, true))⟩ :: ⟨(some 52), .idxStr (.t 50) (.t 51), (some (49, true))⟩ :: ⟨(some 53), .bin .neq (.t 52) (.c (.int .u8 (.ofNat 95))), (some (49, true))⟩ :: ⟨(some 54), .pick (.t 49) (.t 53) (.c (.bool false)), none⟩ :: ⟨(some 55), .mov (.t 54), none⟩ :: ⟨(some 56), .mov (.t 0), (some (55, true))⟩ :: ⟨(some 57), .mov (.t 3), (some (55, true))⟩ :: ⟨(some 58), .idxStr (.t 56) (.t 57), (some (55, true))⟩ :: ⟨(some 59), .bin .neq (.t 58) (.c (.int .u8 (.ofNat 46))), (some (55, true))⟩ :: ⟨(some 60), .pick (.t 55) (.t 59) (.c (.bool false)), none⟩ :: []))
(.cond (.t 60) (.seq (.reg (⟨(some 2), .mov (.c (.bool false)), none⟩ :: []))
.ret) .skip)))))
(.reg (⟨(some 16), .mov (.t 3), none⟩ :: ⟨(some 17), .bin .add (.t 16) (.c (.int .i64 (.ofNat 1))), none⟩ :: ⟨(some 3), .mov (.t 17), none⟩ :: [])))))))
(.seq (.reg (⟨(some 2), .mov (.c (.bool true)), none⟩ :: []))
.ret))))⟩
theorem c116_eq : compFn Try.prog 116 = some c116 := by kernel_rfl
/-- (*sodality/table.Table[sodality/api.Entry]).each -/
noncomputable def c117 : FnI := ⟨7, [.tmp 2],
(.seq (.reg (⟨(some 2), .mov (.c .nilfn), none⟩ :: []))
(.seq (.reg (⟨(some 4), .mov (.t 0), none⟩ :: ⟨(some 5), .call 146 [(.t 4)], none⟩ :: ⟨(some 3), .alloc [.nilsl], none⟩ :: ⟨none, .store 1 (.t 3) (.t 5), none⟩ :: []))
(.seq (.reg (⟨(some 6), .mkfn 147 [] [(.t 3)], none⟩ :: ⟨(some 2), .mov (.t 6), none⟩ :: []))
.ret)))⟩
theorem c117_eq : compFn Try.prog 117 = some c117 := by kernel_rfl
/-- sodality/name.Under -/
noncomputable def c118 : FnI := ⟨34, [.tmp 4],
(.seq (.reg (⟨(some 4), .mov (.c (.bool false)), none⟩ :: []))
(.seq (.reg (⟨(some 8), .mov (.t 0), none⟩ :: ⟨(some 9), .mov (.t 1), none⟩ :: ⟨(some 10), .call 148 [(.t 8), (.t 9)], none⟩ :: ⟨(some 7), .mov (.t 10), none⟩ :: ⟨(some 11), .extract (.t 7) 0, none⟩ :: ⟨(some 12), .extract (.t 7) 1, none⟩ :: ⟨(some 5), .mov (.t 11), none⟩ :: ⟨(some 6), .mov (.t 12), none⟩ :: []))
(.seq (.seq (.reg (⟨(some 13), .mov (.t 6), none⟩ :: ⟨(some 14), .un .not (.t 13), none⟩ :: []))
(.cond (.t 14) (.seq (.reg (⟨(some 4), .mov (.c (.bool false)), none⟩ :: []))
.ret) .skip))
(.seq (.reg (⟨(some 15), .mov (.t 1), none⟩ :: ⟨(some 16), .bin .eql (.t 15) (.c (.str [])), none⟩ :: ⟨(some 17), .mov (.t 16), none⟩ :: ⟨(some 18), .mov (.t 5), (some (17, false))⟩ :: ⟨(some 19), .bin .eql (.t 18) (.c (.str [])), (some (17, false))⟩ :: ⟨(some 20), .pick (.t 17) (.c (.bool true)) (.t 19), none⟩ :: ⟨(some 21), .mov (.t 20), none⟩ :: ⟨(some 22), .mov (.t 1), (some (21, false))⟩ :: ⟨(some 23), .mov (.t 1), (some (21, false))⟩ :: ⟨(some 24), .len true (.t 23), (some (21, false))⟩ :: ⟨(some 25), .bin .sub (.t 24) (.c (.int .i64 (.ofNat 1))), (some (21, false))⟩ :: ⟨(some 26), .idxStr (.t 22) (.t 25), (some (21, false))⟩ :: ⟨(some 27), .bin .eql (.t 26) (.c (.int .u8 (.ofNat 47))), (some (21, false))⟩ :: ⟨(some 28), .pick (.t 21) (.c (.bool true)) (.t 27), none⟩ :: ⟨(some 29), .mov (.t 28), none⟩ :: ⟨(some 30), .mov (.t 5), (some (29, false))⟩ :: ⟨(some 31), .idxStr (.t 30) (.c (.int .i64 (.ofNat 0))), (some (29, false))⟩ :: ⟨(some 32), .bin .eql (.t 31) (.c (.int .u8 (.ofNat 47))), (some (29, false))⟩ :: ⟨(some 33), .pick (.t 29) (.c (.bool true)) (.t 32), none⟩ :: ⟨(some 4), .mov (.t 33), none⟩ :: []))
.ret))))⟩
theorem c118_eq : compFn Try.prog 118 = some c118 := by kernel_rfl
/-- sodality/kv.there -/
noncomputable def c119 : FnI := ⟨7, [.tmp 4],
(.seq (.reg (⟨(some 2), .box (.t 0), none⟩ :: ⟨(some 4), .mov (.c (.int .i64 (.ofNat 0))), none⟩ :: []))
(.seq (.seq (.reg (⟨(some 5), .mov (.t 1), none⟩ :: ⟨(some 6), .un .not (.t 5), none⟩ :: []))
(.cond (.t 6) (.seq (.reg (⟨(some 4), .mov (.c (.int .i64 (.ofNat 4))), none⟩ :: []))
.ret) .skip))
(.seq (.reg (⟨(some 4), .mov (.c (.int .i64 (.ofNat 0))), none⟩ :: []))
.ret)))⟩
theorem c119_eq : compFn Try.prog 119 = some c119 := by kernel_rfl
/-- (*sodality/sodalityref16.Kv).drop -/
noncomputable def c120 : FnI := ⟨44, [],
(.seq (.reg (⟨(some 6), .mov (.c .nilsl), none⟩ :: []))
(.seq (.seq (.reg (⟨(some 7), .mov (.c (.int .i64 (.ofNat 0))), none⟩ :: []))
(.block 0 (.loop (.seq (.seq (.reg (⟨(some 8), .mov (.t 7), none⟩ :: ⟨(some 9), .mov (.t 0), none⟩ :: ⟨(some 10), .nilchk (.t 9), none⟩ :: ⟨(some 11), .faddr 1 (.t 10), none⟩ :: ⟨(some 12), .load false 1 (.t 11), none⟩ :: ⟨(some 13), .len false (.t 12), none⟩ :: ⟨(some 14), .bin .lss (.t 8) (.t 13), none⟩ :: []))
(.cond (.t 14) .skip (.exit 0)))
(.seq (.block 1 (.seq (.reg (⟨(some 17), .mov (.t 0), none⟩ :: ⟨(some 18), .nilchk (.t 17), none⟩ :: ⟨(some 19), .faddr 1 (.t 18), none⟩ :: ⟨(some 20), .load false 1 (.t 19), none⟩ :: ⟨(some 21), .mov (.t 7), none⟩ :: ⟨(some 22), .idxS 6 (.t 20) (.t 21), none⟩ :: ⟨(some 23), .faddr 0 (.t 22), none⟩ :: ⟨(some 24), .load false 1 (.t 23), none⟩ :: ⟨(some 25), .mov (.t 1), none⟩ :: ⟨(some 26), .bin .neq (.t 24) (.t 25), none⟩ :: []))
(.cond (.t 26) (.reg (⟨(some 27), .mov (.t 6), none⟩ :: ⟨(some 28), .mov (.t 0), none⟩ :: ⟨(some 29), .nilchk (.t 28), none⟩ :: ⟨(some 30), .faddr 1 (.t 29), none⟩ :: ⟨(some 31), .load false 1 (.t 30), none⟩ :: ⟨(some 32), .mov (.t 7), none⟩ :: ⟨(some 33), .idxS 6 (.t 31) (.t 32), none⟩ :: ⟨(some 34), .load true 6 (.t 33), none⟩ :: ⟨(some 35), .buildSl 6 1 [(.str []), (.str []), (.int .u64 (.ofNat 0)), (.int .u64 (.ofNat 0)), (.int .u64 (.ofNat 0)), (.int .u64 (.ofNat 0))] [(0, 6, (.t 34))], none⟩ :: ⟨(some 36), .append 6 64 (.t 27) (.t 35), none⟩ :: ⟨(some 6), .mov (.t 36), none⟩ :: [])) .skip)))
(.reg (⟨(some 15), .mov (.t 7), none⟩ :: ⟨(some 16), .bin .add (.t 15) (.c (.int .i64 (.ofNat 1))), none⟩ :: ⟨(some 7), .mov (.t 16), none⟩ :: [])))))))
(.seq (.reg (⟨(some 37), .mov (.t 0), none⟩ :: ⟨(some 38), .mov (.t 6), none⟩ :: ⟨(some 39), .nilchk (.t 37), none⟩ :: ⟨(some 40), .faddr 1 (.t 39), none⟩ :: ⟨none, .store 1 (.t 40) (.t 38), none⟩ :: []))
(.reg (⟨(some 41), .mov (.t 0), none⟩ :: ⟨(some 42), .mov (.t 2), none⟩ :: ⟨(some 43), .call 131 [(.t 41), (.t 42)], none⟩ :: [])))))⟩
theorem c120_eq : compFn Try.prog 120 = some c120 := by kernel_rfl
/-- (*sodality/kv.Kv).DelCas$1 -/
noncomputable def c121 : FnI := ⟨10, [.tmp 5],
(.seq (.reg (⟨(some 3), .box (.t 0), none⟩ :: ⟨(some 5), .mov (.c (.int .i64 (.ofNat 0))), none⟩ :: []))
(.seq (.seq (.reg (⟨(some 6), .faddr 5 (.t 3), none⟩ :: ⟨(some 7), .load false 1 (.t 6), none⟩ :: ⟨(some 8), .load false 1 (.t 2), none⟩ :: ⟨(some 9), .bin .neq (.t 7) (.t 8), none⟩ :: []))
(.cond (.t 9) (.seq (.reg (⟨(some 5), .mov (.c (.int .i64 (.ofNat 21))), none⟩ :: []))
.ret) .skip))
(.seq (.reg (⟨(some 5), .mov (.c (.int .i64 (.ofNat 0))), none⟩ :: []))
.ret)))⟩
theorem c121_eq : compFn Try.prog 121 = some c121 := by kernel_rfl
/-- (*sodality/kv.Kv).Unlock$1 -/
noncomputable def c122 : FnI := ⟨14, [.tmp 5],
(.seq (.reg (⟨(some 3), .box (.t 0), none⟩ :: ⟨(some 5), .mov (.c (.int .i64 (.ofNat 0))), none⟩ :: []))
(.seq (.seq (.reg (⟨(some 6), .load false 1 (.t 2), none⟩ :: ⟨(some 7), .bin .eql (.t 6) (.c (.int .u64 (.ofNat 0))), none⟩ :: ⟨(some 8), .mov (.t 7), none⟩ :: ⟨(some 9), .faddr 2 (.t 3), (some (8, false))⟩ :: ⟨(some 10), .load false 1 (.t 9), (some (8, false))⟩ :: ⟨(some 11), .load false 1 (.t 2), (some (8, false))⟩ :: ⟨(some 12), .bin .neq (.t 10) (.t 11), (some (8, false))⟩ :: ⟨(some 13), .pick (.t 8) (.c (.bool true)) (.t 12), none⟩ :: []))
(.cond (.t 13) (.seq (.reg (⟨(some 5), .mov (.c (.int .i64 (.ofNat 22))), none⟩ :: []))
.ret) .skip))
(.seq (.reg (⟨(some 5), .mov (.c (.int .i64 (.ofNat 0))), none⟩ :: []))
.ret)))⟩
theorem c122_eq : compFn Try.prog 122 = some c122 := by kernel_rfl
/-- (*sodality/kv.Kv).Unlock$2 -/
noncomputable def c123 : FnI := ⟨10, [],
(.dreg (⟨⟨(some 3), .mov (.t 0), none⟩, .quiet, 0, 0⟩ :: ⟨⟨(some 6), .nilchk (.t 3), none⟩, .quiet, 3, 1⟩ :: ⟨⟨(some 7), .faddr 2 (.t 6), none⟩, .quiet, 4, 9⟩ :: ⟨⟨none, .store 1 (.t 7) (.c (.int .u64 (.ofNat 0))), none⟩, .loud, 5, 25⟩ :: ⟨⟨(some 4), .mov (.t 0), none⟩, .quiet, 1, 0⟩ :: ⟨⟨(some 5), .load false 1 (.t 1), none⟩, .load, 2, 0⟩ :: ⟨⟨(some 8), .nilchk (.t 4), none⟩, .quiet, 6, 63⟩ :: ⟨⟨(some 9), .faddr 1 (.t 8), none⟩, .quiet, 7, 127⟩ :: ⟨⟨none, .store 1 (.t 9) (.t 5), none⟩, .loud, 8, 255⟩ :: []))⟩
theorem c123_eq : compFn Try.prog 123 = some c123 := by kernel_rfl
/-- sodality/sodalityref01.Under -/
noncomputable def c124 : FnI := ⟨40, [.tmp 4],
(.seq (.reg (⟨(some 4), .mov (.c (.bool false)), none⟩ :: []))
(.seq (.reg (⟨(some 6), .mov (.t 1), none⟩ :: ⟨(some 7), .len true (.t 6), none⟩ :: ⟨(some 5), .mov (.t 7), none⟩ :: []))
(.seq (.seq (.reg (⟨(some 8), .mov (.t 5), none⟩ :: ⟨(some 9), .mov (.t 0), none⟩ :: ⟨(some 10), .len true (.t 9), none⟩ :: ⟨(some 11), .bin .gtr (.t 8) (.t 10), none⟩ :: ⟨(some 12), .mov (.t 11), none⟩ :: ⟨(some 13), .mov (.t 0), (some (12, false))⟩ :: ⟨(some 14), .mov (.t 5), (some (12, false))⟩ :: ⟨(some 15), .slStr (.t 13) none (some (.t 14)), (some (12, false))⟩ :: ⟨(some 16), .mov (.t 1), (some (12, false))⟩ :: ⟨(some 17), .bin .neq (.t 15) (.t 16), (some (12, false))⟩ :: ⟨(some 18), .pick (.t 12) (.c (.bool true)) (.t 17), none⟩ :: []))
(.cond (.t 18) (.seq (.reg (⟨(some 4), .mov (.c (.bool false)), none⟩ :: []))
.ret) .skip))
(.seq (.reg (⟨(some 19), .mov (.t 5), none⟩ :: ⟨(some 20), .bin .eql (.t 19) (.c (.int .i64 (.ofNat 0))), none⟩ :: ⟨(some 21), .mov (.t 20), none⟩ :: ⟨(some 22), .mov (.t 5), (some (21, false))⟩ :: ⟨(some 23), .mov (.t 0), (some (21, false))⟩ :: ⟨(some 24), .len true (.t 23), (some (21, false))⟩ :: ⟨(some 25), .bin .eql (.t 22) (.t 24), (some (21, false))⟩ :: ⟨(some 26), .pick (.t 21) (.c (.bool true)) (.t 25), none⟩ :: ⟨(some 27), .mov (.t 26), none⟩ :: ⟨(some 28), .mov (.t 1), (some (27, false))⟩ :: ⟨(some 29), .mov (.t 5), (some (27, false))⟩ :: ⟨(some 30), .bin .sub (.t 29) (.c (.int .i64 (.ofNat 1))), (some (27, false))⟩ :: ⟨(some 31), .idxStr (.t 28) (.t 30), (some (27, false))⟩ :: ⟨(some 32), .bin .eql (.t 31) (.c (.int .u8 (.ofNat 47))), (some (27, false))⟩ :: ⟨(some 33), .pick (.t 27) (.c (.bool true)) (.t 32), none⟩ :: ⟨(some 34), .mov (.t 33), none⟩ :: ⟨(some 35), .mov (.t 0), (some (34, false))⟩ :: ⟨(some 36), .mov (.t 5), (some (34, false))⟩ :: ⟨(some 37), .idxStr (.t 35) (.t 36), (some (34, false))⟩ :: ⟨(some 38), .bin .eql (.t 37) (.c (.int .u8 (.ofNat 47))), (some (34, false))⟩ :: ⟨(some 39), .pick (.t 34) (.c (.bool true)) (.t 38), none⟩ :: ⟨(some 4), .mov (.t 39), none⟩ :: []))
.ret))))⟩
theorem c124_eq : compFn Try.prog 124 = some c124 := by kernel_rfl
/-- (*sodality/table.Table[sodality/api.Entry]).Copy -/
noncomputable def c125 : FnI := ⟨17, [.tmp 2],
(.seq (.reg (⟨(some 2), .mov (.c .nilp), none⟩ :: []))
(.seq (.seq (.reg (⟨(some 3), .mov (.t 0), none⟩ :: ⟨(some 4), .call 115 [(.t 3)], none⟩ :: []))
(.cond (.t 4) (.seq (.reg (⟨(some 2), .mov (.c .nilp), none⟩ :: []))
.ret) .skip))
(.seq (.dreg (⟨⟨(some 9), .mov (.t 0), none⟩, .quiet, 4, 0⟩ :: ⟨⟨(some 10), .call 146 [(.t 9)], none⟩, .loud, 5, 16⟩ :: ⟨⟨(some 5), .mov (.t 0), none⟩, .quiet, 0, 0⟩ :: ⟨⟨(some 6), .nilchk (.t 5), none⟩, .quiet, 1, 1⟩ :: ⟨⟨(some 7), .faddr 0 (.t 6), none⟩, .quiet, 2, 3⟩ :: ⟨⟨(some 8), .load false 1 (.t 7), none⟩, .load, 3, 7⟩ :: ⟨⟨(some 11), .mov (.t 0), none⟩, .quiet, 6, 0⟩ :: ⟨⟨(some 12), .nilchk (.t 11), none⟩, .quiet, 7, 64⟩ :: ⟨⟨(some 13), .faddr 2 (.t 12), none⟩, .quiet, 8, 192⟩ :: ⟨⟨(some 14), .load false 1 (.t 13), none⟩, .load, 9, 448⟩ :: ⟨⟨(some 15), .build [(.int .i64 (.ofNat 0)), .nilsl, (.int .u64 (.ofNat 0))] [(0, 1, (.t 8)), (1, 1, (.t 10)), (2, 1, (.t 14))], none⟩, .quiet, 10, 1023⟩ :: ⟨⟨(some 16), .box (.t 15), none⟩, .quiet, 11, 2047⟩ :: ⟨⟨(some 2), .mov (.t 16), none⟩, .quiet, 12, 4095⟩ :: []))
.ret)))⟩
theorem c125_eq : compFn Try.prog 125 = some c125 := by kernel_rfl
/-- (*sodality/table.Table[sodality/api.Entry]).at -/
noncomputable def c126 : FnI := ⟨34, [.tmp 4, .tmp 5],
(.seq (.reg (⟨(some 2), .box (.t 0), none⟩ :: ⟨(some 3), .box (.t 1), none⟩ :: ⟨(some 4), .mov (.c (.int .i64 (.ofNat 0))), none⟩ :: ⟨(some 5), .mov (.c (.bool false)), none⟩ :: []))
(.seq (.reg (⟨(some 7), .load false 1 (.t 2), none⟩ :: ⟨(some 8), .nilchk (.t 7), none⟩ :: ⟨(some 9), .faddr 1 (.t 8), none⟩ :: ⟨(some 10), .load false 1 (.t 9), none⟩ :: ⟨(some 11), .len false (.t 10), none⟩ :: ⟨(some 12), .mkfn 150 [] [(.t 2), (.t 3)], none⟩ :: ⟨(some 13), .call 149 [(.t 11), (.t 12)], none⟩ :: ⟨(some 6), .mov (.t 13), none⟩ :: []))
(.seq (.dreg (⟨⟨(some 14), .mov (.t 6), none⟩, .quiet, 0, 0⟩ :: ⟨⟨(some 15), .mov (.t 6), none⟩, .quiet, 1, 0⟩ :: ⟨⟨(some 16), .load false 1 (.t 2), none⟩, .load, 2, 0⟩ :: ⟨⟨(some 17), .nilchk (.t 16), none⟩, .quiet, 3, 4⟩ :: ⟨⟨(some 18), .faddr 1 (.t 17), none⟩, .quiet, 4, 12⟩ :: ⟨⟨(some 19), .load false 1 (.t 18), none⟩, .load, 5, 28⟩ :: ⟨⟨(some 20), .len false (.t 19), none⟩, .quiet, 6, 60⟩ :: ⟨⟨(some 21), .bin .lss (.t 15) (.t 20), none⟩, .quiet, 7, 126⟩ :: ⟨⟨(some 22), .mov (.t 21), none⟩, .quiet, 8, 254⟩ :: ⟨⟨(some 23), .load false 1 (.t 2), (some (22, true))⟩, .load, 9, 510⟩ :: ⟨⟨(some 24), .nilchk (.t 23), (some (22, true))⟩, .quiet, 10, 1022⟩ :: ⟨⟨(some 25), .faddr 1 (.t 24), (some (22, true))⟩, .quiet, 11, 2046⟩ :: ⟨⟨(some 26), .load false 1 (.t 25), (some (22, true))⟩, .load, 12, 4094⟩ :: ⟨⟨(some 27), .mov (.t 6), (some (22, true))⟩, .quiet, 13, 510⟩ :: ⟨⟨(some 28), .idxS 9 (.t 26) (.t 27), (some (22, true))⟩, .quiet, 14, 16382⟩ :: ⟨⟨(some 29), .faddr 0 (.t 28), (some (22, true))⟩, .quiet, 15, 32766⟩ :: ⟨⟨(some 30), .load false 1 (.t 29), (some (22, true))⟩, .load, 16, 65534⟩ :: ⟨⟨(some 31), .load false 1 (.t 3), (some (22, true))⟩, .load, 17, 510⟩ :: ⟨⟨(some 32), .bin .eql (.t 30) (.t 31), (some (22, true))⟩, .quiet, 18, 262142⟩ :: ⟨⟨(some 33), .pick (.t 22) (.t 32) (.c (.bool false)), none⟩, .quiet, 19, 524286⟩ :: ⟨⟨(some 4), .mov (.t 14), none⟩, .quiet, 20, 511⟩ :: ⟨⟨(some 5), .mov (.t 33), none⟩, .quiet, 21, 2097151⟩ :: []))
.ret)))⟩
theorem c126_eq : compFn Try.prog 126 = some c126 := by kernel_rfl
/-- (*sodality/table.Table[sodality/api.Entry]).Drop -/
noncomputable def c127 : FnI := ⟨41, [.tmp 6],
(.seq (.reg (⟨(some 6), .mov (.c (.bool false)), none⟩ :: []))
(.seq (.seq (.reg (⟨(some 9), .mov (.t 0), none⟩ :: ⟨(some 10), .call 115 [(.t 9)], none⟩ :: []))
(.cond (.t 10) (.seq (.reg (⟨(some 6), .mov (.c (.bool false)), none⟩ :: []))
.ret) .skip))
(.seq (.reg (⟨(some 12), .mov (.t 0), none⟩ :: ⟨(some 13), .mov (.t 1), none⟩ :: ⟨(some 14), .call 126 [(.t 12), (.t 13)], none⟩ :: ⟨(some 11), .mov (.t 14), none⟩ :: ⟨(some 15), .extract (.t 11) 0, none⟩ :: ⟨(some 16), .extract (.t 11) 1, none⟩ :: ⟨(some 7), .mov (.t 15), none⟩ :: ⟨(some 8), .mov (.t 16), none⟩ :: []))
(.seq (.seq (.reg (⟨(some 17), .mov (.t 8), none⟩ :: ⟨(some 18), .un .not (.t 17), none⟩ :: []))
(.cond (.t 18) (.seq (.reg (⟨(some 6), .mov (.c (.bool false)), none⟩ :: []))
.ret) .skip))
(.seq (.dreg (⟨⟨(some 20), .buildSl 9 0 [] [], none⟩, .quiet, 1, 0⟩ :: ⟨⟨(some 21), .mov (.t 0), none⟩, .quiet, 2, 0⟩ :: ⟨⟨(some 22), .nilchk (.t 21), none⟩, .quiet, 3, 4⟩ :: ⟨⟨(some 23), .faddr 1 (.t 22), none⟩, .quiet, 4, 12⟩ :: ⟨⟨(some 24), .load false 1 (.t 23), none⟩, .load, 5, 28⟩ :: ⟨⟨(some 25), .mov (.t 7), none⟩, .quiet, 6, 0⟩ :: ⟨⟨(some 26), .slS 9 (.t 24) none (some (.t 25)) none, none⟩, .quiet, 7, 124⟩ :: ⟨⟨(some 27), .append 9 96 (.t 20) (.t 26), none⟩, .loud, 8, 254⟩ :: ⟨⟨(some 28), .mov (.t 0), none⟩, .quiet, 9, 0⟩ :: ⟨⟨(some 29), .nilchk (.t 28), none⟩, .quiet, 10, 512⟩ :: ⟨⟨(some 30), .faddr 1 (.t 29), none⟩, .quiet, 11, 1536⟩ :: ⟨⟨(some 31), .load false 1 (.t 30), none⟩, .load, 12, 3584⟩ :: ⟨⟨(some 32), .mov (.t 7), none⟩, .quiet, 13, 0⟩ :: ⟨⟨(some 33), .bin .add (.t 32) (.c (.int .i64 (.ofNat 1))), none⟩, .quiet, 14, 8192⟩ :: ⟨⟨(some 34), .slS 9 (.t 31) (some (.t 33)) none none, none⟩, .quiet, 15, 32256⟩ :: ⟨⟨(some 35), .append 9 96 (.t 27) (.t 34), none⟩, .loud, 16, 65534⟩ :: ⟨⟨(some 19), .mov (.t 0), none⟩, .quiet, 0, 0⟩ :: ⟨⟨(some 36), .nilchk (.t 19), none⟩, .quiet, 17, 131071⟩ :: ⟨⟨(some 37), .faddr 1 (.t 36), none⟩, .quiet, 18, 262143⟩ :: ⟨⟨none, .store 1 (.t 37) (.t 35), none⟩, .loud, 19, 524287⟩ :: []))
(.seq (.reg (⟨(some 38), .mov (.t 0), none⟩ :: ⟨(some 39), .mov (.t 2), none⟩ :: ⟨(some 40), .call 63 [(.t 38), (.t 39)], none⟩ :: []))
(.seq (.reg (⟨(some 6), .mov (.c (.bool true)), none⟩ :: []))
.ret)))))))⟩
theorem c127_eq : compFn Try.prog 127 = some c127 := by kernel_rfl
/-- sodality/kv.short$1 -/
noncomputable def c128 : FnI := ⟨9, [.tmp 5],
(.seq (.reg (⟨(some 3), .box (.t 0), none⟩ :: ⟨(some 5), .mov (.c (.int .i64 (.ofNat 0))), none⟩ :: []))
(.seq (.seq (.reg (⟨(some 6), .load false 1 (.t 2), none⟩ :: ⟨(some 7), .len true (.t 6), none⟩ :: ⟨(some 8), .bin .gtr (.t 7) (.c (.int .i64 (.ofNat 64))), none⟩ :: []))
(.cond (.t 8) (.seq (.reg (⟨(some 5), .mov (.c (.int .i64 (.ofNat 3))), none⟩ :: []))
.ret) .skip))
(.seq (.reg (⟨(some 5), .mov (.c (.int .i64 (.ofNat 0))), none⟩ :: []))
.ret)))⟩
theorem c128_eq : compFn Try.prog 128 = some c128 := by kernel_rfl
/-- sodality/kv.unturned$1 -/
noncomputable def c129 : FnI := ⟨16, [.tmp 5],
(.seq (.reg (⟨(some 3), .box (.t 0), none⟩ :: ⟨(some 5), .mov (.c (.int .i64 (.ofNat 0))), none⟩ :: []))
(.seq (.seq (.reg (⟨(some 6), .mov (.t 1), none⟩ :: ⟨(some 7), .load false 1 (.t 2), none⟩ :: ⟨(some 8), .bin .neq (.t 7) (.c (.int .u64 (.ofNat 0))), none⟩ :: ⟨(some 9), .eq true .bool (.t 6) (.t 8), none⟩ :: ⟨(some 10), .mov (.t 9), none⟩ :: ⟨(some 11), .faddr 5 (.t 3), (some (10, false))⟩ :: ⟨(some 12), .load false 1 (.t 11), (some (10, false))⟩ :: ⟨(some 13), .load false 1 (.t 2), (some (10, false))⟩ :: ⟨(some 14), .bin .neq (.t 12) (.t 13), (some (10, false))⟩ :: ⟨(some 15), .pick (.t 10) (.c (.bool true)) (.t 14), none⟩ :: []))
(.cond (.t 15) (.seq (.reg (⟨(some 5), .mov (.c (.int .i64 (.ofNat 21))), none⟩ :: []))
.ret) .skip))
(.seq (.reg (⟨(some 5), .mov (.c (.int .i64 (.ofNat 0))), none⟩ :: []))
.ret)))⟩
theorem c129_eq : compFn Try.prog 129 = some c129 := by kernel_rfl
/-- sodality/kv.value$1 -/
noncomputable def c130 : FnI := ⟨7, [],
(.reg (⟨(some 3), .mov (.t 0), none⟩ :: ⟨(some 4), .load false 1 (.t 1), none⟩ :: ⟨(some 5), .nilchk (.t 3), none⟩ :: ⟨(some 6), .faddr 1 (.t 5), none⟩ :: ⟨none, .store 1 (.t 6) (.t 4), none⟩ :: []))⟩
theorem c130_eq : compFn Try.prog 130 = some c130 := by kernel_rfl
/-- (*sodality/sodalityref16.Kv).raise -/
noncomputable def c131 : FnI := ⟨14, [],
(.seq (.reg (⟨(some 4), .mov (.t 1), none⟩ :: ⟨(some 5), .mov (.t 0), none⟩ :: ⟨(some 6), .nilchk (.t 5), none⟩ :: ⟨(some 7), .faddr 2 (.t 6), none⟩ :: ⟨(some 8), .load false 1 (.t 7), none⟩ :: ⟨(some 9), .bin .gtr (.t 4) (.t 8), none⟩ :: []))
(.cond (.t 9) (.reg (⟨(some 10), .mov (.t 0), none⟩ :: ⟨(some 11), .mov (.t 1), none⟩ :: ⟨(some 12), .nilchk (.t 10), none⟩ :: ⟨(some 13), .faddr 2 (.t 12), none⟩ :: ⟨none, .store 1 (.t 13) (.t 11), none⟩ :: [])) .skip))⟩
theorem c131_eq : compFn Try.prog 131 = some c131 := by kernel_rfl
/-- (*sodality/name.cutter).next -/
noncomputable def c141 : FnI := ⟨22, [.tmp 2, .tmp 3],
(.seq (.reg (⟨(some 2), .mov (.c (.str [])), none⟩ :: ⟨(some 3), .mov (.c (.bool false)), none⟩ :: []))
(.seq (.reg (⟨(some 8), .mov (.t 0), none⟩ :: ⟨(some 9), .nilchk (.t 8), none⟩ :: ⟨(some 10), .faddr 0 (.t 9), none⟩ :: ⟨(some 11), .load false 1 (.t 10), none⟩ :: ⟨(some 12), .call 157 [(.t 11), (.c (.str [47]))], none⟩ :: ⟨(some 7), .mov (.t 12), none⟩ :: ⟨(some 13), .extract (.t 7) 0, none⟩ :: ⟨(some 14), .extract (.t 7) 1, none⟩ :: ⟨(some 15), .extract (.t 7) 2, none⟩ :: ⟨(some 4), .mov (.t 13), none⟩ :: ⟨(some 5), .mov (.t 14), none⟩ :: ⟨(some 6), .mov (.t 15), none⟩ :: []))
(.seq (.reg (⟨(some 16), .mov (.t 0), none⟩ :: ⟨(some 17), .mov (.t 5), none⟩ :: ⟨(some 18), .nilchk (.t 16), none⟩ :: ⟨(some 19), .faddr 0 (.t 18), none⟩ :: ⟨none, .store 1 (.t 19) (.t 17), none⟩ :: []))
(.seq (.reg (⟨(some 20), .mov (.t 4), none⟩ :: ⟨(some 21), .mov (.t 6), none⟩ :: ⟨(some 2), .mov (.t 20), none⟩ :: ⟨(some 3), .mov (.t 21), none⟩ :: []))
.ret))))⟩
theorem c141_eq : compFn Try.prog 141 = some c141 := by kernel_rfl
/-- sodality/name.all -/
noncomputable def c142 : FnI := ⟨18, [.tmp 4],
(.seq (.reg (⟨(some 4), .mov (.c (.bool false)), none⟩ :: []))
(.seq (.seq (.reg (⟨(some 6), .mov (.t 0), none⟩ :: ⟨(some 7), .len true (.t 6), none⟩ :: ⟨(some 8), .mov (.c (.int .i64 (.ofNat 0))), none⟩ :: []))
(.block 0 (.loop (.seq (.reg (⟨(some 9), .bin .lss (.t 8) (.t 7), none⟩ :: []))
(.seq (.cond (.t 9) .skip (.exit 0))
(.seq (.block 1 (.seq (.reg (⟨(some 10), .mov (.t 8), none⟩ :: ⟨(some 5), .mov (.t 10), none⟩ :: []))
(.seq (.reg (⟨(some 11), .mov (.t 1), none⟩ :: ⟨(some 12), .mov (.t 0), none⟩ :: ⟨(some 13), .mov (.t 5), none⟩ :: ⟨(some 14), .idxStr (.t 12) (.t 13), none⟩ :: ⟨(some 15), .callv (.t 11) [(.t 14)], none⟩ :: ⟨(some 16), .un .not (.t 15), none⟩ :: []))
(.cond (.t 16) (.seq (.reg (⟨(some 4), .mov (.c (.bool false)), none⟩ :: []))
.ret) .skip))))
(.reg (⟨(some 17), .bin .add (.t 8) (.c (.int .i64 (.ofNat 1))), none⟩ :: ⟨(some 8), .mov (.t 17), none⟩ :: []))))))))
(.seq (.reg (⟨(some 4), .mov (.c (.bool true)), none⟩ :: []))
.ret)))⟩
theorem c142_eq : compFn Try.prog 142 = some c142 := by kernel_rfl
/-- sodality/name.Key$1 -/
noncomputable def c143 : FnI := ⟨17, [.tmp 2],
(.seq (.reg (⟨(some 2), .mov (.c (.bool false)), none⟩ :: []))
(.seq (.reg (⟨(some 3), .mov (.t 0), none⟩ :: ⟨(some 4), .call 144 [(.t 3)], none⟩ :: ⟨(some 5), .mov (.t 4), none⟩ :: ⟨(some 6), .mov (.t 0), (some (5, false))⟩ :: ⟨(some 7), .bin .eql (.t 6) (.c (.int .u8 (.ofNat 45))), (some (5, false))⟩ :: ⟨(some 8), .pick (.t 5) (.c (.bool true)) (.t 7), none⟩ :: ⟨(some 9), .mov (.t 8), none⟩ :: ⟨(some 10), .mov (.t 0), (some (9, false))⟩ :: ⟨(some 11), .bin .eql (.t 10) (.c (.int .u8 (.ofNat 95))), (some (9, false))⟩ :: ⟨(some 12), .pick (.t 9) (.c (.bool true)) (.t 11), none⟩ :: ⟨(some 13), .mov (.t 12), none⟩ :: ⟨(some 14), .mov (.t 0), (some (13, false))⟩ :: ⟨(some 15), .bin .eql (.t 14) (.c (.int .u8 (.ofNat 46))), (some (13, false))⟩ :: ⟨(some 16), .pick (.t 13) (.c (.bool true)) (.t 15), none⟩ :: ⟨(some 2), .mov (.t 16), none⟩ :: []))
.ret))⟩
theorem c143_eq : compFn Try.prog 143 = some c143 := by kernel_rfl
/-- sodality/name.plain -/
noncomputable def c144 : FnI := ⟨17, [.tmp 2],
(.seq (.reg (⟨(some 2), .mov (.c (.bool false)), none⟩ :: []))
(.seq (.reg (⟨(some 3), .mov (.t 0), none⟩ :: ⟨(some 4), .bin .geq (.t 3) (.c (.int .u8 (.ofNat 97))), none⟩ :: ⟨(some 5), .mov (.t 4), none⟩ :: ⟨(some 6), .mov (.t 0), (some (5, true))⟩ :: ⟨(some 7), .bin .leq (.t 6) (.c (.int .u8 (.ofNat 122))), (some (5, true))⟩ :: ⟨(some 8), .pick (.t 5) (.t 7) (.c (.bool false)), none⟩ :: ⟨(some 9), .mov (.t 8), none⟩ :: ⟨(some 10), .mov (.t 0), (some (9, false))⟩ :: ⟨(some 11), .bin .geq (.t 10) (.c (.int .u8 (.ofNat 48))), (some (9, false))⟩ :: ⟨(some 12), .mov (.t 11), (some (9, false))⟩ :: ⟨(some 13), .mov (.t 0), (some (12, true))⟩ :: ⟨(some 14), .bin .leq (.t 13) (.c (.int .u8 (.ofNat 57))), (some (12, true))⟩ :: ⟨(some 15), .pick (.t 12) (.t 14) (.c (.bool false)), (some (9, false))⟩ :: ⟨(some 16), .pick (.t 9) (.c (.bool true)) (.t 15), none⟩ :: ⟨(some 2), .mov (.t 16), none⟩ :: []))
.ret))⟩
theorem c144_eq : compFn Try.prog 144 = some c144 := by kernel_rfl
/-- sodality/sodalityref01.plain -/
noncomputable def c145 : FnI := ⟨17, [.tmp 2],
(.seq (.reg (⟨(some 2), .mov (.c (.bool false)), none⟩ :: []))
(.seq (.reg (⟨(some 3), .mov (.t 0), none⟩ :: ⟨(some 4), .bin .geq (.t 3) (.c (.int .u8 (.ofNat 97))), none⟩ :: ⟨(some 5), .mov (.t 4), none⟩ :: ⟨(some 6), .mov (.t 0), (some (5, true))⟩ :: ⟨(some 7), .bin .leq (.t 6) (.c (.int .u8 (.ofNat 122))), (some (5, true))⟩ :: ⟨(some 8), .pick (.t 5) (.t 7) (.c (.bool false)), none⟩ :: ⟨(some 9), .mov (.t 8), none⟩ :: ⟨(some 10), .mov (.t 0), (some (9, false))⟩ :: ⟨(some 11), .bin .geq (.t 10) (.c (.int .u8 (.ofNat 48))), (some (9, false))⟩ :: ⟨(some 12), .mov (.t 11), (some (9, false))⟩ :: ⟨(some 13), .mov (.t 0), (some (12, true))⟩ :: ⟨(some 14), .bin .leq (.t 13) (.c (.int .u8 (.ofNat 57))), (some (12, true))⟩ :: ⟨(some 15), .pick (.t 12) (.t 14) (.c (.bool false)), (some (9, false))⟩ :: ⟨(some 16), .pick (.t 9) (.c (.bool true)) (.t 15), none⟩ :: ⟨(some 2), .mov (.t 16), none⟩ :: []))
.ret))⟩
theorem c145_eq : compFn Try.prog 145 = some c145 := by kernel_rfl
/-- (*sodality/table.Table[sodality/api.Entry]).List -/
noncomputable def c146 : FnI := ⟨11, [.tmp 2],
(.seq (.reg (⟨(some 2), .mov (.c .nilsl), none⟩ :: []))
(.seq (.seq (.reg (⟨(some 3), .mov (.t 0), none⟩ :: ⟨(some 4), .call 115 [(.t 3)], none⟩ :: []))
(.cond (.t 4) (.seq (.reg (⟨(some 2), .mov (.c .nilsl), none⟩ :: []))
.ret) .skip))
(.seq (.reg (⟨(some 5), .buildSl 9 0 [] [], none⟩ :: ⟨(some 6), .mov (.t 0), none⟩ :: ⟨(some 7), .nilchk (.t 6), none⟩ :: ⟨(some 8), .faddr 1 (.t 7), none⟩ :: ⟨(some 9), .load false 1 (.t 8), none⟩ :: ⟨(some 10), .append 9 96 (.t 5) (.t 9), none⟩ :: ⟨(some 2), .mov (.t 10), none⟩ :: []))
.ret)))⟩
theorem c146_eq : compFn Try.prog 146 = some c146 := by kernel_rfl
/-- (*sodality/table.Table[sodality/api.Entry]).each$1 -/
noncomputable def c147 : FnI := ⟨16, [],
(.seq (.reg (⟨(some 5), .load false 1 (.t 1), none⟩ :: ⟨(some 6), .len false (.t 5), none⟩ :: ⟨(some 7), .mov (.c (.int .i64 (.ofNat 0))), none⟩ :: []))
(.block 0 (.loop (.seq (.reg (⟨(some 8), .bin .lss (.t 7) (.t 6), none⟩ :: []))
(.seq (.cond (.t 8) .skip (.exit 0))
(.seq (.block 1 (.seq (.reg (⟨(some 9), .idxS 9 (.t 5) (.t 7), none⟩ :: ⟨(some 10), .load true 9 (.t 9), none⟩ :: ⟨(some 4), .alloc [(.str []), (.str []), (.str []), (.int .u64 (.ofNat 0)), (.int .u64 (.ofNat 0)), (.int .u64 (.ofNat 0)), (.int .u64 (.ofNat 0)), (.int .u64 (.ofNat 0)), (.int .u64 (.ofNat 0))], none⟩ :: ⟨none, .store 9 (.t 4) (.t 10), none⟩ :: []))
(.seq (.reg (⟨(some 11), .mov (.t 0), none⟩ :: ⟨(some 12), .load true 9 (.t 4), none⟩ :: ⟨(some 13), .callv (.t 11) [(.t 12)], none⟩ :: ⟨(some 14), .un .not (.t 13), none⟩ :: []))
(.cond (.t 14) .ret .skip))))
(.reg (⟨(some 15), .bin .add (.t 7) (.c (.int .i64 (.ofNat 1))), none⟩ :: ⟨(some 7), .mov (.t 15), none⟩ :: []))))))))⟩
theorem c147_eq : compFn Try.prog 147 = some c147 := by kernel_rfl
/-- strings.CutPrefix -/
noncomputable def c148 : FnI := ⟨11, [.tmp 4, .tmp 5],
(.seq (.reg (⟨(some 4), .mov (.c (.str [])), none⟩ :: ⟨(some 5), .mov (.c (.bool false)), none⟩ :: []))
(.seq (.reg (⟨(some 6), .mov (.t 0), none⟩ :: ⟨(some 7), .mov (.t 1), none⟩ :: ⟨(some 8), .call 158 [(.t 6), (.t 7)], none⟩ :: ⟨(some 9), .extract (.t 8) 0, none⟩ :: ⟨(some 10), .extract (.t 8) 1, none⟩ :: ⟨(some 4), .mov (.t 9), none⟩ :: ⟨(some 5), .mov (.t 10), none⟩ :: []))
.ret))⟩
theorem c148_eq : compFn Try.prog 148 = some c148 := by kernel_rfl
/-- sort.Search -/
noncomputable def c149 : FnI := ⟨26, [.tmp 4],
(.seq (.reg (⟨(some 4), .mov (.c (.int .i64 (.ofNat 0))), none⟩ :: []))
(.seq (.reg (⟨(some 8), .mov (.t 0), none⟩ :: ⟨(some 5), .mov (.c (.int .i64 (.ofNat 0))), none⟩ :: ⟨(some 6), .mov (.t 8), none⟩ :: []))
(.seq (.block 0 (.loop (.seq (.seq (.reg (⟨(some 9), .mov (.t 5), none⟩ :: ⟨(some 10), .mov (.t 6), none⟩ :: ⟨(some 11), .bin .lss (.t 9) (.t 10), none⟩ :: []))
(.cond (.t 11) .skip (.exit 0)))
(.block 1 (.seq (.reg (⟨(some 12), .mov (.t 5), none⟩ :: ⟨(some 13), .mov (.t 6), none⟩ :: ⟨(some 14), .bin .add (.t 12) (.t 13), none⟩ :: ⟨(some 15), .cvInt .u64 (.t 14), none⟩ :: ⟨(some 16), .bin .shr (.t 15) (.c (.int .u64 (.ofNat 1))), none⟩ :: ⟨(some 17), .cvInt .i64 (.t 16), none⟩ :: ⟨(some 7), .mov (.t 17), none⟩ :: []))
(.seq (.reg (⟨(some 18), .mov (.t 1), none⟩ :: ⟨(some 19), .mov (.t 7), none⟩ :: ⟨(some 20), .callv (.t 18) [(.t 19)], none⟩ :: ⟨(some 21), .un .not (.t 20), none⟩ :: []))
(.cond (.t 21) (.reg (⟨(some 22), .mov (.t 7), none⟩ :: ⟨(some 23), .bin .add (.t 22) (.c (.int .i64 (.ofNat 1))), none⟩ :: ⟨(some 5), .mov (.t 23), none⟩ :: [])) (.reg (⟨(some 24), .mov (.t 7), none⟩ :: ⟨(some 6), .mov (.t 24), none⟩ :: [])))))))))
(.seq (.reg (⟨(some 25), .mov (.t 5), none⟩ :: ⟨(some 4), .mov (.t 25), none⟩ :: []))
.ret))))⟩
theorem c149_eq : compFn Try.prog 149 = some c149 := by kernel_rfl
/-- (*sodality/table.Table[sodality/api.Entry]).at$1 -/
noncomputable def c150 : FnI := ⟨15, [.tmp 4],
(.seq (.reg (⟨(some 4), .mov (.c (.bool false)), none⟩ :: []))
(.seq (.dreg (⟨⟨(some 5), .load false 1 (.t 1), none⟩, .load, 0, 0⟩ :: ⟨⟨(some 6), .nilchk (.t 5), none⟩, .quiet, 1, 1⟩ :: ⟨⟨(some 7), .faddr 1 (.t 6), none⟩, .quiet, 2, 3⟩ :: ⟨⟨(some 8), .load false 1 (.t 7), none⟩, .load, 3, 7⟩ :: ⟨⟨(some 9), .mov (.t 0), none⟩, .quiet, 4, 0⟩ :: ⟨⟨(some 10), .idxS 9 (.t 8) (.t 9), none⟩, .quiet, 5, 31⟩ :: ⟨⟨(some 11), .faddr 0 (.t 10), none⟩, .quiet, 6, 63⟩ :: ⟨⟨(some 12), .load false 1 (.t 11), none⟩, .load, 7, 127⟩ :: ⟨⟨(some 13), .load false 1 (.t 2), none⟩, .load, 8, 0⟩ :: ⟨⟨(some 14), .bin .geq (.t 12) (.t 13), none⟩, .quiet, 9, 511⟩ :: ⟨⟨(some 4), .mov (.t 14), none⟩, .quiet, 10, 1023⟩ :: []))
.ret))⟩
theorem c150_eq : compFn Try.prog 150 = some c150 := by kernel_rfl
/-- strings.Cut -/
noncomputable def c157 : FnI := ⟨13, [.tmp 4, .tmp 5, .tmp 6],
(.seq (.reg (⟨(some 4), .mov (.c (.str [])), none⟩ :: ⟨(some 5), .mov (.c (.str [])), none⟩ :: ⟨(some 6), .mov (.c (.bool false)), none⟩ :: []))
(.seq (.reg (⟨(some 7), .mov (.t 0), none⟩ :: ⟨(some 8), .mov (.t 1), none⟩ :: ⟨(some 9), .call 159 [(.t 7), (.t 8)], none⟩ :: ⟨(some 10), .extract (.t 9) 0, none⟩ :: ⟨(some 11), .extract (.t 9) 1, none⟩ :: ⟨(some 12), .extract (.t 9) 2, none⟩ :: ⟨(some 4), .mov (.t 10), none⟩ :: ⟨(some 5), .mov (.t 11), none⟩ :: ⟨(some 6), .mov (.t 12), none⟩ :: []))
.ret))⟩
theorem c157_eq : compFn Try.prog 157 = some c157 := by kernel_rfl
/-- internal/stringslite.CutPrefix -/
noncomputable def c158 : FnI := ⟨15, [.tmp 4, .tmp 5],
(.seq (.reg (⟨(some 4), .mov (.c (.str [])), none⟩ :: ⟨(some 5), .mov (.c (.bool false)), none⟩ :: []))
(.seq (.seq (.reg (⟨(some 6), .mov (.t 0), none⟩ :: ⟨(some 7), .mov (.t 1), none⟩ :: ⟨(some 8), .call 160 [(.t 6), (.t 7)], none⟩ :: ⟨(some 9), .un .not (.t 8), none⟩ :: []))
(.cond (.t 9) (.seq (.reg (⟨(some 10), .mov (.t 0), none⟩ :: ⟨(some 4), .mov (.t 10), none⟩ :: ⟨(some 5), .mov (.c (.bool false)), none⟩ :: []))
.ret) .skip))
(.seq (.reg (⟨(some 11), .mov (.t 0), none⟩ :: ⟨(some 12), .mov (.t 1), none⟩ :: ⟨(some 13), .len true (.t 12), none⟩ :: ⟨(some 14), .slStr (.t 11) (some (.t 13)) none, none⟩ :: ⟨(some 4), .mov (.t 14), none⟩ :: ⟨(some 5), .mov (.c (.bool true)), none⟩ :: []))
.ret)))⟩
theorem c158_eq : compFn Try.prog 158 = some c158 := by kernel_rfl
/-- internal/stringslite.Cut -/
noncomputable def c159 : FnI := ⟨23, [.tmp 4, .tmp 5, .tmp 6],
(.seq (.reg (⟨(some 4), .mov (.c (.str [])), none⟩ :: ⟨(some 5), .mov (.c (.str [])), none⟩ :: ⟨(some 6), .mov (.c (.bool false)), none⟩ :: []))
(.seq (.seq (.reg (⟨(some 8), .mov (.t 0), none⟩ :: ⟨(some 9), .mov (.t 1), none⟩ :: ⟨(some 10), .call 161 [(.t 8), (.t 9)], none⟩ :: ⟨(some 7), .mov (.t 10), none⟩ :: []))
(.seq (.reg (⟨(some 11), .mov (.t 7), none⟩ :: ⟨(some 12), .bin .geq (.t 11) (.c (.int .i64 (.ofNat 0))), none⟩ :: []))
(.cond (.t 12) (.seq (.dreg (⟨⟨(some 13), .mov (.t 0), none⟩, .quiet, 0, 0⟩ :: ⟨⟨(some 14), .mov (.t 7), none⟩, .quiet, 1, 0⟩ :: ⟨⟨(some 15), .slStr (.t 13) none (some (.t 14)), none⟩, .quiet, 2, 3⟩ :: ⟨⟨(some 16), .mov (.t 0), none⟩, .quiet, 3, 0⟩ :: ⟨⟨(some 17), .mov (.t 7), none⟩, .quiet, 4, 0⟩ :: ⟨⟨(some 18), .mov (.t 1), none⟩, .quiet, 5, 0⟩ :: ⟨⟨(some 19), .len true (.t 18), none⟩, .quiet, 6, 32⟩ :: ⟨⟨(some 20), .bin .add (.t 17) (.t 19), none⟩, .quiet, 7, 112⟩ :: ⟨⟨(some 21), .slStr (.t 16) (some (.t 20)) none, none⟩, .quiet, 8, 248⟩ :: ⟨⟨(some 4), .mov (.t 15), none⟩, .quiet, 9, 7⟩ :: ⟨⟨(some 5), .mov (.t 21), none⟩, .quiet, 10, 1023⟩ :: ⟨⟨(some 6), .mov (.c (.bool true)), none⟩, .quiet, 11, 2047⟩ :: []))
.ret) .skip)))
(.seq (.reg (⟨(some 22), .mov (.t 0), none⟩ :: ⟨(some 4), .mov (.t 22), none⟩ :: ⟨(some 5), .mov (.c (.str [])), none⟩ :: ⟨(some 6), .mov (.c (.bool false)), none⟩ :: []))
.ret)))⟩
theorem c159_eq : compFn Try.prog 159 = some c159 := by kernel_rfl
/-- internal/stringslite.HasPrefix -/
noncomputable def c160 : FnI := ⟨18, [.tmp 4],
(.seq (.reg (⟨(some 4), .mov (.c (.bool false)), none⟩ :: []))
(.seq (.reg (⟨(some 5), .mov (.t 0), none⟩ :: ⟨(some 6), .len true (.t 5), none⟩ :: ⟨(some 7), .mov (.t 1), none⟩ :: ⟨(some 8), .len true (.t 7), none⟩ :: ⟨(some 9), .bin .geq (.t 6) (.t 8), none⟩ :: ⟨(some 10), .mov (.t 9), none⟩ :: ⟨(some 11), .mov (.t 0), (some (10, true))⟩ :: ⟨(some 12), .mov (.t 1), (some (10, true))⟩ :: ⟨(some 13), .len true (.t 12), (some (10, true))⟩ :: ⟨(some 14), .slStr (.t 11) none (some (.t 13)), (some (10, true))⟩ :: ⟨(some 15), .mov (.t 1), (some (10, true))⟩ :: ⟨(some 16), .bin .eql (.t 14) (.t 15), (some (10, true))⟩ :: ⟨(some 17), .pick (.t 10) (.t 16) (.c (.bool false)), none⟩ :: ⟨(some 4), .mov (.t 17), none⟩ :: []))
.ret))⟩
theorem c160_eq : compFn Try.prog 160 = some c160 := by kernel_rfl
/-- internal/stringslite.Index -/
noncomputable def c161 : FnI := ⟨143, [.tmp 4],
(.seq (.reg (⟨(some 4), .mov (.c (.int .i64 (.ofNat 0))), none⟩ :: []))
(.seq (.reg (⟨(some 14), .mov (.t 1), none⟩ :: ⟨(some 15), .len true (.t 14), none⟩ :: ⟨(some 5), .mov (.t 15), none⟩ :: []))
(.seq (.block 0 (.seq (.reg (⟨(some 17), .mov (.t 5), none⟩ :: ⟨(some 18), .bin .eql (.t 17) (.c (.int .i64 (.ofNat 0))), none⟩ :: ⟨(some 19), .mov (.t 18), none⟩ :: ⟨(some 20), .mov (.t 1), (some (19, false))⟩ :: ⟨(some 21), .mov (.t 0), (some (19, false))⟩ :: ⟨(some 22), .bin .eql (.t 20) (.t 21), (some (19, false))⟩ :: ⟨(some 23), .pick (.t 19) (.c (.bool true)) (.t 22), none⟩ :: ⟨(some 16), .mov (.t 23), none⟩ :: []))
(.cond (.t 16) (.seq (.reg (⟨(some 4), .mov (.c (.int .i64 (.ofNat 0))), none⟩ :: []))
.ret) (.seq (.reg (⟨(some 25), .mov (.t 5), none⟩ :: ⟨(some 26), .bin .eql (.t 25) (.c (.int .i64 (.ofNat 1))), none⟩ :: ⟨(some 24), .mov (.t 26), none⟩ :: []))
(.cond (.t 24) (.seq (.reg (⟨(some 27), .mov (.t 0), none⟩ :: ⟨(some 28), .mov (.t 1), none⟩ :: ⟨(some 29), .idxStr (.t 28) (.c (.int .i64 (.ofNat 0))), none⟩ :: ⟨(some 30), .call 162 [(.t 27), (.t 29)], none⟩ :: ⟨(some 4), .mov (.t 30), none⟩ :: []))
.ret) (.seq (.reg (⟨(some 32), .mov (.t 5), none⟩ :: ⟨(some 33), .mov (.t 0), none⟩ :: ⟨(some 34), .len true (.t 33), none⟩ :: ⟨(some 35), .bin .geq (.t 32) (.t 34), none⟩ :: ⟨(some 31), .mov (.t 35), none⟩ :: []))
(.cond (.t 31) (.seq (.reg (⟨(some 4), .mov (.c (.int .i64 (.negSucc 0))), none⟩ :: []))
.ret) (.seq (.reg (⟨(some 37), .mov (.t 5), none⟩ :: ⟨(some 38), .fail, none⟩ :: ⟨(some 39), .bin .leq (.t 37) (.t 38), none⟩ :: ⟨(some 40), .mov (.t 39), none⟩ :: ⟨(some 41), .mov (.t 0), (some (40, true))⟩ :: ⟨(some 42), .len true (.t 41), (some (40, true))⟩ :: ⟨(some 43), .bin .leq (.t 42) (.c (.int .i64 (.ofNat 64))), (some (40, true))⟩ :: ⟨(some 44), .pick (.t 40) (.t 43) (.c (.bool false)), none⟩ :: ⟨(some 36), .mov (.t 44), none⟩ :: []))
(.cond (.t 36) (.seq (.reg (⟨(some 45), .mov (.t 0), none⟩ :: ⟨(some 46), .mov (.t 1), none⟩ :: ⟨(some 47), .call 163 [(.t 45), (.t 46)], none⟩ :: ⟨(some 4), .mov (.t 47), none⟩ :: []))
.ret) .skip)))))))))
(.seq (.reg (⟨(some 48), .mov (.t 1), none⟩ :: ⟨(some 49), .idxStr (.t 48) (.c (.int .i64 (.ofNat 0))), none⟩ :: ⟨(some 6), .mov (.t 49), none⟩ :: []))
(.seq (.reg (⟨(some 50), .mov (.t 1), none⟩ :: ⟨(some 51), .idxStr (.t 50) (.c (.int .i64 (.ofNat 1))), none⟩ :: ⟨(some 7), .mov (.t 51), none⟩ :: []))
(.seq (.reg (⟨(some 8), .mov (.c (.int .i64 (.ofNat 0))), none⟩ :: []))
(.seq (.reg (⟨(some 52), .mov (.t 0), none⟩ :: ⟨(some 53), .len true (.t 52), none⟩ :: ⟨(some 54), .mov (.t 5), none⟩ :: ⟨(some 55), .bin .sub (.t 53) (.t 54), none⟩ :: ⟨(some 56), .bin .add (.t 55) (.c (.int .i64 (.ofNat 1))), none⟩ :: ⟨(some 9), .mov (.t 56), none⟩ :: []))
(.seq (.reg (⟨(some 10), .mov (.c (.int .i64 (.ofNat 0))), none⟩ :: []))
(.seq (.block 1 (.loop (.seq (.seq (.reg (⟨(some 57), .mov (.t 8), none⟩ :: ⟨(some 58), .mov (.t 9), none⟩ :: ⟨(some 59), .bin .lss (.t 57) (.t 58), none⟩ :: []))
(.cond (.t 59) .skip (.exit 1)))
(.block 2 (.seq (.seq (.reg (⟨(some 60), .mov (.t 0), none⟩ :: ⟨(some 61), .mov (.t 8), none⟩ :: ⟨(some 62), .idxStr (.t 60) (.t 61), none⟩ :: ⟨(some 63), .mov (.t 6), none⟩ :: ⟨(some 64), .bin .neq (.t 62) (.t 63), none⟩ :: []))
(.cond (.t 64) (.seq (.reg (⟨(some 65), .mov (.t 0), none⟩ :: ⟨(some 66), .mov (.t 8), none⟩ :: ⟨(some 67), .bin .add (.t 66) (.c (.int .i64 (.ofNat 1))), none⟩ :: ⟨(some 68), .mov (.t 9), none⟩ :: ⟨(some 69), .slStr (.t 65) (some (.t 67)) (some (.t 68)), none⟩ :: ⟨(some 70), .mov (.t 6), none⟩ :: ⟨(some 71), .call 162 [(.t 69), (.t 70)], none⟩ :: ⟨(some 11), .mov (.t 71), none⟩ :: []))
(.seq (.seq (.reg (⟨(some 72), .mov (.t 11), none⟩ :: ⟨(some 73), .bin .lss (.t 72) (.c (.int .i64 (.ofNat 0))), none⟩ :: []))
(.cond (.t 73) (.seq (.reg (⟨(some 4), .mov (.c (.int .i64 (.negSucc 0))), none⟩ :: []))
.ret) .skip))
(.reg (⟨(some 74), .mov (.t 8), none⟩ :: ⟨(some 75), .mov (.t 11), none⟩ :: ⟨(some 76), .bin .add (.t 75) (.c (.int .i64 (.ofNat 1))), none⟩ :: ⟨(some 77), .bin .add (.t 74) (.t 76), none⟩ :: ⟨(some 8), .mov (.t 77), none⟩ :: [])))) .skip))
(.seq (.seq (.reg (⟨(some 78), .mov (.t 0), none⟩ :: ⟨(some 79), .mov (.t 8), none⟩ :: ⟨(some 80), .bin .add (.t 79) (.c (.int .i64 (.ofNat 1))), none⟩ :: ⟨(some 81), .idxStr (.t 78) (.t 80), none⟩ :: ⟨(some 82), .mov (.t 7), none⟩ :: ⟨(some 83), .bin .eql (.t 81) (.t 82), none⟩ :: ⟨(some 84), .mov (.t 83), none⟩ :: ⟨(some 85), .mov (.t 0), (some (84, true))⟩ :: ⟨(some 86), .mov (.t 8), (some (84, true))⟩ :: ⟨(some 87), .mov (.t 8), (some (84, true))⟩ :: ⟨(some 88), .mov (.t 5), (some (84, true))⟩ :: ⟨(some 89), .bin .add (.t 87) (.t 88), (some (84, true))⟩ :: ⟨(some 90), .slStr (.t 85) (some (.t 86)) (some (.t 89)), (some (84, true))⟩ :: ⟨(some 91), .mov (.t 1), (some (84, true))⟩ :: ⟨(some 92), .bin .eql (.t 90) (.t 91), (some (84, true))⟩ :: ⟨(some 93), .pick (.t 84) (.t 92) (.c (.bool false)), none⟩ :: []))
(.cond (.t 93) (.seq (.reg (⟨(some 94), .mov (.t 8), none⟩ :: ⟨(some 4), .mov (.t 94), none⟩ :: []))
.ret) .skip))
(.seq (.reg (⟨(some 95), .mov (.t 8), none⟩ :: ⟨(some 96), .bin .add (.t 95) (.c (.int .i64 (.ofNat 1))), none⟩ :: ⟨(some 8), .mov (.t 96), none⟩ :: []))
(.seq (.reg (⟨(some 97), .mov (.t 10), none⟩ :: ⟨(some 98), .bin .add (.t 97) (.c (.int .i64 (.ofNat 1))), none⟩ :: ⟨(some 10), .mov (.t 98), none⟩ :: []))
(.seq (.reg (⟨(some 99), .mov (.t 5), none⟩ :: ⟨(some 100), .fail, none⟩ :: ⟨(some 101), .bin .leq (.t 99) (.t 100), none⟩ :: ⟨(some 102), .mov (.t 101), none⟩ :: ⟨(some 103), .mov (.t 10), (some (102, true))⟩ :: ⟨(some 104), .mov (.t 8), (some (102, true))⟩ :: ⟨(some 105), .call 164 [(.t 104)], (some (102, true))⟩ :: ⟨(some 106), .bin .gtr (.t 103) (.t 105), (some (102, true))⟩ :: ⟨(some 107), .pick (.t 102) (.t 106) (.c (.bool false)), none⟩ :: []))
(.cond (.t 107) (.seq (.reg (⟨(some 108), .mov (.t 0), none⟩ :: ⟨(some 109), .mov (.t 8), none⟩ :: ⟨(some 110), .slStr (.t 108) (some (.t 109)) none, none⟩ :: ⟨(some 111), .mov (.t 1), none⟩ :: ⟨(some 112), .call 163 [(.t 110), (.t 111)], none⟩ :: ⟨(some 12), .mov (.t 112), none⟩ :: []))
(.seq (.seq (.reg (⟨(some 113), .mov (.t 12), none⟩ :: ⟨(some 114), .bin .geq (.t 113) (.c (.int .i64 (.ofNat 0))), none⟩ :: []))
(.cond (.t 114) (.seq (.reg (⟨(some 115), .mov (.t 12), none⟩ :: ⟨(some 116), .mov (.t 8), none⟩ :: ⟨(some 117), .bin .add (.t 115) (.t 116), none⟩ :: ⟨(some 4), .mov (.t 117), none⟩ :: []))
.ret) .skip))
(.seq (.reg (⟨(some 4), .mov (.c (.int .i64 (.negSucc 0))), none⟩ :: []))
.ret))) (.seq (.reg (⟨(some 118), .mov (.t 5), none⟩ :: ⟨(some 119), .fail, none⟩ :: ⟨(some 120), .bin .gtr (.t 118) (.t 119), none⟩ :: ⟨(some 121), .mov (.t 120), none⟩ :: ⟨(some 122), .mov (.t 10), (some (121, true))⟩ :: ⟨(some 123), .mov (.t 8), (some (121, true))⟩ :: ⟨(some 124), .bin .shr (.t 123) (.c (.int .u64 (.ofNat 4))), (some (121, true))⟩ :: ⟨(some 125), .bin .add (.c (.int .i64 (.ofNat 4))) (.t 124), (some (121, true))⟩ :: ⟨(some 126), .bin .geq (.t 122) (.t 125), (some (121, true))⟩ :: ⟨(some 127), .pick (.t 121) (.t 126) (.c (.bool false)), none⟩ :: ⟨(some 128), .mov (.t 127), none⟩ :: ⟨(some 129), .mov (.t 8), (some (128, true))⟩ :: ⟨(some 130), .mov (.t 9), (some (128, true))⟩ :: ⟨(some 131), .bin .lss (.t 129) (.t 130), (some (128, true))⟩ :: ⟨(some 132), .pick (.t 128) (.t 131) (.c (.bool false)), none⟩ :: []))
(.cond (.t 132) (.seq (.reg (⟨(some 133), .mov (.t 0), none⟩ :: ⟨(some 134), .mov (.t 8), none⟩ :: ⟨(some 135), .slStr (.t 133) (some (.t 134)) none, none⟩ :: ⟨(some 136), .mov (.t 1), none⟩ :: ⟨(some 137), .call 165 [(.t 135), (.t 136)], none⟩ :: ⟨(some 13), .mov (.t 137), none⟩ :: []))
(.seq (.seq (.reg (⟨(some 138), .mov (.t 13), none⟩ :: ⟨(some 139), .bin .lss (.t 138) (.c (.int .i64 (.ofNat 0))), none⟩ :: []))
(.cond (.t 139) (.seq (.reg (⟨(some 4), .mov (.c (.int .i64 (.negSucc 0))), none⟩ :: []))
.ret) .skip))
(.seq (.reg (⟨(some 140), .mov (.t 8), none⟩ :: ⟨(some 141), .mov (.t 13), none⟩ :: ⟨(some 142), .bin .add (.t 140) (.t 141), none⟩ :: ⟨(some 4), .mov (.t 142), none⟩ :: []))
.ret))) .skip))))))))))))
(.seq (.reg (⟨(some 4), .mov (.c (.int .i64 (.negSucc 0))), none⟩ :: []))
.ret))))))))))⟩
theorem c161_eq : compFn Try.prog 161 = some c161 := by kernel_rfl
/-- internal/stringslite.IndexByte -/
noncomputable def c162 : FnI := ⟨8, [.tmp 4],
(.seq (.reg (⟨(some 4), .mov (.c (.int .i64 (.ofNat 0))), none⟩ :: []))
(.seq (.reg (⟨(some 5), .mov (.t 0), none⟩ :: ⟨(some 6), .mov (.t 1), none⟩ :: ⟨(some 7), .ext .idxByte [(.t 5), (.t 6)], none⟩ :: ⟨(some 4), .mov (.t 7), none⟩ :: []))
.ret))⟩
theorem c162_eq : compFn Try.prog 162 = some c162 := by kernel_rfl
/-- internal/bytealg.Cutover -/
noncomputable def c164 : FnI := ⟨6, [.tmp 2],
(.seq (.reg (⟨(some 2), .mov (.c (.int .i64 (.ofNat 0))), none⟩ :: []))
(.seq (.reg (⟨(some 3), .mov (.t 0), none⟩ :: ⟨(some 4), .bin .add (.t 3) (.c (.int .i64 (.ofNat 16))), none⟩ :: ⟨(some 5), .bin .quo (.t 4) (.c (.int .i64 (.ofNat 8))), none⟩ :: ⟨(some 2), .mov (.t 5), none⟩ :: []))
.ret))⟩
theorem c164_eq : compFn Try.prog 164 = some c164 := by kernel_rfl
/-- internal/bytealg.IndexRabinKarp[string] -/
noncomputable def c165 : FnI := ⟨81, [.tmp 4],
(.seq (.reg (⟨(some 4), .mov (.c (.int .i64 (.ofNat 0))), none⟩ :: []))
(.seq (.reg (⟨(some 12), .mov (.t 1), none⟩ :: ⟨(some 13), .call 167 [(.t 12)], none⟩ :: ⟨(some 11), .mov (.t 13), none⟩ :: ⟨(some 14), .extract (.t 11) 0, none⟩ :: ⟨(some 15), .extract (.t 11) 1, none⟩ :: ⟨(some 5), .mov (.t 14), none⟩ :: ⟨(some 6), .mov (.t 15), none⟩ :: []))
(.seq (.reg (⟨(some 16), .mov (.t 1), none⟩ :: ⟨(some 17), .len true (.t 16), none⟩ :: ⟨(some 7), .mov (.t 17), none⟩ :: []))
(.seq (.reg (⟨(some 8), .mov (.c (.int .u32 (.ofNat 0))), none⟩ :: []))
(.seq (.seq (.reg (⟨(some 9), .mov (.c (.int .i64 (.ofNat 0))), none⟩ :: []))
(.block 0 (.loop (.seq (.seq (.reg (⟨(some 18), .mov (.t 9), none⟩ :: ⟨(some 19), .mov (.t 7), none⟩ :: ⟨(some 20), .bin .lss (.t 18) (.t 19), none⟩ :: []))
(.cond (.t 20) .skip (.exit 0)))
(.seq (.block 1 (.reg (⟨(some 23), .mov (.t 8), none⟩ :: ⟨(some 24), .bin .mul (.t 23) (.c (.int .u32 (.ofNat 16777619))), none⟩ :: ⟨(some 25), .mov (.t 0), none⟩ :: ⟨(some 26), .mov (.t 9), none⟩ :: ⟨(some 27), .idxStr (.t 25) (.t 26), none⟩ :: ⟨(some 28), .cvInt .u32 (.t 27), none⟩ :: ⟨(some 29), .bin .add (.t 24) (.t 28), none⟩ :: ⟨(some 8), .mov (.t 29), none⟩ :: [])))
(.reg (⟨(some 21), .mov (.t 9), none⟩ :: ⟨(some 22), .bin .add (.t 21) (.c (.int .i64 (.ofNat 1))), none⟩ :: ⟨(some 9), .mov (.t 22), none⟩ :: [])))))))
(.seq (.seq (.reg (⟨(some 30), .mov (.t 8), none⟩ :: ⟨(some 31), .mov (.t 5), none⟩ :: ⟨(some 32), .bin .eql (.t 30) (.t 31), none⟩ :: ⟨(some 33), .mov (.t 32), none⟩ :: ⟨(some 34), .mov (.t 0), (some (33, true))⟩ :: ⟨(some 35), .mov (.t 7), (some (33, true))⟩ :: ⟨(some 36), .slStr (.t 34) none (some (.t 35)), (some (33, true))⟩ :: ⟨(some 37), .mov (.t 1), (some (33, true))⟩ :: ⟨(some 38), .bin .eql (.t 36) (.t 37), (some (33, true))⟩ :: ⟨(some 39), .pick (.t 33) (.t 38) (.c (.bool false)), none⟩ :: []))
(.cond (.t 39) (.seq (.reg (⟨(some 4), .mov (.c (.int .i64 (.ofNat 0))), none⟩ :: []))
.ret) .skip))
(.seq (.seq (.reg (⟨(some 40), .mov (.t 7), none⟩ :: ⟨(some 10), .mov (.t 40), none⟩ :: []))
(.block 2 (.loop (.seq (.seq (.reg (⟨(some 41), .mov (.t 10), none⟩ :: ⟨(some 42), .mov (.t 0), none⟩ :: ⟨(some 43), .len true (.t 42), none⟩ :: ⟨(some 44), .bin .lss (.t 41) (.t 43), none⟩ :: []))
(.cond (.t 44) .skip (.exit 2)))
(.block 3 (.seq (.reg (⟨(some 45), .mov (.t 8), none⟩ :: ⟨(some 46), .bin .mul (.t 45) (.c (.int .u32 (.ofNat 16777619))), none⟩ :: ⟨(some 8), .mov (.t 46), none⟩ :: []))
(.seq (.reg (⟨(some 47), .mov (.t 8), none⟩ :: ⟨(some 48), .mov (.t 0), none⟩ :: ⟨(some 49), .mov (.t 10), none⟩ :: ⟨(some 50), .idxStr (.t 48) (.t 49), none⟩ :: ⟨(some 51), .cvInt .u32 (.t 50), none⟩ :: ⟨(some 52), .bin .add (.t 47) (.t 51), none⟩ :: ⟨(some 8), .mov (.t 52), none⟩ :: []))
(.seq (.reg (⟨(some 53), .mov (.t 8), none⟩ :: ⟨(some 54), .mov (.t 6), none⟩ :: ⟨(some 55), .mov (.t 0), none⟩ :: ⟨(some 56), .mov (.t 10), none⟩ :: ⟨(some 57), .mov (.t 7), none⟩ :: ⟨(some 58), .bin .sub (.t 56) (.t 57), none⟩ :: ⟨(some 59), .idxStr (.t 55) (.t 58), none⟩ :: ⟨(some 60), .cvInt .u32 (.t 59), none⟩ :: ⟨(some 61), .bin .mul (.t 54) (.t 60), none⟩ :: ⟨(some 62), .bin .sub (.t 53) (.t 61), none⟩ :: ⟨(some 8), .mov (.t 62), none⟩ :: []))
(.seq (.reg (⟨(some 63), .mov (.t 10), none⟩ :: ⟨(some 64), .bin .add (.t 63) (.c (.int .i64 (.ofNat 1))), none⟩ :: ⟨(some 10), .mov (.t 64), none⟩ :: []))
(.seq (.reg (⟨(some 65), .mov (.t 8), none⟩ :: ⟨(some 66), .mov (.t 5), none⟩ :: ⟨(some 67), .bin .eql (.t 65) (.t 66), none⟩ :: ⟨(some 68), .mov (.t 67), none⟩ :: ⟨(some 69), .mov (.t 0), (some (68, true))⟩ :: ⟨(some 70), .mov (.t 10), (some (68, true))⟩ :: ⟨(some 71), .mov (.t 7), (some (68, true))⟩ :: ⟨(some 72), .bin .sub (.t 70) (.t 71), (some (68, true))⟩ :: ⟨(some 73), .mov (.t 10), (some (68, true))⟩ :: ⟨(some 74), .slStr (.t 69) (some (.t 72)) (some (.t 73)), (some (68, true))⟩ :: ⟨(some 75), .mov (.t 1), (some (68, true))⟩ :: ⟨(some 76), .bin .eql (.t 74) (.t 75), (some (68, true))⟩ :: ⟨(some 77), .pick (.t 68) (.t 76) (.c (.bool false)), none⟩ :: []))
(.cond (.t 77) (.seq (.reg (⟨(some 78), .mov (.t 10), none⟩ :: ⟨(some 79), .mov (.t 7), none⟩ :: ⟨(some 80), .bin .sub (.t 78) (.t 79), none⟩ :: ⟨(some 4), .mov (.t 80), none⟩ :: []))
.ret) .skip)))))))))))
(.seq (.reg (⟨(some 4), .mov (.c (.int .i64 (.negSucc 0))), none⟩ :: []))
.ret))))))))⟩
theorem c165_eq : compFn Try.prog 165 = some c165 := by kernel_rfl
/-- internal/bytealg.hashStr[string] -/
noncomputable def c167 : FnI := ⟨39, [.tmp 2, .tmp 3],
(.seq (.reg (⟨(some 2), .mov (.c (.int .u32 (.ofNat 0))), none⟩ :: ⟨(some 3), .mov (.c (.int .u32 (.ofNat 0))), none⟩ :: []))
(.seq (.reg (⟨(some 4), .mov (.c (.int .u32 (.ofNat 0))), none⟩ :: []))
(.seq (.seq (.reg (⟨(some 5), .mov (.c (.int .i64 (.ofNat 0))), none⟩ :: []))
(.block 0 (.loop (.seq (.seq (.reg (⟨(some 9), .mov (.t 5), none⟩ :: ⟨(some 10), .mov (.t 0), none⟩ :: ⟨(some 11), .len true (.t 10), none⟩ :: ⟨(some 12), .bin .lss (.t 9) (.t 11), none⟩ :: []))
(.cond (.t 12) .skip (.exit 0)))
(.seq (.block 1 (.reg (⟨(some 15), .mov (.t 4), none⟩ :: ⟨(some 16), .bin .mul (.t 15) (.c (.int .u32 (.ofNat 16777619))), none⟩ :: ⟨(some 17), .mov (.t 0), none⟩ :: ⟨(some 18), .mov (.t 5), none⟩ :: ⟨(some 19), .idxStr (.t 17) (.t 18), none⟩ :: ⟨(some 20), .cvInt .u32 (.t 19), none⟩ :: ⟨(some 21), .bin .add (.t 16) (.t 20), none⟩ :: ⟨(some 4), .mov (.t 21), none⟩ :: [])))
(.reg (⟨(some 13), .mov (.t 5), none⟩ :: ⟨(some 14), .bin .add (.t 13) (.c (.int .i64 (.ofNat 1))), none⟩ :: ⟨(some 5), .mov (.t 14), none⟩ :: [])))))))
(.seq (.reg (⟨(some 6), .mov (.c (.int .u32 (.ofNat 1))), none⟩ :: ⟨(some 7), .mov (.c (.int .u32 (.ofNat 16777619))), none⟩ :: []))
(.seq (.seq (.reg (⟨(some 22), .mov (.t 0), none⟩ :: ⟨(some 23), .len true (.t 22), none⟩ :: ⟨(some 8), .mov (.t 23), none⟩ :: []))
(.block 2 (.loop (.seq (.seq (.reg (⟨(some 24), .mov (.t 8), none⟩ :: ⟨(some 25), .bin .gtr (.t 24) (.c (.int .i64 (.ofNat 0))), none⟩ :: []))
(.cond (.t 25) .skip (.exit 2)))
(.seq (.block 3 (.seq (.seq (.reg (⟨(some 28), .mov (.t 8), none⟩ :: ⟨(some 29), .bin .and (.t 28) (.c (.int .i64 (.ofNat 1))), none⟩ :: ⟨(some 30), .bin .neq (.t 29) (.c (.int .i64 (.ofNat 0))), none⟩ :: []))
(.cond (.t 30) (.reg (⟨(some 31), .mov (.t 6), none⟩ :: ⟨(some 32), .mov (.t 7), none⟩ :: ⟨(some 33), .bin .mul (.t 31) (.t 32), none⟩ :: ⟨(some 6), .mov (.t 33), none⟩ :: [])) .skip))
(.reg (⟨(some 34), .mov (.t 7), none⟩ :: ⟨(some 35), .mov (.t 7), none⟩ :: ⟨(some 36), .bin .mul (.t 34) (.t 35), none⟩ :: ⟨(some 7), .mov (.t 36), none⟩ :: []))))
(.reg (⟨(some 26), .mov (.t 8), none⟩ :: ⟨(some 27), .bin .shr (.t 26) (.c (.int .u64 (.ofNat 1))), none⟩ :: ⟨(some 8), .mov (.t 27), none⟩ :: [])))))))
(.seq (.reg (⟨(some 37), .mov (.t 4), none⟩ :: ⟨(some 38), .mov (.t 6), none⟩ :: ⟨(some 2), .mov (.t 37), none⟩ :: ⟨(some 3), .mov (.t 38), none⟩ :: []))
.ret))))))⟩
theorem c167_eq : compFn Try.prog 167 = some c167 := by kernel_rfl
end Go.Proofs.Ytlfhlkndccjejaa.KV
