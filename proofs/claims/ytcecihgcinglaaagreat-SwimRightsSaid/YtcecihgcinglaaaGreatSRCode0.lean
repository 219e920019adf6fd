/- The functions' code, as the evaluator takes it (part 0), and that it is what the evaluator's compiler makes of the program. -/
import Derived.Test.YtcecihgcinglaaaGreatAbsJ
import Derived.Test.YtcecihgcinglaaaGreatRows
set_option maxRecDepth 100000
namespace Go.Proofs.YtcecihgcinglaaaGreat.SR
open Go.Proofs.YtcecihgcinglaaaGreat.Abs
/-- sodality/sodalitylaw14.SwimRights -/
noncomputable def c3 : FnI := ⟨16, [.tmp 2],
(.seq (.reg (⟨(some 1), .box (.t 0), none⟩ :: ⟨(some 2), .mov (.c (.bool false)), none⟩ :: []))
(.seq (.dreg (⟨⟨(some 3), .load true 11 (.t 1), none⟩, .load, 0, 0⟩ :: ⟨⟨(some 4), .call 5 [(.t 3)], none⟩, .loud, 1, 1⟩ :: ⟨⟨(some 5), .load true 11 (.t 1), none⟩, .load, 2, 0⟩ :: ⟨⟨(some 6), .call 6 [(.t 5)], none⟩, .loud, 3, 7⟩ :: ⟨⟨(some 7), .eq false .bool (.t 4) (.t 6), none⟩, .quiet, 4, 15⟩ :: ⟨⟨(some 8), .mov (.t 7), none⟩, .quiet, 5, 31⟩ :: ⟨⟨(some 9), .load true 11 (.t 1), (some (8, true))⟩, .load, 6, 63⟩ :: ⟨⟨(some 10), .call 7 [(.t 9)], (some (8, true))⟩, .loud, 7, 127⟩ :: ⟨⟨(some 11), .call 5 [(.t 10)], (some (8, true))⟩, .loud, 8, 255⟩ :: ⟨⟨(some 12), .pick (.t 8) (.t 11) (.c (.bool false)), none⟩, .quiet, 9, 511⟩ :: ⟨⟨(some 13), .mov (.t 12), none⟩, .quiet, 10, 1023⟩ :: ⟨⟨(some 14), .call 8 [], (some (13, true))⟩, .loud, 11, 2047⟩ :: ⟨⟨(some 15), .pick (.t 13) (.t 14) (.c (.bool false)), none⟩, .quiet, 12, 4095⟩ :: ⟨⟨(some 2), .mov (.t 15), none⟩, .quiet, 13, 8191⟩ :: []))
.ret))⟩
theorem c3_eq : compFn Tryz.prog 3 = some c3 := by kernel_rfl
/-- sodality/swim.Right -/
noncomputable def c5 : FnI := ⟨55, [.tmp 2],
(.seq (.reg (⟨(some 1), .box (.t 0), none⟩ :: ⟨(some 2), .mov (.c (.bool false)), none⟩ :: []))
(.seq (.reg (⟨(some 3), .faddr 1 (.t 1), none⟩ :: ⟨(some 4), .load false 1 (.t 3), none⟩ :: ⟨(some 5), .call 20 [(.t 4), (.c (.int .i64 (.ofNat 1))), (.c (.int .i64 (.ofNat 1000)))], none⟩ :: ⟨(some 6), .mov (.t 5), none⟩ :: ⟨(some 7), .faddr 0 (.t 1), (some (6, true))⟩ :: ⟨(some 8), .load false 1 (.t 7), (some (6, true))⟩ :: ⟨(some 9), .faddr 1 (.t 1), (some (6, true))⟩ :: ⟨(some 10), .load false 1 (.t 9), (some (6, true))⟩ :: ⟨(some 11), .bin .mul (.c (.int .i64 (.ofNat 2))) (.t 10), (some (6, true))⟩ :: ⟨(some 12), .bin .add (.t 11) (.c (.int .i64 (.ofNat 1))), (some (6, true))⟩ :: ⟨(some 13), .call 20 [(.t 8), (.t 12), (.c (.int .i64 (.ofNat 4000)))], (some (6, true))⟩ :: ⟨(some 14), .pick (.t 6) (.t 13) (.c (.bool false)), none⟩ :: ⟨(some 15), .mov (.t 14), none⟩ :: ⟨(some 16), .faddr 2 (.t 1), (some (15, true))⟩ :: ⟨(some 17), .load false 1 (.t 16), (some (15, true))⟩ :: ⟨(some 18), .call 20 [(.t 17), (.c (.int .i64 (.ofNat 0))), (.c (.int .i64 (.ofNat 4)))], (some (15, true))⟩ :: ⟨(some 19), .pick (.t 15) (.t 18) (.c (.bool false)), none⟩ :: ⟨(some 20), .mov (.t 19), none⟩ :: ⟨(some 21), .faddr 3 (.t 1), (some (20, true))⟩ :: ⟨(some 22), .load false 1 (.t 21), (some (20, true))⟩ :: ⟨(some 23), .faddr 4 (.t 1), (some (20, true))⟩ :: ⟨(some 24), .load false 1 (.t 23), (some (20, true))⟩ :: ⟨(some 25), .faddr 5 (.t 1), (some (20, true))⟩ :: ⟨(some 26), .load false 1 (.t 25), (some (20, true))⟩ :: ⟨(some 27), .call 21 [(.t 22), (.t 24), (.t 26), (.c (.int .i64 (.ofNat 0)))], (some (20, true))⟩ :: ⟨(some 28), .bin .gtr (.t 27) (.c (.int .i64 (.ofNat 0))), (some (20, true))⟩ :: ⟨(some 29), .pick (.t 20) (.t 28) (.c (.bool false)), none⟩ :: ⟨(some 30), .mov (.t 29), none⟩ :: ⟨(some 31), .faddr 6 (.t 1), (some (30, true))⟩ :: ⟨(some 32), .load false 1 (.t 31), (some (30, true))⟩ :: ⟨(some 33), .call 20 [(.t 32), (.c (.int .i64 (.ofNat 1))), (.c (.int .i64 (.ofNat 8)))], (some (30, true))⟩ :: ⟨(some 34), .pick (.t 30) (.t 33) (.c (.bool false)), none⟩ :: ⟨(some 35), .mov (.t 34), none⟩ :: ⟨(some 36), .faddr 7 (.t 1), (some (35, true))⟩ :: ⟨(some 37), .load false 1 (.t 36), (some (35, true))⟩ :: ⟨(some 38), .call 20 [(.t 37), (.c (.int .i64 (.ofNat 1))), (.c (.int .i64 (.ofNat 16)))], (some (35, true))⟩ :: ⟨(some 39), .pick (.t 35) (.t 38) (.c (.bool false)), none⟩ :: ⟨(some 40), .mov (.t 39), none⟩ :: ⟨(some 41), .faddr 8 (.t 1), (some (40, true))⟩ :: ⟨(some 42), .load false 1 (.t 41), (some (40, true))⟩ :: ⟨(some 43), .call 20 [(.t 42), (.c (.int .i64 (.ofNat 1))), (.c (.int .i64 (.ofNat 1000)))], (some (40, true))⟩ :: ⟨(some 44), .pick (.t 40) (.t 43) (.c (.bool false)), none⟩ :: ⟨(some 45), .mov (.t 44), none⟩ :: ⟨(some 46), .faddr 9 (.t 1), (some (45, true))⟩ :: ⟨(some 47), .load false 1 (.t 46), (some (45, true))⟩ :: ⟨(some 48), .call 20 [(.t 47), (.c (.int .i64 (.ofNat 1))), (.c (.int .i64 (.ofNat 4)))], (some (45, true))⟩ :: ⟨(some 49), .pick (.t 45) (.t 48) (.c (.bool false)), none⟩ :: ⟨(some 50), .mov (.t 49), none⟩ :: ⟨(some 51), .faddr 10 (.t 1), (some (50, true))⟩ :: ⟨(some 52), .load false 1 (.t 51), (some (50, true))⟩ :: ⟨(some 53), .call 20 [(.t 52), (.c (.int .i64 (.ofNat 1))), (.c (.int .i64 (.ofNat 4000)))], (some (50, true))⟩ :: ⟨(some 54), .pick (.t 50) (.t 53) (.c (.bool false)), none⟩ :: ⟨(some 2), .mov (.t 54), none⟩ :: []))
.ret))⟩
theorem c5_eq : compFn Tryz.prog 5 = some c5 := by kernel_rfl
/-- sodality/sodalityref14.Right -/
noncomputable def c6 : FnI := ⟨91, [.tmp 2],
(.seq (.reg (⟨(some 1), .box (.t 0), none⟩ :: ⟨(some 2), .mov (.c (.bool false)), none⟩ :: []))
(.seq (.seq (.reg (⟨(some 3), .faddr 1 (.t 1), none⟩ :: ⟨(some 4), .load false 1 (.t 3), none⟩ :: ⟨(some 5), .bin .lss (.t 4) (.c (.int .i64 (.ofNat 1))), none⟩ :: ⟨(some 6), .mov (.t 5), none⟩ :: ⟨(some 7), .faddr 1 (.t 1), (some (6, false))⟩ :: ⟨(some 8), .load false 1 (.t 7), (some (6, false))⟩ :: ⟨(some 9), .bin .gtr (.t 8) (.c (.int .i64 (.ofNat 1000))), (some (6, false))⟩ :: ⟨(some 10), .pick (.t 6) (.c (.bool true)) (.t 9), none⟩ :: ⟨(some 11), .mov (.t 10), none⟩ :: ⟨(some 12), .faddr 0 (.t 1), (some (11, false))⟩ :: ⟨(some 13), .load false 1 (.t 12), (some (11, false))⟩ :: ⟨(some 14), .faddr 1 (.t 1), (some (11, false))⟩ :: ⟨(some 15), .load false 1 (.t 14), (some (11, false))⟩ :: ⟨(some 16), .bin .mul (.c (.int .i64 (.ofNat 2))) (.t 15), (some (11, false))⟩ :: ⟨(some 17), .bin .add (.t 16) (.c (.int .i64 (.ofNat 1))), (some (11, false))⟩ :: ⟨(some 18), .bin .lss (.t 13) (.t 17), (some (11, false))⟩ :: ⟨(some 19), .pick (.t 11) (.c (.bool true)) (.t 18), none⟩ :: ⟨(some 20), .mov (.t 19), none⟩ :: ⟨(some 21), .faddr 0 (.t 1), (some (20, false))⟩ :: ⟨(some 22), .load false 1 (.t 21), (some (20, false))⟩ :: ⟨(some 23), .bin .gtr (.t 22) (.c (.int .i64 (.ofNat 4000))), (some (20, false))⟩ :: ⟨(some 24), .pick (.t 20) (.c (.bool true)) (.t 23), none⟩ :: ⟨(some 25), .mov (.t 24), none⟩ :: ⟨(some 26), .faddr 2 (.t 1), (some (25, false))⟩ :: ⟨(some 27), .load false 1 (.t 26), (some (25, false))⟩ :: ⟨(some 28), .bin .lss (.t 27) (.c (.int .i64 (.ofNat 0))), (some (25, false))⟩ :: ⟨(some 29), .pick (.t 25) (.c (.bool true)) (.t 28), none⟩ :: ⟨(some 30), .mov (.t 29), none⟩ :: ⟨(some 31), .faddr 2 (.t 1), (some (30, false))⟩ :: ⟨(some 32), .load false 1 (.t 31), (some (30, false))⟩ :: ⟨(some 33), .bin .gtr (.t 32) (.c (.int .i64 (.ofNat 4))), (some (30, false))⟩ :: ⟨(some 34), .pick (.t 30) (.c (.bool true)) (.t 33), none⟩ :: []))
(.cond (.t 34) (.seq (.reg (⟨(some 2), .mov (.c (.bool false)), none⟩ :: []))
.ret) .skip))
(.seq (.seq (.reg (⟨(some 35), .faddr 3 (.t 1), none⟩ :: ⟨(some 36), .load false 1 (.t 35), none⟩ :: ⟨(some 37), .faddr 4 (.t 1), none⟩ :: ⟨(some 38), .load false 1 (.t 37), none⟩ :: ⟨(some 39), .faddr 5 (.t 1), none⟩ :: ⟨(some 40), .load false 1 (.t 39), none⟩ :: ⟨(some 41), .call 22 [(.t 36), (.t 38), (.t 40), (.c (.int .i64 (.ofNat 0)))], none⟩ :: ⟨(some 42), .bin .eql (.t 41) (.c (.int .i64 (.ofNat 0))), none⟩ :: ⟨(some 43), .mov (.t 42), none⟩ :: ⟨(some 44), .faddr 6 (.t 1), (some (43, false))⟩ :: ⟨(some 45), .load false 1 (.t 44), (some (43, false))⟩ :: ⟨(some 46), .bin .lss (.t 45) (.c (.int .i64 (.ofNat 1))), (some (43, false))⟩ :: ⟨(some 47), .pick (.t 43) (.c (.bool true)) (.t 46), none⟩ :: ⟨(some 48), .mov (.t 47), none⟩ :: ⟨(some 49), .faddr 6 (.t 1), (some (48, false))⟩ :: ⟨(some 50), .load false 1 (.t 49), (some (48, false))⟩ :: ⟨(some 51), .bin .gtr (.t 50) (.c (.int .i64 (.ofNat 8))), (some (48, false))⟩ :: ⟨(some 52), .pick (.t 48) (.c (.bool true)) (.t 51), none⟩ :: ⟨(some 53), .mov (.t 52), none⟩ :: ⟨(some 54), .faddr 7 (.t 1), (some (53, false))⟩ :: ⟨(some 55), .load false 1 (.t 54), (some (53, false))⟩ :: ⟨(some 56), .bin .lss (.t 55) (.c (.int .i64 (.ofNat 1))), (some (53, false))⟩ :: ⟨(some 57), .pick (.t 53) (.c (.bool true)) (.t 56), none⟩ :: ⟨(some 58), .mov (.t 57), none⟩ :: ⟨(some 59), .faddr 7 (.t 1), (some (58, false))⟩ :: ⟨(some 60), .load false 1 (.t 59), (some (58, false))⟩ :: ⟨(some 61), .bin .gtr (.t 60) (.c (.int .i64 (.ofNat 16))), (some (58, false))⟩ :: ⟨(some 62), .pick (.t 58) (.c (.bool true)) (.t 61), none⟩ :: []))
(.cond (.t 62) (.seq (.reg (⟨(some 2), .mov (.c (.bool false)), none⟩ :: []))
.ret) .skip))
(.seq (.reg (⟨(some 63), .faddr 8 (.t 1), none⟩ :: ⟨(some 64), .load false 1 (.t 63), none⟩ :: ⟨(some 65), .bin .geq (.t 64) (.c (.int .i64 (.ofNat 1))), none⟩ :: ⟨(some 66), .mov (.t 65), none⟩ :: ⟨(some 67), .faddr 8 (.t 1), (some (66, true))⟩ :: ⟨(some 68), .load false 1 (.t 67), (some (66, true))⟩ :: ⟨(some 69), .bin .leq (.t 68) (.c (.int .i64 (.ofNat 1000))), (some (66, true))⟩ :: ⟨(some 70), .pick (.t 66) (.t 69) (.c (.bool false)), none⟩ :: ⟨(some 71), .mov (.t 70), none⟩ :: ⟨(some 72), .faddr 9 (.t 1), (some (71, true))⟩ :: ⟨(some 73), .load false 1 (.t 72), (some (71, true))⟩ :: ⟨(some 74), .bin .geq (.t 73) (.c (.int .i64 (.ofNat 1))), (some (71, true))⟩ :: ⟨(some 75), .pick (.t 71) (.t 74) (.c (.bool false)), none⟩ :: ⟨(some 76), .mov (.t 75), none⟩ :: ⟨(some 77), .faddr 9 (.t 1), (some (76, true))⟩ :: ⟨(some 78), .load false 1 (.t 77), (some (76, true))⟩ :: ⟨(some 79), .bin .leq (.t 78) (.c (.int .i64 (.ofNat 4))), (some (76, true))⟩ :: ⟨(some 80), .pick (.t 76) (.t 79) (.c (.bool false)), none⟩ :: ⟨(some 81), .mov (.t 80), none⟩ :: ⟨(some 82), .faddr 10 (.t 1), (some (81, true))⟩ :: ⟨(some 83), .load false 1 (.t 82), (some (81, true))⟩ :: ⟨(some 84), .bin .geq (.t 83) (.c (.int .i64 (.ofNat 1))), (some (81, true))⟩ :: ⟨(some 85), .pick (.t 81) (.t 84) (.c (.bool false)), none⟩ :: ⟨(some 86), .mov (.t 85), none⟩ :: ⟨(some 87), .faddr 10 (.t 1), (some (86, true))⟩ :: ⟨(some 88), .load false 1 (.t 87), (some (86, true))⟩ :: ⟨(some 89), .bin .leq (.t 88) (.c (.int .i64 (.ofNat 4000))), (some (86, true))⟩ :: ⟨(some 90), .pick (.t 86) (.t 89) (.c (.bool false)), none⟩ :: ⟨(some 2), .mov (.t 90), none⟩ :: []))
.ret))))⟩
theorem c6_eq : compFn Tryz.prog 6 = some c6 := by kernel_rfl
/-- sodality/sodalitylaw14.Fitted -/
noncomputable def c7 : FnI := ⟨61, [.cell 2 true 11],
(.seq (.reg (⟨(some 1), .box (.t 0), none⟩ :: ⟨(some 2), .alloc [(.int .i64 (.ofNat 0)), (.int .i64 (.ofNat 0)), (.int .i64 (.ofNat 0)), (.int .i64 (.ofNat 0)), (.int .i64 (.ofNat 0)), (.int .i64 (.ofNat 0)), (.int .i64 (.ofNat 0)), (.int .i64 (.ofNat 0)), (.int .i64 (.ofNat 0)), (.int .i64 (.ofNat 0)), (.int .i64 (.ofNat 0))], none⟩ :: []))
(.seq (.reg (⟨(some 3), .faddr 1 (.t 1), none⟩ :: ⟨(some 4), .load false 1 (.t 3), none⟩ :: ⟨(some 5), .call 23 [(.t 4), (.c (.int .i64 (.ofNat 1))), (.c (.int .i64 (.ofNat 4)))], none⟩ :: ⟨(some 6), .faddr 1 (.t 1), none⟩ :: ⟨none, .store 1 (.t 6) (.t 5), none⟩ :: []))
(.seq (.reg (⟨(some 7), .faddr 0 (.t 1), none⟩ :: ⟨(some 8), .load false 1 (.t 7), none⟩ :: ⟨(some 9), .faddr 1 (.t 1), none⟩ :: ⟨(some 10), .load false 1 (.t 9), none⟩ :: ⟨(some 11), .bin .mul (.c (.int .i64 (.ofNat 2))) (.t 10), none⟩ :: ⟨(some 12), .bin .add (.t 11) (.c (.int .i64 (.ofNat 1))), none⟩ :: ⟨(some 13), .faddr 1 (.t 1), none⟩ :: ⟨(some 14), .load false 1 (.t 13), none⟩ :: ⟨(some 15), .bin .mul (.c (.int .i64 (.ofNat 2))) (.t 14), none⟩ :: ⟨(some 16), .bin .add (.t 15) (.c (.int .i64 (.ofNat 6))), none⟩ :: ⟨(some 17), .call 23 [(.t 8), (.t 12), (.t 16)], none⟩ :: ⟨(some 18), .faddr 0 (.t 1), none⟩ :: ⟨none, .store 1 (.t 18) (.t 17), none⟩ :: []))
(.seq (.reg (⟨(some 19), .faddr 2 (.t 1), none⟩ :: ⟨(some 20), .load false 1 (.t 19), none⟩ :: ⟨(some 21), .call 23 [(.t 20), (.c (.int .i64 (.ofNat 0))), (.c (.int .i64 (.ofNat 4)))], none⟩ :: ⟨(some 22), .faddr 2 (.t 1), none⟩ :: ⟨none, .store 1 (.t 22) (.t 21), none⟩ :: []))
(.seq (.reg (⟨(some 23), .faddr 3 (.t 1), none⟩ :: ⟨(some 24), .load false 1 (.t 23), none⟩ :: ⟨(some 25), .call 23 [(.t 24), (.c (.int .i64 (.ofNat 1))), (.c (.int .i64 (.ofNat 9)))], none⟩ :: ⟨(some 26), .faddr 3 (.t 1), none⟩ :: ⟨none, .store 1 (.t 26) (.t 25), none⟩ :: []))
(.seq (.reg (⟨(some 27), .faddr 4 (.t 1), none⟩ :: ⟨(some 28), .load false 1 (.t 27), none⟩ :: ⟨(some 29), .faddr 3 (.t 1), none⟩ :: ⟨(some 30), .load false 1 (.t 29), none⟩ :: ⟨(some 31), .faddr 3 (.t 1), none⟩ :: ⟨(some 32), .load false 1 (.t 31), none⟩ :: ⟨(some 33), .bin .add (.t 32) (.c (.int .i64 (.ofNat 20))), none⟩ :: ⟨(some 34), .call 23 [(.t 28), (.t 30), (.t 33)], none⟩ :: ⟨(some 35), .faddr 4 (.t 1), none⟩ :: ⟨none, .store 1 (.t 35) (.t 34), none⟩ :: []))
(.seq (.reg (⟨(some 36), .faddr 5 (.t 1), none⟩ :: ⟨(some 37), .load false 1 (.t 36), none⟩ :: ⟨(some 38), .call 23 [(.t 37), (.c (.int .i64 (.ofNat 0))), (.c (.int .i64 (.ofNat 8)))], none⟩ :: ⟨(some 39), .faddr 5 (.t 1), none⟩ :: ⟨none, .store 1 (.t 39) (.t 38), none⟩ :: []))
(.seq (.reg (⟨(some 40), .faddr 6 (.t 1), none⟩ :: ⟨(some 41), .load false 1 (.t 40), none⟩ :: ⟨(some 42), .call 23 [(.t 41), (.c (.int .i64 (.ofNat 1))), (.c (.int .i64 (.ofNat 8)))], none⟩ :: ⟨(some 43), .faddr 6 (.t 1), none⟩ :: ⟨none, .store 1 (.t 43) (.t 42), none⟩ :: []))
(.seq (.reg (⟨(some 44), .faddr 7 (.t 1), none⟩ :: ⟨(some 45), .load false 1 (.t 44), none⟩ :: ⟨(some 46), .call 23 [(.t 45), (.c (.int .i64 (.ofNat 1))), (.c (.int .i64 (.ofNat 16)))], none⟩ :: ⟨(some 47), .faddr 7 (.t 1), none⟩ :: ⟨none, .store 1 (.t 47) (.t 46), none⟩ :: []))
(.seq (.reg (⟨(some 48), .faddr 8 (.t 1), none⟩ :: ⟨(some 49), .load false 1 (.t 48), none⟩ :: ⟨(some 50), .call 23 [(.t 49), (.c (.int .i64 (.ofNat 1))), (.c (.int .i64 (.ofNat 9)))], none⟩ :: ⟨(some 51), .faddr 8 (.t 1), none⟩ :: ⟨none, .store 1 (.t 51) (.t 50), none⟩ :: []))
(.seq (.reg (⟨(some 52), .faddr 9 (.t 1), none⟩ :: ⟨(some 53), .load false 1 (.t 52), none⟩ :: ⟨(some 54), .call 23 [(.t 53), (.c (.int .i64 (.ofNat 1))), (.c (.int .i64 (.ofNat 4)))], none⟩ :: ⟨(some 55), .faddr 9 (.t 1), none⟩ :: ⟨none, .store 1 (.t 55) (.t 54), none⟩ :: []))
(.seq (.reg (⟨(some 56), .faddr 10 (.t 1), none⟩ :: ⟨(some 57), .load false 1 (.t 56), none⟩ :: ⟨(some 58), .call 23 [(.t 57), (.c (.int .i64 (.ofNat 1))), (.c (.int .i64 (.ofNat 30)))], none⟩ :: ⟨(some 59), .faddr 10 (.t 1), none⟩ :: ⟨none, .store 1 (.t 59) (.t 58), none⟩ :: []))
(.seq (.reg (⟨(some 60), .load true 11 (.t 1), none⟩ :: ⟨none, .store 11 (.t 2) (.t 60), none⟩ :: []))
.ret)))))))))))))⟩
theorem c7_eq : compFn Tryz.prog 7 = some c7 := by kernel_rfl
/-- sodality/sodalitylaw14.works -/
noncomputable def c8 : FnI := ⟨38, [.tmp 0],
(.seq (.reg (⟨(some 0), .mov (.c (.bool false)), none⟩ :: []))
(.seq (.reg (⟨(some 5), .build [(.int .i64 (.ofNat 0)), (.int .i64 (.ofNat 0)), (.int .i64 (.ofNat 0)), (.int .i64 (.ofNat 0)), (.int .i64 (.ofNat 0)), (.int .i64 (.ofNat 0)), (.int .i64 (.ofNat 0)), (.int .i64 (.ofNat 0)), (.int .i64 (.ofNat 0)), (.int .i64 (.ofNat 0)), (.int .i64 (.ofNat 0))] [], none⟩ :: ⟨(some 6), .call 7 [(.t 5)], none⟩ :: ⟨(some 7), .call 24 [(.t 6), (.c (.int .i64 (.ofNat 0))), (.c (.int .u32 (.ofNat 1))), (.c .nilsl)], none⟩ :: ⟨(some 4), .mov (.t 7), none⟩ :: ⟨(some 8), .extract (.t 4) 0, none⟩ :: ⟨(some 9), .extract (.t 4) 1, none⟩ :: ⟨(some 1), .mov (.t 8), none⟩ :: ⟨(some 2), .mov (.t 9), none⟩ :: []))
(.seq (.reg (⟨(some 10), .mov (.t 1), none⟩ :: ⟨(some 11), .call 12 [(.t 10), (.c (.int .i64 (.ofNat 1)))], none⟩ :: ⟨(some 3), .mov (.t 11), none⟩ :: []))
(.seq (.reg (⟨(some 12), .mov (.t 2), none⟩ :: ⟨(some 13), .bin .eql (.t 12) (.c (.int .i64 (.ofNat 0))), none⟩ :: ⟨(some 14), .mov (.t 13), none⟩ :: ⟨(some 15), .mov (.t 3), (some (14, true))⟩ :: ⟨(some 16), .len false (.t 15), (some (14, true))⟩ :: ⟨(some 17), .bin .eql (.t 16) (.c (.int .i64 (.ofNat 1))), (some (14, true))⟩ :: ⟨(some 18), .pick (.t 14) (.t 17) (.c (.bool false)), none⟩ :: ⟨(some 19), .mov (.t 18), none⟩ :: ⟨(some 20), .mov (.t 3), (some (19, true))⟩ :: ⟨(some 21), .idxS 3 (.t 20) (.c (.int .i64 (.ofNat 0))), (some (19, true))⟩ :: ⟨(some 22), .faddr 1 (.t 21), (some (19, true))⟩ :: ⟨(some 23), .load false 1 (.t 22), (some (19, true))⟩ :: ⟨(some 24), .bin .eql (.t 23) (.c (.int .i64 (.ofNat 1))), (some (19, true))⟩ :: ⟨(some 25), .pick (.t 19) (.t 24) (.c (.bool false)), none⟩ :: ⟨(some 26), .mov (.t 25), none⟩ :: ⟨(some 27), .mov (.t 1), (some (26, true))⟩ :: ⟨(some 28), .call 18 [(.t 27)], (some (26, true))⟩ :: ⟨(some 29), .build [(.int .i64 (.ofNat 0)), (.int .u32 (.ofNat 0)), (.int .i64 (.ofNat 0))] [(1, 1, (.c (.int .u32 (.ofNat 1))))], (some (26, true))⟩ :: ⟨(some 30), .eq false (.str0 [(0, 1, false), (1, 1, false), (2, 1, false)] [.int, .int, .int]) (.t 28) (.t 29), (some (26, true))⟩ :: ⟨(some 31), .pick (.t 26) (.t 30) (.c (.bool false)), none⟩ :: ⟨(some 32), .mov (.t 31), none⟩ :: ⟨(some 33), .mov (.t 1), (some (32, true))⟩ :: ⟨(some 34), .call 14 [(.t 33)], (some (32, true))⟩ :: ⟨(some 35), .len false (.t 34), (some (32, true))⟩ :: ⟨(some 36), .bin .eql (.t 35) (.c (.int .i64 (.ofNat 1))), (some (32, true))⟩ :: ⟨(some 37), .pick (.t 32) (.t 36) (.c (.bool false)), none⟩ :: ⟨(some 0), .mov (.t 37), none⟩ :: []))
.ret))))⟩
theorem c8_eq : compFn Tryz.prog 8 = some c8 := by kernel_rfl
/-- (*sodality/swim.Swim).Join -/
noncomputable def c12 : FnI := ⟨34, [.tmp 4],
(.seq (.reg (⟨(some 4), .mov (.c .nilsl), none⟩ :: []))
(.seq (.seq (.reg (⟨(some 5), .mov (.t 0), none⟩ :: ⟨(some 6), .call 25 [(.t 5)], none⟩ :: ⟨(some 7), .mov (.t 6), none⟩ :: ⟨(some 8), .mov (.t 0), (some (7, false))⟩ :: ⟨(some 9), .nilchk (.t 8), (some (7, false))⟩ :: ⟨(some 10), .faddr 65 (.t 9), (some (7, false))⟩ :: ⟨(some 11), .load false 1 (.t 10), (some (7, false))⟩ :: ⟨(some 12), .pick (.t 7) (.c (.bool true)) (.t 11), none⟩ :: ⟨(some 13), .mov (.t 12), none⟩ :: ⟨(some 14), .mov (.t 1), (some (13, false))⟩ :: ⟨(some 15), .call 20 [(.t 14), (.c (.int .i64 (.ofNat 0))), (.c (.int .i64 (.ofNat 7)))], (some (13, false))⟩ :: ⟨(some 16), .un .not (.t 15), (some (13, false))⟩ :: ⟨(some 17), .pick (.t 13) (.c (.bool true)) (.t 16), none⟩ :: ⟨(some 18), .mov (.t 17), none⟩ :: ⟨(some 19), .mov (.t 1), (some (18, false))⟩ :: ⟨(some 20), .mov (.t 0), (some (18, false))⟩ :: ⟨(some 21), .nilchk (.t 20), (some (18, false))⟩ :: ⟨(some 22), .faddr 14 (.t 21), (some (18, false))⟩ :: ⟨(some 23), .load false 1 (.t 22), (some (18, false))⟩ :: ⟨(some 24), .bin .eql (.t 19) (.t 23), (some (18, false))⟩ :: ⟨(some 25), .pick (.t 18) (.c (.bool true)) (.t 24), none⟩ :: []))
(.cond (.t 25) (.seq (.reg (⟨(some 4), .mov (.c .nilsl), none⟩ :: []))
.ret) .skip))
(.seq (.reg (⟨(some 26), .mov (.t 0), none⟩ :: ⟨(some 27), .mov (.t 1), none⟩ :: ⟨(some 28), .mov (.t 0), none⟩ :: ⟨(some 29), .call 38 [(.t 28), (.c (.bool false))], none⟩ :: ⟨(some 30), .buildSl 6 1 [(.int .i64 (.ofNat 0)), (.int .u32 (.ofNat 0)), (.int .i64 (.ofNat 0)), (.int .i64 (.ofNat 0)), (.bool false), .nilsl] [(0, 6, (.t 29))], none⟩ :: ⟨(some 31), .call 37 [(.t 26), (.t 27), (.t 30)], none⟩ :: []))
(.seq (.reg (⟨(some 32), .mov (.t 0), none⟩ :: ⟨(some 33), .call 34 [(.t 32)], none⟩ :: ⟨(some 4), .mov (.t 33), none⟩ :: []))
.ret))))⟩
theorem c12_eq : compFn Tryz.prog 12 = some c12 := by kernel_rfl
/-- (*sodality/swim.Swim).View -/
noncomputable def c14 : FnI := ⟨11, [.tmp 2],
(.seq (.reg (⟨(some 2), .mov (.c .nilsl), none⟩ :: []))
(.seq (.seq (.reg (⟨(some 3), .mov (.t 0), none⟩ :: ⟨(some 4), .call 25 [(.t 3)], none⟩ :: []))
(.cond (.t 4) (.seq (.reg (⟨(some 2), .mov (.c .nilsl), none⟩ :: []))
.ret) .skip))
(.seq (.reg (⟨(some 5), .mov (.t 0), none⟩ :: ⟨(some 6), .nilchk (.t 5), none⟩ :: ⟨(some 7), .faddr 0 (.t 6), none⟩ :: ⟨(some 8), .faddr 0 (.t 7), none⟩ :: ⟨(some 9), .load false 1 (.t 8), none⟩ :: ⟨(some 10), .call 41 [(.t 9)], none⟩ :: ⟨(some 2), .mov (.t 10), none⟩ :: []))
.ret)))⟩
theorem c14_eq : compFn Tryz.prog 14 = some c14 := by kernel_rfl
/-- (*sodality/swim.Swim).Self -/
noncomputable def c18 : FnI := ⟨12, [.cell 2 true 3],
(.seq (.reg (⟨(some 2), .alloc [(.int .i64 (.ofNat 0)), (.int .u32 (.ofNat 0)), (.int .i64 (.ofNat 0))], none⟩ :: []))
(.seq (.seq (.reg (⟨(some 3), .mov (.t 0), none⟩ :: ⟨(some 4), .call 25 [(.t 3)], none⟩ :: []))
(.cond (.t 4) (.seq (.reg (⟨(some 5), .build [(.int .i64 (.ofNat 0)), (.int .u32 (.ofNat 0)), (.int .i64 (.ofNat 0))] [], none⟩ :: ⟨none, .store 3 (.t 2) (.t 5), none⟩ :: []))
.ret) .skip))
(.seq (.reg (⟨(some 6), .mov (.t 0), none⟩ :: ⟨(some 7), .nilchk (.t 6), none⟩ :: ⟨(some 8), .faddr 0 (.t 7), none⟩ :: ⟨(some 9), .faddr 0 (.t 8), none⟩ :: ⟨(some 10), .load false 1 (.t 9), none⟩ :: ⟨(some 11), .call 45 [(.t 10)], none⟩ :: ⟨none, .store 3 (.t 2) (.t 11), none⟩ :: []))
.ret)))⟩
theorem c18_eq : compFn Tryz.prog 18 = some c18 := by kernel_rfl
/-- sodality/swim.within -/
noncomputable def c20 : FnI := ⟨15, [.tmp 6],
(.seq (.reg (⟨(some 6), .mov (.c (.bool false)), none⟩ :: []))
(.seq (.reg (⟨(some 7), .mov (.t 0), none⟩ :: ⟨(some 8), .mov (.t 1), none⟩ :: ⟨(some 9), .bin .geq (.t 7) (.t 8), none⟩ :: ⟨(some 10), .mov (.t 9), none⟩ :: ⟨(some 11), .mov (.t 0), (some (10, true))⟩ :: ⟨(some 12), .mov (.t 2), (some (10, true))⟩ :: ⟨(some 13), .bin .leq (.t 11) (.t 12), (some (10, true))⟩ :: ⟨(some 14), .pick (.t 10) (.t 13) (.c (.bool false)), none⟩ :: ⟨(some 6), .mov (.t 14), none⟩ :: []))
.ret))⟩
theorem c20_eq : compFn Tryz.prog 20 = some c20 := by kernel_rfl
/-- sodality/doubt.Wait -/
noncomputable def c21 : FnI := ⟨35, [.tmp 8],
(.seq (.reg (⟨(some 8), .mov (.c (.int .i64 (.ofNat 0))), none⟩ :: []))
(.seq (.seq (.reg (⟨(some 10), .mov (.t 0), none⟩ :: ⟨(some 11), .mov (.t 1), none⟩ :: ⟨(some 12), .mov (.t 2), none⟩ :: ⟨(some 13), .call 46 [(.t 10), (.t 11), (.t 12)], none⟩ :: ⟨(some 14), .un .not (.t 13), none⟩ :: []))
(.cond (.t 14) (.seq (.reg (⟨(some 8), .mov (.c (.int .i64 (.ofNat 0))), none⟩ :: []))
.ret) .skip))
(.seq (.seq (.reg (⟨(some 15), .mov (.t 2), none⟩ :: ⟨(some 16), .bin .eql (.t 15) (.c (.int .i64 (.ofNat 0))), none⟩ :: []))
(.cond (.t 16) (.seq (.reg (⟨(some 17), .mov (.t 0), none⟩ :: ⟨(some 8), .mov (.t 17), none⟩ :: []))
.ret) .skip))
(.seq (.reg (⟨(some 18), .mov (.t 3), none⟩ :: ⟨(some 19), .mm true (.t 18) [(.c (.int .i64 (.ofNat 0)))], none⟩ :: ⟨(some 20), .mov (.t 2), none⟩ :: ⟨(some 21), .mm false (.t 19) [(.t 20)], none⟩ :: ⟨(some 9), .mov (.t 21), none⟩ :: []))
(.seq (.reg (⟨(some 22), .mov (.t 1), none⟩ :: ⟨(some 23), .mov (.t 1), none⟩ :: ⟨(some 24), .mov (.t 0), none⟩ :: ⟨(some 25), .bin .sub (.t 23) (.t 24), none⟩ :: ⟨(some 26), .mov (.t 9), none⟩ :: ⟨(some 27), .bin .add (.t 26) (.c (.int .i64 (.ofNat 1))), none⟩ :: ⟨(some 28), .call 47 [(.t 27)], none⟩ :: ⟨(some 29), .bin .mul (.t 25) (.t 28), none⟩ :: ⟨(some 30), .mov (.t 2), none⟩ :: ⟨(some 31), .bin .add (.t 30) (.c (.int .i64 (.ofNat 1))), none⟩ :: ⟨(some 32), .call 47 [(.t 31)], none⟩ :: ⟨(some 33), .bin .quo (.t 29) (.t 32), none⟩ :: ⟨(some 34), .bin .sub (.t 22) (.t 33), none⟩ :: ⟨(some 8), .mov (.t 34), none⟩ :: []))
.ret)))))⟩
theorem c21_eq : compFn Tryz.prog 21 = some c21 := by kernel_rfl
/-- sodality/sodalityref11.Wait -/
noncomputable def c22 : FnI := ⟨58, [.tmp 8],
(.seq (.reg (⟨(some 8), .mov (.c (.int .i64 (.ofNat 0))), none⟩ :: []))
(.seq (.seq (.reg (⟨(some 11), .mov (.t 0), none⟩ :: ⟨(some 12), .bin .lss (.t 11) (.c (.int .i64 (.ofNat 1))), none⟩ :: ⟨(some 13), .mov (.t 12), none⟩ :: ⟨(some 14), .mov (.t 1), (some (13, false))⟩ :: ⟨(some 15), .mov (.t 0), (some (13, false))⟩ :: ⟨(some 16), .bin .lss (.t 14) (.t 15), (some (13, false))⟩ :: ⟨(some 17), .pick (.t 13) (.c (.bool true)) (.t 16), none⟩ :: ⟨(some 18), .mov (.t 17), none⟩ :: ⟨(some 19), .mov (.t 1), (some (18, false))⟩ :: ⟨(some 20), .bin .gtr (.t 19) (.c (.int .i64 (.ofNat 262144))), (some (18, false))⟩ :: ⟨(some 21), .pick (.t 18) (.c (.bool true)) (.t 20), none⟩ :: ⟨(some 22), .mov (.t 21), none⟩ :: ⟨(some 23), .mov (.t 2), (some (22, false))⟩ :: ⟨(some 24), .bin .lss (.t 23) (.c (.int .i64 (.ofNat 0))), (some (22, false))⟩ :: ⟨(some 25), .pick (.t 22) (.c (.bool true)) (.t 24), none⟩ :: ⟨(some 26), .mov (.t 25), none⟩ :: ⟨(some 27), .mov (.t 2), (some (26, false))⟩ :: ⟨(some 28), .bin .gtr (.t 27) (.c (.int .i64 (.ofNat 8))), (some (26, false))⟩ :: ⟨(some 29), .pick (.t 26) (.c (.bool true)) (.t 28), none⟩ :: []))
(.cond (.t 29) (.seq (.reg (⟨(some 8), .mov (.c (.int .i64 (.ofNat 0))), none⟩ :: []))
.ret) .skip))
(.seq (.seq (.reg (⟨(some 30), .mov (.t 2), none⟩ :: ⟨(some 31), .bin .eql (.t 30) (.c (.int .i64 (.ofNat 0))), none⟩ :: []))
(.cond (.t 31) (.seq (.reg (⟨(some 32), .mov (.t 0), none⟩ :: ⟨(some 8), .mov (.t 32), none⟩ :: []))
.ret) .skip))
(.seq (.reg (⟨(some 33), .mov (.t 3), none⟩ :: ⟨(some 9), .mov (.t 33), none⟩ :: []))
(.seq (.seq (.reg (⟨(some 34), .mov (.t 9), none⟩ :: ⟨(some 35), .bin .lss (.t 34) (.c (.int .i64 (.ofNat 0))), none⟩ :: []))
(.cond (.t 35) (.reg (⟨(some 9), .mov (.c (.int .i64 (.ofNat 0))), none⟩ :: [])) .skip))
(.seq (.seq (.reg (⟨(some 36), .mov (.t 9), none⟩ :: ⟨(some 37), .mov (.t 2), none⟩ :: ⟨(some 38), .bin .gtr (.t 36) (.t 37), none⟩ :: []))
(.cond (.t 38) (.reg (⟨(some 39), .mov (.t 2), none⟩ :: ⟨(some 9), .mov (.t 39), none⟩ :: [])) .skip))
(.seq (.reg (⟨(some 40), .buildSl 1 10 [(.int .i64 (.ofNat 0)), (.int .i64 (.ofNat 0)), (.int .i64 (.ofNat 0)), (.int .i64 (.ofNat 0)), (.int .i64 (.ofNat 0)), (.int .i64 (.ofNat 0)), (.int .i64 (.ofNat 0)), (.int .i64 (.ofNat 0)), (.int .i64 (.ofNat 0)), (.int .i64 (.ofNat 0))] [(0, 1, (.c (.int .i64 (.ofNat 0)))), (1, 1, (.c (.int .i64 (.ofNat 0)))), (2, 1, (.c (.int .i64 (.ofNat 1000)))), (3, 1, (.c (.int .i64 (.ofNat 1585)))), (4, 1, (.c (.int .i64 (.ofNat 2000)))), (5, 1, (.c (.int .i64 (.ofNat 2322)))), (6, 1, (.c (.int .i64 (.ofNat 2585)))), (7, 1, (.c (.int .i64 (.ofNat 2807)))), (8, 1, (.c (.int .i64 (.ofNat 3000)))), (9, 1, (.c (.int .i64 (.ofNat 3170))))], none⟩ :: ⟨(some 10), .mov (.t 40), none⟩ :: []))
(.seq (.dreg (⟨⟨(some 41), .mov (.t 1), none⟩, .quiet, 0, 0⟩ :: ⟨⟨(some 42), .mov (.t 1), none⟩, .quiet, 1, 0⟩ :: ⟨⟨(some 43), .mov (.t 0), none⟩, .quiet, 2, 0⟩ :: ⟨⟨(some 44), .bin .sub (.t 42) (.t 43), none⟩, .quiet, 3, 6⟩ :: ⟨⟨(some 45), .mov (.t 10), none⟩, .quiet, 4, 0⟩ :: ⟨⟨(some 46), .mov (.t 9), none⟩, .quiet, 5, 0⟩ :: ⟨⟨(some 47), .bin .add (.t 46) (.c (.int .i64 (.ofNat 1))), none⟩, .quiet, 6, 32⟩ :: ⟨⟨(some 48), .idxS 1 (.t 45) (.t 47), none⟩, .quiet, 7, 112⟩ :: ⟨⟨(some 49), .load false 1 (.t 48), none⟩, .load, 8, 240⟩ :: ⟨⟨(some 50), .bin .mul (.t 44) (.t 49), none⟩, .quiet, 9, 510⟩ :: ⟨⟨(some 51), .mov (.t 10), none⟩, .quiet, 10, 0⟩ :: ⟨⟨(some 52), .mov (.t 2), none⟩, .quiet, 11, 0⟩ :: ⟨⟨(some 53), .bin .add (.t 52) (.c (.int .i64 (.ofNat 1))), none⟩, .quiet, 12, 2048⟩ :: ⟨⟨(some 54), .idxS 1 (.t 51) (.t 53), none⟩, .quiet, 13, 7168⟩ :: ⟨⟨(some 55), .load false 1 (.t 54), none⟩, .load, 14, 15360⟩ :: ⟨⟨(some 56), .bin .quo (.t 50) (.t 55), none⟩, .quiet, 15, 32766⟩ :: ⟨⟨(some 57), .bin .sub (.t 41) (.t 56), none⟩, .quiet, 16, 65535⟩ :: ⟨⟨(some 8), .mov (.t 57), none⟩, .quiet, 17, 131071⟩ :: []))
.ret))))))))⟩
theorem c22_eq : compFn Tryz.prog 22 = some c22 := by kernel_rfl
/-- sodality/sodalitylaw14.in -/
noncomputable def c23 : FnI := ⟨18, [.tmp 6],
(.seq (.reg (⟨(some 6), .mov (.c (.int .i64 (.ofNat 0))), none⟩ :: []))
(.seq (.reg (⟨(some 7), .mov (.t 1), none⟩ :: ⟨(some 8), .mov (.t 0), none⟩ :: ⟨(some 9), .cvInt .u64 (.t 8), none⟩ :: ⟨(some 10), .mov (.t 2), none⟩ :: ⟨(some 11), .mov (.t 1), none⟩ :: ⟨(some 12), .bin .sub (.t 10) (.t 11), none⟩ :: ⟨(some 13), .bin .add (.t 12) (.c (.int .i64 (.ofNat 1))), none⟩ :: ⟨(some 14), .cvInt .u64 (.t 13), none⟩ :: ⟨(some 15), .bin .rem (.t 9) (.t 14), none⟩ :: ⟨(some 16), .cvInt .i64 (.t 15), none⟩ :: ⟨(some 17), .bin .add (.t 7) (.t 16), none⟩ :: ⟨(some 6), .mov (.t 17), none⟩ :: []))
.ret))⟩
theorem c23_eq : compFn Tryz.prog 23 = some c23 := by kernel_rfl
/-- sodality/swim.New -/
noncomputable def c24 : FnI := ⟨61, [.tmp 8, .tmp 9],
(.seq (.reg (⟨(some 4), .box (.t 0), none⟩ :: ⟨(some 8), .mov (.c .nilp), none⟩ :: ⟨(some 9), .mov (.c (.int .i64 (.ofNat 0))), none⟩ :: []))
(.seq (.seq (.reg (⟨(some 13), .load true 11 (.t 4), none⟩ :: ⟨(some 14), .call 5 [(.t 13)], none⟩ :: ⟨(some 15), .un .not (.t 14), none⟩ :: []))
(.cond (.t 15) (.seq (.reg (⟨(some 8), .mov (.c .nilp), none⟩ :: ⟨(some 9), .mov (.c (.int .i64 (.ofNat 2))), none⟩ :: []))
.ret) .skip))
(.seq (.reg (⟨(some 17), .mov (.t 1), none⟩ :: ⟨(some 18), .mov (.t 2), none⟩ :: ⟨(some 19), .call 48 [(.t 17), (.t 18)], none⟩ :: ⟨(some 16), .mov (.t 19), none⟩ :: ⟨(some 20), .extract (.t 16) 0, none⟩ :: ⟨(some 21), .extract (.t 16) 1, none⟩ :: ⟨(some 10), .mov (.t 20), none⟩ :: ⟨(some 11), .mov (.t 21), none⟩ :: []))
(.seq (.seq (.reg (⟨(some 22), .mov (.t 11), none⟩ :: ⟨(some 23), .bin .neq (.t 22) (.c (.int .i64 (.ofNat 0))), none⟩ :: []))
(.cond (.t 23) (.seq (.reg (⟨(some 24), .mov (.t 11), none⟩ :: ⟨(some 8), .mov (.c .nilp), none⟩ :: ⟨(some 9), .mov (.t 24), none⟩ :: []))
.ret) .skip))
(.seq (.dreg (⟨⟨(some 26), .faddr 6 (.t 4), none⟩, .quiet, 1, 0⟩ :: ⟨⟨(some 27), .load false 1 (.t 26), none⟩, .load, 2, 2⟩ :: ⟨⟨(some 28), .call 49 [(.t 27)], none⟩, .loud, 3, 6⟩ :: ⟨⟨(some 29), .call 50 [], none⟩, .loud, 4, 14⟩ :: ⟨⟨(some 33), .mov (.t 3), none⟩, .quiet, 8, 0⟩ :: ⟨⟨(some 34), .call 51 [(.t 33)], none⟩, .loud, 9, 286⟩ :: ⟨⟨(some 35), .call 52 [], none⟩, .loud, 10, 798⟩ :: ⟨⟨(some 25), .mov (.t 10), none⟩, .quiet, 0, 0⟩ :: ⟨⟨(some 30), .build [.nilp, .nilp, .nilp] [(0, 1, (.t 25)), (1, 1, (.t 28)), (2, 1, (.t 29))], none⟩, .quiet, 5, 31⟩ :: ⟨⟨(some 31), .load true 11 (.t 4), none⟩, .load, 6, 0⟩ :: ⟨⟨(some 32), .mov (.t 1), none⟩, .quiet, 7, 0⟩ :: ⟨⟨(some 36), .mkmap, none⟩, .quiet, 11, 0⟩ :: ⟨⟨(some 37), .build [.nilp, .nilp, .nilp, (.int .i64 (.ofNat 0)), (.int .i64 (.ofNat 0)), (.int .i64 (.ofNat 0)), (.int .i64 (.ofNat 0)), (.int .i64 (.ofNat 0)), (.int .i64 (.ofNat 0)), (.int .i64 (.ofNat 0)), (.int .i64 (.ofNat 0)), (.int .i64 (.ofNat 0)), (.int .i64 (.ofNat 0)), (.int .i64 (.ofNat 0)), (.int .i64 (.ofNat 0)), .nilp, .nilp, .nilmap, (.bool false), (.int .u32 (.ofNat 0)), (.int .i64 (.ofNat 0)), (.int .i64 (.ofNat 0)), (.int .u32 (.ofNat 0)), (.bool false), (.int .u32 (.ofNat 0)), (.int .i64 (.ofNat 0)), (.int .i64 (.ofNat 0)), (.int .u32 (.ofNat 0)), (.bool false), (.int .u32 (.ofNat 0)), (.int .i64 (.ofNat 0)), (.int .i64 (.ofNat 0)), (.int .u32 (.ofNat 0)), (.bool false), (.int .u32 (.ofNat 0)), (.int .i64 (.ofNat 0)), (.int .i64 (.ofNat 0)), (.int .u32 (.ofNat 0)), (.bool false), (.int .u32 (.ofNat 0)), (.int .i64 (.ofNat 0)), (.int .i64 (.ofNat 0)), (.int .u32 (.ofNat 0)), (.bool false), (.int .u32 (.ofNat 0)), (.int .i64 (.ofNat 0)), (.int .i64 (.ofNat 0)), (.int .u32 (.ofNat 0)), (.bool false), (.int .u32 (.ofNat 0)), (.int .i64 (.ofNat 0)), (.int .i64 (.ofNat 0)), (.int .u32 (.ofNat 0)), (.bool false), (.int .u32 (.ofNat 0)), (.int .i64 (.ofNat 0)), (.int .i64 (.ofNat 0)), (.int .u32 (.ofNat 0)), (.bool false), (.int .u32 (.ofNat 0)), (.int .i64 (.ofNat 0)), (.int .i64 (.ofNat 0)), (.int .u32 (.ofNat 0)), (.int .u32 (.ofNat 0)), (.int .i64 (.ofNat 0)), (.bool false), .nilsl, .nilsl, (.int .i64 (.ofNat 0)), (.int .i64 (.ofNat 0)), (.bool false)] [(0, 3, (.t 30)), (3, 11, (.t 31)), (14, 1, (.t 32)), (64, 1, (.c (.int .i64 (.negSucc 0)))), (15, 1, (.t 34)), (16, 1, (.t 35)), (17, 1, (.t 36))], none⟩, .quiet, 12, 4095⟩ :: ⟨⟨(some 38), .box (.t 37), none⟩, .quiet, 13, 8191⟩ :: ⟨⟨(some 12), .mov (.t 38), none⟩, .quiet, 14, 16383⟩ :: []))
(.seq (.dreg (⟨⟨(some 39), .mov (.t 12), none⟩, .quiet, 0, 0⟩ :: ⟨⟨(some 40), .nilchk (.t 39), none⟩, .quiet, 1, 1⟩ :: ⟨⟨(some 41), .faddr 16 (.t 40), none⟩, .quiet, 2, 3⟩ :: ⟨⟨(some 42), .load false 1 (.t 41), none⟩, .load, 3, 7⟩ :: ⟨⟨(some 43), .faddr 0 (.t 4), none⟩, .quiet, 4, 0⟩ :: ⟨⟨(some 44), .load false 1 (.t 43), none⟩, .load, 5, 16⟩ :: ⟨⟨(some 45), .call 53 [(.t 42), (.c (.int .i64 (.ofNat 1))), (.t 44)], none⟩, .loud, 6, 63⟩ :: []))
(.seq (.dreg (⟨⟨(some 46), .mov (.t 12), none⟩, .quiet, 0, 0⟩ :: ⟨⟨(some 47), .nilchk (.t 46), none⟩, .quiet, 1, 1⟩ :: ⟨⟨(some 48), .faddr 16 (.t 47), none⟩, .quiet, 2, 3⟩ :: ⟨⟨(some 49), .load false 1 (.t 48), none⟩, .load, 3, 7⟩ :: ⟨⟨(some 50), .faddr 8 (.t 4), none⟩, .quiet, 4, 0⟩ :: ⟨⟨(some 51), .load false 1 (.t 50), none⟩, .load, 5, 16⟩ :: ⟨⟨(some 52), .call 53 [(.t 49), (.c (.int .i64 (.ofNat 2))), (.t 51)], none⟩, .loud, 6, 63⟩ :: []))
(.seq (.dreg (⟨⟨(some 53), .mov (.t 12), none⟩, .quiet, 0, 0⟩ :: ⟨⟨(some 54), .nilchk (.t 53), none⟩, .quiet, 1, 1⟩ :: ⟨⟨(some 55), .faddr 16 (.t 54), none⟩, .quiet, 2, 3⟩ :: ⟨⟨(some 56), .load false 1 (.t 55), none⟩, .load, 3, 7⟩ :: ⟨⟨(some 57), .faddr 10 (.t 4), none⟩, .quiet, 4, 0⟩ :: ⟨⟨(some 58), .load false 1 (.t 57), none⟩, .load, 5, 16⟩ :: ⟨⟨(some 59), .call 53 [(.t 56), (.c (.int .i64 (.ofNat 3))), (.t 58)], none⟩, .loud, 6, 63⟩ :: []))
(.seq (.reg (⟨(some 60), .mov (.t 12), none⟩ :: ⟨(some 8), .mov (.t 60), none⟩ :: ⟨(some 9), .mov (.c (.int .i64 (.ofNat 0))), none⟩ :: []))
.ret)))))))))⟩
theorem c24_eq : compFn Tryz.prog 24 = some c24 := by kernel_rfl
/-- (*sodality/swim.Swim).none -/
noncomputable def c25 : FnI := ⟨12, [.tmp 2],
(.seq (.reg (⟨(some 2), .mov (.c (.bool false)), none⟩ :: []))
(.seq (.reg (⟨(some 3), .mov (.t 0), none⟩ :: ⟨(some 4), .eq false .ptr (.t 3) (.c .nilp), none⟩ :: ⟨(some 5), .mov (.t 4), none⟩ :: ⟨(some 6), .mov (.t 0), (some (5, false))⟩ :: ⟨(some 7), .nilchk (.t 6), (some (5, false))⟩ :: ⟨(some 8), .faddr 17 (.t 7), (some (5, false))⟩ :: ⟨(some 9), .load false 1 (.t 8), (some (5, false))⟩ :: ⟨(some 10), .eq false .map (.t 9) (.c .nilmap), (some (5, false))⟩ :: ⟨(some 11), .pick (.t 5) (.c (.bool true)) (.t 10), none⟩ :: ⟨(some 2), .mov (.t 11), none⟩ :: []))
.ret))⟩
theorem c25_eq : compFn Tryz.prog 25 = some c25 := by kernel_rfl
/-- (*sodality/swim.Swim).flush -/
noncomputable def c34 : FnI := ⟨12, [.tmp 2],
(.seq (.reg (⟨(some 2), .mov (.c .nilsl), none⟩ :: []))
(.seq (.reg (⟨(some 4), .mov (.t 0), none⟩ :: ⟨(some 5), .nilchk (.t 4), none⟩ :: ⟨(some 6), .faddr 66 (.t 5), none⟩ :: ⟨(some 7), .load false 1 (.t 6), none⟩ :: ⟨(some 3), .mov (.t 7), none⟩ :: []))
(.seq (.reg (⟨(some 8), .mov (.t 0), none⟩ :: ⟨(some 9), .nilchk (.t 8), none⟩ :: ⟨(some 10), .faddr 66 (.t 9), none⟩ :: ⟨none, .store 1 (.t 10) (.c .nilsl), none⟩ :: []))
(.seq (.reg (⟨(some 11), .mov (.t 3), none⟩ :: ⟨(some 2), .mov (.t 11), none⟩ :: []))
.ret))))⟩
theorem c34_eq : compFn Tryz.prog 34 = some c34 := by kernel_rfl
/-- (*sodality/swim.Swim).send -/
noncomputable def c37 : FnI := ⟨22, [],
(.seq (.seq (.reg (⟨(some 7), .mov (.t 0), none⟩ :: ⟨(some 8), .call 79 [(.t 7)], none⟩ :: ⟨(some 6), .mov (.t 8), none⟩ :: []))
(.seq (.reg (⟨(some 9), .mov (.t 6), none⟩ :: ⟨(some 10), .len false (.t 9), none⟩ :: ⟨(some 11), .bin .gtr (.t 10) (.c (.int .i64 (.ofNat 0))), none⟩ :: []))
(.cond (.t 11) (.reg (⟨(some 12), .mov (.t 2), none⟩ :: ⟨(some 13), .mov (.t 0), none⟩ :: ⟨(some 14), .mov (.t 6), none⟩ :: ⟨(some 15), .call 80 [(.t 13), (.t 14)], none⟩ :: ⟨(some 16), .buildSl 6 1 [(.int .i64 (.ofNat 0)), (.int .u32 (.ofNat 0)), (.int .i64 (.ofNat 0)), (.int .i64 (.ofNat 0)), (.bool false), .nilsl] [(0, 6, (.t 15))], none⟩ :: ⟨(some 17), .append 6 64 (.t 12) (.t 16), none⟩ :: ⟨(some 2), .mov (.t 17), none⟩ :: [])) .skip)))
(.reg (⟨(some 18), .mov (.t 0), none⟩ :: ⟨(some 19), .mov (.t 1), none⟩ :: ⟨(some 20), .mov (.t 2), none⟩ :: ⟨(some 21), .call 81 [(.t 18), (.t 19), (.t 20)], none⟩ :: [])))⟩
theorem c37_eq : compFn Tryz.prog 37 = some c37 := by kernel_rfl
/-- (*sodality/swim.Swim).tables -/
noncomputable def c38 : FnI := ⟨17, [.cell 4 true 6],
(.seq (.reg (⟨(some 4), .alloc [(.int .i64 (.ofNat 0)), (.int .u32 (.ofNat 0)), (.int .i64 (.ofNat 0)), (.int .i64 (.ofNat 0)), (.bool false), .nilsl], none⟩ :: []))
(.seq (.dreg (⟨⟨(some 10), .mov (.t 0), none⟩, .quiet, 5, 0⟩ :: ⟨⟨(some 11), .nilchk (.t 10), none⟩, .quiet, 6, 32⟩ :: ⟨⟨(some 12), .faddr 0 (.t 11), none⟩, .quiet, 7, 96⟩ :: ⟨⟨(some 13), .faddr 0 (.t 12), none⟩, .quiet, 8, 224⟩ :: ⟨⟨(some 14), .load false 1 (.t 13), none⟩, .load, 9, 480⟩ :: ⟨⟨(some 15), .call 41 [(.t 14)], none⟩, .loud, 10, 992⟩ :: ⟨⟨(some 5), .mov (.t 0), none⟩, .quiet, 0, 0⟩ :: ⟨⟨(some 6), .nilchk (.t 5), none⟩, .quiet, 1, 1⟩ :: ⟨⟨(some 7), .faddr 14 (.t 6), none⟩, .quiet, 2, 3⟩ :: ⟨⟨(some 8), .load false 1 (.t 7), none⟩, .load, 3, 7⟩ :: ⟨⟨(some 9), .mov (.t 1), none⟩, .quiet, 4, 0⟩ :: ⟨⟨(some 16), .build [(.int .i64 (.ofNat 0)), (.int .u32 (.ofNat 0)), (.int .i64 (.ofNat 0)), (.int .i64 (.ofNat 0)), (.bool false), .nilsl] [(0, 1, (.c (.int .i64 (.ofNat 6)))), (2, 1, (.t 8)), (4, 1, (.t 9)), (5, 1, (.t 15))], none⟩, .quiet, 11, 2047⟩ :: ⟨⟨none, .store 6 (.t 4) (.t 16), none⟩, .loud, 12, 4095⟩ :: []))
.ret))⟩
theorem c38_eq : compFn Tryz.prog 38 = some c38 := by kernel_rfl
/-- (*sodality/roll.Roll).List -/
noncomputable def c41 : FnI := ⟨13, [.tmp 2],
(.seq (.reg (⟨(some 2), .mov (.c .nilsl), none⟩ :: []))
(.seq (.reg (⟨(some 3), .alloc [.nilsl], none⟩ :: []))
(.seq (.seq (.reg (⟨(some 5), .mov (.t 0), none⟩ :: ⟨(some 6), .call 84 [(.t 5)], none⟩ :: []))
(.block 0 (.rangef (.t 6) [7] (.reg (⟨(some 4), .alloc [(.int .i64 (.ofNat 0)), (.int .u32 (.ofNat 0)), (.int .i64 (.ofNat 0))], none⟩ :: ⟨none, .store 3 (.t 4) (.t 7), none⟩ :: [])) (.block 1 (.reg (⟨(some 8), .load false 1 (.t 3), none⟩ :: ⟨(some 9), .load true 3 (.t 4), none⟩ :: ⟨(some 10), .buildSl 3 1 [(.int .i64 (.ofNat 0)), (.int .u32 (.ofNat 0)), (.int .i64 (.ofNat 0))] [(0, 3, (.t 9))], none⟩ :: ⟨(some 11), .append 3 24 (.t 8) (.t 10), none⟩ :: ⟨none, .store 1 (.t 3) (.t 11), none⟩ :: []))))))
(.seq (.reg (⟨(some 12), .load false 1 (.t 3), none⟩ :: ⟨(some 2), .mov (.t 12), none⟩ :: []))
.ret))))⟩
theorem c41_eq : compFn Tryz.prog 41 = some c41 := by kernel_rfl
/-- (*sodality/roll.Roll).Live -/
noncomputable def c42 : FnI := ⟨16, [.tmp 2],
(.seq (.reg (⟨(some 2), .mov (.c .nilsl), none⟩ :: []))
(.seq (.reg (⟨(some 3), .alloc [.nilsl], none⟩ :: []))
(.seq (.seq (.reg (⟨(some 5), .mov (.t 0), none⟩ :: ⟨(some 6), .call 84 [(.t 5)], none⟩ :: []))
(.block 0 (.rangef (.t 6) [7] (.reg (⟨(some 4), .alloc [(.int .i64 (.ofNat 0)), (.int .u32 (.ofNat 0)), (.int .i64 (.ofNat 0))], none⟩ :: ⟨none, .store 3 (.t 4) (.t 7), none⟩ :: [])) (.block 1 (.seq (.reg (⟨(some 8), .load true 3 (.t 4), none⟩ :: ⟨(some 9), .call 85 [(.t 8)], none⟩ :: []))
(.cond (.t 9) (.reg (⟨(some 10), .load false 1 (.t 3), none⟩ :: ⟨(some 11), .faddr 0 (.t 4), none⟩ :: ⟨(some 12), .load false 1 (.t 11), none⟩ :: ⟨(some 13), .buildSl 1 1 [(.int .i64 (.ofNat 0))] [(0, 1, (.t 12))], none⟩ :: ⟨(some 14), .append 1 8 (.t 10) (.t 13), none⟩ :: ⟨none, .store 1 (.t 3) (.t 14), none⟩ :: [])) .skip))))))
(.seq (.reg (⟨(some 15), .load false 1 (.t 3), none⟩ :: ⟨(some 2), .mov (.t 15), none⟩ :: []))
.ret))))⟩
theorem c42_eq : compFn Tryz.prog 42 = some c42 := by kernel_rfl
/-- (*sodality/roll.Roll).Self -/
noncomputable def c45 : FnI := ⟨15, [.cell 2 true 3],
(.seq (.reg (⟨(some 2), .alloc [(.int .i64 (.ofNat 0)), (.int .u32 (.ofNat 0)), (.int .i64 (.ofNat 0))], none⟩ :: []))
(.seq (.seq (.reg (⟨(some 3), .mov (.t 0), none⟩ :: ⟨(some 4), .call 82 [(.t 3)], none⟩ :: []))
(.cond (.t 4) (.seq (.reg (⟨(some 5), .build [(.int .i64 (.ofNat 0)), (.int .u32 (.ofNat 0)), (.int .i64 (.ofNat 0))] [], none⟩ :: ⟨none, .store 3 (.t 2) (.t 5), none⟩ :: []))
.ret) .skip))
(.seq (.dreg (⟨⟨(some 6), .mov (.t 0), none⟩, .quiet, 0, 0⟩ :: ⟨⟨(some 7), .nilchk (.t 6), none⟩, .quiet, 1, 1⟩ :: ⟨⟨(some 8), .faddr 1 (.t 7), none⟩, .quiet, 2, 3⟩ :: ⟨⟨(some 9), .load false 1 (.t 8), none⟩, .load, 3, 7⟩ :: ⟨⟨(some 10), .mov (.t 0), none⟩, .quiet, 4, 0⟩ :: ⟨⟨(some 11), .nilchk (.t 10), none⟩, .quiet, 5, 16⟩ :: ⟨⟨(some 12), .faddr 0 (.t 11), none⟩, .quiet, 6, 48⟩ :: ⟨⟨(some 13), .load false 1 (.t 12), none⟩, .load, 7, 112⟩ :: ⟨⟨(some 14), .lookup false .int (.agg [(.int .i64 (.ofNat 0)), (.int .u32 (.ofNat 0)), (.int .i64 (.ofNat 0))]) (.t 9) (.t 13), none⟩, .load, 8, 255⟩ :: ⟨⟨none, .store 3 (.t 2) (.t 14), none⟩, .loud, 9, 511⟩ :: []))
.ret)))⟩
theorem c45_eq : compFn Tryz.prog 45 = some c45 := by kernel_rfl
/-- sodality/doubt.may -/
noncomputable def c46 : FnI := ⟨26, [.tmp 6],
(.seq (.reg (⟨(some 6), .mov (.c (.bool false)), none⟩ :: []))
(.seq (.reg (⟨(some 7), .mov (.t 0), none⟩ :: ⟨(some 8), .bin .geq (.t 7) (.c (.int .i64 (.ofNat 1))), none⟩ :: ⟨(some 9), .mov (.t 8), none⟩ :: ⟨(some 10), .mov (.t 1), (some (9, true))⟩ :: ⟨(some 11), .mov (.t 0), (some (9, true))⟩ :: ⟨(some 12), .bin .geq (.t 10) (.t 11), (some (9, true))⟩ :: ⟨(some 13), .pick (.t 9) (.t 12) (.c (.bool false)), none⟩ :: ⟨(some 14), .mov (.t 13), none⟩ :: ⟨(some 15), .mov (.t 1), (some (14, true))⟩ :: ⟨(some 16), .bin .leq (.t 15) (.c (.int .i64 (.ofNat 262144))), (some (14, true))⟩ :: ⟨(some 17), .pick (.t 14) (.t 16) (.c (.bool false)), none⟩ :: ⟨(some 18), .mov (.t 17), none⟩ :: ⟨(some 19), .mov (.t 2), (some (18, true))⟩ :: ⟨(some 20), .bin .geq (.t 19) (.c (.int .i64 (.ofNat 0))), (some (18, true))⟩ :: ⟨(some 21), .pick (.t 18) (.t 20) (.c (.bool false)), none⟩ :: ⟨(some 22), .mov (.t 21), none⟩ :: ⟨(some 23), .mov (.t 2), (some (22, true))⟩ :: ⟨(some 24), .bin .leq (.t 23) (.c (.int .i64 (.ofNat 8))), (some (22, true))⟩ :: ⟨(some 25), .pick (.t 22) (.t 24) (.c (.bool false)), none⟩ :: ⟨(some 6), .mov (.t 25), none⟩ :: []))
.ret))⟩
theorem c46_eq : compFn Tryz.prog 46 = some c46 := by kernel_rfl
/-- sodality/doubt.scale -/
noncomputable def c47 : FnI := ⟨6, [.tmp 2],
(.seq (.reg (⟨(some 2), .mov (.c (.int .i64 (.ofNat 0))), none⟩ :: []))
(.seq (.reg (⟨(some 3), .build [(.int .i64 (.ofNat 0)), (.int .i64 (.ofNat 0)), (.int .i64 (.ofNat 0)), (.int .i64 (.ofNat 0)), (.int .i64 (.ofNat 0)), (.int .i64 (.ofNat 0)), (.int .i64 (.ofNat 0)), (.int .i64 (.ofNat 0)), (.int .i64 (.ofNat 0)), (.int .i64 (.ofNat 0))] [(0, 1, (.c (.int .i64 (.ofNat 0)))), (1, 1, (.c (.int .i64 (.ofNat 0)))), (2, 1, (.c (.int .i64 (.ofNat 1000)))), (3, 1, (.c (.int .i64 (.ofNat 1585)))), (4, 1, (.c (.int .i64 (.ofNat 2000)))), (5, 1, (.c (.int .i64 (.ofNat 2322)))), (6, 1, (.c (.int .i64 (.ofNat 2585)))), (7, 1, (.c (.int .i64 (.ofNat 2807)))), (8, 1, (.c (.int .i64 (.ofNat 3000)))), (9, 1, (.c (.int .i64 (.ofNat 3170))))], none⟩ :: ⟨(some 4), .mov (.t 0), none⟩ :: ⟨(some 5), .idxV 10 1 false (.t 3) (.t 4), none⟩ :: ⟨(some 2), .mov (.t 5), none⟩ :: []))
.ret))⟩
theorem c47_eq : compFn Tryz.prog 47 = some c47 := by kernel_rfl
/-- sodality/roll.New -/
noncomputable def c48 : FnI := ⟨20, [.tmp 4, .tmp 5],
(.seq (.reg (⟨(some 4), .mov (.c .nilp), none⟩ :: ⟨(some 5), .mov (.c (.int .i64 (.ofNat 0))), none⟩ :: []))
(.seq (.reg (⟨(some 7), .mov (.t 0), none⟩ :: ⟨(some 8), .mov (.t 1), none⟩ :: ⟨(some 9), .build [(.int .i64 (.ofNat 0)), (.int .u32 (.ofNat 0)), (.int .i64 (.ofNat 0))] [(0, 1, (.t 7)), (1, 1, (.t 8))], none⟩ :: ⟨(some 6), .alloc [(.int .i64 (.ofNat 0)), (.int .u32 (.ofNat 0)), (.int .i64 (.ofNat 0))], none⟩ :: ⟨none, .store 3 (.t 6) (.t 9), none⟩ :: []))
(.seq (.seq (.reg (⟨(some 10), .load true 3 (.t 6), none⟩ :: ⟨(some 11), .call 88 [(.t 10)], none⟩ :: ⟨(some 12), .un .not (.t 11), none⟩ :: []))
(.cond (.t 12) (.seq (.reg (⟨(some 4), .mov (.c .nilp), none⟩ :: ⟨(some 5), .mov (.c (.int .i64 (.ofNat 2))), none⟩ :: []))
.ret) .skip))
(.seq (.reg (⟨(some 13), .mov (.t 0), none⟩ :: ⟨(some 14), .mkmap, none⟩ :: ⟨(some 15), .mov (.t 0), none⟩ :: ⟨(some 16), .load true 3 (.t 6), none⟩ :: ⟨none, .mapup .int (.t 14) (.t 15) (.t 16), none⟩ :: ⟨(some 17), .mov (.t 14), none⟩ :: ⟨(some 18), .build [(.int .i64 (.ofNat 0)), .nilmap] [(0, 1, (.t 13)), (1, 1, (.t 17))], none⟩ :: ⟨(some 19), .box (.t 18), none⟩ :: ⟨(some 4), .mov (.t 19), none⟩ :: ⟨(some 5), .mov (.c (.int .i64 (.ofNat 0))), none⟩ :: []))
.ret))))⟩
theorem c48_eq : compFn Tryz.prog 48 = some c48 := by kernel_rfl
/-- sodality/rumor.New -/
noncomputable def c49 : FnI := ⟨9, [.tmp 2],
(.seq (.reg (⟨(some 2), .mov (.c .nilp), none⟩ :: []))
(.seq (.reg (⟨(some 3), .mov (.t 0), none⟩ :: ⟨(some 4), .mm true (.t 3) [(.c (.int .i64 (.ofNat 1)))], none⟩ :: ⟨(some 5), .mm false (.t 4) [(.c (.int .i64 (.ofNat 8)))], none⟩ :: ⟨(some 6), .mkmap, none⟩ :: ⟨(some 7), .build [(.int .i64 (.ofNat 0)), (.int .i64 (.ofNat 0)), .nilmap] [(0, 1, (.t 5)), (2, 1, (.t 6))], none⟩ :: ⟨(some 8), .box (.t 7), none⟩ :: ⟨(some 2), .mov (.t 8), none⟩ :: []))
.ret))⟩
theorem c49_eq : compFn Tryz.prog 49 = some c49 := by kernel_rfl
/-- sodality/probe.New -/
noncomputable def c50 : FnI := ⟨3, [.tmp 0],
(.seq (.reg (⟨(some 0), .mov (.c .nilp), none⟩ :: []))
(.seq (.reg (⟨(some 1), .build [(.bool false), .nilsl, (.int .i64 (.ofNat 0))] [(0, 1, (.c (.bool true)))], none⟩ :: ⟨(some 2), .box (.t 1), none⟩ :: ⟨(some 0), .mov (.t 2), none⟩ :: []))
.ret))⟩
theorem c50_eq : compFn Tryz.prog 50 = some c50 := by kernel_rfl
/-- sodality/draw.New -/
noncomputable def c51 : FnI := ⟨12, [.tmp 2],
(.seq (.reg (⟨(some 2), .mov (.c .nilp), none⟩ :: []))
(.seq (.reg (⟨(some 3), .buildSl 1 0 [] [], none⟩ :: ⟨(some 4), .mov (.t 0), none⟩ :: ⟨(some 5), .mov (.t 0), none⟩ :: ⟨(some 6), .len false (.t 5), none⟩ :: ⟨(some 7), .mm false (.t 6) [(.c (.int .i64 (.ofNat 4096)))], none⟩ :: ⟨(some 8), .slS 1 (.t 4) none (some (.t 7)) none, none⟩ :: ⟨(some 9), .append 1 4 (.t 3) (.t 8), none⟩ :: ⟨(some 10), .build [.nilsl, (.int .i64 (.ofNat 0))] [(0, 1, (.t 9))], none⟩ :: ⟨(some 11), .box (.t 10), none⟩ :: ⟨(some 2), .mov (.t 11), none⟩ :: []))
.ret))⟩
theorem c51_eq : compFn Tryz.prog 51 = some c51 := by kernel_rfl
/-- sodality/wheel.New -/
noncomputable def c52 : FnI := ⟨4, [.tmp 0],
(.seq (.reg (⟨(some 0), .mov (.c .nilp), none⟩ :: []))
(.seq (.reg (⟨(some 1), .mkmap, none⟩ :: ⟨(some 2), .build [(.int .i64 (.ofNat 0)), .nilmap, .nilsl, .nilsl, .nilsl, .nilsl, .nilsl, .nilsl, .nilsl, .nilsl, .nilsl, .nilsl, .nilsl, .nilsl, .nilsl, .nilsl, .nilsl, .nilsl, .nilsl, .nilsl, .nilsl, .nilsl, .nilsl, .nilsl, .nilsl, .nilsl, .nilsl, .nilsl, .nilsl, .nilsl, .nilsl, .nilsl, .nilsl, .nilsl, .nilsl, .nilsl, .nilsl, .nilsl, .nilsl, .nilsl, .nilsl, .nilsl, .nilsl, .nilsl, .nilsl, .nilsl, .nilsl, .nilsl, .nilsl, .nilsl, .nilsl, .nilsl, .nilsl, .nilsl, .nilsl, .nilsl, .nilsl, .nilsl, .nilsl, .nilsl, .nilsl, .nilsl, .nilsl, .nilsl, .nilsl, .nilsl, .nilsl, .nilsl, .nilsl, .nilsl, .nilsl, .nilsl, .nilsl, .nilsl, .nilsl, .nilsl, .nilsl, .nilsl, .nilsl, .nilsl, .nilsl, .nilsl, .nilsl, .nilsl, .nilsl, .nilsl, .nilsl, .nilsl, .nilsl, .nilsl, .nilsl, .nilsl, .nilsl, .nilsl, .nilsl, .nilsl, .nilsl, .nilsl, .nilsl, .nilsl, .nilsl, .nilsl, .nilsl, .nilsl, .nilsl, .nilsl, .nilsl, .nilsl, .nilsl, .nilsl, .nilsl, .nilsl, .nilsl, .nilsl, .nilsl, .nilsl, .nilsl, .nilsl, .nilsl, .nilsl, .nilsl, .nilsl, .nilsl, .nilsl, .nilsl, .nilsl, .nilsl, .nilsl, .nilsl, .nilsl, .nilsl, .nilsl, .nilsl, .nilsl, .nilsl, .nilsl, .nilsl, .nilsl, .nilsl, .nilsl, .nilsl, .nilsl, .nilsl, .nilsl, .nilsl, .nilsl, .nilsl, .nilsl, .nilsl, .nilsl, .nilsl, .nilsl, .nilsl, .nilsl, .nilsl, .nilsl, .nilsl, .nilsl, .nilsl, .nilsl, .nilsl, .nilsl, .nilsl, .nilsl, .nilsl, .nilsl, .nilsl, .nilsl, .nilsl, .nilsl, .nilsl, .nilsl, .nilsl, .nilsl, .nilsl, .nilsl, .nilsl, .nilsl, .nilsl, .nilsl, .nilsl, .nilsl, .nilsl, .nilsl, .nilsl, .nilsl, .nilsl, .nilsl, .nilsl, .nilsl, .nilsl, .nilsl, .nilsl, .nilsl] [(1, 1, (.t 1))], none⟩ :: ⟨(some 3), .box (.t 2), none⟩ :: ⟨(some 0), .mov (.t 3), none⟩ :: []))
.ret))⟩
theorem c52_eq : compFn Tryz.prog 52 = some c52 := by kernel_rfl
/-- (*sodality/wheel.Wheel).Set -/
noncomputable def c53 : FnI := ⟨47, [.tmp 6],
(.seq (.reg (⟨(some 6), .mov (.c (.bool false)), none⟩ :: []))
(.seq (.seq (.reg (⟨(some 9), .mov (.t 0), none⟩ :: ⟨(some 10), .call 63 [(.t 9)], none⟩ :: ⟨(some 11), .mov (.t 10), none⟩ :: ⟨(some 12), .mov (.t 2), (some (11, false))⟩ :: ⟨(some 13), .bin .lss (.t 12) (.c (.int .i64 (.ofNat 1))), (some (11, false))⟩ :: ⟨(some 14), .pick (.t 11) (.c (.bool true)) (.t 13), none⟩ :: ⟨(some 15), .mov (.t 14), none⟩ :: ⟨(some 16), .mov (.t 2), (some (15, false))⟩ :: ⟨(some 17), .bin .gtr (.t 16) (.c (.int .i64 (.ofNat 262144))), (some (15, false))⟩ :: ⟨(some 18), .pick (.t 15) (.c (.bool true)) (.t 17), none⟩ :: []))
(.cond (.t 18) (.seq (.reg (⟨(some 6), .mov (.c (.bool false)), none⟩ :: []))
.ret) .skip))
(.seq (.seq (.reg (⟨(some 20), .mov (.t 0), none⟩ :: ⟨(some 21), .nilchk (.t 20), none⟩ :: ⟨(some 22), .faddr 1 (.t 21), none⟩ :: ⟨(some 23), .load false 1 (.t 22), none⟩ :: ⟨(some 24), .mov (.t 1), none⟩ :: ⟨(some 25), .lookup true .int (.agg [(.int .i64 (.ofNat 0)), (.int .i64 (.ofNat 0)), (.int .i64 (.ofNat 0))]) (.t 23) (.t 24), none⟩ :: ⟨(some 19), .mov (.t 25), none⟩ :: ⟨(some 26), .extract (.t 19) 0, none⟩ :: ⟨(some 27), .extract (.t 19) 1, none⟩ :: ⟨(some 7), .alloc [(.int .i64 (.ofNat 0)), (.int .i64 (.ofNat 0)), (.int .i64 (.ofNat 0))], none⟩ :: ⟨none, .store 3 (.t 7) (.t 26), none⟩ :: ⟨(some 8), .mov (.t 27), none⟩ :: []))
(.seq (.reg (⟨(some 28), .mov (.t 8), none⟩ :: []))
(.cond (.t 28) (.reg (⟨(some 29), .mov (.t 0), none⟩ :: ⟨(some 30), .mov (.t 1), none⟩ :: ⟨(some 31), .call 89 [(.t 29), (.t 30)], none⟩ :: [])) (.seq (.reg (⟨(some 32), .mov (.t 0), none⟩ :: ⟨(some 33), .nilchk (.t 32), none⟩ :: ⟨(some 34), .faddr 1 (.t 33), none⟩ :: ⟨(some 35), .load false 1 (.t 34), none⟩ :: ⟨(some 36), .lenMap (.t 35), none⟩ :: ⟨(some 37), .bin .geq (.t 36) (.c (.int .i64 (.ofNat 64))), none⟩ :: []))
(.cond (.t 37) (.seq (.reg (⟨(some 6), .mov (.c (.bool false)), none⟩ :: []))
.ret) .skip)))))
(.seq (.reg (⟨(some 38), .mov (.t 0), none⟩ :: ⟨(some 39), .mov (.t 1), none⟩ :: ⟨(some 40), .mov (.t 0), none⟩ :: ⟨(some 41), .nilchk (.t 40), none⟩ :: ⟨(some 42), .faddr 0 (.t 41), none⟩ :: ⟨(some 43), .load false 1 (.t 42), none⟩ :: ⟨(some 44), .mov (.t 2), none⟩ :: ⟨(some 45), .bin .add (.t 43) (.t 44), none⟩ :: ⟨(some 46), .call 90 [(.t 38), (.t 39), (.t 45)], none⟩ :: []))
(.seq (.reg (⟨(some 6), .mov (.c (.bool true)), none⟩ :: []))
.ret)))))⟩
theorem c53_eq : compFn Tryz.prog 53 = some c53 := by kernel_rfl
/-- (*sodality/wheel.Wheel).none -/
noncomputable def c63 : FnI := ⟨12, [.tmp 2],
(.seq (.reg (⟨(some 2), .mov (.c (.bool false)), none⟩ :: []))
(.seq (.reg (⟨(some 3), .mov (.t 0), none⟩ :: ⟨(some 4), .eq false .ptr (.t 3) (.c .nilp), none⟩ :: ⟨(some 5), .mov (.t 4), none⟩ :: ⟨(some 6), .mov (.t 0), (some (5, false))⟩ :: ⟨(some 7), .nilchk (.t 6), (some (5, false))⟩ :: ⟨(some 8), .faddr 1 (.t 7), (some (5, false))⟩ :: ⟨(some 9), .load false 1 (.t 8), (some (5, false))⟩ :: ⟨(some 10), .eq false .map (.t 9) (.c .nilmap), (some (5, false))⟩ :: ⟨(some 11), .pick (.t 5) (.c (.bool true)) (.t 10), none⟩ :: ⟨(some 2), .mov (.t 11), none⟩ :: []))
.ret))⟩
theorem c63_eq : compFn Tryz.prog 63 = some c63 := by kernel_rfl
/-- (*sodality/swim.Swim).rumors -/
noncomputable def c79 : FnI := ⟨21, [.tmp 2],
(.seq (.reg (⟨(some 2), .mov (.c .nilsl), none⟩ :: []))
(.seq (.dreg (⟨⟨(some 13), .mov (.t 0), none⟩, .quiet, 10, 0⟩ :: ⟨⟨(some 14), .nilchk (.t 13), none⟩, .quiet, 11, 1024⟩ :: ⟨⟨(some 15), .faddr 0 (.t 14), none⟩, .quiet, 12, 3072⟩ :: ⟨⟨(some 16), .faddr 0 (.t 15), none⟩, .quiet, 13, 7168⟩ :: ⟨⟨(some 17), .load false 1 (.t 16), none⟩, .load, 14, 15360⟩ :: ⟨⟨(some 18), .call 42 [(.t 17)], none⟩, .loud, 15, 31744⟩ :: ⟨⟨(some 3), .mov (.t 0), none⟩, .quiet, 0, 0⟩ :: ⟨⟨(some 4), .nilchk (.t 3), none⟩, .quiet, 1, 1⟩ :: ⟨⟨(some 5), .faddr 0 (.t 4), none⟩, .quiet, 2, 3⟩ :: ⟨⟨(some 6), .faddr 1 (.t 5), none⟩, .quiet, 3, 7⟩ :: ⟨⟨(some 7), .load false 1 (.t 6), none⟩, .load, 4, 15⟩ :: ⟨⟨(some 8), .mov (.t 0), none⟩, .quiet, 5, 0⟩ :: ⟨⟨(some 9), .nilchk (.t 8), none⟩, .quiet, 6, 32⟩ :: ⟨⟨(some 10), .faddr 3 (.t 9), none⟩, .quiet, 7, 96⟩ :: ⟨⟨(some 11), .faddr 7 (.t 10), none⟩, .quiet, 8, 224⟩ :: ⟨⟨(some 12), .load false 1 (.t 11), none⟩, .load, 9, 480⟩ :: ⟨⟨(some 19), .len false (.t 18), none⟩, .quiet, 16, 64512⟩ :: ⟨⟨(some 20), .call 114 [(.t 7), (.t 12), (.t 19)], none⟩, .loud, 17, 131071⟩ :: ⟨⟨(some 2), .mov (.t 20), none⟩, .quiet, 18, 262143⟩ :: []))
.ret))⟩
theorem c79_eq : compFn Tryz.prog 79 = some c79 := by kernel_rfl
/-- (*sodality/swim.Swim).packet -/
noncomputable def c81 : FnI := ⟨31, [],
(.seq (.reg (⟨(some 9), .mov (.t 2), none⟩ :: ⟨(some 10), .call 115 [(.t 9)], none⟩ :: ⟨(some 8), .mov (.t 10), none⟩ :: ⟨(some 11), .extract (.t 8) 0, none⟩ :: ⟨(some 12), .extract (.t 8) 1, none⟩ :: ⟨(some 6), .mov (.t 11), none⟩ :: ⟨(some 7), .mov (.t 12), none⟩ :: []))
(.seq (.reg (⟨(some 13), .mov (.t 7), none⟩ :: ⟨(some 14), .bin .eql (.t 13) (.c (.int .i64 (.ofNat 0))), none⟩ :: []))
(.cond (.t 14) (.dreg (⟨⟨(some 16), .mov (.t 0), none⟩, .quiet, 1, 0⟩ :: ⟨⟨(some 17), .nilchk (.t 16), none⟩, .quiet, 2, 2⟩ :: ⟨⟨(some 18), .faddr 66 (.t 17), none⟩, .quiet, 3, 6⟩ :: ⟨⟨(some 19), .load false 1 (.t 18), none⟩, .load, 4, 14⟩ :: ⟨⟨(some 20), .mov (.t 0), none⟩, .quiet, 5, 0⟩ :: ⟨⟨(some 21), .nilchk (.t 20), none⟩, .quiet, 6, 32⟩ :: ⟨⟨(some 22), .faddr 14 (.t 21), none⟩, .quiet, 7, 96⟩ :: ⟨⟨(some 23), .load false 1 (.t 22), none⟩, .load, 8, 224⟩ :: ⟨⟨(some 24), .mov (.t 1), none⟩, .quiet, 9, 0⟩ :: ⟨⟨(some 25), .mov (.t 6), none⟩, .quiet, 10, 0⟩ :: ⟨⟨(some 26), .build [(.int .i64 (.ofNat 0)), (.int .i64 (.ofNat 0)), .nilsl] [(0, 1, (.t 23)), (1, 1, (.t 24)), (2, 1, (.t 25))], none⟩, .quiet, 11, 2016⟩ :: ⟨⟨(some 27), .buildSl 3 1 [(.int .i64 (.ofNat 0)), (.int .i64 (.ofNat 0)), .nilsl] [(0, 3, (.t 26))], none⟩, .quiet, 12, 4064⟩ :: ⟨⟨(some 28), .append 3 40 (.t 19) (.t 27), none⟩, .loud, 13, 8190⟩ :: ⟨⟨(some 15), .mov (.t 0), none⟩, .quiet, 0, 0⟩ :: ⟨⟨(some 29), .nilchk (.t 15), none⟩, .quiet, 14, 16383⟩ :: ⟨⟨(some 30), .faddr 66 (.t 29), none⟩, .quiet, 15, 32767⟩ :: ⟨⟨none, .store 1 (.t 30) (.t 28), none⟩, .loud, 16, 65535⟩ :: [])) .skip)))⟩
theorem c81_eq : compFn Tryz.prog 81 = some c81 := by kernel_rfl
/-- (*sodality/roll.Roll).none -/
noncomputable def c82 : FnI := ⟨12, [.tmp 2],
(.seq (.reg (⟨(some 2), .mov (.c (.bool false)), none⟩ :: []))
(.seq (.reg (⟨(some 3), .mov (.t 0), none⟩ :: ⟨(some 4), .eq false .ptr (.t 3) (.c .nilp), none⟩ :: ⟨(some 5), .mov (.t 4), none⟩ :: ⟨(some 6), .mov (.t 0), (some (5, false))⟩ :: ⟨(some 7), .nilchk (.t 6), (some (5, false))⟩ :: ⟨(some 8), .faddr 1 (.t 7), (some (5, false))⟩ :: ⟨(some 9), .load false 1 (.t 8), (some (5, false))⟩ :: ⟨(some 10), .eq false .map (.t 9) (.c .nilmap), (some (5, false))⟩ :: ⟨(some 11), .pick (.t 5) (.c (.bool true)) (.t 10), none⟩ :: ⟨(some 2), .mov (.t 11), none⟩ :: []))
.ret))⟩
theorem c82_eq : compFn Tryz.prog 82 = some c82 := by kernel_rfl
/-- (*sodality/roll.Roll).each -/
noncomputable def c84 : FnI := ⟨4, [.tmp 2],
(.seq (.reg (⟨(some 1), .box (.t 0), none⟩ :: ⟨(some 2), .mov (.c .nilfn), none⟩ :: []))
(.seq (.reg (⟨(some 3), .mkfn 116 [] [(.t 1)], none⟩ :: ⟨(some 2), .mov (.t 3), none⟩ :: []))
.ret))⟩
theorem c84_eq : compFn Tryz.prog 84 = some c84 := by kernel_rfl
/-- sodality/roll.lives -/
noncomputable def c85 : FnI := ⟨11, [.tmp 2],
(.seq (.reg (⟨(some 1), .box (.t 0), none⟩ :: ⟨(some 2), .mov (.c (.bool false)), none⟩ :: []))
(.seq (.reg (⟨(some 3), .faddr 2 (.t 1), none⟩ :: ⟨(some 4), .load false 1 (.t 3), none⟩ :: ⟨(some 5), .bin .eql (.t 4) (.c (.int .i64 (.ofNat 0))), none⟩ :: ⟨(some 6), .mov (.t 5), none⟩ :: ⟨(some 7), .faddr 2 (.t 1), (some (6, false))⟩ :: ⟨(some 8), .load false 1 (.t 7), (some (6, false))⟩ :: ⟨(some 9), .bin .eql (.t 8) (.c (.int .i64 (.ofNat 1))), (some (6, false))⟩ :: ⟨(some 10), .pick (.t 6) (.c (.bool true)) (.t 9), none⟩ :: ⟨(some 2), .mov (.t 10), none⟩ :: []))
.ret))⟩
theorem c85_eq : compFn Tryz.prog 85 = some c85 := by kernel_rfl
/-- (*sodality/rumor.Queue).none -/
noncomputable def c86 : FnI := ⟨12, [.tmp 2],
(.seq (.reg (⟨(some 2), .mov (.c (.bool false)), none⟩ :: []))
(.seq (.reg (⟨(some 3), .mov (.t 0), none⟩ :: ⟨(some 4), .eq false .ptr (.t 3) (.c .nilp), none⟩ :: ⟨(some 5), .mov (.t 4), none⟩ :: ⟨(some 6), .mov (.t 0), (some (5, false))⟩ :: ⟨(some 7), .nilchk (.t 6), (some (5, false))⟩ :: ⟨(some 8), .faddr 2 (.t 7), (some (5, false))⟩ :: ⟨(some 9), .load false 1 (.t 8), (some (5, false))⟩ :: ⟨(some 10), .eq false .map (.t 9) (.c .nilmap), (some (5, false))⟩ :: ⟨(some 11), .pick (.t 5) (.c (.bool true)) (.t 10), none⟩ :: ⟨(some 2), .mov (.t 11), none⟩ :: []))
.ret))⟩
theorem c86_eq : compFn Tryz.prog 86 = some c86 := by kernel_rfl
/-- (*sodality/rumor.Queue).ordered -/
noncomputable def c87 : FnI := ⟨30, [.tmp 2],
(.seq (.reg (⟨(some 2), .mov (.c .nilsl), none⟩ :: []))
(.seq (.reg (⟨(some 3), .alloc [.nilsl], none⟩ :: []))
(.seq (.seq (.reg (⟨(some 7), .mov (.c (.int .i64 (.ofNat 0))), none⟩ :: []))
(.block 0 (.loop (.seq (.reg (⟨(some 8), .bin .lss (.t 7) (.c (.int .i64 (.ofNat 8))), none⟩ :: []))
(.seq (.cond (.t 8) .skip (.exit 0))
(.seq (.block 1 (.seq (.reg (⟨(some 9), .mov (.t 7), none⟩ :: ⟨(some 4), .mov (.t 9), none⟩ :: []))
(.seq (.reg (⟨(some 11), .mov (.t 0), none⟩ :: ⟨(some 12), .nilchk (.t 11), none⟩ :: ⟨(some 13), .faddr 2 (.t 12), none⟩ :: ⟨(some 14), .load false 1 (.t 13), none⟩ :: ⟨(some 15), .mov (.t 4), none⟩ :: ⟨(some 16), .lookup true .int (.agg [(.int .i64 (.ofNat 0)), (.int .u32 (.ofNat 0)), (.int .i64 (.ofNat 0)), (.int .i64 (.ofNat 0)), (.int .i64 (.ofNat 0))]) (.t 14) (.t 15), none⟩ :: ⟨(some 10), .mov (.t 16), none⟩ :: ⟨(some 17), .extract (.t 10) 0, none⟩ :: ⟨(some 18), .extract (.t 10) 1, none⟩ :: ⟨(some 5), .alloc [(.int .i64 (.ofNat 0)), (.int .u32 (.ofNat 0)), (.int .i64 (.ofNat 0)), (.int .i64 (.ofNat 0)), (.int .i64 (.ofNat 0))], none⟩ :: ⟨none, .store 5 (.t 5) (.t 17), none⟩ :: ⟨(some 6), .mov (.t 18), none⟩ :: []))
(.seq (.reg (⟨(some 19), .mov (.t 6), none⟩ :: []))
(.cond (.t 19) (.reg (⟨(some 20), .load false 1 (.t 3), none⟩ :: ⟨(some 21), .load true 5 (.t 5), none⟩ :: ⟨(some 22), .buildSl 5 1 [(.int .i64 (.ofNat 0)), (.int .u32 (.ofNat 0)), (.int .i64 (.ofNat 0)), (.int .i64 (.ofNat 0)), (.int .i64 (.ofNat 0))] [(0, 5, (.t 21))], none⟩ :: ⟨(some 23), .append 5 40 (.t 20) (.t 22), none⟩ :: ⟨none, .store 1 (.t 3) (.t 23), none⟩ :: [])) .skip)))))
(.reg (⟨(some 24), .bin .add (.t 7) (.c (.int .i64 (.ofNat 1))), none⟩ :: ⟨(some 7), .mov (.t 24), none⟩ :: []))))))))
(.seq (.reg (⟨(some 25), .load false 1 (.t 3), none⟩ :: ⟨(some 26), .mkif 137 (.t 25), none⟩ :: ⟨(some 27), .mkfn 118 [] [(.t 3)], none⟩ :: ⟨(some 28), .call 117 [(.t 26), (.t 27)], none⟩ :: []))
(.seq (.reg (⟨(some 29), .load false 1 (.t 3), none⟩ :: ⟨(some 2), .mov (.t 29), none⟩ :: []))
.ret)))))⟩
theorem c87_eq : compFn Tryz.prog 87 = some c87 := by kernel_rfl
/-- sodality/rank.Right -/
noncomputable def c88 : FnI := ⟨21, [.tmp 2],
(.seq (.reg (⟨(some 1), .box (.t 0), none⟩ :: ⟨(some 2), .mov (.c (.bool false)), none⟩ :: []))
(.seq (.reg (⟨(some 3), .faddr 0 (.t 1), none⟩ :: ⟨(some 4), .load false 1 (.t 3), none⟩ :: ⟨(some 5), .bin .geq (.t 4) (.c (.int .i64 (.ofNat 0))), none⟩ :: ⟨(some 6), .mov (.t 5), none⟩ :: ⟨(some 7), .faddr 0 (.t 1), (some (6, true))⟩ :: ⟨(some 8), .load false 1 (.t 7), (some (6, true))⟩ :: ⟨(some 9), .bin .lss (.t 8) (.c (.int .i64 (.ofNat 8))), (some (6, true))⟩ :: ⟨(some 10), .pick (.t 6) (.t 9) (.c (.bool false)), none⟩ :: ⟨(some 11), .mov (.t 10), none⟩ :: ⟨(some 12), .faddr 2 (.t 1), (some (11, true))⟩ :: ⟨(some 13), .load false 1 (.t 12), (some (11, true))⟩ :: ⟨(some 14), .bin .geq (.t 13) (.c (.int .i64 (.ofNat 0))), (some (11, true))⟩ :: ⟨(some 15), .pick (.t 11) (.t 14) (.c (.bool false)), none⟩ :: ⟨(some 16), .mov (.t 15), none⟩ :: ⟨(some 17), .faddr 2 (.t 1), (some (16, true))⟩ :: ⟨(some 18), .load false 1 (.t 17), (some (16, true))⟩ :: ⟨(some 19), .bin .leq (.t 18) (.c (.int .i64 (.ofNat 3))), (some (16, true))⟩ :: ⟨(some 20), .pick (.t 16) (.t 19) (.c (.bool false)), none⟩ :: ⟨(some 2), .mov (.t 20), none⟩ :: []))
.ret))⟩
theorem c88_eq : compFn Tryz.prog 88 = some c88 := by kernel_rfl
/-- (*sodality/wheel.Wheel).hang -/
noncomputable def c90 : FnI := ⟨40, [],
(.seq (.reg (⟨(some 7), .mov (.t 0), none⟩ :: ⟨(some 8), .mov (.t 2), none⟩ :: ⟨(some 9), .call 119 [(.t 7), (.t 8)], none⟩ :: ⟨(some 6), .alloc [(.int .i64 (.ofNat 0)), (.int .i64 (.ofNat 0))], none⟩ :: ⟨none, .store 2 (.t 6) (.t 9), none⟩ :: []))
(.seq (.dreg (⟨⟨(some 10), .mov (.t 0), none⟩, .quiet, 0, 0⟩ :: ⟨⟨(some 11), .nilchk (.t 10), none⟩, .quiet, 1, 1⟩ :: ⟨⟨(some 12), .faddr 1 (.t 11), none⟩, .quiet, 2, 3⟩ :: ⟨⟨(some 13), .load false 1 (.t 12), none⟩, .load, 3, 7⟩ :: ⟨⟨(some 14), .mov (.t 1), none⟩, .quiet, 4, 0⟩ :: ⟨⟨(some 15), .mov (.t 2), none⟩, .quiet, 5, 0⟩ :: ⟨⟨(some 16), .load true 2 (.t 6), none⟩, .load, 6, 0⟩ :: ⟨⟨(some 17), .build [(.int .i64 (.ofNat 0)), (.int .i64 (.ofNat 0)), (.int .i64 (.ofNat 0))] [(0, 1, (.t 15)), (1, 2, (.t 16))], none⟩, .quiet, 7, 96⟩ :: ⟨⟨none, .mapup .int (.t 13) (.t 14) (.t 17), none⟩, .loud, 8, 255⟩ :: []))
(.dreg (⟨⟨(some 23), .mov (.t 0), none⟩, .quiet, 5, 0⟩ :: ⟨⟨(some 24), .faddr 0 (.t 6), none⟩, .quiet, 6, 0⟩ :: ⟨⟨(some 25), .load false 1 (.t 24), none⟩, .load, 7, 64⟩ :: ⟨⟨(some 26), .faddr 1 (.t 6), none⟩, .quiet, 8, 0⟩ :: ⟨⟨(some 27), .load false 1 (.t 26), none⟩, .load, 9, 256⟩ :: ⟨⟨(some 28), .nilchk (.t 23), none⟩, .quiet, 10, 32⟩ :: ⟨⟨(some 29), .faddr 2 (.t 28), none⟩, .quiet, 11, 1056⟩ :: ⟨⟨(some 30), .idxA 3 64 (.t 29) (.t 25), none⟩, .quiet, 12, 3296⟩ :: ⟨⟨(some 31), .idxA 64 1 (.t 30) (.t 27), none⟩, .quiet, 13, 8160⟩ :: ⟨⟨(some 32), .load false 1 (.t 31), none⟩, .load, 14, 16352⟩ :: ⟨⟨(some 33), .mov (.t 1), none⟩, .quiet, 15, 0⟩ :: ⟨⟨(some 34), .buildSl 1 1 [(.int .i64 (.ofNat 0))] [(0, 1, (.t 33))], none⟩, .quiet, 16, 32768⟩ :: ⟨⟨(some 35), .append 1 8 (.t 32) (.t 34), none⟩, .loud, 17, 131040⟩ :: ⟨⟨(some 18), .mov (.t 0), none⟩, .quiet, 0, 0⟩ :: ⟨⟨(some 19), .faddr 0 (.t 6), none⟩, .quiet, 1, 0⟩ :: ⟨⟨(some 20), .load false 1 (.t 19), none⟩, .load, 2, 2⟩ :: ⟨⟨(some 21), .faddr 1 (.t 6), none⟩, .quiet, 3, 0⟩ :: ⟨⟨(some 22), .load false 1 (.t 21), none⟩, .load, 4, 8⟩ :: ⟨⟨(some 36), .nilchk (.t 18), none⟩, .quiet, 18, 1⟩ :: ⟨⟨(some 37), .faddr 2 (.t 36), none⟩, .quiet, 19, 262145⟩ :: ⟨⟨(some 38), .idxA 3 64 (.t 37) (.t 20), none⟩, .quiet, 20, 786439⟩ :: ⟨⟨(some 39), .idxA 64 1 (.t 38) (.t 22), none⟩, .quiet, 21, 2097151⟩ :: ⟨⟨none, .store 1 (.t 39) (.t 35), none⟩, .loud, 22, 4194303⟩ :: []))))⟩
theorem c90_eq : compFn Tryz.prog 90 = some c90 := by kernel_rfl
/-- (*sodality/roll.Roll).Get -/
noncomputable def c91 : FnI := ⟨22, [.cell 4 true 3, .tmp 5],
(.seq (.reg (⟨(some 4), .alloc [(.int .i64 (.ofNat 0)), (.int .u32 (.ofNat 0)), (.int .i64 (.ofNat 0))], none⟩ :: ⟨(some 5), .mov (.c (.bool false)), none⟩ :: []))
(.seq (.seq (.reg (⟨(some 8), .mov (.t 0), none⟩ :: ⟨(some 9), .call 82 [(.t 8)], none⟩ :: []))
(.cond (.t 9) (.seq (.reg (⟨(some 10), .build [(.int .i64 (.ofNat 0)), (.int .u32 (.ofNat 0)), (.int .i64 (.ofNat 0))] [], none⟩ :: ⟨none, .store 3 (.t 4) (.t 10), none⟩ :: ⟨(some 5), .mov (.c (.bool false)), none⟩ :: []))
.ret) .skip))
(.seq (.reg (⟨(some 12), .mov (.t 0), none⟩ :: ⟨(some 13), .nilchk (.t 12), none⟩ :: ⟨(some 14), .faddr 1 (.t 13), none⟩ :: ⟨(some 15), .load false 1 (.t 14), none⟩ :: ⟨(some 16), .mov (.t 1), none⟩ :: ⟨(some 17), .lookup true .int (.agg [(.int .i64 (.ofNat 0)), (.int .u32 (.ofNat 0)), (.int .i64 (.ofNat 0))]) (.t 15) (.t 16), none⟩ :: ⟨(some 11), .mov (.t 17), none⟩ :: ⟨(some 18), .extract (.t 11) 0, none⟩ :: ⟨(some 19), .extract (.t 11) 1, none⟩ :: ⟨(some 6), .alloc [(.int .i64 (.ofNat 0)), (.int .u32 (.ofNat 0)), (.int .i64 (.ofNat 0))], none⟩ :: ⟨none, .store 3 (.t 6) (.t 18), none⟩ :: ⟨(some 7), .mov (.t 19), none⟩ :: []))
(.seq (.reg (⟨(some 20), .load true 3 (.t 6), none⟩ :: ⟨(some 21), .mov (.t 7), none⟩ :: ⟨none, .store 3 (.t 4) (.t 20), none⟩ :: ⟨(some 5), .mov (.t 21), none⟩ :: []))
.ret))))⟩
theorem c91_eq : compFn Tryz.prog 91 = some c91 := by kernel_rfl
/-- sodality/speech.fields -/
noncomputable def c107 : FnI := ⟨18, [.tmp 2],
(.seq (.reg (⟨(some 2), .mov (.c .nilsl), none⟩ :: []))
(.seq (.seq (.reg (⟨(some 3), .mov (.t 0), none⟩ :: []))
(.block 0 (.seq (.seq (.reg (⟨(some 5), .bin .eql (.t 3) (.c (.int .i64 (.ofNat 1))), none⟩ :: ⟨(some 4), .mov (.t 5), none⟩ :: []))
(.cond (.t 4) .skip (.reg (⟨(some 6), .bin .eql (.t 3) (.c (.int .i64 (.ofNat 3))), none⟩ :: ⟨(some 4), .mov (.t 6), none⟩ :: []))))
(.cond (.t 4) (.seq (.reg (⟨(some 7), .buildSl 1 3 [(.int .i64 (.ofNat 0)), (.int .i64 (.ofNat 0)), (.int .i64 (.ofNat 0))] [(0, 1, (.c (.int .i64 (.ofNat 0)))), (1, 1, (.c (.int .i64 (.ofNat 1)))), (2, 1, (.c (.int .i64 (.ofNat 2))))], none⟩ :: ⟨(some 2), .mov (.t 7), none⟩ :: []))
.ret) (.seq (.seq (.reg (⟨(some 9), .bin .eql (.t 3) (.c (.int .i64 (.ofNat 2))), none⟩ :: ⟨(some 8), .mov (.t 9), none⟩ :: []))
(.cond (.t 8) .skip (.reg (⟨(some 10), .bin .eql (.t 3) (.c (.int .i64 (.ofNat 4))), none⟩ :: ⟨(some 8), .mov (.t 10), none⟩ :: []))))
(.cond (.t 8) (.seq (.reg (⟨(some 11), .buildSl 1 2 [(.int .i64 (.ofNat 0)), (.int .i64 (.ofNat 0))] [(0, 1, (.c (.int .i64 (.ofNat 0)))), (1, 1, (.c (.int .i64 (.ofNat 1))))], none⟩ :: ⟨(some 2), .mov (.t 11), none⟩ :: []))
.ret) (.seq (.reg (⟨(some 13), .bin .eql (.t 3) (.c (.int .i64 (.ofNat 5))), none⟩ :: ⟨(some 12), .mov (.t 13), none⟩ :: []))
(.cond (.t 12) (.seq (.reg (⟨(some 14), .buildSl 1 2 [(.int .i64 (.ofNat 0)), (.int .i64 (.ofNat 0))] [(0, 1, (.c (.int .i64 (.ofNat 1)))), (1, 1, (.c (.int .i64 (.ofNat 4))))], none⟩ :: ⟨(some 2), .mov (.t 14), none⟩ :: []))
.ret) (.seq (.reg (⟨(some 16), .bin .eql (.t 3) (.c (.int .i64 (.ofNat 6))), none⟩ :: ⟨(some 15), .mov (.t 16), none⟩ :: []))
(.cond (.t 15) (.seq (.reg (⟨(some 17), .buildSl 1 3 [(.int .i64 (.ofNat 0)), (.int .i64 (.ofNat 0)), (.int .i64 (.ofNat 0))] [(0, 1, (.c (.int .i64 (.ofNat 1)))), (1, 1, (.c (.int .i64 (.ofNat 3)))), (2, 1, (.c (.int .i64 (.ofNat 4))))], none⟩ :: ⟨(some 2), .mov (.t 17), none⟩ :: []))
.ret) .skip))))))))))
(.seq (.reg (⟨(some 2), .mov (.c .nilsl), none⟩ :: []))
.ret)))⟩
theorem c107_eq : compFn Tryz.prog 107 = some c107 := by kernel_rfl
/-- sodality/speech.Right -/
noncomputable def c111 : FnI := ⟨77, [.tmp 2],
(.seq (.reg (⟨(some 1), .box (.t 0), none⟩ :: ⟨(some 2), .mov (.c (.bool false)), none⟩ :: []))
(.seq (.block 0 (.seq (.reg (⟨(some 6), .faddr 0 (.t 1), none⟩ :: ⟨(some 7), .load false 1 (.t 6), none⟩ :: ⟨(some 8), .call 107 [(.t 7)], none⟩ :: ⟨(some 9), .eq false .sl (.t 8) (.c .nilsl), none⟩ :: ⟨(some 10), .mov (.t 9), none⟩ :: ⟨(some 11), .faddr 2 (.t 1), (some (10, false))⟩ :: ⟨(some 12), .load false 1 (.t 11), (some (10, false))⟩ :: ⟨(some 13), .call 138 [(.t 12)], (some (10, false))⟩ :: ⟨(some 14), .un .not (.t 13), (some (10, false))⟩ :: ⟨(some 15), .pick (.t 10) (.c (.bool true)) (.t 14), none⟩ :: ⟨(some 16), .mov (.t 15), none⟩ :: ⟨(some 17), .faddr 3 (.t 1), (some (16, false))⟩ :: ⟨(some 18), .load false 1 (.t 17), (some (16, false))⟩ :: ⟨(some 19), .call 138 [(.t 18)], (some (16, false))⟩ :: ⟨(some 20), .un .not (.t 19), (some (16, false))⟩ :: ⟨(some 21), .pick (.t 16) (.c (.bool true)) (.t 20), none⟩ :: ⟨(some 22), .mov (.t 21), none⟩ :: ⟨(some 23), .faddr 5 (.t 1), (some (22, false))⟩ :: ⟨(some 24), .load false 1 (.t 23), (some (22, false))⟩ :: ⟨(some 25), .len false (.t 24), (some (22, false))⟩ :: ⟨(some 26), .bin .gtr (.t 25) (.c (.int .i64 (.ofNat 16))), (some (22, false))⟩ :: ⟨(some 27), .pick (.t 22) (.c (.bool true)) (.t 26), none⟩ :: ⟨(some 5), .mov (.t 27), none⟩ :: []))
(.cond (.t 5) (.seq (.reg (⟨(some 2), .mov (.c (.bool false)), none⟩ :: []))
.ret) (.seq (.seq (.reg (⟨(some 29), .faddr 1 (.t 1), none⟩ :: ⟨(some 30), .load false 1 (.t 29), none⟩ :: ⟨(some 31), .bin .neq (.t 30) (.c (.int .u32 (.ofNat 0))), none⟩ :: ⟨(some 32), .mov (.t 31), none⟩ :: ⟨(some 33), .faddr 0 (.t 1), (some (32, true))⟩ :: ⟨(some 34), .load false 1 (.t 33), (some (32, true))⟩ :: ⟨(some 35), .call 139 [(.t 34), (.c (.int .i64 (.ofNat 0)))], (some (32, true))⟩ :: ⟨(some 36), .un .not (.t 35), (some (32, true))⟩ :: ⟨(some 37), .pick (.t 32) (.t 36) (.c (.bool false)), none⟩ :: ⟨(some 28), .mov (.t 37), none⟩ :: []))
(.cond (.t 28) .skip (.reg (⟨(some 38), .faddr 3 (.t 1), none⟩ :: ⟨(some 39), .load false 1 (.t 38), none⟩ :: ⟨(some 40), .bin .neq (.t 39) (.c (.int .i64 (.ofNat 0))), none⟩ :: ⟨(some 41), .mov (.t 40), none⟩ :: ⟨(some 42), .faddr 0 (.t 1), (some (41, true))⟩ :: ⟨(some 43), .load false 1 (.t 42), (some (41, true))⟩ :: ⟨(some 44), .call 139 [(.t 43), (.c (.int .i64 (.ofNat 2)))], (some (41, true))⟩ :: ⟨(some 45), .un .not (.t 44), (some (41, true))⟩ :: ⟨(some 46), .pick (.t 41) (.t 45) (.c (.bool false)), none⟩ :: ⟨(some 28), .mov (.t 46), none⟩ :: []))))
(.cond (.t 28) (.seq (.reg (⟨(some 2), .mov (.c (.bool false)), none⟩ :: []))
.ret) (.seq (.seq (.reg (⟨(some 48), .faddr 4 (.t 1), none⟩ :: ⟨(some 49), .load false 1 (.t 48), none⟩ :: ⟨(some 50), .mov (.t 49), none⟩ :: ⟨(some 51), .faddr 0 (.t 1), (some (50, true))⟩ :: ⟨(some 52), .load false 1 (.t 51), (some (50, true))⟩ :: ⟨(some 53), .call 139 [(.t 52), (.c (.int .i64 (.ofNat 3)))], (some (50, true))⟩ :: ⟨(some 54), .un .not (.t 53), (some (50, true))⟩ :: ⟨(some 55), .pick (.t 50) (.t 54) (.c (.bool false)), none⟩ :: ⟨(some 47), .mov (.t 55), none⟩ :: []))
(.cond (.t 47) .skip (.reg (⟨(some 56), .faddr 5 (.t 1), none⟩ :: ⟨(some 57), .load false 1 (.t 56), none⟩ :: ⟨(some 58), .len false (.t 57), none⟩ :: ⟨(some 59), .bin .gtr (.t 58) (.c (.int .i64 (.ofNat 0))), none⟩ :: ⟨(some 60), .mov (.t 59), none⟩ :: ⟨(some 61), .faddr 0 (.t 1), (some (60, true))⟩ :: ⟨(some 62), .load false 1 (.t 61), (some (60, true))⟩ :: ⟨(some 63), .call 139 [(.t 62), (.c (.int .i64 (.ofNat 4)))], (some (60, true))⟩ :: ⟨(some 64), .un .not (.t 63), (some (60, true))⟩ :: ⟨(some 65), .pick (.t 60) (.t 64) (.c (.bool false)), none⟩ :: ⟨(some 47), .mov (.t 65), none⟩ :: []))))
(.cond (.t 47) (.seq (.reg (⟨(some 2), .mov (.c (.bool false)), none⟩ :: []))
.ret) .skip)))))))
(.seq (.seq (.reg (⟨(some 66), .faddr 5 (.t 1), none⟩ :: ⟨(some 67), .load false 1 (.t 66), none⟩ :: ⟨(some 68), .len false (.t 67), none⟩ :: ⟨(some 69), .mov (.c (.int .i64 (.ofNat 0))), none⟩ :: []))
(.block 1 (.loop (.seq (.reg (⟨(some 70), .bin .lss (.t 69) (.t 68), none⟩ :: []))
(.seq (.cond (.t 70) .skip (.exit 1))
(.seq (.block 2 (.seq (.reg (⟨(some 71), .idxS 3 (.t 67) (.t 69), none⟩ :: ⟨(some 72), .load true 3 (.t 71), none⟩ :: ⟨(some 4), .alloc [(.int .i64 (.ofNat 0)), (.int .u32 (.ofNat 0)), (.int .i64 (.ofNat 0))], none⟩ :: ⟨none, .store 3 (.t 4) (.t 72), none⟩ :: []))
(.seq (.reg (⟨(some 73), .load true 3 (.t 4), none⟩ :: ⟨(some 74), .call 88 [(.t 73)], none⟩ :: ⟨(some 75), .un .not (.t 74), none⟩ :: []))
(.cond (.t 75) (.seq (.reg (⟨(some 2), .mov (.c (.bool false)), none⟩ :: []))
.ret) .skip))))
(.reg (⟨(some 76), .bin .add (.t 69) (.c (.int .i64 (.ofNat 1))), none⟩ :: ⟨(some 69), .mov (.t 76), none⟩ :: []))))))))
(.seq (.reg (⟨(some 2), .mov (.c (.bool true)), none⟩ :: []))
.ret))))⟩
theorem c111_eq : compFn Tryz.prog 111 = some c111 := by kernel_rfl
/-- (*sodality/rumor.Queue).Take -/
noncomputable def c114 : FnI := ⟨57, [.tmp 6],
(.seq (.reg (⟨(some 6), .mov (.c .nilsl), none⟩ :: []))
(.seq (.seq (.reg (⟨(some 11), .mov (.t 0), none⟩ :: ⟨(some 12), .call 86 [(.t 11)], none⟩ :: []))
(.cond (.t 12) (.seq (.reg (⟨(some 6), .mov (.c .nilsl), none⟩ :: []))
.ret) .skip))
(.seq (.reg (⟨(some 13), .mov (.t 0), none⟩ :: ⟨(some 14), .mov (.t 2), none⟩ :: ⟨(some 15), .call 140 [(.t 13), (.t 14)], none⟩ :: ⟨(some 7), .mov (.t 15), none⟩ :: []))
(.seq (.reg (⟨(some 8), .mov (.c .nilsl), none⟩ :: []))
(.seq (.seq (.reg (⟨(some 16), .mov (.t 0), none⟩ :: ⟨(some 17), .call 87 [(.t 16)], none⟩ :: ⟨(some 18), .len false (.t 17), none⟩ :: ⟨(some 19), .mov (.c (.int .i64 (.ofNat 0))), none⟩ :: []))
(.block 0 (.loop (.seq (.reg (⟨(some 20), .bin .lss (.t 19) (.t 18), none⟩ :: []))
(.seq (.cond (.t 20) .skip (.exit 0))
(.seq (.block 1 (.seq (.reg (⟨(some 21), .idxS 5 (.t 17) (.t 19), none⟩ :: ⟨(some 22), .load true 5 (.t 21), none⟩ :: ⟨(some 10), .alloc [(.int .i64 (.ofNat 0)), (.int .u32 (.ofNat 0)), (.int .i64 (.ofNat 0)), (.int .i64 (.ofNat 0)), (.int .i64 (.ofNat 0))], none⟩ :: ⟨none, .store 5 (.t 10) (.t 22), none⟩ :: []))
(.seq (.seq (.reg (⟨(some 23), .mov (.t 8), none⟩ :: ⟨(some 24), .len false (.t 23), none⟩ :: ⟨(some 25), .mov (.t 1), none⟩ :: ⟨(some 26), .bin .geq (.t 24) (.t 25), none⟩ :: []))
(.cond (.t 26) (.exit 0) .skip))
(.seq (.reg (⟨(some 27), .mov (.t 8), none⟩ :: ⟨(some 28), .faddr 0 (.t 10), none⟩ :: ⟨(some 29), .load true 3 (.t 28), none⟩ :: ⟨(some 30), .buildSl 3 1 [(.int .i64 (.ofNat 0)), (.int .u32 (.ofNat 0)), (.int .i64 (.ofNat 0))] [(0, 3, (.t 29))], none⟩ :: ⟨(some 31), .append 3 24 (.t 27) (.t 30), none⟩ :: ⟨(some 8), .mov (.t 31), none⟩ :: []))
(.seq (.reg (⟨(some 32), .faddr 3 (.t 10), none⟩ :: ⟨(some 33), .load false 1 (.t 32), none⟩ :: ⟨(some 34), .bin .add (.t 33) (.c (.int .i64 (.ofNat 1))), none⟩ :: ⟨(some 35), .faddr 3 (.t 10), none⟩ :: ⟨none, .store 1 (.t 35) (.t 34), none⟩ :: []))
(.seq (.dreg (⟨⟨(some 36), .mov (.t 0), none⟩, .quiet, 0, 0⟩ :: ⟨⟨(some 37), .nilchk (.t 36), none⟩, .quiet, 1, 1⟩ :: ⟨⟨(some 38), .faddr 2 (.t 37), none⟩, .quiet, 2, 3⟩ :: ⟨⟨(some 39), .load false 1 (.t 38), none⟩, .load, 3, 7⟩ :: ⟨⟨(some 40), .faddr 0 (.t 10), none⟩, .quiet, 4, 0⟩ :: ⟨⟨(some 41), .faddr 0 (.t 40), none⟩, .quiet, 5, 16⟩ :: ⟨⟨(some 42), .load false 1 (.t 41), none⟩, .load, 6, 48⟩ :: ⟨⟨(some 43), .load true 5 (.t 10), none⟩, .load, 7, 0⟩ :: ⟨⟨none, .mapup .int (.t 39) (.t 42) (.t 43), none⟩, .loud, 8, 255⟩ :: []))
(.seq (.reg (⟨(some 44), .faddr 3 (.t 10), none⟩ :: ⟨(some 45), .load false 1 (.t 44), none⟩ :: ⟨(some 46), .mov (.t 7), none⟩ :: ⟨(some 47), .bin .geq (.t 45) (.t 46), none⟩ :: []))
(.cond (.t 47) (.dreg (⟨⟨(some 48), .mov (.t 0), none⟩, .quiet, 0, 0⟩ :: ⟨⟨(some 49), .nilchk (.t 48), none⟩, .quiet, 1, 1⟩ :: ⟨⟨(some 50), .faddr 2 (.t 49), none⟩, .quiet, 2, 3⟩ :: ⟨⟨(some 51), .load false 1 (.t 50), none⟩, .load, 3, 7⟩ :: ⟨⟨(some 52), .faddr 0 (.t 10), none⟩, .quiet, 4, 0⟩ :: ⟨⟨(some 53), .faddr 0 (.t 52), none⟩, .quiet, 5, 16⟩ :: ⟨⟨(some 54), .load false 1 (.t 53), none⟩, .load, 6, 48⟩ :: ⟨⟨none, .delete .int (.t 51) (.t 54), none⟩, .loud, 7, 127⟩ :: [])) .skip))))))))
(.reg (⟨(some 55), .bin .add (.t 19) (.c (.int .i64 (.ofNat 1))), none⟩ :: ⟨(some 19), .mov (.t 55), none⟩ :: []))))))))
(.seq (.reg (⟨(some 56), .mov (.t 8), none⟩ :: ⟨(some 6), .mov (.t 56), none⟩ :: []))
.ret))))))⟩
theorem c114_eq : compFn Tryz.prog 114 = some c114 := by kernel_rfl
/-- sodality/speech.Pack -/
noncomputable def c115 : FnI := ⟨32, [.tmp 2, .tmp 3],
(.seq (.reg (⟨(some 2), .mov (.c .nilsl), none⟩ :: ⟨(some 3), .mov (.c (.int .i64 (.ofNat 0))), none⟩ :: []))
(.seq (.reg (⟨(some 4), .mov (.c .nilsl), none⟩ :: []))
(.seq (.seq (.reg (⟨(some 9), .mov (.t 0), none⟩ :: ⟨(some 10), .len false (.t 9), none⟩ :: ⟨(some 11), .mov (.c (.int .i64 (.ofNat 0))), none⟩ :: []))
(.block 0 (.loop (.seq (.reg (⟨(some 12), .bin .lss (.t 11) (.t 10), none⟩ :: []))
(.seq (.cond (.t 12) .skip (.exit 0))
(.seq (.block 1 (.seq (.reg (⟨(some 13), .idxS 6 (.t 9) (.t 11), none⟩ :: ⟨(some 14), .load true 6 (.t 13), none⟩ :: ⟨(some 6), .alloc [(.int .i64 (.ofNat 0)), (.int .u32 (.ofNat 0)), (.int .i64 (.ofNat 0)), (.int .i64 (.ofNat 0)), (.bool false), .nilsl], none⟩ :: ⟨none, .store 6 (.t 6) (.t 14), none⟩ :: []))
(.seq (.reg (⟨(some 16), .load true 6 (.t 6), none⟩ :: ⟨(some 17), .call 141 [(.t 16)], none⟩ :: ⟨(some 15), .mov (.t 17), none⟩ :: ⟨(some 18), .extract (.t 15) 0, none⟩ :: ⟨(some 19), .extract (.t 15) 1, none⟩ :: ⟨(some 7), .alloc [(.int .u8 (.ofNat 0)), .nilsl], none⟩ :: ⟨none, .store 2 (.t 7) (.t 18), none⟩ :: ⟨(some 8), .mov (.t 19), none⟩ :: []))
(.seq (.seq (.reg (⟨(some 20), .mov (.t 8), none⟩ :: ⟨(some 21), .bin .neq (.t 20) (.c (.int .i64 (.ofNat 0))), none⟩ :: []))
(.cond (.t 21) (.seq (.reg (⟨(some 22), .mov (.t 8), none⟩ :: ⟨(some 2), .mov (.c .nilsl), none⟩ :: ⟨(some 3), .mov (.t 22), none⟩ :: []))
.ret) .skip))
(.reg (⟨(some 23), .mov (.t 4), none⟩ :: ⟨(some 24), .load true 2 (.t 7), none⟩ :: ⟨(some 25), .buildSl 2 1 [(.int .u8 (.ofNat 0)), .nilsl] [(0, 2, (.t 24))], none⟩ :: ⟨(some 26), .append 2 32 (.t 23) (.t 25), none⟩ :: ⟨(some 4), .mov (.t 26), none⟩ :: []))))))
(.reg (⟨(some 27), .bin .add (.t 11) (.c (.int .i64 (.ofNat 1))), none⟩ :: ⟨(some 11), .mov (.t 27), none⟩ :: []))))))))
(.seq (.reg (⟨(some 28), .mov (.t 4), none⟩ :: ⟨(some 29), .call 142 [(.t 28)], none⟩ :: ⟨(some 30), .extract (.t 29) 0, none⟩ :: ⟨(some 31), .extract (.t 29) 1, none⟩ :: ⟨(some 2), .mov (.t 30), none⟩ :: ⟨(some 3), .mov (.t 31), none⟩ :: []))
.ret))))⟩
theorem c115_eq : compFn Tryz.prog 115 = some c115 := by kernel_rfl
/-- (*sodality/roll.Roll).each$1 -/
noncomputable def c116 : FnI := ⟨23, [],
(.seq (.reg (⟨(some 6), .mov (.c (.int .i64 (.ofNat 0))), none⟩ :: []))
(.block 0 (.loop (.seq (.reg (⟨(some 7), .bin .lss (.t 6) (.c (.int .i64 (.ofNat 8))), none⟩ :: []))
(.seq (.cond (.t 7) .skip (.exit 0))
(.seq (.block 1 (.seq (.reg (⟨(some 8), .mov (.t 6), none⟩ :: ⟨(some 3), .mov (.t 8), none⟩ :: []))
(.seq (.reg (⟨(some 10), .load false 1 (.t 1), none⟩ :: ⟨(some 11), .mov (.t 3), none⟩ :: ⟨(some 12), .call 91 [(.t 10), (.t 11)], none⟩ :: ⟨(some 9), .mov (.t 12), none⟩ :: ⟨(some 13), .extract (.t 9) 0, none⟩ :: ⟨(some 14), .extract (.t 9) 1, none⟩ :: ⟨(some 4), .alloc [(.int .i64 (.ofNat 0)), (.int .u32 (.ofNat 0)), (.int .i64 (.ofNat 0))], none⟩ :: ⟨none, .store 3 (.t 4) (.t 13), none⟩ :: ⟨(some 5), .mov (.t 14), none⟩ :: []))
(.seq (.reg (⟨(some 15), .mov (.t 5), none⟩ :: ⟨(some 16), .mov (.t 15), none⟩ :: ⟨(some 17), .mov (.t 0), (some (16, true))⟩ :: ⟨(some 18), .load true 3 (.t 4), (some (16, true))⟩ :: ⟨(some 19), .callv (.t 17) [(.t 18)], (some (16, true))⟩ :: ⟨(some 20), .un .not (.t 19), (some (16, true))⟩ :: ⟨(some 21), .pick (.t 16) (.t 20) (.c (.bool false)), none⟩ :: []))
(.cond (.t 21) .ret .skip)))))
(.reg (⟨(some 22), .bin .add (.t 6) (.c (.int .i64 (.ofNat 1))), none⟩ :: ⟨(some 6), .mov (.t 22), none⟩ :: []))))))))⟩
theorem c116_eq : compFn Tryz.prog 116 = some c116 := by kernel_rfl
/-- sort.Slice -/
noncomputable def c117 : FnI := ⟨23, [],
(.seq (.reg (⟨(some 8), .mov (.t 0), none⟩ :: ⟨(some 9), .ext (.valueOf [43, 44, 49, 60, 81, 122, 137, 259]) [(.t 8)], none⟩ :: ⟨(some 4), .alloc [.nilp, .nilp, (.int .u64 (.ofNat 0))], none⟩ :: ⟨none, .store 3 (.t 4) (.t 9), none⟩ :: []))
(.seq (.reg (⟨(some 10), .mov (.t 0), none⟩ :: ⟨(some 11), .ext (.swapper 166 167 [43, 44, 49, 60, 81, 122, 137, 259]) [(.t 10)], none⟩ :: ⟨(some 5), .mov (.t 11), none⟩ :: []))
(.seq (.reg (⟨(some 12), .load true 3 (.t 4), none⟩ :: ⟨(some 13), .ext (.rvLen [43, 44, 49, 60, 81, 122, 137, 259]) [(.t 12)], none⟩ :: ⟨(some 6), .mov (.t 13), none⟩ :: []))
(.seq (.reg (⟨(some 14), .mov (.t 6), none⟩ :: ⟨(some 15), .cvInt .u64 (.t 14), none⟩ :: ⟨(some 16), .call 123 [(.t 15)], none⟩ :: ⟨(some 7), .mov (.t 16), none⟩ :: []))
(.reg (⟨(some 17), .mov (.t 1), none⟩ :: ⟨(some 18), .mov (.t 5), none⟩ :: ⟨(some 19), .build [.nilfn, .nilfn] [(0, 1, (.t 17)), (1, 1, (.t 18))], none⟩ :: ⟨(some 20), .mov (.t 6), none⟩ :: ⟨(some 21), .mov (.t 7), none⟩ :: ⟨(some 22), .call 146 [(.t 19), (.c (.int .i64 (.ofNat 0))), (.t 20), (.t 21)], none⟩ :: []))))))⟩
theorem c117_eq : compFn Tryz.prog 117 = some c117 := by kernel_rfl
/-- (*sodality/wheel.Wheel).where -/
noncomputable def c119 : FnI := ⟨33, [.cell 4 true 2],
(.seq (.reg (⟨(some 4), .alloc [(.int .i64 (.ofNat 0)), (.int .i64 (.ofNat 0))], none⟩ :: []))
(.seq (.reg (⟨(some 5), .mov (.c (.int .i64 (.ofNat 0))), none⟩ :: []))
(.seq (.block 0 (.loop (.seq (.seq (.dreg (⟨⟨(some 6), .mov (.t 5), none⟩, .quiet, 0, 0⟩ :: ⟨⟨(some 7), .bin .lss (.t 6) (.c (.int .i64 (.ofNat 2))), none⟩, .quiet, 1, 1⟩ :: ⟨⟨(some 8), .mov (.t 7), none⟩, .quiet, 2, 3⟩ :: ⟨⟨(some 9), .mov (.t 1), (some (8, true))⟩, .quiet, 3, 7⟩ :: ⟨⟨(some 10), .mov (.t 5), (some (8, true))⟩, .quiet, 4, 7⟩ :: ⟨⟨(some 11), .bin .add (.t 10) (.c (.int .i64 (.ofNat 1))), (some (8, true))⟩, .quiet, 5, 23⟩ :: ⟨⟨(some 12), .bin .mul (.c (.int .i64 (.ofNat 6))) (.t 11), (some (8, true))⟩, .quiet, 6, 55⟩ :: ⟨⟨(some 13), .bin .shr (.t 9) (.t 12), (some (8, true))⟩, .quiet, 7, 127⟩ :: ⟨⟨(some 14), .mov (.t 0), (some (8, true))⟩, .quiet, 8, 7⟩ :: ⟨⟨(some 15), .nilchk (.t 14), (some (8, true))⟩, .quiet, 9, 263⟩ :: ⟨⟨(some 16), .faddr 0 (.t 15), (some (8, true))⟩, .quiet, 10, 775⟩ :: ⟨⟨(some 17), .load false 1 (.t 16), (some (8, true))⟩, .load, 11, 1799⟩ :: ⟨⟨(some 18), .mov (.t 5), (some (8, true))⟩, .quiet, 12, 7⟩ :: ⟨⟨(some 19), .bin .add (.t 18) (.c (.int .i64 (.ofNat 1))), (some (8, true))⟩, .quiet, 13, 4103⟩ :: ⟨⟨(some 20), .bin .mul (.c (.int .i64 (.ofNat 6))) (.t 19), (some (8, true))⟩, .quiet, 14, 12295⟩ :: ⟨⟨(some 21), .bin .shr (.t 17) (.t 20), (some (8, true))⟩, .quiet, 15, 32519⟩ :: ⟨⟨(some 22), .bin .neq (.t 13) (.t 21), (some (8, true))⟩, .quiet, 16, 65535⟩ :: ⟨⟨(some 23), .pick (.t 8) (.t 22) (.c (.bool false)), none⟩, .quiet, 17, 131071⟩ :: []))
(.cond (.t 23) .skip (.exit 0)))
(.block 1 (.reg (⟨(some 24), .mov (.t 5), none⟩ :: ⟨(some 25), .bin .add (.t 24) (.c (.int .i64 (.ofNat 1))), none⟩ :: ⟨(some 5), .mov (.t 25), none⟩ :: []))))))
(.seq (.reg (⟨(some 26), .mov (.t 5), none⟩ :: ⟨(some 27), .mov (.t 1), none⟩ :: ⟨(some 28), .mov (.t 5), none⟩ :: ⟨(some 29), .bin .mul (.c (.int .i64 (.ofNat 6))) (.t 28), none⟩ :: ⟨(some 30), .bin .shr (.t 27) (.t 29), none⟩ :: ⟨(some 31), .bin .and (.t 30) (.c (.int .i64 (.ofNat 63))), none⟩ :: ⟨(some 32), .build [(.int .i64 (.ofNat 0)), (.int .i64 (.ofNat 0))] [(0, 1, (.t 26)), (1, 1, (.t 31))], none⟩ :: ⟨none, .store 2 (.t 4) (.t 32), none⟩ :: []))
.ret))))⟩
theorem c119_eq : compFn Tryz.prog 119 = some c119 := by kernel_rfl
/-- math/bits.Len -/
noncomputable def c123 : FnI := ⟨8, [.tmp 2],
(.seq (.reg (⟨(some 2), .mov (.c (.int .i64 (.ofNat 0))), none⟩ :: []))
(.seq (.cond (.c (.bool false)) (.seq (.reg (⟨(some 3), .mov (.t 0), none⟩ :: ⟨(some 4), .cvInt .u32 (.t 3), none⟩ :: ⟨(some 5), .call 156 [(.t 4)], none⟩ :: ⟨(some 2), .mov (.t 5), none⟩ :: []))
.ret) .skip)
(.seq (.reg (⟨(some 6), .mov (.t 0), none⟩ :: ⟨(some 7), .call 157 [(.t 6)], none⟩ :: ⟨(some 2), .mov (.t 7), none⟩ :: []))
.ret)))⟩
theorem c123_eq : compFn Tryz.prog 123 = some c123 := by kernel_rfl
/-- sodality/speech.node -/
noncomputable def c138 : FnI := ⟨9, [.tmp 2],
(.seq (.reg (⟨(some 2), .mov (.c (.bool false)), none⟩ :: []))
(.seq (.reg (⟨(some 3), .mov (.t 0), none⟩ :: ⟨(some 4), .bin .geq (.t 3) (.c (.int .i64 (.ofNat 0))), none⟩ :: ⟨(some 5), .mov (.t 4), none⟩ :: ⟨(some 6), .mov (.t 0), (some (5, true))⟩ :: ⟨(some 7), .bin .lss (.t 6) (.c (.int .i64 (.ofNat 8))), (some (5, true))⟩ :: ⟨(some 8), .pick (.t 5) (.t 7) (.c (.bool false)), none⟩ :: ⟨(some 2), .mov (.t 8), none⟩ :: []))
.ret))⟩
theorem c138_eq : compFn Tryz.prog 138 = some c138 := by kernel_rfl
/-- sodality/speech.has -/
noncomputable def c139 : FnI := ⟨18, [.tmp 4],
(.seq (.reg (⟨(some 4), .mov (.c (.bool false)), none⟩ :: []))
(.seq (.seq (.reg (⟨(some 7), .mov (.t 0), none⟩ :: ⟨(some 8), .call 107 [(.t 7)], none⟩ :: ⟨(some 9), .len false (.t 8), none⟩ :: ⟨(some 10), .mov (.c (.int .i64 (.ofNat 0))), none⟩ :: []))
(.block 0 (.loop (.seq (.reg (⟨(some 11), .bin .lss (.t 10) (.t 9), none⟩ :: []))
(.seq (.cond (.t 11) .skip (.exit 0))
(.seq (.block 1 (.seq (.reg (⟨(some 12), .idxS 1 (.t 8) (.t 10), none⟩ :: ⟨(some 13), .load false 1 (.t 12), none⟩ :: ⟨(some 6), .mov (.t 13), none⟩ :: []))
(.seq (.reg (⟨(some 14), .mov (.t 6), none⟩ :: ⟨(some 15), .mov (.t 1), none⟩ :: ⟨(some 16), .bin .eql (.t 14) (.t 15), none⟩ :: []))
(.cond (.t 16) (.seq (.reg (⟨(some 4), .mov (.c (.bool true)), none⟩ :: []))
.ret) .skip))))
(.reg (⟨(some 17), .bin .add (.t 10) (.c (.int .i64 (.ofNat 1))), none⟩ :: ⟨(some 10), .mov (.t 17), none⟩ :: []))))))))
(.seq (.reg (⟨(some 4), .mov (.c (.bool false)), none⟩ :: []))
.ret)))⟩
theorem c139_eq : compFn Tryz.prog 139 = some c139 := by kernel_rfl
/-- (*sodality/rumor.Queue).Limit -/
noncomputable def c140 : FnI := ⟨15, [.tmp 4],
(.seq (.reg (⟨(some 4), .mov (.c (.int .i64 (.ofNat 0))), none⟩ :: []))
(.seq (.seq (.reg (⟨(some 5), .mov (.t 0), none⟩ :: ⟨(some 6), .call 86 [(.t 5)], none⟩ :: []))
(.cond (.t 6) (.seq (.reg (⟨(some 4), .mov (.c (.int .i64 (.ofNat 0))), none⟩ :: []))
.ret) .skip))
(.seq (.dreg (⟨⟨(some 11), .mov (.t 1), none⟩, .quiet, 4, 0⟩ :: ⟨⟨(some 12), .mm true (.t 11) [(.c (.int .i64 (.ofNat 1)))], none⟩, .quiet, 5, 16⟩ :: ⟨⟨(some 13), .call 163 [(.t 12)], none⟩, .loud, 6, 48⟩ :: ⟨⟨(some 7), .mov (.t 0), none⟩, .quiet, 0, 0⟩ :: ⟨⟨(some 8), .nilchk (.t 7), none⟩, .quiet, 1, 1⟩ :: ⟨⟨(some 9), .faddr 0 (.t 8), none⟩, .quiet, 2, 3⟩ :: ⟨⟨(some 10), .load false 1 (.t 9), none⟩, .load, 3, 7⟩ :: ⟨⟨(some 14), .bin .mul (.t 10) (.t 13), none⟩, .quiet, 7, 127⟩ :: ⟨⟨(some 4), .mov (.t 14), none⟩, .quiet, 8, 255⟩ :: []))
.ret)))⟩
theorem c140_eq : compFn Tryz.prog 140 = some c140 := by kernel_rfl
/-- sodality/speech.Put -/
noncomputable def c141 : FnI := ⟨29, [.cell 2 true 2, .tmp 3],
(.seq (.reg (⟨(some 1), .box (.t 0), none⟩ :: ⟨(some 2), .alloc [(.int .u8 (.ofNat 0)), .nilsl], none⟩ :: ⟨(some 3), .mov (.c (.int .i64 (.ofNat 0))), none⟩ :: []))
(.seq (.seq (.reg (⟨(some 7), .load true 6 (.t 1), none⟩ :: ⟨(some 8), .call 111 [(.t 7)], none⟩ :: ⟨(some 9), .un .not (.t 8), none⟩ :: []))
(.cond (.t 9) (.seq (.reg (⟨(some 10), .build [(.int .u8 (.ofNat 0)), .nilsl] [], none⟩ :: ⟨none, .store 2 (.t 2) (.t 10), none⟩ :: ⟨(some 3), .mov (.c (.int .i64 (.ofNat 2))), none⟩ :: []))
.ret) .skip))
(.seq (.reg (⟨(some 4), .mov (.c .nilsl), none⟩ :: []))
(.seq (.seq (.reg (⟨(some 11), .faddr 0 (.t 1), none⟩ :: ⟨(some 12), .load false 1 (.t 11), none⟩ :: ⟨(some 13), .call 107 [(.t 12)], none⟩ :: ⟨(some 14), .len false (.t 13), none⟩ :: ⟨(some 15), .mov (.c (.int .i64 (.ofNat 0))), none⟩ :: []))
(.block 0 (.loop (.seq (.reg (⟨(some 16), .bin .lss (.t 15) (.t 14), none⟩ :: []))
(.seq (.cond (.t 16) .skip (.exit 0))
(.seq (.block 1 (.seq (.reg (⟨(some 17), .idxS 1 (.t 13) (.t 15), none⟩ :: ⟨(some 18), .load false 1 (.t 17), none⟩ :: ⟨(some 6), .mov (.t 18), none⟩ :: []))
(.reg (⟨(some 19), .mov (.t 4), none⟩ :: ⟨(some 20), .load true 6 (.t 1), none⟩ :: ⟨(some 21), .mov (.t 6), none⟩ :: ⟨(some 22), .call 164 [(.t 19), (.t 20), (.t 21)], none⟩ :: ⟨(some 4), .mov (.t 22), none⟩ :: []))))
(.reg (⟨(some 23), .bin .add (.t 15) (.c (.int .i64 (.ofNat 1))), none⟩ :: ⟨(some 15), .mov (.t 23), none⟩ :: []))))))))
(.seq (.reg (⟨(some 24), .faddr 0 (.t 1), none⟩ :: ⟨(some 25), .load false 1 (.t 24), none⟩ :: ⟨(some 26), .cvInt .u8 (.t 25), none⟩ :: ⟨(some 27), .mov (.t 4), none⟩ :: ⟨(some 28), .build [(.int .u8 (.ofNat 0)), .nilsl] [(0, 1, (.t 26)), (1, 1, (.t 27))], none⟩ :: ⟨none, .store 2 (.t 2) (.t 28), none⟩ :: ⟨(some 3), .mov (.c (.int .i64 (.ofNat 0))), none⟩ :: []))
.ret)))))⟩
theorem c141_eq : compFn Tryz.prog 141 = some c141 := by kernel_rfl
/-- sodality/frame.Pack -/
noncomputable def c142 : FnI := ⟨51, [.tmp 2, .tmp 3],
(.seq (.reg (⟨(some 2), .mov (.c .nilsl), none⟩ :: ⟨(some 3), .mov (.c (.int .i64 (.ofNat 0))), none⟩ :: []))
(.seq (.seq (.reg (⟨(some 11), .mov (.t 0), none⟩ :: ⟨(some 12), .len false (.t 11), none⟩ :: ⟨(some 13), .mov (.c (.int .i64 (.ofNat 0))), none⟩ :: []))
(.block 0 (.loop (.seq (.reg (⟨(some 14), .bin .lss (.t 13) (.t 12), none⟩ :: []))
(.seq (.cond (.t 14) .skip (.exit 0))
(.seq (.block 1 (.seq (.reg (⟨(some 15), .idxS 2 (.t 11) (.t 13), none⟩ :: ⟨(some 16), .load true 2 (.t 15), none⟩ :: ⟨(some 5), .alloc [(.int .u8 (.ofNat 0)), .nilsl], none⟩ :: ⟨none, .store 2 (.t 5) (.t 16), none⟩ :: []))
(.seq (.reg (⟨(some 18), .load true 2 (.t 5), none⟩ :: ⟨(some 19), .call 165 [(.c .nilsl), (.t 18)], none⟩ :: ⟨(some 17), .mov (.t 19), none⟩ :: ⟨(some 20), .extract (.t 17) 0, none⟩ :: ⟨(some 21), .extract (.t 17) 1, none⟩ :: ⟨(some 6), .mov (.t 20), none⟩ :: ⟨(some 7), .mov (.t 21), none⟩ :: []))
(.seq (.reg (⟨(some 22), .mov (.t 7), none⟩ :: ⟨(some 23), .bin .neq (.t 22) (.c (.int .i64 (.ofNat 0))), none⟩ :: []))
(.cond (.t 23) (.seq (.reg (⟨(some 24), .mov (.t 7), none⟩ :: ⟨(some 2), .mov (.c .nilsl), none⟩ :: ⟨(some 3), .mov (.t 24), none⟩ :: []))
.ret) .skip)))))
(.reg (⟨(some 25), .bin .add (.t 13) (.c (.int .i64 (.ofNat 1))), none⟩ :: ⟨(some 13), .mov (.t 25), none⟩ :: []))))))))
(.seq (.seq (.reg (⟨(some 26), .mov (.t 0), none⟩ :: ⟨(some 27), .len false (.t 26), none⟩ :: ⟨(some 28), .bin .eql (.t 27) (.c (.int .i64 (.ofNat 0))), none⟩ :: ⟨(some 29), .mov (.t 28), none⟩ :: ⟨(some 30), .mov (.t 0), (some (29, false))⟩ :: ⟨(some 31), .len false (.t 30), (some (29, false))⟩ :: ⟨(some 32), .bin .gtr (.t 31) (.c (.int .i64 (.ofNat 32))), (some (29, false))⟩ :: ⟨(some 33), .pick (.t 29) (.c (.bool true)) (.t 32), none⟩ :: []))
(.cond (.t 33) (.seq (.reg (⟨(some 2), .mov (.c .nilsl), none⟩ :: ⟨(some 3), .mov (.c (.int .i64 (.ofNat 5))), none⟩ :: []))
.ret) .skip))
(.seq (.reg (⟨(some 8), .mov (.c .nilsl), none⟩ :: []))
(.seq (.seq (.reg (⟨(some 34), .mov (.t 0), none⟩ :: ⟨(some 35), .len false (.t 34), none⟩ :: ⟨(some 36), .mov (.c (.int .i64 (.ofNat 0))), none⟩ :: []))
(.block 2 (.loop (.seq (.reg (⟨(some 37), .bin .lss (.t 36) (.t 35), none⟩ :: []))
(.seq (.cond (.t 37) .skip (.exit 2))
(.seq (.block 3 (.seq (.reg (⟨(some 38), .idxS 2 (.t 34) (.t 36), none⟩ :: ⟨(some 39), .load true 2 (.t 38), none⟩ :: ⟨(some 10), .alloc [(.int .u8 (.ofNat 0)), .nilsl], none⟩ :: ⟨none, .store 2 (.t 10) (.t 39), none⟩ :: []))
(.seq (.reg (⟨(some 41), .mov (.t 8), none⟩ :: ⟨(some 42), .load true 2 (.t 10), none⟩ :: ⟨(some 43), .call 165 [(.t 41), (.t 42)], none⟩ :: ⟨(some 40), .mov (.t 43), none⟩ :: ⟨(some 44), .extract (.t 40) 0, none⟩ :: ⟨(some 45), .extract (.t 40) 1, none⟩ :: ⟨(some 8), .mov (.t 44), none⟩ :: []))
(.seq (.reg (⟨(some 46), .mov (.t 8), none⟩ :: ⟨(some 47), .len false (.t 46), none⟩ :: ⟨(some 48), .bin .gtr (.t 47) (.c (.int .i64 (.ofNat 1400))), none⟩ :: []))
(.cond (.t 48) (.seq (.reg (⟨(some 2), .mov (.c .nilsl), none⟩ :: ⟨(some 3), .mov (.c (.int .i64 (.ofNat 5))), none⟩ :: []))
.ret) .skip)))))
(.reg (⟨(some 49), .bin .add (.t 36) (.c (.int .i64 (.ofNat 1))), none⟩ :: ⟨(some 36), .mov (.t 49), none⟩ :: []))))))))
(.seq (.reg (⟨(some 50), .mov (.t 8), none⟩ :: ⟨(some 2), .mov (.t 50), none⟩ :: ⟨(some 3), .mov (.c (.int .i64 (.ofNat 0))), none⟩ :: []))
.ret))))))⟩
theorem c142_eq : compFn Tryz.prog 142 = some c142 := by kernel_rfl
/-- sort.pdqsort_func -/
noncomputable def c146 : FnI := ⟨130, [],
(.seq (.reg (⟨(some 4), .box (.t 0), none⟩ :: []))
(.seq (.reg (⟨(some 8), .mov (.c (.bool true)), none⟩ :: []))
(.seq (.reg (⟨(some 9), .mov (.c (.bool true)), none⟩ :: []))
(.block 0 (.loop (.block 1 (.seq (.reg (⟨(some 19), .mov (.t 2), none⟩ :: ⟨(some 20), .mov (.t 1), none⟩ :: ⟨(some 21), .bin .sub (.t 19) (.t 20), none⟩ :: ⟨(some 10), .mov (.t 21), none⟩ :: []))
(.seq (.seq (.reg (⟨(some 22), .mov (.t 10), none⟩ :: ⟨(some 23), .bin .leq (.t 22) (.c (.int .i64 (.ofNat 12))), none⟩ :: []))
(.cond (.t 23) (.seq (.reg (⟨(some 24), .load true 2 (.t 4), none⟩ :: ⟨(some 25), .mov (.t 1), none⟩ :: ⟨(some 26), .mov (.t 2), none⟩ :: ⟨(some 27), .call 175 [(.t 24), (.t 25), (.t 26)], none⟩ :: []))
.ret) .skip))
(.seq (.seq (.reg (⟨(some 28), .mov (.t 3), none⟩ :: ⟨(some 29), .bin .eql (.t 28) (.c (.int .i64 (.ofNat 0))), none⟩ :: []))
(.cond (.t 29) (.seq (.reg (⟨(some 30), .load true 2 (.t 4), none⟩ :: ⟨(some 31), .mov (.t 1), none⟩ :: ⟨(some 32), .mov (.t 2), none⟩ :: ⟨(some 33), .call 176 [(.t 30), (.t 31), (.t 32)], none⟩ :: []))
.ret) .skip))
(.seq (.seq (.reg (⟨(some 34), .mov (.t 8), none⟩ :: ⟨(some 35), .un .not (.t 34), none⟩ :: []))
(.cond (.t 35) (.seq (.reg (⟨(some 36), .load true 2 (.t 4), none⟩ :: ⟨(some 37), .mov (.t 1), none⟩ :: ⟨(some 38), .mov (.t 2), none⟩ :: ⟨(some 39), .call 177 [(.t 36), (.t 37), (.t 38)], none⟩ :: []))
(.reg (⟨(some 40), .mov (.t 3), none⟩ :: ⟨(some 41), .bin .sub (.t 40) (.c (.int .i64 (.ofNat 1))), none⟩ :: ⟨(some 3), .mov (.t 41), none⟩ :: []))) .skip))
(.seq (.reg (⟨(some 43), .load true 2 (.t 4), none⟩ :: ⟨(some 44), .mov (.t 1), none⟩ :: ⟨(some 45), .mov (.t 2), none⟩ :: ⟨(some 46), .call 178 [(.t 43), (.t 44), (.t 45)], none⟩ :: ⟨(some 42), .mov (.t 46), none⟩ :: ⟨(some 47), .extract (.t 42) 0, none⟩ :: ⟨(some 48), .extract (.t 42) 1, none⟩ :: ⟨(some 11), .mov (.t 47), none⟩ :: ⟨(some 12), .mov (.t 48), none⟩ :: []))
(.seq (.seq (.reg (⟨(some 49), .mov (.t 12), none⟩ :: ⟨(some 50), .bin .eql (.t 49) (.c (.int .i64 (.ofNat 2))), none⟩ :: []))
(.cond (.t 50) (.seq (.reg (⟨(some 51), .load true 2 (.t 4), none⟩ :: ⟨(some 52), .mov (.t 1), none⟩ :: ⟨(some 53), .mov (.t 2), none⟩ :: ⟨(some 54), .call 179 [(.t 51), (.t 52), (.t 53)], none⟩ :: []))
(.seq (.reg (⟨(some 55), .mov (.t 2), none⟩ :: ⟨(some 56), .bin .sub (.t 55) (.c (.int .i64 (.ofNat 1))), none⟩ :: ⟨(some 57), .mov (.t 11), none⟩ :: ⟨(some 58), .mov (.t 1), none⟩ :: ⟨(some 59), .bin .sub (.t 57) (.t 58), none⟩ :: ⟨(some 60), .bin .sub (.t 56) (.t 59), none⟩ :: ⟨(some 11), .mov (.t 60), none⟩ :: []))
(.reg (⟨(some 12), .mov (.c (.int .i64 (.ofNat 1))), none⟩ :: [])))) .skip))
(.seq (.seq (.reg (⟨(some 61), .mov (.t 8), none⟩ :: ⟨(some 62), .mov (.t 61), none⟩ :: ⟨(some 63), .mov (.t 9), (some (62, true))⟩ :: ⟨(some 64), .pick (.t 62) (.t 63) (.c (.bool false)), none⟩ :: ⟨(some 65), .mov (.t 64), none⟩ :: ⟨(some 66), .mov (.t 12), (some (65, true))⟩ :: ⟨(some 67), .bin .eql (.t 66) (.c (.int .i64 (.ofNat 1))), (some (65, true))⟩ :: ⟨(some 68), .pick (.t 65) (.t 67) (.c (.bool false)), none⟩ :: []))
(.cond (.t 68) (.seq (.reg (⟨(some 69), .load true 2 (.t 4), none⟩ :: ⟨(some 70), .mov (.t 1), none⟩ :: ⟨(some 71), .mov (.t 2), none⟩ :: ⟨(some 72), .call 180 [(.t 69), (.t 70), (.t 71)], none⟩ :: []))
(.cond (.t 72) .ret .skip)) .skip))
(.seq (.seq (.reg (⟨(some 73), .mov (.t 1), none⟩ :: ⟨(some 74), .bin .gtr (.t 73) (.c (.int .i64 (.ofNat 0))), none⟩ :: ⟨(some 75), .mov (.t 74), none⟩ :: ⟨(some 76), .faddr 0 (.t 4), (some (75, true))⟩ :: ⟨(some 77), .load false 1 (.t 76), (some (75, true))⟩ :: ⟨(some 78), .mov (.t 1), (some (75, true))⟩ :: ⟨(some 79), .bin .sub (.t 78) (.c (.int .i64 (.ofNat 1))), (some (75, true))⟩ :: ⟨(some 80), .mov (.t 11), (some (75, true))⟩ :: ⟨(some 81), .callv (.t 77) [(.t 79), (.t 80)], (some (75, true))⟩ :: ⟨(some 82), .un .not (.t 81), (some (75, true))⟩ :: ⟨(some 83), .pick (.t 75) (.t 82) (.c (.bool false)), none⟩ :: []))
(.cond (.t 83) (.seq (.reg (⟨(some 84), .load true 2 (.t 4), none⟩ :: ⟨(some 85), .mov (.t 1), none⟩ :: ⟨(some 86), .mov (.t 2), none⟩ :: ⟨(some 87), .mov (.t 11), none⟩ :: ⟨(some 88), .call 181 [(.t 84), (.t 85), (.t 86), (.t 87)], none⟩ :: ⟨(some 13), .mov (.t 88), none⟩ :: []))
(.seq (.reg (⟨(some 89), .mov (.t 13), none⟩ :: ⟨(some 1), .mov (.t 89), none⟩ :: []))
(.exit 1))) .skip))
(.seq (.reg (⟨(some 91), .load true 2 (.t 4), none⟩ :: ⟨(some 92), .mov (.t 1), none⟩ :: ⟨(some 93), .mov (.t 2), none⟩ :: ⟨(some 94), .mov (.t 11), none⟩ :: ⟨(some 95), .call 182 [(.t 91), (.t 92), (.t 93), (.t 94)], none⟩ :: ⟨(some 90), .mov (.t 95), none⟩ :: ⟨(some 96), .extract (.t 90) 0, none⟩ :: ⟨(some 97), .extract (.t 90) 1, none⟩ :: ⟨(some 14), .mov (.t 96), none⟩ :: ⟨(some 15), .mov (.t 97), none⟩ :: []))
(.seq (.reg (⟨(some 98), .mov (.t 15), none⟩ :: ⟨(some 9), .mov (.t 98), none⟩ :: []))
(.seq (.reg (⟨(some 99), .mov (.t 14), none⟩ :: ⟨(some 100), .mov (.t 1), none⟩ :: ⟨(some 101), .bin .sub (.t 99) (.t 100), none⟩ :: ⟨(some 102), .mov (.t 2), none⟩ :: ⟨(some 103), .mov (.t 14), none⟩ :: ⟨(some 104), .bin .sub (.t 102) (.t 103), none⟩ :: ⟨(some 16), .mov (.t 101), none⟩ :: ⟨(some 17), .mov (.t 104), none⟩ :: []))
(.seq (.reg (⟨(some 105), .mov (.t 10), none⟩ :: ⟨(some 106), .bin .quo (.t 105) (.c (.int .i64 (.ofNat 8))), none⟩ :: ⟨(some 18), .mov (.t 106), none⟩ :: []))
(.seq (.reg (⟨(some 107), .mov (.t 16), none⟩ :: ⟨(some 108), .mov (.t 17), none⟩ :: ⟨(some 109), .bin .lss (.t 107) (.t 108), none⟩ :: []))
(.cond (.t 109) (.seq (.reg (⟨(some 110), .mov (.t 16), none⟩ :: ⟨(some 111), .mov (.t 18), none⟩ :: ⟨(some 112), .bin .geq (.t 110) (.t 111), none⟩ :: ⟨(some 8), .mov (.t 112), none⟩ :: []))
(.seq (.reg (⟨(some 113), .load true 2 (.t 4), none⟩ :: ⟨(some 114), .mov (.t 1), none⟩ :: ⟨(some 115), .mov (.t 14), none⟩ :: ⟨(some 116), .mov (.t 3), none⟩ :: ⟨(some 117), .call 146 [(.t 113), (.t 114), (.t 115), (.t 116)], none⟩ :: []))
(.reg (⟨(some 118), .mov (.t 14), none⟩ :: ⟨(some 119), .bin .add (.t 118) (.c (.int .i64 (.ofNat 1))), none⟩ :: ⟨(some 1), .mov (.t 119), none⟩ :: [])))) (.seq (.reg (⟨(some 120), .mov (.t 17), none⟩ :: ⟨(some 121), .mov (.t 18), none⟩ :: ⟨(some 122), .bin .geq (.t 120) (.t 121), none⟩ :: ⟨(some 8), .mov (.t 122), none⟩ :: []))
(.seq (.reg (⟨(some 123), .load true 2 (.t 4), none⟩ :: ⟨(some 124), .mov (.t 14), none⟩ :: ⟨(some 125), .bin .add (.t 124) (.c (.int .i64 (.ofNat 1))), none⟩ :: ⟨(some 126), .mov (.t 2), none⟩ :: ⟨(some 127), .mov (.t 3), none⟩ :: ⟨(some 128), .call 146 [(.t 123), (.t 125), (.t 126), (.t 127)], none⟩ :: []))
(.reg (⟨(some 129), .mov (.t 14), none⟩ :: ⟨(some 2), .mov (.t 129), none⟩ :: []))))))))))))))))))))))))⟩
theorem c146_eq : compFn Tryz.prog 146 = some c146 := by kernel_rfl
/-- math/bits.Len64 -/
noncomputable def c157 : FnI := ⟨25, [.tmp 2],
(.seq (.reg (⟨(some 2), .mov (.c (.int .i64 (.ofNat 0))), none⟩ :: []))
(.seq (.seq (.reg (⟨(some 3), .mov (.t 0), none⟩ :: ⟨(some 4), .bin .geq (.t 3) (.c (.int .u64 (.ofNat 4294967296))), none⟩ :: []))
(.cond (.t 4) (.seq (.reg (⟨(some 5), .mov (.t 0), none⟩ :: ⟨(some 6), .bin .shr (.t 5) (.c (.int .u64 (.ofNat 32))), none⟩ :: ⟨(some 0), .mov (.t 6), none⟩ :: []))
(.reg (⟨(some 2), .mov (.c (.int .i64 (.ofNat 32))), none⟩ :: []))) .skip))
(.seq (.seq (.reg (⟨(some 7), .mov (.t 0), none⟩ :: ⟨(some 8), .bin .geq (.t 7) (.c (.int .u64 (.ofNat 65536))), none⟩ :: []))
(.cond (.t 8) (.seq (.reg (⟨(some 9), .mov (.t 0), none⟩ :: ⟨(some 10), .bin .shr (.t 9) (.c (.int .u64 (.ofNat 16))), none⟩ :: ⟨(some 0), .mov (.t 10), none⟩ :: []))
(.reg (⟨(some 11), .mov (.t 2), none⟩ :: ⟨(some 12), .bin .add (.t 11) (.c (.int .i64 (.ofNat 16))), none⟩ :: ⟨(some 2), .mov (.t 12), none⟩ :: []))) .skip))
(.seq (.seq (.reg (⟨(some 13), .mov (.t 0), none⟩ :: ⟨(some 14), .bin .geq (.t 13) (.c (.int .u64 (.ofNat 256))), none⟩ :: []))
(.cond (.t 14) (.seq (.reg (⟨(some 15), .mov (.t 0), none⟩ :: ⟨(some 16), .bin .shr (.t 15) (.c (.int .u64 (.ofNat 8))), none⟩ :: ⟨(some 0), .mov (.t 16), none⟩ :: []))
(.reg (⟨(some 17), .mov (.t 2), none⟩ :: ⟨(some 18), .bin .add (.t 17) (.c (.int .i64 (.ofNat 8))), none⟩ :: ⟨(some 2), .mov (.t 18), none⟩ :: []))) .skip))
(.seq (.reg (⟨(some 19), .mov (.t 2), none⟩ :: ⟨(some 20), .mov (.t 0), none⟩ :: ⟨(some 21), .cvInt .u8 (.t 20), none⟩ :: ⟨(some 22), .idxStr (.c (.str [0, 1, 2, 2, 3, 3, 3, 3, 4, 4, 4, 4, 4, 4, 4, 4, 5, 5, 5, 5, 5, 5, 5, 5, 5, 5, 5, 5, 5, 5, 5, 5, 6, 6, 6, 6, 6, 6, 6, 6, 6, 6, 6, 6, 6, 6, 6, 6, 6, 6, 6, 6, 6, 6, 6, 6, 6, 6, 6, 6, 6, 6, 6, 6, 7, 7, 7, 7, 7, 7, 7, 7, 7, 7, 7, 7, 7, 7, 7, 7, 7, 7, 7, 7, 7, 7, 7, 7, 7, 7, 7, 7, 7, 7, 7, 7, 7, 7, 7, 7, 7, 7, 7, 7, 7, 7, 7, 7, 7, 7, 7, 7, 7, 7, 7, 7, 7, 7, 7, 7, 7, 7, 7, 7, 7, 7, 7, 7, 8, 8, 8, 8, 8, 8, 8, 8, 8, 8, 8, 8, 8, 8, 8, 8, 8, 8, 8, 8, 8, 8, 8, 8, 8, 8, 8, 8, 8, 8, 8, 8, 8, 8, 8, 8, 8, 8, 8, 8, 8, 8, 8, 8, 8, 8, 8, 8, 8, 8, 8, 8, 8, 8, 8, 8, 8, 8, 8, 8, 8, 8, 8, 8, 8, 8, 8, 8, 8, 8, 8, 8, 8, 8, 8, 8, 8, 8, 8, 8, 8, 8, 8, 8, 8, 8, 8, 8, 8, 8, 8, 8, 8, 8, 8, 8, 8, 8, 8, 8, 8, 8, 8, 8, 8, 8, 8, 8, 8, 8, 8, 8, 8, 8, 8, 8, 8, 8, 8, 8, 8, 8, 8, 8, 8, 8, 8, 8])) (.t 21), none⟩ :: ⟨(some 23), .cvInt .i64 (.t 22), none⟩ :: ⟨(some 24), .bin .add (.t 19) (.t 23), none⟩ :: ⟨(some 2), .mov (.t 24), none⟩ :: []))
.ret)))))⟩
theorem c157_eq : compFn Tryz.prog 157 = some c157 := by kernel_rfl
/-- sodality/rumor.digits -/
noncomputable def c163 : FnI := ⟨11, [.tmp 2],
(.seq (.reg (⟨(some 2), .mov (.c (.int .i64 (.ofNat 0))), none⟩ :: []))
(.seq (.reg (⟨(some 3), .mov (.c (.int .i64 (.ofNat 0))), none⟩ :: []))
(.seq (.block 0 (.loop (.seq (.seq (.reg (⟨(some 4), .mov (.t 0), none⟩ :: ⟨(some 5), .bin .gtr (.t 4) (.c (.int .i64 (.ofNat 0))), none⟩ :: []))
(.cond (.t 5) .skip (.exit 0)))
(.seq (.block 1 (.reg (⟨(some 8), .mov (.t 3), none⟩ :: ⟨(some 9), .bin .add (.t 8) (.c (.int .i64 (.ofNat 1))), none⟩ :: ⟨(some 3), .mov (.t 9), none⟩ :: [])))
(.reg (⟨(some 6), .mov (.t 0), none⟩ :: ⟨(some 7), .bin .shr (.t 6) (.c (.int .u64 (.ofNat 1))), none⟩ :: ⟨(some 0), .mov (.t 7), none⟩ :: []))))))
(.seq (.reg (⟨(some 10), .mov (.t 3), none⟩ :: ⟨(some 2), .mov (.t 10), none⟩ :: []))
.ret))))⟩
theorem c163_eq : compFn Tryz.prog 163 = some c163 := by kernel_rfl
/-- sodality/speech.lay -/
noncomputable def c164 : FnI := ⟨65, [.tmp 6],
(.seq (.reg (⟨(some 4), .box (.t 1), none⟩ :: ⟨(some 6), .mov (.c .nilsl), none⟩ :: []))
(.seq (.seq (.reg (⟨(some 9), .mov (.t 2), none⟩ :: []))
(.block 0 (.seq (.reg (⟨(some 11), .bin .eql (.t 9) (.c (.int .i64 (.ofNat 0))), none⟩ :: ⟨(some 10), .mov (.t 11), none⟩ :: []))
(.cond (.t 10) (.seq (.reg (⟨(some 12), .mov (.t 0), none⟩ :: ⟨(some 13), .faddr 1 (.t 4), none⟩ :: ⟨(some 14), .load false 1 (.t 13), none⟩ :: ⟨(some 15), .cvInt .u64 (.t 14), none⟩ :: ⟨(some 16), .call 197 [(.t 12), (.t 15)], none⟩ :: ⟨(some 6), .mov (.t 16), none⟩ :: []))
.ret) (.seq (.reg (⟨(some 18), .bin .eql (.t 9) (.c (.int .i64 (.ofNat 1))), none⟩ :: ⟨(some 17), .mov (.t 18), none⟩ :: []))
(.cond (.t 17) (.seq (.reg (⟨(some 19), .mov (.t 0), none⟩ :: ⟨(some 20), .faddr 2 (.t 4), none⟩ :: ⟨(some 21), .load false 1 (.t 20), none⟩ :: ⟨(some 22), .cvInt .u64 (.t 21), none⟩ :: ⟨(some 23), .call 197 [(.t 19), (.t 22)], none⟩ :: ⟨(some 6), .mov (.t 23), none⟩ :: []))
.ret) (.seq (.reg (⟨(some 25), .bin .eql (.t 9) (.c (.int .i64 (.ofNat 2))), none⟩ :: ⟨(some 24), .mov (.t 25), none⟩ :: []))
(.cond (.t 24) (.seq (.reg (⟨(some 26), .mov (.t 0), none⟩ :: ⟨(some 27), .faddr 3 (.t 4), none⟩ :: ⟨(some 28), .load false 1 (.t 27), none⟩ :: ⟨(some 29), .cvInt .u64 (.t 28), none⟩ :: ⟨(some 30), .call 197 [(.t 26), (.t 29)], none⟩ :: ⟨(some 6), .mov (.t 30), none⟩ :: []))
.ret) (.seq (.reg (⟨(some 32), .bin .eql (.t 9) (.c (.int .i64 (.ofNat 3))), none⟩ :: ⟨(some 31), .mov (.t 32), none⟩ :: []))
(.cond (.t 31) (.seq (.reg (⟨(some 33), .mov (.t 0), none⟩ :: ⟨(some 34), .faddr 4 (.t 4), none⟩ :: ⟨(some 35), .load false 1 (.t 34), none⟩ :: ⟨(some 36), .call 198 [(.t 33), (.t 35)], none⟩ :: ⟨(some 6), .mov (.t 36), none⟩ :: []))
.ret) .skip))))))))))
(.seq (.reg (⟨(some 37), .mov (.t 0), none⟩ :: ⟨(some 38), .faddr 5 (.t 4), none⟩ :: ⟨(some 39), .load false 1 (.t 38), none⟩ :: ⟨(some 40), .len false (.t 39), none⟩ :: ⟨(some 41), .cvInt .u64 (.t 40), none⟩ :: ⟨(some 42), .call 197 [(.t 37), (.t 41)], none⟩ :: ⟨(some 0), .mov (.t 42), none⟩ :: []))
(.seq (.seq (.reg (⟨(some 43), .faddr 5 (.t 4), none⟩ :: ⟨(some 44), .load false 1 (.t 43), none⟩ :: ⟨(some 45), .len false (.t 44), none⟩ :: ⟨(some 46), .mov (.c (.int .i64 (.ofNat 0))), none⟩ :: []))
(.block 1 (.loop (.seq (.reg (⟨(some 47), .bin .lss (.t 46) (.t 45), none⟩ :: []))
(.seq (.cond (.t 47) .skip (.exit 1))
(.seq (.block 2 (.seq (.reg (⟨(some 48), .idxS 3 (.t 44) (.t 46), none⟩ :: ⟨(some 49), .load true 3 (.t 48), none⟩ :: ⟨(some 8), .alloc [(.int .i64 (.ofNat 0)), (.int .u32 (.ofNat 0)), (.int .i64 (.ofNat 0))], none⟩ :: ⟨none, .store 3 (.t 8) (.t 49), none⟩ :: []))
(.dreg (⟨⟨(some 50), .mov (.t 0), none⟩, .quiet, 0, 0⟩ :: ⟨⟨(some 51), .faddr 0 (.t 8), none⟩, .quiet, 1, 0⟩ :: ⟨⟨(some 52), .load false 1 (.t 51), none⟩, .load, 2, 2⟩ :: ⟨⟨(some 53), .cvInt .u64 (.t 52), none⟩, .quiet, 3, 6⟩ :: ⟨⟨(some 54), .call 197 [(.t 50), (.t 53)], none⟩, .loud, 4, 15⟩ :: ⟨⟨(some 55), .faddr 1 (.t 8), none⟩, .quiet, 5, 0⟩ :: ⟨⟨(some 56), .load false 1 (.t 55), none⟩, .load, 6, 32⟩ :: ⟨⟨(some 57), .cvInt .u64 (.t 56), none⟩, .quiet, 7, 96⟩ :: ⟨⟨(some 58), .call 197 [(.t 54), (.t 57)], none⟩, .loud, 8, 255⟩ :: ⟨⟨(some 59), .faddr 2 (.t 8), none⟩, .quiet, 9, 0⟩ :: ⟨⟨(some 60), .load false 1 (.t 59), none⟩, .load, 10, 512⟩ :: ⟨⟨(some 61), .cvInt .u64 (.t 60), none⟩, .quiet, 11, 1536⟩ :: ⟨⟨(some 62), .call 197 [(.t 58), (.t 61)], none⟩, .loud, 12, 4095⟩ :: ⟨⟨(some 0), .mov (.t 62), none⟩, .quiet, 13, 8191⟩ :: []))))
(.reg (⟨(some 63), .bin .add (.t 46) (.c (.int .i64 (.ofNat 1))), none⟩ :: ⟨(some 46), .mov (.t 63), none⟩ :: []))))))))
(.seq (.reg (⟨(some 64), .mov (.t 0), none⟩ :: ⟨(some 6), .mov (.t 64), none⟩ :: []))
.ret)))))⟩
theorem c164_eq : compFn Tryz.prog 164 = some c164 := by kernel_rfl
/-- sodality/frame.Put -/
noncomputable def c165 : FnI := ⟨43, [.tmp 4, .tmp 5],
(.seq (.reg (⟨(some 3), .box (.t 1), none⟩ :: ⟨(some 4), .mov (.c .nilsl), none⟩ :: ⟨(some 5), .mov (.c (.int .i64 (.ofNat 0))), none⟩ :: []))
(.seq (.seq (.reg (⟨(some 9), .faddr 0 (.t 3), none⟩ :: ⟨(some 10), .load false 1 (.t 9), none⟩ :: ⟨(some 11), .bin .eql (.t 10) (.c (.int .u8 (.ofNat 0))), none⟩ :: []))
(.cond (.t 11) (.seq (.reg (⟨(some 4), .mov (.c .nilsl), none⟩ :: ⟨(some 5), .mov (.c (.int .i64 (.ofNat 2))), none⟩ :: []))
.ret) .skip))
(.seq (.seq (.reg (⟨(some 12), .faddr 1 (.t 3), none⟩ :: ⟨(some 13), .load false 1 (.t 12), none⟩ :: ⟨(some 14), .len false (.t 13), none⟩ :: ⟨(some 15), .bin .gtr (.t 14) (.c (.int .i64 (.ofNat 1000))), none⟩ :: []))
(.cond (.t 15) (.seq (.reg (⟨(some 4), .mov (.c .nilsl), none⟩ :: ⟨(some 5), .mov (.c (.int .i64 (.ofNat 3))), none⟩ :: []))
.ret) .skip))
(.seq (.reg (⟨(some 16), .faddr 1 (.t 3), none⟩ :: ⟨(some 17), .load false 1 (.t 16), none⟩ :: ⟨(some 18), .len false (.t 17), none⟩ :: ⟨(some 6), .mov (.t 18), none⟩ :: []))
(.seq (.reg (⟨(some 19), .faddr 0 (.t 3), none⟩ :: ⟨(some 20), .load false 1 (.t 19), none⟩ :: ⟨(some 21), .mov (.t 6), none⟩ :: ⟨(some 22), .bin .shr (.t 21) (.c (.int .u64 (.ofNat 8))), none⟩ :: ⟨(some 23), .cvInt .u8 (.t 22), none⟩ :: ⟨(some 24), .mov (.t 6), none⟩ :: ⟨(some 25), .cvInt .u8 (.t 24), none⟩ :: ⟨(some 26), .buildSl 1 3 [(.int .u8 (.ofNat 0)), (.int .u8 (.ofNat 0)), (.int .u8 (.ofNat 0))] [(0, 1, (.t 20)), (1, 1, (.t 23)), (2, 1, (.t 25))], none⟩ :: ⟨(some 7), .mov (.t 26), none⟩ :: []))
(.seq (.dreg (⟨⟨(some 27), .buildSl 1 0 [] [], none⟩, .quiet, 0, 0⟩ :: ⟨⟨(some 28), .mov (.t 0), none⟩, .quiet, 1, 0⟩ :: ⟨⟨(some 29), .append 1 1 (.t 27) (.t 28), none⟩, .loud, 2, 3⟩ :: ⟨⟨(some 30), .mov (.t 7), none⟩, .quiet, 3, 0⟩ :: ⟨⟨(some 31), .append 1 1 (.t 29) (.t 30), none⟩, .loud, 4, 15⟩ :: ⟨⟨(some 32), .faddr 1 (.t 3), none⟩, .quiet, 5, 0⟩ :: ⟨⟨(some 33), .load false 1 (.t 32), none⟩, .load, 6, 32⟩ :: ⟨⟨(some 34), .append 1 1 (.t 31) (.t 33), none⟩, .loud, 7, 127⟩ :: ⟨⟨(some 8), .mov (.t 34), none⟩, .quiet, 8, 255⟩ :: []))
(.seq (.reg (⟨(some 35), .mov (.t 8), none⟩ :: ⟨(some 36), .mov (.t 7), none⟩ :: ⟨(some 37), .faddr 1 (.t 3), none⟩ :: ⟨(some 38), .load false 1 (.t 37), none⟩ :: ⟨(some 39), .buildSl 1 2 [.nilsl, .nilsl] [(0, 1, (.t 36)), (1, 1, (.t 38))], none⟩ :: ⟨(some 40), .call 200 [(.t 39)], none⟩ :: ⟨(some 41), .call 199 [(.t 40)], none⟩ :: ⟨(some 42), .append 1 1 (.t 35) (.t 41), none⟩ :: ⟨(some 4), .mov (.t 42), none⟩ :: ⟨(some 5), .mov (.c (.int .i64 (.ofNat 0))), none⟩ :: []))
.ret)))))))⟩
theorem c165_eq : compFn Tryz.prog 165 = some c165 := by kernel_rfl
/-- sort.insertionSort_func -/
noncomputable def c175 : FnI := ⟨35, [],
(.seq (.reg (⟨(some 3), .box (.t 0), none⟩ :: []))
(.seq (.reg (⟨(some 8), .mov (.t 1), none⟩ :: ⟨(some 9), .bin .add (.t 8) (.c (.int .i64 (.ofNat 1))), none⟩ :: ⟨(some 6), .mov (.t 9), none⟩ :: []))
(.block 0 (.loop (.seq (.seq (.reg (⟨(some 10), .mov (.t 6), none⟩ :: ⟨(some 11), .mov (.t 2), none⟩ :: ⟨(some 12), .bin .lss (.t 10) (.t 11), none⟩ :: []))
(.cond (.t 12) .skip (.exit 0)))
(.seq (.block 1 (.seq (.reg (⟨(some 15), .mov (.t 6), none⟩ :: ⟨(some 7), .mov (.t 15), none⟩ :: []))
(.block 2 (.loop (.seq (.seq (.reg (⟨(some 16), .mov (.t 7), none⟩ :: ⟨(some 17), .mov (.t 1), none⟩ :: ⟨(some 18), .bin .gtr (.t 16) (.t 17), none⟩ :: ⟨(some 19), .mov (.t 18), none⟩ :: ⟨(some 20), .faddr 0 (.t 3), (some (19, true))⟩ :: ⟨(some 21), .load false 1 (.t 20), (some (19, true))⟩ :: ⟨(some 22), .mov (.t 7), (some (19, true))⟩ :: ⟨(some 23), .mov (.t 7), (some (19, true))⟩ :: ⟨(some 24), .bin .sub (.t 23) (.c (.int .i64 (.ofNat 1))), (some (19, true))⟩ :: ⟨(some 25), .callv (.t 21) [(.t 22), (.t 24)], (some (19, true))⟩ :: ⟨(some 26), .pick (.t 19) (.t 25) (.c (.bool false)), none⟩ :: []))
(.cond (.t 26) .skip (.exit 2)))
(.seq (.block 3 (.reg (⟨(some 29), .faddr 1 (.t 3), none⟩ :: ⟨(some 30), .load false 1 (.t 29), none⟩ :: ⟨(some 31), .mov (.t 7), none⟩ :: ⟨(some 32), .mov (.t 7), none⟩ :: ⟨(some 33), .bin .sub (.t 32) (.c (.int .i64 (.ofNat 1))), none⟩ :: ⟨(some 34), .callv (.t 30) [(.t 31), (.t 33)], none⟩ :: [])))
(.reg (⟨(some 27), .mov (.t 7), none⟩ :: ⟨(some 28), .bin .sub (.t 27) (.c (.int .i64 (.ofNat 1))), none⟩ :: ⟨(some 7), .mov (.t 28), none⟩ :: []))))))))
(.reg (⟨(some 13), .mov (.t 6), none⟩ :: ⟨(some 14), .bin .add (.t 13) (.c (.int .i64 (.ofNat 1))), none⟩ :: ⟨(some 6), .mov (.t 14), none⟩ :: []))))))))⟩
theorem c175_eq : compFn Tryz.prog 175 = some c175 := by kernel_rfl
/-- sodality/field.Num -/
noncomputable def c197 : FnI := ⟨33, [.tmp 4],
(.seq (.reg (⟨(some 4), .mov (.c .nilsl), none⟩ :: []))
(.seq (.reg (⟨(some 5), .alloc [(.int .u8 (.ofNat 0)), (.int .u8 (.ofNat 0)), (.int .u8 (.ofNat 0)), (.int .u8 (.ofNat 0)), (.int .u8 (.ofNat 0)), (.int .u8 (.ofNat 0)), (.int .u8 (.ofNat 0)), (.int .u8 (.ofNat 0))], none⟩ :: []))
(.seq (.reg (⟨(some 6), .mov (.c (.int .i64 (.ofNat 0))), none⟩ :: []))
(.seq (.seq (.reg (⟨(some 9), .mov (.t 1), none⟩ :: ⟨(some 7), .mov (.t 9), none⟩ :: []))
(.block 0 (.loop (.seq (.seq (.reg (⟨(some 10), .mov (.t 7), none⟩ :: ⟨(some 11), .bin .gtr (.t 10) (.c (.int .u64 (.ofNat 0))), none⟩ :: []))
(.cond (.t 11) .skip (.exit 0)))
(.seq (.block 1 (.seq (.reg (⟨(some 14), .mov (.t 6), none⟩ :: ⟨(some 15), .bin .add (.t 14) (.c (.int .i64 (.ofNat 1))), none⟩ :: ⟨(some 6), .mov (.t 15), none⟩ :: []))
(.reg (⟨(some 16), .mov (.t 6), none⟩ :: ⟨(some 17), .bin .sub (.c (.int .i64 (.ofNat 8))) (.t 16), none⟩ :: ⟨(some 18), .mov (.t 7), none⟩ :: ⟨(some 19), .cvInt .u8 (.t 18), none⟩ :: ⟨(some 20), .idxA 8 1 (.t 5) (.t 17), none⟩ :: ⟨none, .store 1 (.t 20) (.t 19), none⟩ :: []))))
(.reg (⟨(some 12), .mov (.t 7), none⟩ :: ⟨(some 13), .bin .shr (.t 12) (.c (.int .u64 (.ofNat 8))), none⟩ :: ⟨(some 7), .mov (.t 13), none⟩ :: [])))))))
(.seq (.reg (⟨(some 21), .buildSl 1 0 [] [], none⟩ :: ⟨(some 22), .mov (.t 0), none⟩ :: ⟨(some 23), .append 1 1 (.t 21) (.t 22), none⟩ :: ⟨(some 24), .mov (.t 6), none⟩ :: ⟨(some 25), .cvInt .u8 (.t 24), none⟩ :: ⟨(some 26), .buildSl 1 1 [(.int .u8 (.ofNat 0))] [(0, 1, (.t 25))], none⟩ :: ⟨(some 27), .append 1 1 (.t 23) (.t 26), none⟩ :: ⟨(some 8), .mov (.t 27), none⟩ :: []))
(.seq (.reg (⟨(some 28), .mov (.t 8), none⟩ :: ⟨(some 29), .mov (.t 6), none⟩ :: ⟨(some 30), .bin .sub (.c (.int .i64 (.ofNat 8))) (.t 29), none⟩ :: ⟨(some 31), .slA 8 1 (.t 5) (some (.t 30)) none none, none⟩ :: ⟨(some 32), .append 1 1 (.t 28) (.t 31), none⟩ :: ⟨(some 4), .mov (.t 32), none⟩ :: []))
.ret))))))⟩
theorem c197_eq : compFn Tryz.prog 197 = some c197 := by kernel_rfl
/-- sodality/field.Flag -/
noncomputable def c198 : FnI := ⟨10, [.tmp 4],
(.seq (.reg (⟨(some 4), .mov (.c .nilsl), none⟩ :: []))
(.seq (.seq (.reg (⟨(some 5), .mov (.t 1), none⟩ :: []))
(.cond (.t 5) (.seq (.reg (⟨(some 6), .mov (.t 0), none⟩ :: ⟨(some 7), .call 197 [(.t 6), (.c (.int .u64 (.ofNat 1)))], none⟩ :: ⟨(some 4), .mov (.t 7), none⟩ :: []))
.ret) .skip))
(.seq (.reg (⟨(some 8), .mov (.t 0), none⟩ :: ⟨(some 9), .call 197 [(.t 8), (.c (.int .u64 (.ofNat 0)))], none⟩ :: ⟨(some 4), .mov (.t 9), none⟩ :: []))
.ret)))⟩
theorem c198_eq : compFn Tryz.prog 198 = some c198 := by kernel_rfl
/-- sodality/sum.Bytes -/
noncomputable def c199 : FnI := ⟨20, [.tmp 2],
(.seq (.reg (⟨(some 2), .mov (.c .nilsl), none⟩ :: []))
(.seq (.reg (⟨(some 5), .mksl 1 1 [(.int .u8 (.ofNat 0))] (.c (.int .i64 (.ofNat 4))) (.c (.int .i64 (.ofNat 4))), none⟩ :: ⟨(some 3), .mov (.t 5), none⟩ :: []))
(.seq (.seq (.reg (⟨(some 6), .mov (.c (.int .i64 (.ofNat 0))), none⟩ :: []))
(.block 0 (.loop (.seq (.reg (⟨(some 7), .bin .lss (.t 6) (.c (.int .i64 (.ofNat 4))), none⟩ :: []))
(.seq (.cond (.t 7) .skip (.exit 0))
(.seq (.block 1 (.seq (.reg (⟨(some 8), .mov (.t 6), none⟩ :: ⟨(some 4), .mov (.t 8), none⟩ :: []))
(.reg (⟨(some 9), .mov (.t 3), none⟩ :: ⟨(some 10), .mov (.t 4), none⟩ :: ⟨(some 11), .mov (.t 0), none⟩ :: ⟨(some 12), .mov (.t 4), none⟩ :: ⟨(some 13), .bin .mul (.c (.int .i64 (.ofNat 8))) (.t 12), none⟩ :: ⟨(some 14), .bin .sub (.c (.int .i64 (.ofNat 24))) (.t 13), none⟩ :: ⟨(some 15), .bin .shr (.t 11) (.t 14), none⟩ :: ⟨(some 16), .cvInt .u8 (.t 15), none⟩ :: ⟨(some 17), .idxS 1 (.t 9) (.t 10), none⟩ :: ⟨none, .store 1 (.t 17) (.t 16), none⟩ :: []))))
(.reg (⟨(some 18), .bin .add (.t 6) (.c (.int .i64 (.ofNat 1))), none⟩ :: ⟨(some 6), .mov (.t 18), none⟩ :: []))))))))
(.seq (.reg (⟨(some 19), .mov (.t 3), none⟩ :: ⟨(some 2), .mov (.t 19), none⟩ :: []))
.ret))))⟩
theorem c199_eq : compFn Tryz.prog 199 = some c199 := by kernel_rfl
/-- sodality/sum.Sum -/
noncomputable def c200 : FnI := ⟨17, [.tmp 2],
(.seq (.reg (⟨(some 2), .mov (.c (.int .u32 (.ofNat 0))), none⟩ :: []))
(.seq (.reg (⟨(some 3), .mov (.c (.int .u32 (.ofNat 0))), none⟩ :: []))
(.seq (.seq (.reg (⟨(some 6), .mov (.t 0), none⟩ :: ⟨(some 7), .len false (.t 6), none⟩ :: ⟨(some 8), .mov (.c (.int .i64 (.ofNat 0))), none⟩ :: []))
(.block 0 (.loop (.seq (.reg (⟨(some 9), .bin .lss (.t 8) (.t 7), none⟩ :: []))
(.seq (.cond (.t 9) .skip (.exit 0))
(.seq (.block 1 (.seq (.reg (⟨(some 10), .idxS 1 (.t 6) (.t 8), none⟩ :: ⟨(some 11), .load false 1 (.t 10), none⟩ :: ⟨(some 5), .mov (.t 11), none⟩ :: []))
(.reg (⟨(some 12), .mov (.t 3), none⟩ :: ⟨(some 13), .mov (.t 5), none⟩ :: ⟨(some 14), .call 207 [(.t 12), (.t 13)], none⟩ :: ⟨(some 3), .mov (.t 14), none⟩ :: []))))
(.reg (⟨(some 15), .bin .add (.t 8) (.c (.int .i64 (.ofNat 1))), none⟩ :: ⟨(some 8), .mov (.t 15), none⟩ :: []))))))))
(.seq (.reg (⟨(some 16), .mov (.t 3), none⟩ :: ⟨(some 2), .mov (.t 16), none⟩ :: []))
.ret))))⟩
theorem c200_eq : compFn Tryz.prog 200 = some c200 := by kernel_rfl
/-- sodality/sum.From -/
noncomputable def c207 : FnI := ⟨25, [.tmp 4],
(.seq (.reg (⟨(some 4), .mov (.c (.int .u32 (.ofNat 0))), none⟩ :: []))
(.seq (.reg (⟨(some 8), .mov (.t 0), none⟩ :: ⟨(some 9), .un .xor (.t 8), none⟩ :: ⟨(some 5), .mov (.t 9), none⟩ :: []))
(.seq (.seq (.reg (⟨(some 10), .mov (.t 1), none⟩ :: ⟨(some 11), .len false (.t 10), none⟩ :: ⟨(some 12), .mov (.c (.int .i64 (.ofNat 0))), none⟩ :: []))
(.block 0 (.loop (.seq (.reg (⟨(some 13), .bin .lss (.t 12) (.t 11), none⟩ :: []))
(.seq (.cond (.t 13) .skip (.exit 0))
(.seq (.block 1 (.seq (.reg (⟨(some 14), .idxS 1 (.t 10) (.t 12), none⟩ :: ⟨(some 15), .load false 1 (.t 14), none⟩ :: ⟨(some 7), .mov (.t 15), none⟩ :: []))
(.reg (⟨(some 16), .mov (.t 5), none⟩ :: ⟨(some 17), .mov (.t 7), none⟩ :: ⟨(some 18), .cvInt .u32 (.t 17), none⟩ :: ⟨(some 19), .bin .shl (.t 18) (.c (.int .u64 (.ofNat 24))), none⟩ :: ⟨(some 20), .bin .xor (.t 16) (.t 19), none⟩ :: ⟨(some 21), .call 209 [(.t 20), (.c (.int .i64 (.ofNat 8)))], none⟩ :: ⟨(some 5), .mov (.t 21), none⟩ :: []))))
(.reg (⟨(some 22), .bin .add (.t 12) (.c (.int .i64 (.ofNat 1))), none⟩ :: ⟨(some 12), .mov (.t 22), none⟩ :: []))))))))
(.seq (.reg (⟨(some 23), .mov (.t 5), none⟩ :: ⟨(some 24), .un .xor (.t 23), none⟩ :: ⟨(some 4), .mov (.t 24), none⟩ :: []))
.ret))))⟩
theorem c207_eq : compFn Tryz.prog 207 = some c207 := by kernel_rfl
/-- sodality/sum.moved -/
noncomputable def c209 : FnI := ⟨14, [.tmp 4],
(.seq (.reg (⟨(some 4), .mov (.c (.int .u32 (.ofNat 0))), none⟩ :: []))
(.seq (.reg (⟨(some 5), .mov (.c (.fn (.func 210) [] [])), none⟩ :: []))
(.seq (.seq (.reg (⟨(some 6), .mov (.t 1), none⟩ :: ⟨(some 7), .mov (.c (.int .i64 (.ofNat 0))), none⟩ :: []))
(.block 0 (.loop (.seq (.reg (⟨(some 8), .bin .lss (.t 7) (.t 6), none⟩ :: []))
(.seq (.cond (.t 8) .skip (.exit 0))
(.seq (.block 1 (.reg (⟨(some 9), .mov (.t 5), none⟩ :: ⟨(some 10), .mov (.t 0), none⟩ :: ⟨(some 11), .callv (.t 9) [(.t 10)], none⟩ :: ⟨(some 0), .mov (.t 11), none⟩ :: [])))
(.reg (⟨(some 12), .bin .add (.t 7) (.c (.int .i64 (.ofNat 1))), none⟩ :: ⟨(some 7), .mov (.t 12), none⟩ :: []))))))))
(.seq (.reg (⟨(some 13), .mov (.t 0), none⟩ :: ⟨(some 4), .mov (.t 13), none⟩ :: []))
.ret))))⟩
theorem c209_eq : compFn Tryz.prog 209 = some c209 := by kernel_rfl
/-- sodality/sum.moved$1 -/
noncomputable def c210 : FnI := ⟨11, [.tmp 2],
(.seq (.reg (⟨(some 2), .mov (.c (.int .u32 (.ofNat 0))), none⟩ :: []))
(.seq (.seq (.reg (⟨(some 3), .mov (.t 0), none⟩ :: ⟨(some 4), .bin .shr (.t 3) (.c (.int .u64 (.ofNat 31))), none⟩ :: ⟨(some 5), .bin .eql (.t 4) (.c (.int .u32 (.ofNat 1))), none⟩ :: []))
(.cond (.t 5) (.seq (.reg (⟨(some 6), .mov (.t 0), none⟩ :: ⟨(some 7), .bin .shl (.t 6) (.c (.int .u64 (.ofNat 1))), none⟩ :: ⟨(some 8), .bin .xor (.t 7) (.c (.int .u32 (.ofNat 79764919))), none⟩ :: ⟨(some 2), .mov (.t 8), none⟩ :: []))
.ret) .skip))
(.seq (.reg (⟨(some 9), .mov (.t 0), none⟩ :: ⟨(some 10), .bin .shl (.t 9) (.c (.int .u64 (.ofNat 1))), none⟩ :: ⟨(some 2), .mov (.t 10), none⟩ :: []))
.ret)))⟩
theorem c210_eq : compFn Tryz.prog 210 = some c210 := by kernel_rfl
end Go.Proofs.YtcecihgcinglaaaGreat.SR
