/- The functions' code, as the evaluator takes it (part 0), and that it is what the evaluator's compiler makes of the program. -/
import Derived.Test.YtmkcbjklcfegcaaGreatAbsJ
import Derived.Test.YtmkcbjklcfegcaaGreatRows
set_option maxRecDepth 100000
namespace Go.Proofs.YtmkcbjklcfegcaaGreat.QS
open Go.Proofs.YtmkcbjklcfegcaaGreat.Abs
/-- sodality/sodalitylaw28.QuerySame -/
noncomputable def c3 : FnI := ⟨20, [.tmp 4],
(.seq (.reg (⟨(some 2), .box (.t 0), none⟩ :: ⟨(some 3), .box (.t 1), none⟩ :: ⟨(some 4), .mov (.c (.bool false)), none⟩ :: []))
(.seq (.dreg (⟨⟨(some 5), .load true 11 (.t 2), none⟩, .load, 0, 0⟩ :: ⟨⟨(some 6), .load true 11 (.t 3), none⟩, .load, 1, 0⟩ :: ⟨⟨(some 7), .call 4 [(.t 5), (.t 6)], none⟩, .loud, 2, 3⟩ :: ⟨⟨(some 8), .load true 11 (.t 2), none⟩, .load, 3, 0⟩ :: ⟨⟨(some 9), .load true 11 (.t 3), none⟩, .load, 4, 0⟩ :: ⟨⟨(some 10), .call 5 [(.t 8), (.t 9)], none⟩, .loud, 5, 31⟩ :: ⟨⟨(some 11), .eq false .bool (.t 7) (.t 10), none⟩, .quiet, 6, 63⟩ :: ⟨⟨(some 12), .mov (.t 11), none⟩, .quiet, 7, 127⟩ :: ⟨⟨(some 13), .load true 11 (.t 2), (some (12, true))⟩, .load, 8, 255⟩ :: ⟨⟨(some 14), .load true 11 (.t 2), (some (12, true))⟩, .load, 9, 255⟩ :: ⟨⟨(some 15), .call 4 [(.t 13), (.t 14)], (some (12, true))⟩, .loud, 10, 1023⟩ :: ⟨⟨(some 16), .pick (.t 12) (.t 15) (.c (.bool false)), none⟩, .quiet, 11, 2047⟩ :: ⟨⟨(some 17), .mov (.t 16), none⟩, .quiet, 12, 4095⟩ :: ⟨⟨(some 18), .call 6 [], (some (17, true))⟩, .loud, 13, 8191⟩ :: ⟨⟨(some 19), .pick (.t 17) (.t 18) (.c (.bool false)), none⟩, .quiet, 14, 16383⟩ :: ⟨⟨(some 4), .mov (.t 19), none⟩, .quiet, 15, 32767⟩ :: []))
.ret))⟩
theorem c3_eq : compFn Tryz.prog 3 = some c3 := by kernel_rfl
/-- sodality/query.Same -/
noncomputable def c4 : FnI := ⟨92, [.tmp 4],
(.seq (.reg (⟨(some 2), .box (.t 0), none⟩ :: ⟨(some 3), .box (.t 1), none⟩ :: ⟨(some 4), .mov (.c (.bool false)), none⟩ :: []))
(.seq (.reg (⟨(some 5), .mov (.c (.fn (.func 7) [] [])), none⟩ :: []))
(.seq (.reg (⟨(some 6), .faddr 0 (.t 2), none⟩ :: ⟨(some 7), .load false 1 (.t 6), none⟩ :: ⟨(some 8), .faddr 0 (.t 3), none⟩ :: ⟨(some 9), .load false 1 (.t 8), none⟩ :: ⟨(some 10), .bin .eql (.t 7) (.t 9), none⟩ :: ⟨(some 11), .mov (.t 10), none⟩ :: ⟨(some 12), .faddr 1 (.t 2), (some (11, true))⟩ :: ⟨(some 13), .load false 1 (.t 12), (some (11, true))⟩ :: ⟨(some 14), .faddr 1 (.t 3), (some (11, true))⟩ :: ⟨(some 15), .load false 1 (.t 14), (some (11, true))⟩ :: ⟨(some 16), .bin .eql (.t 13) (.t 15), (some (11, true))⟩ :: ⟨(some 17), .pick (.t 11) (.t 16) (.c (.bool false)), none⟩ :: ⟨(some 18), .mov (.t 17), none⟩ :: ⟨(some 19), .faddr 2 (.t 2), (some (18, true))⟩ :: ⟨(some 20), .faddr 0 (.t 19), (some (18, true))⟩ :: ⟨(some 21), .load false 1 (.t 20), (some (18, true))⟩ :: ⟨(some 22), .faddr 2 (.t 3), (some (18, true))⟩ :: ⟨(some 23), .faddr 0 (.t 22), (some (18, true))⟩ :: ⟨(some 24), .load false 1 (.t 23), (some (18, true))⟩ :: ⟨(some 25), .eq false .bool (.t 21) (.t 24), (some (18, true))⟩ :: ⟨(some 26), .pick (.t 18) (.t 25) (.c (.bool false)), none⟩ :: ⟨(some 27), .mov (.t 26), none⟩ :: ⟨(some 28), .faddr 2 (.t 2), (some (27, true))⟩ :: ⟨(some 29), .faddr 1 (.t 28), (some (27, true))⟩ :: ⟨(some 30), .load false 1 (.t 29), (some (27, true))⟩ :: ⟨(some 31), .faddr 2 (.t 3), (some (27, true))⟩ :: ⟨(some 32), .faddr 1 (.t 31), (some (27, true))⟩ :: ⟨(some 33), .load false 1 (.t 32), (some (27, true))⟩ :: ⟨(some 34), .bin .eql (.t 30) (.t 33), (some (27, true))⟩ :: ⟨(some 35), .pick (.t 27) (.t 34) (.c (.bool false)), none⟩ :: ⟨(some 36), .mov (.t 35), none⟩ :: ⟨(some 37), .faddr 2 (.t 2), (some (36, true))⟩ :: ⟨(some 38), .faddr 2 (.t 37), (some (36, true))⟩ :: ⟨(some 39), .load false 1 (.t 38), (some (36, true))⟩ :: ⟨(some 40), .faddr 2 (.t 3), (some (36, true))⟩ :: ⟨(some 41), .faddr 2 (.t 40), (some (36, true))⟩ :: ⟨(some 42), .load false 1 (.t 41), (some (36, true))⟩ :: ⟨(some 43), .bin .eql (.t 39) (.t 42), (some (36, true))⟩ :: ⟨(some 44), .pick (.t 36) (.t 43) (.c (.bool false)), none⟩ :: ⟨(some 45), .mov (.t 44), none⟩ :: ⟨(some 46), .faddr 2 (.t 2), (some (45, true))⟩ :: ⟨(some 47), .faddr 3 (.t 46), (some (45, true))⟩ :: ⟨(some 48), .load false 1 (.t 47), (some (45, true))⟩ :: ⟨(some 49), .faddr 2 (.t 3), (some (45, true))⟩ :: ⟨(some 50), .faddr 3 (.t 49), (some (45, true))⟩ :: ⟨(some 51), .load false 1 (.t 50), (some (45, true))⟩ :: ⟨(some 52), .call 9 [(.t 48), (.t 51), (.c (.fn (.func 8) [] []))], (some (45, true))⟩ :: ⟨(some 53), .pick (.t 45) (.t 52) (.c (.bool false)), none⟩ :: ⟨(some 54), .mov (.t 53), none⟩ :: ⟨(some 55), .faddr 2 (.t 2), (some (54, true))⟩ :: ⟨(some 56), .faddr 4 (.t 55), (some (54, true))⟩ :: ⟨(some 57), .load false 1 (.t 56), (some (54, true))⟩ :: ⟨(some 58), .faddr 2 (.t 3), (some (54, true))⟩ :: ⟨(some 59), .faddr 4 (.t 58), (some (54, true))⟩ :: ⟨(some 60), .load false 1 (.t 59), (some (54, true))⟩ :: ⟨(some 61), .call 10 [(.t 57), (.t 60)], (some (54, true))⟩ :: ⟨(some 62), .pick (.t 54) (.t 61) (.c (.bool false)), none⟩ :: ⟨(some 63), .mov (.t 62), none⟩ :: ⟨(some 64), .faddr 7 (.t 2), (some (63, true))⟩ :: ⟨(some 65), .load false 1 (.t 64), (some (63, true))⟩ :: ⟨(some 66), .faddr 7 (.t 3), (some (63, true))⟩ :: ⟨(some 67), .load false 1 (.t 66), (some (63, true))⟩ :: ⟨(some 68), .call 11 [(.t 65), (.t 67)], (some (63, true))⟩ :: ⟨(some 69), .pick (.t 63) (.t 68) (.c (.bool false)), none⟩ :: ⟨(some 70), .mov (.t 69), none⟩ :: ⟨(some 71), .faddr 8 (.t 2), (some (70, true))⟩ :: ⟨(some 72), .load false 1 (.t 71), (some (70, true))⟩ :: ⟨(some 73), .faddr 8 (.t 3), (some (70, true))⟩ :: ⟨(some 74), .load false 1 (.t 73), (some (70, true))⟩ :: ⟨(some 75), .mov (.t 5), (some (70, true))⟩ :: ⟨(some 76), .call 12 [(.t 72), (.t 74), (.t 75)], (some (70, true))⟩ :: ⟨(some 77), .pick (.t 70) (.t 76) (.c (.bool false)), none⟩ :: ⟨(some 78), .mov (.t 77), none⟩ :: ⟨(some 79), .faddr 9 (.t 2), (some (78, true))⟩ :: ⟨(some 80), .load false 1 (.t 79), (some (78, true))⟩ :: ⟨(some 81), .faddr 9 (.t 3), (some (78, true))⟩ :: ⟨(some 82), .load false 1 (.t 81), (some (78, true))⟩ :: ⟨(some 83), .call 13 [(.t 80), (.t 82)], (some (78, true))⟩ :: ⟨(some 84), .pick (.t 78) (.t 83) (.c (.bool false)), none⟩ :: ⟨(some 85), .mov (.t 84), none⟩ :: ⟨(some 86), .faddr 10 (.t 2), (some (85, true))⟩ :: ⟨(some 87), .load false 1 (.t 86), (some (85, true))⟩ :: ⟨(some 88), .faddr 10 (.t 3), (some (85, true))⟩ :: ⟨(some 89), .load false 1 (.t 88), (some (85, true))⟩ :: ⟨(some 90), .call 14 [(.t 87), (.t 89)], (some (85, true))⟩ :: ⟨(some 91), .pick (.t 85) (.t 90) (.c (.bool false)), none⟩ :: ⟨(some 4), .mov (.t 91), none⟩ :: []))
.ret)))⟩
theorem c4_eq : compFn Tryz.prog 4 = some c4 := by kernel_rfl
/-- sodality/sodalityref28.Same -/
noncomputable def c5 : FnI := ⟨130, [.tmp 4],
(.seq (.reg (⟨(some 2), .box (.t 0), none⟩ :: ⟨(some 3), .box (.t 1), none⟩ :: ⟨(some 4), .mov (.c (.bool false)), none⟩ :: []))
(.seq (.seq (.reg (⟨(some 6), .faddr 0 (.t 2), none⟩ :: ⟨(some 7), .load false 1 (.t 6), none⟩ :: ⟨(some 8), .faddr 0 (.t 3), none⟩ :: ⟨(some 9), .load false 1 (.t 8), none⟩ :: ⟨(some 10), .bin .neq (.t 7) (.t 9), none⟩ :: ⟨(some 11), .mov (.t 10), none⟩ :: ⟨(some 12), .faddr 1 (.t 2), (some (11, false))⟩ :: ⟨(some 13), .load false 1 (.t 12), (some (11, false))⟩ :: ⟨(some 14), .faddr 1 (.t 3), (some (11, false))⟩ :: ⟨(some 15), .load false 1 (.t 14), (some (11, false))⟩ :: ⟨(some 16), .bin .neq (.t 13) (.t 15), (some (11, false))⟩ :: ⟨(some 17), .pick (.t 11) (.c (.bool true)) (.t 16), none⟩ :: ⟨(some 18), .mov (.t 17), none⟩ :: ⟨(some 19), .faddr 2 (.t 2), (some (18, false))⟩ :: ⟨(some 20), .faddr 0 (.t 19), (some (18, false))⟩ :: ⟨(some 21), .load false 1 (.t 20), (some (18, false))⟩ :: ⟨(some 22), .faddr 2 (.t 3), (some (18, false))⟩ :: ⟨(some 23), .faddr 0 (.t 22), (some (18, false))⟩ :: ⟨(some 24), .load false 1 (.t 23), (some (18, false))⟩ :: ⟨(some 25), .eq true .bool (.t 21) (.t 24), (some (18, false))⟩ :: ⟨(some 26), .pick (.t 18) (.c (.bool true)) (.t 25), none⟩ :: ⟨(some 27), .mov (.t 26), none⟩ :: ⟨(some 28), .faddr 2 (.t 2), (some (27, false))⟩ :: ⟨(some 29), .faddr 1 (.t 28), (some (27, false))⟩ :: ⟨(some 30), .load false 1 (.t 29), (some (27, false))⟩ :: ⟨(some 31), .faddr 2 (.t 3), (some (27, false))⟩ :: ⟨(some 32), .faddr 1 (.t 31), (some (27, false))⟩ :: ⟨(some 33), .load false 1 (.t 32), (some (27, false))⟩ :: ⟨(some 34), .bin .neq (.t 30) (.t 33), (some (27, false))⟩ :: ⟨(some 35), .pick (.t 27) (.c (.bool true)) (.t 34), none⟩ :: ⟨(some 36), .mov (.t 35), none⟩ :: ⟨(some 37), .faddr 2 (.t 2), (some (36, false))⟩ :: ⟨(some 38), .faddr 2 (.t 37), (some (36, false))⟩ :: ⟨(some 39), .load false 1 (.t 38), (some (36, false))⟩ :: ⟨(some 40), .faddr 2 (.t 3), (some (36, false))⟩ :: ⟨(some 41), .faddr 2 (.t 40), (some (36, false))⟩ :: ⟨(some 42), .load false 1 (.t 41), (some (36, false))⟩ :: ⟨(some 43), .bin .neq (.t 39) (.t 42), (some (36, false))⟩ :: ⟨(some 44), .pick (.t 36) (.c (.bool true)) (.t 43), none⟩ :: ⟨(some 45), .mov (.t 44), none⟩ :: ⟨(some 46), .faddr 8 (.t 2), (some (45, false))⟩ :: ⟨(some 47), .load false 1 (.t 46), (some (45, false))⟩ :: ⟨(some 48), .len false (.t 47), (some (45, false))⟩ :: ⟨(some 49), .faddr 8 (.t 3), (some (45, false))⟩ :: ⟨(some 50), .load false 1 (.t 49), (some (45, false))⟩ :: ⟨(some 51), .len false (.t 50), (some (45, false))⟩ :: ⟨(some 52), .bin .neq (.t 48) (.t 51), (some (45, false))⟩ :: ⟨(some 53), .pick (.t 45) (.c (.bool true)) (.t 52), none⟩ :: []))
(.cond (.t 53) (.seq (.reg (⟨(some 4), .mov (.c (.bool false)), none⟩ :: []))
.ret) .skip))
(.seq (.seq (.reg (⟨(some 5), .mov (.c (.int .i64 (.ofNat 0))), none⟩ :: []))
(.block 0 (.loop (.seq (.seq (.reg (⟨(some 54), .mov (.t 5), none⟩ :: ⟨(some 55), .faddr 8 (.t 2), none⟩ :: ⟨(some 56), .load false 1 (.t 55), none⟩ :: ⟨(some 57), .len false (.t 56), none⟩ :: ⟨(some 58), .bin .lss (.t 54) (.t 57), none⟩ :: []))
(.cond (.t 58) .skip (.exit 0)))
(.seq (.block 1 (.seq (.dreg (⟨⟨(some 61), .faddr 8 (.t 2), none⟩, .quiet, 0, 0⟩ :: ⟨⟨(some 62), .load false 1 (.t 61), none⟩, .load, 1, 1⟩ :: ⟨⟨(some 63), .mov (.t 5), none⟩, .quiet, 2, 0⟩ :: ⟨⟨(some 64), .idxS 8 (.t 62) (.t 63), none⟩, .quiet, 3, 7⟩ :: ⟨⟨(some 65), .faddr 7 (.t 64), none⟩, .quiet, 4, 15⟩ :: ⟨⟨(some 66), .load false 1 (.t 65), none⟩, .load, 5, 31⟩ :: ⟨⟨(some 67), .faddr 8 (.t 3), none⟩, .quiet, 6, 0⟩ :: ⟨⟨(some 68), .load false 1 (.t 67), none⟩, .load, 7, 64⟩ :: ⟨⟨(some 69), .mov (.t 5), none⟩, .quiet, 8, 0⟩ :: ⟨⟨(some 70), .idxS 8 (.t 68) (.t 69), none⟩, .quiet, 9, 448⟩ :: ⟨⟨(some 71), .faddr 7 (.t 70), none⟩, .quiet, 10, 960⟩ :: ⟨⟨(some 72), .load false 1 (.t 71), none⟩, .load, 11, 1984⟩ :: ⟨⟨(some 73), .bin .neq (.t 66) (.t 72), none⟩, .quiet, 12, 4095⟩ :: ⟨⟨(some 74), .mov (.t 73), none⟩, .quiet, 13, 8191⟩ :: ⟨⟨(some 75), .faddr 8 (.t 2), (some (74, false))⟩, .quiet, 14, 16383⟩ :: ⟨⟨(some 76), .load false 1 (.t 75), (some (74, false))⟩, .load, 15, 32767⟩ :: ⟨⟨(some 77), .mov (.t 5), (some (74, false))⟩, .quiet, 16, 16383⟩ :: ⟨⟨(some 78), .idxS 8 (.t 76) (.t 77), (some (74, false))⟩, .quiet, 17, 131071⟩ :: ⟨⟨(some 79), .faddr 0 (.t 78), (some (74, false))⟩, .quiet, 18, 262143⟩ :: ⟨⟨(some 80), .load true 7 (.t 79), (some (74, false))⟩, .load, 19, 524287⟩ :: ⟨⟨(some 81), .buildSl 7 1 [(.int .i64 (.ofNat 0)), (.str []), (.str []), .nilsl, (.int .i64 (.ofNat 0)), (.int .u64 (.ofNat 0)), (.int .u64 (.ofNat 0))] [(0, 7, (.t 80))], (some (74, false))⟩, .quiet, 20, 1048575⟩ :: ⟨⟨(some 82), .faddr 8 (.t 3), (some (74, false))⟩, .quiet, 21, 16383⟩ :: ⟨⟨(some 83), .load false 1 (.t 82), (some (74, false))⟩, .load, 22, 2113535⟩ :: ⟨⟨(some 84), .mov (.t 5), (some (74, false))⟩, .quiet, 23, 16383⟩ :: ⟨⟨(some 85), .idxS 8 (.t 83) (.t 84), (some (74, false))⟩, .quiet, 24, 14696447⟩ :: ⟨⟨(some 86), .faddr 0 (.t 85), (some (74, false))⟩, .quiet, 25, 31473663⟩ :: ⟨⟨(some 87), .load true 7 (.t 86), (some (74, false))⟩, .load, 26, 65028095⟩ :: ⟨⟨(some 88), .buildSl 7 1 [(.int .i64 (.ofNat 0)), (.str []), (.str []), .nilsl, (.int .i64 (.ofNat 0)), (.int .u64 (.ofNat 0)), (.int .u64 (.ofNat 0))] [(0, 7, (.t 87))], (some (74, false))⟩, .quiet, 27, 132136959⟩ :: ⟨⟨(some 89), .call 15 [(.t 81), (.t 88)], (some (74, false))⟩, .loud, 28, 268435455⟩ :: ⟨⟨(some 90), .un .not (.t 89), (some (74, false))⟩, .quiet, 29, 536870911⟩ :: ⟨⟨(some 91), .pick (.t 74) (.c (.bool true)) (.t 90), none⟩, .quiet, 30, 1073741823⟩ :: []))
(.cond (.t 91) (.seq (.reg (⟨(some 4), .mov (.c (.bool false)), none⟩ :: []))
.ret) .skip)))
(.reg (⟨(some 59), .mov (.t 5), none⟩ :: ⟨(some 60), .bin .add (.t 59) (.c (.int .i64 (.ofNat 1))), none⟩ :: ⟨(some 5), .mov (.t 60), none⟩ :: [])))))))
(.seq (.seq (.reg (⟨(some 92), .faddr 2 (.t 2), none⟩ :: ⟨(some 93), .faddr 3 (.t 92), none⟩ :: ⟨(some 94), .load false 1 (.t 93), none⟩ :: ⟨(some 95), .faddr 2 (.t 3), none⟩ :: ⟨(some 96), .faddr 3 (.t 95), none⟩ :: ⟨(some 97), .load false 1 (.t 96), none⟩ :: ⟨(some 98), .call 15 [(.t 94), (.t 97)], none⟩ :: ⟨(some 99), .un .not (.t 98), none⟩ :: ⟨(some 100), .mov (.t 99), none⟩ :: ⟨(some 101), .faddr 2 (.t 2), (some (100, false))⟩ :: ⟨(some 102), .faddr 4 (.t 101), (some (100, false))⟩ :: ⟨(some 103), .load false 1 (.t 102), (some (100, false))⟩ :: ⟨(some 104), .faddr 2 (.t 3), (some (100, false))⟩ :: ⟨(some 105), .faddr 4 (.t 104), (some (100, false))⟩ :: ⟨(some 106), .load false 1 (.t 105), (some (100, false))⟩ :: ⟨(some 107), .call 16 [(.t 103), (.t 106)], (some (100, false))⟩ :: ⟨(some 108), .un .not (.t 107), (some (100, false))⟩ :: ⟨(some 109), .pick (.t 100) (.c (.bool true)) (.t 108), none⟩ :: ⟨(some 110), .mov (.t 109), none⟩ :: ⟨(some 111), .faddr 7 (.t 2), (some (110, false))⟩ :: ⟨(some 112), .load false 1 (.t 111), (some (110, false))⟩ :: ⟨(some 113), .faddr 7 (.t 3), (some (110, false))⟩ :: ⟨(some 114), .load false 1 (.t 113), (some (110, false))⟩ :: ⟨(some 115), .call 17 [(.t 112), (.t 114)], (some (110, false))⟩ :: ⟨(some 116), .un .not (.t 115), (some (110, false))⟩ :: ⟨(some 117), .pick (.t 110) (.c (.bool true)) (.t 116), none⟩ :: []))
(.cond (.t 117) (.seq (.reg (⟨(some 4), .mov (.c (.bool false)), none⟩ :: []))
.ret) .skip))
(.seq (.reg (⟨(some 118), .faddr 9 (.t 2), none⟩ :: ⟨(some 119), .load false 1 (.t 118), none⟩ :: ⟨(some 120), .faddr 9 (.t 3), none⟩ :: ⟨(some 121), .load false 1 (.t 120), none⟩ :: ⟨(some 122), .call 18 [(.t 119), (.t 121)], none⟩ :: ⟨(some 123), .mov (.t 122), none⟩ :: ⟨(some 124), .faddr 10 (.t 2), (some (123, true))⟩ :: ⟨(some 125), .load false 1 (.t 124), (some (123, true))⟩ :: ⟨(some 126), .faddr 10 (.t 3), (some (123, true))⟩ :: ⟨(some 127), .load false 1 (.t 126), (some (123, true))⟩ :: ⟨(some 128), .call 19 [(.t 125), (.t 127)], (some (123, true))⟩ :: ⟨(some 129), .pick (.t 123) (.t 128) (.c (.bool false)), none⟩ :: ⟨(some 4), .mov (.t 129), none⟩ :: []))
.ret)))))⟩
theorem c5_eq : compFn Tryz.prog 5 = some c5 := by kernel_rfl
/-- sodality/sodalitylaw28.works -/
noncomputable def c6 : FnI := ⟨46, [.tmp 0],
(.seq (.reg (⟨(some 0), .mov (.c (.bool false)), none⟩ :: []))
(.seq (.reg (⟨(some 4), .call 20 [(.c (.int .i64 (.ofNat 9)))], none⟩ :: ⟨(some 1), .mov (.t 4), none⟩ :: []))
(.seq (.reg (⟨(some 5), .mov (.t 1), none⟩ :: ⟨(some 6), .build [(.int .i64 (.ofNat 0)), (.int .i64 (.ofNat 0)), (.int .i64 (.ofNat 0)), (.int .i64 (.ofNat 0)), (.str []), (.str []), (.str []), (.str []), (.str []), (.str []), (.str []), (.str []), .nilsl, (.bool false), (.int .u64 (.ofNat 0)), (.int .u64 (.ofNat 0)), .nilsl] [(0, 1, (.c (.int .i64 (.ofNat 1)))), (1, 1, (.c (.int .i64 (.ofNat 1))))], none⟩ :: ⟨(some 7), .build [(.int .i64 (.ofNat 0)), (.int .u32 (.ofNat 0)), (.int .i64 (.ofNat 0)), (.int .i64 (.ofNat 0)), (.int .i64 (.ofNat 0)), (.int .i64 (.ofNat 0)), (.str []), (.str []), (.str []), (.str []), (.str []), (.str []), (.str []), (.str []), .nilsl, (.bool false), (.int .u64 (.ofNat 0)), (.int .u64 (.ofNat 0)), .nilsl] [(0, 1, (.c (.int .i64 (.ofNat 1)))), (1, 1, (.c (.int .u32 (.ofNat 1)))), (2, 17, (.t 6))], none⟩ :: ⟨(some 8), .call 21 [(.t 5), (.t 7)], none⟩ :: []))
(.seq (.reg (⟨(some 9), .mov (.t 1), none⟩ :: ⟨(some 10), .build [(.int .i64 (.ofNat 0)), (.int .i64 (.ofNat 0)), (.int .i64 (.ofNat 0)), (.int .i64 (.ofNat 0)), (.str []), (.str []), (.str []), (.str []), (.str []), (.str []), (.str []), (.str []), .nilsl, (.bool false), (.int .u64 (.ofNat 0)), (.int .u64 (.ofNat 0)), .nilsl] [(0, 1, (.c (.int .i64 (.ofNat 3)))), (1, 1, (.c (.int .i64 (.ofNat 1)))), (4, 1, (.c (.str [119, 101, 98, 45, 49]))), (5, 1, (.c (.str [119, 101, 98])))], none⟩ :: ⟨(some 11), .build [(.int .i64 (.ofNat 0)), (.int .u32 (.ofNat 0)), (.int .i64 (.ofNat 0)), (.int .i64 (.ofNat 0)), (.int .i64 (.ofNat 0)), (.int .i64 (.ofNat 0)), (.str []), (.str []), (.str []), (.str []), (.str []), (.str []), (.str []), (.str []), .nilsl, (.bool false), (.int .u64 (.ofNat 0)), (.int .u64 (.ofNat 0)), .nilsl] [(0, 1, (.c (.int .i64 (.ofNat 1)))), (1, 1, (.c (.int .u32 (.ofNat 2)))), (2, 17, (.t 10))], none⟩ :: ⟨(some 12), .call 21 [(.t 9), (.t 11)], none⟩ :: []))
(.seq (.reg (⟨(some 14), .mov (.t 1), none⟩ :: ⟨(some 15), .build [(.int .i64 (.ofNat 0)), (.int .i64 (.ofNat 0)), (.str []), (.str []), (.str []), (.bool false)] [(0, 1, (.c (.int .i64 (.ofNat 1)))), (2, 1, (.c (.str [119, 101, 98])))], none⟩ :: ⟨(some 16), .call 22 [(.t 14), (.t 15)], none⟩ :: ⟨(some 13), .mov (.t 16), none⟩ :: ⟨(some 17), .extract (.t 13) 0, none⟩ :: ⟨(some 18), .extract (.t 13) 1, none⟩ :: ⟨(some 2), .alloc [(.int .i64 (.ofNat 0)), (.int .u64 (.ofNat 0)), (.bool false), (.int .i64 (.ofNat 0)), (.str []), .nilsl, .nilsl, .nilsl, .nilsl, .nilsl, .nilsl], none⟩ :: ⟨none, .store 11 (.t 2) (.t 17), none⟩ :: ⟨(some 3), .mov (.t 18), none⟩ :: []))
(.seq (.reg (⟨(some 19), .mov (.t 3), none⟩ :: ⟨(some 20), .bin .eql (.t 19) (.c (.int .i64 (.ofNat 0))), none⟩ :: ⟨(some 21), .mov (.t 20), none⟩ :: ⟨(some 22), .faddr 0 (.t 2), (some (21, true))⟩ :: ⟨(some 23), .load false 1 (.t 22), (some (21, true))⟩ :: ⟨(some 24), .bin .eql (.t 23) (.c (.int .i64 (.ofNat 1))), (some (21, true))⟩ :: ⟨(some 25), .pick (.t 21) (.t 24) (.c (.bool false)), none⟩ :: ⟨(some 26), .mov (.t 25), none⟩ :: ⟨(some 27), .faddr 1 (.t 2), (some (26, true))⟩ :: ⟨(some 28), .load false 1 (.t 27), (some (26, true))⟩ :: ⟨(some 29), .bin .eql (.t 28) (.c (.int .u64 (.ofNat 2))), (some (26, true))⟩ :: ⟨(some 30), .pick (.t 26) (.t 29) (.c (.bool false)), none⟩ :: ⟨(some 31), .mov (.t 30), none⟩ :: ⟨(some 32), .faddr 8 (.t 2), (some (31, true))⟩ :: ⟨(some 33), .load false 1 (.t 32), (some (31, true))⟩ :: ⟨(some 34), .len false (.t 33), (some (31, true))⟩ :: ⟨(some 35), .bin .eql (.t 34) (.c (.int .i64 (.ofNat 1))), (some (31, true))⟩ :: ⟨(some 36), .pick (.t 31) (.t 35) (.c (.bool false)), none⟩ :: ⟨(some 37), .mov (.t 36), none⟩ :: ⟨(some 38), .faddr 8 (.t 2), (some (37, true))⟩ :: ⟨(some 39), .load false 1 (.t 38), (some (37, true))⟩ :: ⟨(some 40), .idxS 8 (.t 39) (.c (.int .i64 (.ofNat 0))), (some (37, true))⟩ :: ⟨(some 41), .faddr 0 (.t 40), (some (37, true))⟩ :: ⟨(some 42), .faddr 1 (.t 41), (some (37, true))⟩ :: ⟨(some 43), .load false 1 (.t 42), (some (37, true))⟩ :: ⟨(some 44), .bin .eql (.t 43) (.c (.str [119, 101, 98, 45, 49])), (some (37, true))⟩ :: ⟨(some 45), .pick (.t 37) (.t 44) (.c (.bool false)), none⟩ :: ⟨(some 0), .mov (.t 45), none⟩ :: []))
.ret))))))⟩
theorem c6_eq : compFn Tryz.prog 6 = some c6 := by kernel_rfl
/-- sodality/query.Same$1 -/
noncomputable def c7 : FnI := ⟨17, [.tmp 4],
(.seq (.reg (⟨(some 2), .box (.t 0), none⟩ :: ⟨(some 3), .box (.t 1), none⟩ :: ⟨(some 4), .mov (.c (.bool false)), none⟩ :: []))
(.seq (.reg (⟨(some 5), .faddr 7 (.t 2), none⟩ :: ⟨(some 6), .load false 1 (.t 5), none⟩ :: ⟨(some 7), .faddr 7 (.t 3), none⟩ :: ⟨(some 8), .load false 1 (.t 7), none⟩ :: ⟨(some 9), .bin .eql (.t 6) (.t 8), none⟩ :: ⟨(some 10), .mov (.t 9), none⟩ :: ⟨(some 11), .faddr 0 (.t 2), (some (10, true))⟩ :: ⟨(some 12), .load true 7 (.t 11), (some (10, true))⟩ :: ⟨(some 13), .faddr 0 (.t 3), (some (10, true))⟩ :: ⟨(some 14), .load true 7 (.t 13), (some (10, true))⟩ :: ⟨(some 15), .call 8 [(.t 12), (.t 14)], (some (10, true))⟩ :: ⟨(some 16), .pick (.t 10) (.t 15) (.c (.bool false)), none⟩ :: ⟨(some 4), .mov (.t 16), none⟩ :: []))
.ret))⟩
theorem c7_eq : compFn Tryz.prog 7 = some c7 := by kernel_rfl
/-- sodality/query.sameService -/
noncomputable def c8 : FnI := ⟨52, [.tmp 4],
(.seq (.reg (⟨(some 2), .box (.t 0), none⟩ :: ⟨(some 3), .box (.t 1), none⟩ :: ⟨(some 4), .mov (.c (.bool false)), none⟩ :: []))
(.seq (.reg (⟨(some 5), .faddr 0 (.t 2), none⟩ :: ⟨(some 6), .load false 1 (.t 5), none⟩ :: ⟨(some 7), .faddr 0 (.t 3), none⟩ :: ⟨(some 8), .load false 1 (.t 7), none⟩ :: ⟨(some 9), .bin .eql (.t 6) (.t 8), none⟩ :: ⟨(some 10), .mov (.t 9), none⟩ :: ⟨(some 11), .faddr 1 (.t 2), (some (10, true))⟩ :: ⟨(some 12), .load false 1 (.t 11), (some (10, true))⟩ :: ⟨(some 13), .faddr 1 (.t 3), (some (10, true))⟩ :: ⟨(some 14), .load false 1 (.t 13), (some (10, true))⟩ :: ⟨(some 15), .bin .eql (.t 12) (.t 14), (some (10, true))⟩ :: ⟨(some 16), .pick (.t 10) (.t 15) (.c (.bool false)), none⟩ :: ⟨(some 17), .mov (.t 16), none⟩ :: ⟨(some 18), .faddr 2 (.t 2), (some (17, true))⟩ :: ⟨(some 19), .load false 1 (.t 18), (some (17, true))⟩ :: ⟨(some 20), .faddr 2 (.t 3), (some (17, true))⟩ :: ⟨(some 21), .load false 1 (.t 20), (some (17, true))⟩ :: ⟨(some 22), .bin .eql (.t 19) (.t 21), (some (17, true))⟩ :: ⟨(some 23), .pick (.t 17) (.t 22) (.c (.bool false)), none⟩ :: ⟨(some 24), .mov (.t 23), none⟩ :: ⟨(some 25), .faddr 3 (.t 2), (some (24, true))⟩ :: ⟨(some 26), .load false 1 (.t 25), (some (24, true))⟩ :: ⟨(some 27), .faddr 3 (.t 3), (some (24, true))⟩ :: ⟨(some 28), .load false 1 (.t 27), (some (24, true))⟩ :: ⟨(some 29), .call 23 [(.t 26), (.t 28)], (some (24, true))⟩ :: ⟨(some 30), .pick (.t 24) (.t 29) (.c (.bool false)), none⟩ :: ⟨(some 31), .mov (.t 30), none⟩ :: ⟨(some 32), .faddr 4 (.t 2), (some (31, true))⟩ :: ⟨(some 33), .load false 1 (.t 32), (some (31, true))⟩ :: ⟨(some 34), .faddr 4 (.t 3), (some (31, true))⟩ :: ⟨(some 35), .load false 1 (.t 34), (some (31, true))⟩ :: ⟨(some 36), .bin .eql (.t 33) (.t 35), (some (31, true))⟩ :: ⟨(some 37), .pick (.t 31) (.t 36) (.c (.bool false)), none⟩ :: ⟨(some 38), .mov (.t 37), none⟩ :: ⟨(some 39), .faddr 5 (.t 2), (some (38, true))⟩ :: ⟨(some 40), .load false 1 (.t 39), (some (38, true))⟩ :: ⟨(some 41), .faddr 5 (.t 3), (some (38, true))⟩ :: ⟨(some 42), .load false 1 (.t 41), (some (38, true))⟩ :: ⟨(some 43), .bin .eql (.t 40) (.t 42), (some (38, true))⟩ :: ⟨(some 44), .pick (.t 38) (.t 43) (.c (.bool false)), none⟩ :: ⟨(some 45), .mov (.t 44), none⟩ :: ⟨(some 46), .faddr 6 (.t 2), (some (45, true))⟩ :: ⟨(some 47), .load false 1 (.t 46), (some (45, true))⟩ :: ⟨(some 48), .faddr 6 (.t 3), (some (45, true))⟩ :: ⟨(some 49), .load false 1 (.t 48), (some (45, true))⟩ :: ⟨(some 50), .bin .eql (.t 47) (.t 49), (some (45, true))⟩ :: ⟨(some 51), .pick (.t 45) (.t 50) (.c (.bool false)), none⟩ :: ⟨(some 4), .mov (.t 51), none⟩ :: []))
.ret))⟩
theorem c8_eq : compFn Tryz.prog 8 = some c8 := by kernel_rfl
/-- slices.EqualFunc[[]sodality/api.Service,[]sodality/api.Service,sodality/api.Service,sodality/api.Service] -/
noncomputable def c9 : FnI := ⟨32, [.tmp 6],
(.seq (.reg (⟨(some 6), .mov (.c (.bool false)), none⟩ :: []))
(.seq (.seq (.reg (⟨(some 10), .mov (.t 0), none⟩ :: ⟨(some 11), .len false (.t 10), none⟩ :: ⟨(some 12), .mov (.t 1), none⟩ :: ⟨(some 13), .len false (.t 12), none⟩ :: ⟨(some 14), .bin .neq (.t 11) (.t 13), none⟩ :: []))
(.cond (.t 14) (.seq (.reg (⟨(some 6), .mov (.c (.bool false)), none⟩ :: []))
.ret) .skip))
(.seq (.seq (.reg (⟨(some 15), .mov (.t 0), none⟩ :: ⟨(some 16), .len false (.t 15), none⟩ :: ⟨(some 17), .mov (.c (.int .i64 (.ofNat 0))), none⟩ :: []))
(.block 0 (.loop (.seq (.reg (⟨(some 18), .bin .lss (.t 17) (.t 16), none⟩ :: []))
(.seq (.cond (.t 18) .skip (.exit 0))
(.seq (.block 1 (.seq (.reg (⟨(some 19), .mov (.t 17), none⟩ :: ⟨(some 20), .idxS 7 (.t 15) (.t 17), none⟩ :: ⟨(some 21), .load true 7 (.t 20), none⟩ :: ⟨(some 8), .alloc [(.int .i64 (.ofNat 0)), (.str []), (.str []), .nilsl, (.int .i64 (.ofNat 0)), (.int .u64 (.ofNat 0)), (.int .u64 (.ofNat 0))], none⟩ :: ⟨(some 7), .mov (.t 19), none⟩ :: ⟨none, .store 7 (.t 8) (.t 21), none⟩ :: []))
(.seq (.reg (⟨(some 22), .mov (.t 1), none⟩ :: ⟨(some 23), .mov (.t 7), none⟩ :: ⟨(some 24), .idxS 7 (.t 22) (.t 23), none⟩ :: ⟨(some 25), .load true 7 (.t 24), none⟩ :: ⟨(some 9), .alloc [(.int .i64 (.ofNat 0)), (.str []), (.str []), .nilsl, (.int .i64 (.ofNat 0)), (.int .u64 (.ofNat 0)), (.int .u64 (.ofNat 0))], none⟩ :: ⟨none, .store 7 (.t 9) (.t 25), none⟩ :: []))
(.seq (.reg (⟨(some 26), .mov (.t 2), none⟩ :: ⟨(some 27), .load true 7 (.t 8), none⟩ :: ⟨(some 28), .load true 7 (.t 9), none⟩ :: ⟨(some 29), .callv (.t 26) [(.t 27), (.t 28)], none⟩ :: ⟨(some 30), .un .not (.t 29), none⟩ :: []))
(.cond (.t 30) (.seq (.reg (⟨(some 6), .mov (.c (.bool false)), none⟩ :: []))
.ret) .skip)))))
(.reg (⟨(some 31), .bin .add (.t 17) (.c (.int .i64 (.ofNat 1))), none⟩ :: ⟨(some 17), .mov (.t 31), none⟩ :: []))))))))
(.seq (.reg (⟨(some 6), .mov (.c (.bool true)), none⟩ :: []))
.ret))))⟩
theorem c9_eq : compFn Tryz.prog 9 = some c9 := by kernel_rfl
/-- slices.Equal[[]sodality/api.Check,sodality/api.Check] -/
noncomputable def c10 : FnI := ⟨26, [.tmp 4],
(.seq (.reg (⟨(some 4), .mov (.c (.bool false)), none⟩ :: []))
(.seq (.seq (.reg (⟨(some 6), .mov (.t 0), none⟩ :: ⟨(some 7), .len false (.t 6), none⟩ :: ⟨(some 8), .mov (.t 1), none⟩ :: ⟨(some 9), .len false (.t 8), none⟩ :: ⟨(some 10), .bin .neq (.t 7) (.t 9), none⟩ :: []))
(.cond (.t 10) (.seq (.reg (⟨(some 4), .mov (.c (.bool false)), none⟩ :: []))
.ret) .skip))
(.seq (.seq (.reg (⟨(some 11), .mov (.t 0), none⟩ :: ⟨(some 12), .len false (.t 11), none⟩ :: ⟨(some 13), .mov (.c (.int .i64 (.ofNat 0))), none⟩ :: []))
(.block 0 (.loop (.seq (.reg (⟨(some 14), .bin .lss (.t 13) (.t 12), none⟩ :: []))
(.seq (.cond (.t 14) .skip (.exit 0))
(.seq (.block 1 (.seq (.reg (⟨(some 15), .mov (.t 13), none⟩ :: ⟨(some 5), .mov (.t 15), none⟩ :: []))
(.seq (.dreg (⟨⟨(some 16), .mov (.t 0), none⟩, .quiet, 0, 0⟩ :: ⟨⟨(some 17), .mov (.t 5), none⟩, .quiet, 1, 0⟩ :: ⟨⟨(some 18), .idxS 7 (.t 16) (.t 17), none⟩, .quiet, 2, 3⟩ :: ⟨⟨(some 19), .load true 7 (.t 18), none⟩, .load, 3, 7⟩ :: ⟨⟨(some 20), .mov (.t 1), none⟩, .quiet, 4, 0⟩ :: ⟨⟨(some 21), .mov (.t 5), none⟩, .quiet, 5, 0⟩ :: ⟨⟨(some 22), .idxS 7 (.t 20) (.t 21), none⟩, .quiet, 6, 48⟩ :: ⟨⟨(some 23), .load true 7 (.t 22), none⟩, .load, 7, 112⟩ :: ⟨⟨(some 24), .eq true (.str0 [(0, 1, false), (1, 1, false), (2, 1, false), (3, 1, false), (4, 1, false), (5, 1, false), (6, 1, false)] [.int, .str, .str, .str, .int, .int, .int]) (.t 19) (.t 23), none⟩, .quiet, 8, 255⟩ :: []))
(.cond (.t 24) (.seq (.reg (⟨(some 4), .mov (.c (.bool false)), none⟩ :: []))
.ret) .skip))))
(.reg (⟨(some 25), .bin .add (.t 13) (.c (.int .i64 (.ofNat 1))), none⟩ :: ⟨(some 13), .mov (.t 25), none⟩ :: []))))))))
(.seq (.reg (⟨(some 4), .mov (.c (.bool true)), none⟩ :: []))
.ret))))⟩
theorem c10_eq : compFn Tryz.prog 10 = some c10 := by kernel_rfl
/-- slices.Equal[[]sodality/api.Node,sodality/api.Node] -/
noncomputable def c11 : FnI := ⟨26, [.tmp 4],
(.seq (.reg (⟨(some 4), .mov (.c (.bool false)), none⟩ :: []))
(.seq (.seq (.reg (⟨(some 6), .mov (.t 0), none⟩ :: ⟨(some 7), .len false (.t 6), none⟩ :: ⟨(some 8), .mov (.t 1), none⟩ :: ⟨(some 9), .len false (.t 8), none⟩ :: ⟨(some 10), .bin .neq (.t 7) (.t 9), none⟩ :: []))
(.cond (.t 10) (.seq (.reg (⟨(some 4), .mov (.c (.bool false)), none⟩ :: []))
.ret) .skip))
(.seq (.seq (.reg (⟨(some 11), .mov (.t 0), none⟩ :: ⟨(some 12), .len false (.t 11), none⟩ :: ⟨(some 13), .mov (.c (.int .i64 (.ofNat 0))), none⟩ :: []))
(.block 0 (.loop (.seq (.reg (⟨(some 14), .bin .lss (.t 13) (.t 12), none⟩ :: []))
(.seq (.cond (.t 14) .skip (.exit 0))
(.seq (.block 1 (.seq (.reg (⟨(some 15), .mov (.t 13), none⟩ :: ⟨(some 5), .mov (.t 15), none⟩ :: []))
(.seq (.dreg (⟨⟨(some 16), .mov (.t 0), none⟩, .quiet, 0, 0⟩ :: ⟨⟨(some 17), .mov (.t 5), none⟩, .quiet, 1, 0⟩ :: ⟨⟨(some 18), .idxS 4 (.t 16) (.t 17), none⟩, .quiet, 2, 3⟩ :: ⟨⟨(some 19), .load true 4 (.t 18), none⟩, .load, 3, 7⟩ :: ⟨⟨(some 20), .mov (.t 1), none⟩, .quiet, 4, 0⟩ :: ⟨⟨(some 21), .mov (.t 5), none⟩, .quiet, 5, 0⟩ :: ⟨⟨(some 22), .idxS 4 (.t 20) (.t 21), none⟩, .quiet, 6, 48⟩ :: ⟨⟨(some 23), .load true 4 (.t 22), none⟩, .load, 7, 112⟩ :: ⟨⟨(some 24), .eq true (.str0 [(0, 1, false), (1, 1, false), (2, 1, false), (3, 1, false)] [.int, .str, .int, .int]) (.t 19) (.t 23), none⟩, .quiet, 8, 255⟩ :: []))
(.cond (.t 24) (.seq (.reg (⟨(some 4), .mov (.c (.bool false)), none⟩ :: []))
.ret) .skip))))
(.reg (⟨(some 25), .bin .add (.t 13) (.c (.int .i64 (.ofNat 1))), none⟩ :: ⟨(some 13), .mov (.t 25), none⟩ :: []))))))))
(.seq (.reg (⟨(some 4), .mov (.c (.bool true)), none⟩ :: []))
.ret))))⟩
theorem c11_eq : compFn Tryz.prog 11 = some c11 := by kernel_rfl
/-- slices.EqualFunc[[]sodality/api.Instance,[]sodality/api.Instance,sodality/api.Instance,sodality/api.Instance] -/
noncomputable def c12 : FnI := ⟨32, [.tmp 6],
(.seq (.reg (⟨(some 6), .mov (.c (.bool false)), none⟩ :: []))
(.seq (.seq (.reg (⟨(some 10), .mov (.t 0), none⟩ :: ⟨(some 11), .len false (.t 10), none⟩ :: ⟨(some 12), .mov (.t 1), none⟩ :: ⟨(some 13), .len false (.t 12), none⟩ :: ⟨(some 14), .bin .neq (.t 11) (.t 13), none⟩ :: []))
(.cond (.t 14) (.seq (.reg (⟨(some 6), .mov (.c (.bool false)), none⟩ :: []))
.ret) .skip))
(.seq (.seq (.reg (⟨(some 15), .mov (.t 0), none⟩ :: ⟨(some 16), .len false (.t 15), none⟩ :: ⟨(some 17), .mov (.c (.int .i64 (.ofNat 0))), none⟩ :: []))
(.block 0 (.loop (.seq (.reg (⟨(some 18), .bin .lss (.t 17) (.t 16), none⟩ :: []))
(.seq (.cond (.t 18) .skip (.exit 0))
(.seq (.block 1 (.seq (.reg (⟨(some 19), .mov (.t 17), none⟩ :: ⟨(some 20), .idxS 8 (.t 15) (.t 17), none⟩ :: ⟨(some 21), .load true 8 (.t 20), none⟩ :: ⟨(some 8), .alloc [(.int .i64 (.ofNat 0)), (.str []), (.str []), .nilsl, (.int .i64 (.ofNat 0)), (.int .u64 (.ofNat 0)), (.int .u64 (.ofNat 0)), (.int .i64 (.ofNat 0))], none⟩ :: ⟨(some 7), .mov (.t 19), none⟩ :: ⟨none, .store 8 (.t 8) (.t 21), none⟩ :: []))
(.seq (.reg (⟨(some 22), .mov (.t 1), none⟩ :: ⟨(some 23), .mov (.t 7), none⟩ :: ⟨(some 24), .idxS 8 (.t 22) (.t 23), none⟩ :: ⟨(some 25), .load true 8 (.t 24), none⟩ :: ⟨(some 9), .alloc [(.int .i64 (.ofNat 0)), (.str []), (.str []), .nilsl, (.int .i64 (.ofNat 0)), (.int .u64 (.ofNat 0)), (.int .u64 (.ofNat 0)), (.int .i64 (.ofNat 0))], none⟩ :: ⟨none, .store 8 (.t 9) (.t 25), none⟩ :: []))
(.seq (.reg (⟨(some 26), .mov (.t 2), none⟩ :: ⟨(some 27), .load true 8 (.t 8), none⟩ :: ⟨(some 28), .load true 8 (.t 9), none⟩ :: ⟨(some 29), .callv (.t 26) [(.t 27), (.t 28)], none⟩ :: ⟨(some 30), .un .not (.t 29), none⟩ :: []))
(.cond (.t 30) (.seq (.reg (⟨(some 6), .mov (.c (.bool false)), none⟩ :: []))
.ret) .skip)))))
(.reg (⟨(some 31), .bin .add (.t 17) (.c (.int .i64 (.ofNat 1))), none⟩ :: ⟨(some 17), .mov (.t 31), none⟩ :: []))))))))
(.seq (.reg (⟨(some 6), .mov (.c (.bool true)), none⟩ :: []))
.ret))))⟩
theorem c12_eq : compFn Tryz.prog 12 = some c12 := by kernel_rfl
/-- slices.Equal[[]sodality/api.Entry,sodality/api.Entry] -/
noncomputable def c13 : FnI := ⟨26, [.tmp 4],
(.seq (.reg (⟨(some 4), .mov (.c (.bool false)), none⟩ :: []))
(.seq (.seq (.reg (⟨(some 6), .mov (.t 0), none⟩ :: ⟨(some 7), .len false (.t 6), none⟩ :: ⟨(some 8), .mov (.t 1), none⟩ :: ⟨(some 9), .len false (.t 8), none⟩ :: ⟨(some 10), .bin .neq (.t 7) (.t 9), none⟩ :: []))
(.cond (.t 10) (.seq (.reg (⟨(some 4), .mov (.c (.bool false)), none⟩ :: []))
.ret) .skip))
(.seq (.seq (.reg (⟨(some 11), .mov (.t 0), none⟩ :: ⟨(some 12), .len false (.t 11), none⟩ :: ⟨(some 13), .mov (.c (.int .i64 (.ofNat 0))), none⟩ :: []))
(.block 0 (.loop (.seq (.reg (⟨(some 14), .bin .lss (.t 13) (.t 12), none⟩ :: []))
(.seq (.cond (.t 14) .skip (.exit 0))
(.seq (.block 1 (.seq (.reg (⟨(some 15), .mov (.t 13), none⟩ :: ⟨(some 5), .mov (.t 15), none⟩ :: []))
(.seq (.dreg (⟨⟨(some 16), .mov (.t 0), none⟩, .quiet, 0, 0⟩ :: ⟨⟨(some 17), .mov (.t 5), none⟩, .quiet, 1, 0⟩ :: ⟨⟨(some 18), .idxS 6 (.t 16) (.t 17), none⟩, .quiet, 2, 3⟩ :: ⟨⟨(some 19), .load true 6 (.t 18), none⟩, .load, 3, 7⟩ :: ⟨⟨(some 20), .mov (.t 1), none⟩, .quiet, 4, 0⟩ :: ⟨⟨(some 21), .mov (.t 5), none⟩, .quiet, 5, 0⟩ :: ⟨⟨(some 22), .idxS 6 (.t 20) (.t 21), none⟩, .quiet, 6, 48⟩ :: ⟨⟨(some 23), .load true 6 (.t 22), none⟩, .load, 7, 112⟩ :: ⟨⟨(some 24), .eq true (.str0 [(0, 1, false), (1, 1, false), (2, 1, false), (3, 1, false), (4, 1, false), (5, 1, false)] [.str, .str, .int, .int, .int, .int]) (.t 19) (.t 23), none⟩, .quiet, 8, 255⟩ :: []))
(.cond (.t 24) (.seq (.reg (⟨(some 4), .mov (.c (.bool false)), none⟩ :: []))
.ret) .skip))))
(.reg (⟨(some 25), .bin .add (.t 13) (.c (.int .i64 (.ofNat 1))), none⟩ :: ⟨(some 13), .mov (.t 25), none⟩ :: []))))))))
(.seq (.reg (⟨(some 4), .mov (.c (.bool true)), none⟩ :: []))
.ret))))⟩
theorem c13_eq : compFn Tryz.prog 13 = some c13 := by kernel_rfl
/-- slices.Equal[[]sodality/api.Intention,sodality/api.Intention] -/
noncomputable def c14 : FnI := ⟨26, [.tmp 4],
(.seq (.reg (⟨(some 4), .mov (.c (.bool false)), none⟩ :: []))
(.seq (.seq (.reg (⟨(some 6), .mov (.t 0), none⟩ :: ⟨(some 7), .len false (.t 6), none⟩ :: ⟨(some 8), .mov (.t 1), none⟩ :: ⟨(some 9), .len false (.t 8), none⟩ :: ⟨(some 10), .bin .neq (.t 7) (.t 9), none⟩ :: []))
(.cond (.t 10) (.seq (.reg (⟨(some 4), .mov (.c (.bool false)), none⟩ :: []))
.ret) .skip))
(.seq (.seq (.reg (⟨(some 11), .mov (.t 0), none⟩ :: ⟨(some 12), .len false (.t 11), none⟩ :: ⟨(some 13), .mov (.c (.int .i64 (.ofNat 0))), none⟩ :: []))
(.block 0 (.loop (.seq (.reg (⟨(some 14), .bin .lss (.t 13) (.t 12), none⟩ :: []))
(.seq (.cond (.t 14) .skip (.exit 0))
(.seq (.block 1 (.seq (.reg (⟨(some 15), .mov (.t 13), none⟩ :: ⟨(some 5), .mov (.t 15), none⟩ :: []))
(.seq (.dreg (⟨⟨(some 16), .mov (.t 0), none⟩, .quiet, 0, 0⟩ :: ⟨⟨(some 17), .mov (.t 5), none⟩, .quiet, 1, 0⟩ :: ⟨⟨(some 18), .idxS 5 (.t 16) (.t 17), none⟩, .quiet, 2, 3⟩ :: ⟨⟨(some 19), .load true 5 (.t 18), none⟩, .load, 3, 7⟩ :: ⟨⟨(some 20), .mov (.t 1), none⟩, .quiet, 4, 0⟩ :: ⟨⟨(some 21), .mov (.t 5), none⟩, .quiet, 5, 0⟩ :: ⟨⟨(some 22), .idxS 5 (.t 20) (.t 21), none⟩, .quiet, 6, 48⟩ :: ⟨⟨(some 23), .load true 5 (.t 22), none⟩, .load, 7, 112⟩ :: ⟨⟨(some 24), .eq true (.str0 [(0, 1, false), (1, 1, false), (2, 1, false), (3, 1, false), (4, 1, false)] [.str, .str, .bool, .int, .int]) (.t 19) (.t 23), none⟩, .quiet, 8, 255⟩ :: []))
(.cond (.t 24) (.seq (.reg (⟨(some 4), .mov (.c (.bool false)), none⟩ :: []))
.ret) .skip))))
(.reg (⟨(some 25), .bin .add (.t 13) (.c (.int .i64 (.ofNat 1))), none⟩ :: ⟨(some 13), .mov (.t 25), none⟩ :: []))))))))
(.seq (.reg (⟨(some 4), .mov (.c (.bool true)), none⟩ :: []))
.ret))))⟩
theorem c14_eq : compFn Tryz.prog 14 = some c14 := by kernel_rfl
/-- sodality/sodalityref19.SameServices -/
noncomputable def c15 : FnI := ⟨75, [.tmp 4],
(.seq (.reg (⟨(some 4), .mov (.c (.bool false)), none⟩ :: []))
(.seq (.seq (.reg (⟨(some 8), .mov (.t 0), none⟩ :: ⟨(some 9), .len false (.t 8), none⟩ :: ⟨(some 10), .mov (.t 1), none⟩ :: ⟨(some 11), .len false (.t 10), none⟩ :: ⟨(some 12), .bin .neq (.t 9) (.t 11), none⟩ :: []))
(.cond (.t 12) (.seq (.reg (⟨(some 4), .mov (.c (.bool false)), none⟩ :: []))
.ret) .skip))
(.seq (.seq (.reg (⟨(some 5), .mov (.c (.int .i64 (.ofNat 0))), none⟩ :: []))
(.block 0 (.loop (.seq (.seq (.reg (⟨(some 13), .mov (.t 5), none⟩ :: ⟨(some 14), .mov (.t 0), none⟩ :: ⟨(some 15), .len false (.t 14), none⟩ :: ⟨(some 16), .bin .lss (.t 13) (.t 15), none⟩ :: []))
(.cond (.t 16) .skip (.exit 0)))
(.seq (.block 1 (.seq (.dreg (⟨⟨(some 19), .mov (.t 0), none⟩, .quiet, 0, 0⟩ :: ⟨⟨(some 20), .mov (.t 5), none⟩, .quiet, 1, 0⟩ :: ⟨⟨(some 21), .idxS 7 (.t 19) (.t 20), none⟩, .quiet, 2, 3⟩ :: ⟨⟨(some 22), .load true 7 (.t 21), none⟩, .load, 3, 7⟩ :: ⟨⟨(some 6), .alloc [(.int .i64 (.ofNat 0)), (.str []), (.str []), .nilsl, (.int .i64 (.ofNat 0)), (.int .u64 (.ofNat 0)), (.int .u64 (.ofNat 0))], none⟩, .quiet, 8, 0⟩ :: ⟨⟨(some 7), .alloc [(.int .i64 (.ofNat 0)), (.str []), (.str []), .nilsl, (.int .i64 (.ofNat 0)), (.int .u64 (.ofNat 0)), (.int .u64 (.ofNat 0))], none⟩, .quiet, 9, 0⟩ :: ⟨⟨none, .store 7 (.t 6) (.t 22), none⟩, .loud, 10, 783⟩ :: ⟨⟨(some 23), .mov (.t 1), none⟩, .quiet, 4, 0⟩ :: ⟨⟨(some 24), .mov (.t 5), none⟩, .quiet, 5, 0⟩ :: ⟨⟨(some 25), .idxS 7 (.t 23) (.t 24), none⟩, .quiet, 6, 48⟩ :: ⟨⟨(some 26), .load true 7 (.t 25), none⟩, .load, 7, 112⟩ :: ⟨⟨none, .store 7 (.t 7) (.t 26), none⟩, .loud, 11, 2047⟩ :: []))
(.seq (.reg (⟨(some 27), .faddr 0 (.t 6), none⟩ :: ⟨(some 28), .load false 1 (.t 27), none⟩ :: ⟨(some 29), .faddr 0 (.t 7), none⟩ :: ⟨(some 30), .load false 1 (.t 29), none⟩ :: ⟨(some 31), .bin .neq (.t 28) (.t 30), none⟩ :: ⟨(some 32), .mov (.t 31), none⟩ :: ⟨(some 33), .faddr 1 (.t 6), (some (32, false))⟩ :: ⟨(some 34), .load false 1 (.t 33), (some (32, false))⟩ :: ⟨(some 35), .faddr 1 (.t 7), (some (32, false))⟩ :: ⟨(some 36), .load false 1 (.t 35), (some (32, false))⟩ :: ⟨(some 37), .bin .neq (.t 34) (.t 36), (some (32, false))⟩ :: ⟨(some 38), .pick (.t 32) (.c (.bool true)) (.t 37), none⟩ :: ⟨(some 39), .mov (.t 38), none⟩ :: ⟨(some 40), .faddr 2 (.t 6), (some (39, false))⟩ :: ⟨(some 41), .load false 1 (.t 40), (some (39, false))⟩ :: ⟨(some 42), .faddr 2 (.t 7), (some (39, false))⟩ :: ⟨(some 43), .load false 1 (.t 42), (some (39, false))⟩ :: ⟨(some 44), .bin .neq (.t 41) (.t 43), (some (39, false))⟩ :: ⟨(some 45), .pick (.t 39) (.c (.bool true)) (.t 44), none⟩ :: ⟨(some 46), .mov (.t 45), none⟩ :: ⟨(some 47), .faddr 3 (.t 6), (some (46, false))⟩ :: ⟨(some 48), .load false 1 (.t 47), (some (46, false))⟩ :: ⟨(some 49), .faddr 3 (.t 7), (some (46, false))⟩ :: ⟨(some 50), .load false 1 (.t 49), (some (46, false))⟩ :: ⟨(some 51), .call 24 [(.t 48), (.t 50)], (some (46, false))⟩ :: ⟨(some 52), .un .not (.t 51), (some (46, false))⟩ :: ⟨(some 53), .pick (.t 46) (.c (.bool true)) (.t 52), none⟩ :: ⟨(some 54), .mov (.t 53), none⟩ :: ⟨(some 55), .faddr 4 (.t 6), (some (54, false))⟩ :: ⟨(some 56), .load false 1 (.t 55), (some (54, false))⟩ :: ⟨(some 57), .faddr 4 (.t 7), (some (54, false))⟩ :: ⟨(some 58), .load false 1 (.t 57), (some (54, false))⟩ :: ⟨(some 59), .bin .neq (.t 56) (.t 58), (some (54, false))⟩ :: ⟨(some 60), .pick (.t 54) (.c (.bool true)) (.t 59), none⟩ :: ⟨(some 61), .mov (.t 60), none⟩ :: ⟨(some 62), .faddr 5 (.t 6), (some (61, false))⟩ :: ⟨(some 63), .load false 1 (.t 62), (some (61, false))⟩ :: ⟨(some 64), .faddr 5 (.t 7), (some (61, false))⟩ :: ⟨(some 65), .load false 1 (.t 64), (some (61, false))⟩ :: ⟨(some 66), .bin .neq (.t 63) (.t 65), (some (61, false))⟩ :: ⟨(some 67), .pick (.t 61) (.c (.bool true)) (.t 66), none⟩ :: ⟨(some 68), .mov (.t 67), none⟩ :: ⟨(some 69), .faddr 6 (.t 6), (some (68, false))⟩ :: ⟨(some 70), .load false 1 (.t 69), (some (68, false))⟩ :: ⟨(some 71), .faddr 6 (.t 7), (some (68, false))⟩ :: ⟨(some 72), .load false 1 (.t 71), (some (68, false))⟩ :: ⟨(some 73), .bin .neq (.t 70) (.t 72), (some (68, false))⟩ :: ⟨(some 74), .pick (.t 68) (.c (.bool true)) (.t 73), none⟩ :: []))
(.cond (.t 74) (.seq (.reg (⟨(some 4), .mov (.c (.bool false)), none⟩ :: []))
.ret) .skip))))
(.reg (⟨(some 17), .mov (.t 5), none⟩ :: ⟨(some 18), .bin .add (.t 17) (.c (.int .i64 (.ofNat 1))), none⟩ :: ⟨(some 5), .mov (.t 18), none⟩ :: [])))))))
(.seq (.reg (⟨(some 4), .mov (.c (.bool true)), none⟩ :: []))
.ret))))⟩
theorem c15_eq : compFn Tryz.prog 15 = some c15 := by kernel_rfl
/-- sodality/sodalityref19.SameChecks -/
noncomputable def c16 : FnI := ⟨26, [.tmp 4],
(.seq (.reg (⟨(some 4), .mov (.c (.bool false)), none⟩ :: []))
(.seq (.seq (.reg (⟨(some 6), .mov (.t 0), none⟩ :: ⟨(some 7), .len false (.t 6), none⟩ :: ⟨(some 8), .mov (.t 1), none⟩ :: ⟨(some 9), .len false (.t 8), none⟩ :: ⟨(some 10), .bin .neq (.t 7) (.t 9), none⟩ :: []))
(.cond (.t 10) (.seq (.reg (⟨(some 4), .mov (.c (.bool false)), none⟩ :: []))
.ret) .skip))
(.seq (.seq (.reg (⟨(some 5), .mov (.c (.int .i64 (.ofNat 0))), none⟩ :: []))
(.block 0 (.loop (.seq (.seq (.reg (⟨(some 11), .mov (.t 5), none⟩ :: ⟨(some 12), .mov (.t 0), none⟩ :: ⟨(some 13), .len false (.t 12), none⟩ :: ⟨(some 14), .bin .lss (.t 11) (.t 13), none⟩ :: []))
(.cond (.t 14) .skip (.exit 0)))
(.seq (.block 1 (.seq (.dreg (⟨⟨(some 17), .mov (.t 0), none⟩, .quiet, 0, 0⟩ :: ⟨⟨(some 18), .mov (.t 5), none⟩, .quiet, 1, 0⟩ :: ⟨⟨(some 19), .idxS 7 (.t 17) (.t 18), none⟩, .quiet, 2, 3⟩ :: ⟨⟨(some 20), .load true 7 (.t 19), none⟩, .load, 3, 7⟩ :: ⟨⟨(some 21), .mov (.t 1), none⟩, .quiet, 4, 0⟩ :: ⟨⟨(some 22), .mov (.t 5), none⟩, .quiet, 5, 0⟩ :: ⟨⟨(some 23), .idxS 7 (.t 21) (.t 22), none⟩, .quiet, 6, 48⟩ :: ⟨⟨(some 24), .load true 7 (.t 23), none⟩, .load, 7, 112⟩ :: ⟨⟨(some 25), .eq true (.str0 [(0, 1, false), (1, 1, false), (2, 1, false), (3, 1, false), (4, 1, false), (5, 1, false), (6, 1, false)] [.int, .str, .str, .str, .int, .int, .int]) (.t 20) (.t 24), none⟩, .quiet, 8, 255⟩ :: []))
(.cond (.t 25) (.seq (.reg (⟨(some 4), .mov (.c (.bool false)), none⟩ :: []))
.ret) .skip)))
(.reg (⟨(some 15), .mov (.t 5), none⟩ :: ⟨(some 16), .bin .add (.t 15) (.c (.int .i64 (.ofNat 1))), none⟩ :: ⟨(some 5), .mov (.t 16), none⟩ :: [])))))))
(.seq (.reg (⟨(some 4), .mov (.c (.bool true)), none⟩ :: []))
.ret))))⟩
theorem c16_eq : compFn Tryz.prog 16 = some c16 := by kernel_rfl
/-- sodality/sodalityref19.SameNodes -/
noncomputable def c17 : FnI := ⟨26, [.tmp 4],
(.seq (.reg (⟨(some 4), .mov (.c (.bool false)), none⟩ :: []))
(.seq (.seq (.reg (⟨(some 6), .mov (.t 0), none⟩ :: ⟨(some 7), .len false (.t 6), none⟩ :: ⟨(some 8), .mov (.t 1), none⟩ :: ⟨(some 9), .len false (.t 8), none⟩ :: ⟨(some 10), .bin .neq (.t 7) (.t 9), none⟩ :: []))
(.cond (.t 10) (.seq (.reg (⟨(some 4), .mov (.c (.bool false)), none⟩ :: []))
.ret) .skip))
(.seq (.seq (.reg (⟨(some 5), .mov (.c (.int .i64 (.ofNat 0))), none⟩ :: []))
(.block 0 (.loop (.seq (.seq (.reg (⟨(some 11), .mov (.t 5), none⟩ :: ⟨(some 12), .mov (.t 0), none⟩ :: ⟨(some 13), .len false (.t 12), none⟩ :: ⟨(some 14), .bin .lss (.t 11) (.t 13), none⟩ :: []))
(.cond (.t 14) .skip (.exit 0)))
(.seq (.block 1 (.seq (.dreg (⟨⟨(some 17), .mov (.t 0), none⟩, .quiet, 0, 0⟩ :: ⟨⟨(some 18), .mov (.t 5), none⟩, .quiet, 1, 0⟩ :: ⟨⟨(some 19), .idxS 4 (.t 17) (.t 18), none⟩, .quiet, 2, 3⟩ :: ⟨⟨(some 20), .load true 4 (.t 19), none⟩, .load, 3, 7⟩ :: ⟨⟨(some 21), .mov (.t 1), none⟩, .quiet, 4, 0⟩ :: ⟨⟨(some 22), .mov (.t 5), none⟩, .quiet, 5, 0⟩ :: ⟨⟨(some 23), .idxS 4 (.t 21) (.t 22), none⟩, .quiet, 6, 48⟩ :: ⟨⟨(some 24), .load true 4 (.t 23), none⟩, .load, 7, 112⟩ :: ⟨⟨(some 25), .eq true (.str0 [(0, 1, false), (1, 1, false), (2, 1, false), (3, 1, false)] [.int, .str, .int, .int]) (.t 20) (.t 24), none⟩, .quiet, 8, 255⟩ :: []))
(.cond (.t 25) (.seq (.reg (⟨(some 4), .mov (.c (.bool false)), none⟩ :: []))
.ret) .skip)))
(.reg (⟨(some 15), .mov (.t 5), none⟩ :: ⟨(some 16), .bin .add (.t 15) (.c (.int .i64 (.ofNat 1))), none⟩ :: ⟨(some 5), .mov (.t 16), none⟩ :: [])))))))
(.seq (.reg (⟨(some 4), .mov (.c (.bool true)), none⟩ :: []))
.ret))))⟩
theorem c17_eq : compFn Tryz.prog 17 = some c17 := by kernel_rfl
/-- sodality/sodalityref16.Same -/
noncomputable def c18 : FnI := ⟨26, [.tmp 4],
(.seq (.reg (⟨(some 4), .mov (.c (.bool false)), none⟩ :: []))
(.seq (.seq (.reg (⟨(some 6), .mov (.t 0), none⟩ :: ⟨(some 7), .len false (.t 6), none⟩ :: ⟨(some 8), .mov (.t 1), none⟩ :: ⟨(some 9), .len false (.t 8), none⟩ :: ⟨(some 10), .bin .neq (.t 7) (.t 9), none⟩ :: []))
(.cond (.t 10) (.seq (.reg (⟨(some 4), .mov (.c (.bool false)), none⟩ :: []))
.ret) .skip))
(.seq (.seq (.reg (⟨(some 5), .mov (.c (.int .i64 (.ofNat 0))), none⟩ :: []))
(.block 0 (.loop (.seq (.seq (.reg (⟨(some 11), .mov (.t 5), none⟩ :: ⟨(some 12), .mov (.t 0), none⟩ :: ⟨(some 13), .len false (.t 12), none⟩ :: ⟨(some 14), .bin .lss (.t 11) (.t 13), none⟩ :: []))
(.cond (.t 14) .skip (.exit 0)))
(.seq (.block 1 (.seq (.dreg (⟨⟨(some 17), .mov (.t 0), none⟩, .quiet, 0, 0⟩ :: ⟨⟨(some 18), .mov (.t 5), none⟩, .quiet, 1, 0⟩ :: ⟨⟨(some 19), .idxS 6 (.t 17) (.t 18), none⟩, .quiet, 2, 3⟩ :: ⟨⟨(some 20), .load true 6 (.t 19), none⟩, .load, 3, 7⟩ :: ⟨⟨(some 21), .mov (.t 1), none⟩, .quiet, 4, 0⟩ :: ⟨⟨(some 22), .mov (.t 5), none⟩, .quiet, 5, 0⟩ :: ⟨⟨(some 23), .idxS 6 (.t 21) (.t 22), none⟩, .quiet, 6, 48⟩ :: ⟨⟨(some 24), .load true 6 (.t 23), none⟩, .load, 7, 112⟩ :: ⟨⟨(some 25), .eq true (.str0 [(0, 1, false), (1, 1, false), (2, 1, false), (3, 1, false), (4, 1, false), (5, 1, false)] [.str, .str, .int, .int, .int, .int]) (.t 20) (.t 24), none⟩, .quiet, 8, 255⟩ :: []))
(.cond (.t 25) (.seq (.reg (⟨(some 4), .mov (.c (.bool false)), none⟩ :: []))
.ret) .skip)))
(.reg (⟨(some 15), .mov (.t 5), none⟩ :: ⟨(some 16), .bin .add (.t 15) (.c (.int .i64 (.ofNat 1))), none⟩ :: ⟨(some 5), .mov (.t 16), none⟩ :: [])))))))
(.seq (.reg (⟨(some 4), .mov (.c (.bool true)), none⟩ :: []))
.ret))))⟩
theorem c18_eq : compFn Tryz.prog 18 = some c18 := by kernel_rfl
/-- sodality/sodalityref17.Same -/
noncomputable def c19 : FnI := ⟨26, [.tmp 4],
(.seq (.reg (⟨(some 4), .mov (.c (.bool false)), none⟩ :: []))
(.seq (.seq (.reg (⟨(some 6), .mov (.t 0), none⟩ :: ⟨(some 7), .len false (.t 6), none⟩ :: ⟨(some 8), .mov (.t 1), none⟩ :: ⟨(some 9), .len false (.t 8), none⟩ :: ⟨(some 10), .bin .neq (.t 7) (.t 9), none⟩ :: []))
(.cond (.t 10) (.seq (.reg (⟨(some 4), .mov (.c (.bool false)), none⟩ :: []))
.ret) .skip))
(.seq (.seq (.reg (⟨(some 5), .mov (.c (.int .i64 (.ofNat 0))), none⟩ :: []))
(.block 0 (.loop (.seq (.seq (.reg (⟨(some 11), .mov (.t 5), none⟩ :: ⟨(some 12), .mov (.t 0), none⟩ :: ⟨(some 13), .len false (.t 12), none⟩ :: ⟨(some 14), .bin .lss (.t 11) (.t 13), none⟩ :: []))
(.cond (.t 14) .skip (.exit 0)))
(.seq (.block 1 (.seq (.dreg (⟨⟨(some 17), .mov (.t 0), none⟩, .quiet, 0, 0⟩ :: ⟨⟨(some 18), .mov (.t 5), none⟩, .quiet, 1, 0⟩ :: ⟨⟨(some 19), .idxS 5 (.t 17) (.t 18), none⟩, .quiet, 2, 3⟩ :: ⟨⟨(some 20), .load true 5 (.t 19), none⟩, .load, 3, 7⟩ :: ⟨⟨(some 21), .mov (.t 1), none⟩, .quiet, 4, 0⟩ :: ⟨⟨(some 22), .mov (.t 5), none⟩, .quiet, 5, 0⟩ :: ⟨⟨(some 23), .idxS 5 (.t 21) (.t 22), none⟩, .quiet, 6, 48⟩ :: ⟨⟨(some 24), .load true 5 (.t 23), none⟩, .load, 7, 112⟩ :: ⟨⟨(some 25), .eq true (.str0 [(0, 1, false), (1, 1, false), (2, 1, false), (3, 1, false), (4, 1, false)] [.str, .str, .bool, .int, .int]) (.t 20) (.t 24), none⟩, .quiet, 8, 255⟩ :: []))
(.cond (.t 25) (.seq (.reg (⟨(some 4), .mov (.c (.bool false)), none⟩ :: []))
.ret) .skip)))
(.reg (⟨(some 15), .mov (.t 5), none⟩ :: ⟨(some 16), .bin .add (.t 15) (.c (.int .i64 (.ofNat 1))), none⟩ :: ⟨(some 5), .mov (.t 16), none⟩ :: [])))))))
(.seq (.reg (⟨(some 4), .mov (.c (.bool true)), none⟩ :: []))
.ret))))⟩
theorem c19_eq : compFn Tryz.prog 19 = some c19 := by kernel_rfl
/-- sodality/state.New -/
noncomputable def c20 : FnI := ⟨14, [.tmp 2],
(.seq (.reg (⟨(some 2), .mov (.c .nilp), none⟩ :: []))
(.seq (.reg (⟨(some 3), .mov (.t 0), none⟩ :: ⟨(some 4), .call 25 [(.t 3)], none⟩ :: ⟨(some 5), .mov (.t 0), none⟩ :: ⟨(some 6), .call 26 [(.t 5)], none⟩ :: ⟨(some 7), .mov (.t 0), none⟩ :: ⟨(some 8), .call 27 [(.t 7)], none⟩ :: ⟨(some 9), .mov (.t 0), none⟩ :: ⟨(some 10), .call 28 [(.t 9)], none⟩ :: ⟨(some 11), .build [.nilp, .nilp, .nilp, .nilp] [(0, 1, (.t 4)), (1, 1, (.t 6)), (2, 1, (.t 8)), (3, 1, (.t 10))], none⟩ :: ⟨(some 12), .build [.nilp, .nilp, .nilp, .nilp, (.int .u64 (.ofNat 0)), (.bool false), (.int .u32 (.ofNat 0)), (.int .u64 (.ofNat 0)), (.bool false), (.int .u32 (.ofNat 0)), (.int .u64 (.ofNat 0)), (.bool false), (.int .u32 (.ofNat 0)), (.int .u64 (.ofNat 0)), (.bool false), (.int .u32 (.ofNat 0)), (.int .u64 (.ofNat 0)), (.bool false), (.int .u32 (.ofNat 0)), (.int .u64 (.ofNat 0)), (.bool false), (.int .u32 (.ofNat 0)), (.int .u64 (.ofNat 0)), (.bool false), (.int .u32 (.ofNat 0)), (.int .u64 (.ofNat 0)), (.bool false), (.int .u32 (.ofNat 0)), (.int .u64 (.ofNat 0)), (.bool false), (.int .u32 (.ofNat 0)), (.int .u64 (.ofNat 0)), (.bool false), (.int .u32 (.ofNat 0)), (.int .u64 (.ofNat 0)), (.bool false), (.int .u32 (.ofNat 0)), (.int .u64 (.ofNat 0)), (.bool false), (.int .u32 (.ofNat 0)), (.int .u64 (.ofNat 0)), (.bool false), (.int .u32 (.ofNat 0)), (.int .u64 (.ofNat 0)), (.bool false), (.int .u32 (.ofNat 0)), (.int .u64 (.ofNat 0)), (.bool false), (.int .u32 (.ofNat 0)), (.int .u64 (.ofNat 0)), (.bool false), (.int .u32 (.ofNat 0)), (.int .u64 (.ofNat 0))] [(0, 4, (.t 11))], none⟩ :: ⟨(some 13), .box (.t 12), none⟩ :: ⟨(some 2), .mov (.t 13), none⟩ :: []))
.ret))⟩
theorem c20_eq : compFn Tryz.prog 20 = some c20 := by kernel_rfl
/-- (*sodality/state.State).Apply -/
noncomputable def c21 : FnI := ⟨112, [.cell 4 true 3, .tmp 5],
(.seq (.reg (⟨(some 3), .box (.t 1), none⟩ :: ⟨(some 4), .alloc [(.int .i64 (.ofNat 0)), (.int .u64 (.ofNat 0)), (.int .i64 (.ofNat 0))], none⟩ :: ⟨(some 5), .mov (.c (.bool false)), none⟩ :: []))
(.seq (.block 0 (.seq (.reg (⟨(some 11), .mov (.t 0), none⟩ :: ⟨(some 12), .call 29 [(.t 11)], none⟩ :: ⟨(some 10), .mov (.t 12), none⟩ :: []))
(.cond (.t 10) (.seq (.reg (⟨(some 13), .build [(.int .i64 (.ofNat 0)), (.int .u64 (.ofNat 0)), (.int .i64 (.ofNat 0))] [(0, 1, (.c (.int .i64 (.ofNat 1))))], none⟩ :: ⟨none, .store 3 (.t 4) (.t 13), none⟩ :: ⟨(some 5), .mov (.c (.bool false)), none⟩ :: []))
.ret) (.seq (.reg (⟨(some 15), .faddr 2 (.t 3), none⟩ :: ⟨(some 16), .load true 17 (.t 15), none⟩ :: ⟨(some 17), .call 30 [(.t 16)], none⟩ :: ⟨(some 18), .un .not (.t 17), none⟩ :: ⟨(some 19), .mov (.t 18), none⟩ :: ⟨(some 20), .faddr 0 (.t 3), (some (19, false))⟩ :: ⟨(some 21), .load false 1 (.t 20), (some (19, false))⟩ :: ⟨(some 22), .bin .lss (.t 21) (.c (.int .i64 (.ofNat 0))), (some (19, false))⟩ :: ⟨(some 23), .pick (.t 19) (.c (.bool true)) (.t 22), none⟩ :: ⟨(some 24), .mov (.t 23), none⟩ :: ⟨(some 25), .faddr 0 (.t 3), (some (24, false))⟩ :: ⟨(some 26), .load false 1 (.t 25), (some (24, false))⟩ :: ⟨(some 27), .bin .gtr (.t 26) (.c (.int .i64 (.ofNat 15))), (some (24, false))⟩ :: ⟨(some 28), .pick (.t 24) (.c (.bool true)) (.t 27), none⟩ :: ⟨(some 14), .mov (.t 28), none⟩ :: []))
(.cond (.t 14) (.seq (.reg (⟨(some 29), .build [(.int .i64 (.ofNat 0)), (.int .u64 (.ofNat 0)), (.int .i64 (.ofNat 0))] [(0, 1, (.c (.int .i64 (.ofNat 2))))], none⟩ :: ⟨none, .store 3 (.t 4) (.t 29), none⟩ :: ⟨(some 5), .mov (.c (.bool false)), none⟩ :: []))
.ret) .skip)))))
(.seq (.dreg (⟨⟨(some 30), .mov (.t 0), none⟩, .quiet, 0, 0⟩ :: ⟨⟨(some 31), .faddr 0 (.t 3), none⟩, .quiet, 1, 0⟩ :: ⟨⟨(some 32), .load false 1 (.t 31), none⟩, .load, 2, 2⟩ :: ⟨⟨(some 33), .nilchk (.t 30), none⟩, .quiet, 3, 1⟩ :: ⟨⟨(some 34), .faddr 5 (.t 33), none⟩, .quiet, 4, 9⟩ :: ⟨⟨(some 35), .idxA 16 3 (.t 34) (.t 32), none⟩, .quiet, 5, 31⟩ :: ⟨⟨(some 36), .load true 3 (.t 35), none⟩, .load, 6, 63⟩ :: ⟨⟨(some 6), .alloc [(.bool false), (.int .u32 (.ofNat 0)), (.int .u64 (.ofNat 0))], none⟩, .quiet, 7, 0⟩ :: ⟨⟨none, .store 3 (.t 6) (.t 36), none⟩, .loud, 8, 255⟩ :: []))
(.seq (.block 1 (.seq (.reg (⟨(some 38), .faddr 0 (.t 6), none⟩ :: ⟨(some 39), .load false 1 (.t 38), none⟩ :: ⟨(some 40), .mov (.t 39), none⟩ :: ⟨(some 41), .faddr 1 (.t 6), (some (40, true))⟩ :: ⟨(some 42), .load false 1 (.t 41), (some (40, true))⟩ :: ⟨(some 43), .faddr 1 (.t 3), (some (40, true))⟩ :: ⟨(some 44), .load false 1 (.t 43), (some (40, true))⟩ :: ⟨(some 45), .bin .eql (.t 42) (.t 44), (some (40, true))⟩ :: ⟨(some 46), .pick (.t 40) (.t 45) (.c (.bool false)), none⟩ :: ⟨(some 37), .mov (.t 46), none⟩ :: []))
(.cond (.t 37) (.seq (.reg (⟨(some 47), .faddr 2 (.t 6), none⟩ :: ⟨(some 48), .load false 1 (.t 47), none⟩ :: ⟨(some 49), .build [(.int .i64 (.ofNat 0)), (.int .u64 (.ofNat 0)), (.int .i64 (.ofNat 0))] [(1, 1, (.t 48))], none⟩ :: ⟨none, .store 3 (.t 4) (.t 49), none⟩ :: ⟨(some 5), .mov (.c (.bool true)), none⟩ :: []))
.ret) (.seq (.reg (⟨(some 51), .faddr 0 (.t 6), none⟩ :: ⟨(some 52), .load false 1 (.t 51), none⟩ :: ⟨(some 53), .mov (.t 52), none⟩ :: ⟨(some 54), .faddr 1 (.t 6), (some (53, true))⟩ :: ⟨(some 55), .load false 1 (.t 54), (some (53, true))⟩ :: ⟨(some 56), .faddr 1 (.t 3), (some (53, true))⟩ :: ⟨(some 57), .load false 1 (.t 56), (some (53, true))⟩ :: ⟨(some 58), .bin .gtr (.t 55) (.t 57), (some (53, true))⟩ :: ⟨(some 59), .pick (.t 53) (.t 58) (.c (.bool false)), none⟩ :: ⟨(some 50), .mov (.t 59), none⟩ :: []))
(.cond (.t 50) (.seq (.reg (⟨(some 60), .build [(.int .i64 (.ofNat 0)), (.int .u64 (.ofNat 0)), (.int .i64 (.ofNat 0))] [(0, 1, (.c (.int .i64 (.ofNat 23))))], none⟩ :: ⟨none, .store 3 (.t 4) (.t 60), none⟩ :: ⟨(some 5), .mov (.c (.bool false)), none⟩ :: []))
.ret) .skip)))))
(.seq (.reg (⟨(some 61), .mov (.t 0), none⟩ :: ⟨(some 62), .nilchk (.t 61), none⟩ :: ⟨(some 63), .faddr 0 (.t 62), none⟩ :: ⟨(some 64), .load true 4 (.t 63), none⟩ :: ⟨(some 65), .call 31 [(.t 64)], none⟩ :: ⟨(some 7), .alloc [.nilp, .nilp, .nilp, .nilp], none⟩ :: ⟨none, .store 4 (.t 7) (.t 65), none⟩ :: []))
(.seq (.dreg (⟨⟨(some 67), .load true 4 (.t 7), none⟩, .load, 0, 0⟩ :: ⟨⟨(some 68), .faddr 2 (.t 3), none⟩, .quiet, 1, 0⟩ :: ⟨⟨(some 69), .load true 17 (.t 68), none⟩, .load, 2, 2⟩ :: ⟨⟨(some 70), .mov (.t 0), none⟩, .quiet, 3, 0⟩ :: ⟨⟨(some 71), .nilchk (.t 70), none⟩, .quiet, 4, 8⟩ :: ⟨⟨(some 72), .faddr 4 (.t 71), none⟩, .quiet, 5, 24⟩ :: ⟨⟨(some 73), .load false 1 (.t 72), none⟩, .load, 6, 56⟩ :: ⟨⟨(some 74), .bin .add (.t 73) (.c (.int .u64 (.ofNat 1))), none⟩, .quiet, 7, 120⟩ :: ⟨⟨(some 75), .call 32 [(.t 67), (.t 69), (.t 74)], none⟩, .loud, 8, 255⟩ :: ⟨⟨(some 66), .mov (.t 75), none⟩, .quiet, 9, 511⟩ :: ⟨⟨(some 76), .extract (.t 66) 0, none⟩, .quiet, 10, 1023⟩ :: ⟨⟨(some 77), .extract (.t 66) 1, none⟩, .quiet, 11, 1023⟩ :: ⟨⟨(some 8), .mov (.t 76), none⟩, .quiet, 12, 2047⟩ :: ⟨⟨(some 9), .mov (.t 77), none⟩, .quiet, 13, 8191⟩ :: []))
(.seq (.seq (.reg (⟨(some 78), .mov (.t 9), none⟩ :: ⟨(some 79), .bin .neq (.t 78) (.c (.int .i64 (.ofNat 0))), none⟩ :: []))
(.cond (.t 79) (.seq (.reg (⟨(some 80), .mov (.t 9), none⟩ :: ⟨(some 81), .mov (.t 8), none⟩ :: ⟨(some 82), .build [(.int .i64 (.ofNat 0)), (.int .u64 (.ofNat 0)), (.int .i64 (.ofNat 0))] [(0, 1, (.t 80)), (2, 1, (.t 81))], none⟩ :: ⟨none, .store 3 (.t 4) (.t 82), none⟩ :: ⟨(some 5), .mov (.c (.bool false)), none⟩ :: []))
.ret) .skip))
(.seq (.reg (⟨(some 83), .mov (.t 0), none⟩ :: ⟨(some 84), .load true 4 (.t 7), none⟩ :: ⟨(some 85), .nilchk (.t 83), none⟩ :: ⟨(some 86), .faddr 0 (.t 85), none⟩ :: ⟨none, .store 4 (.t 86) (.t 84), none⟩ :: []))
(.seq (.reg (⟨(some 87), .mov (.t 0), none⟩ :: ⟨(some 88), .nilchk (.t 87), none⟩ :: ⟨(some 89), .faddr 4 (.t 88), none⟩ :: ⟨(some 90), .load false 1 (.t 89), none⟩ :: ⟨(some 91), .bin .add (.t 90) (.c (.int .u64 (.ofNat 1))), none⟩ :: ⟨(some 92), .nilchk (.t 87), none⟩ :: ⟨(some 93), .faddr 4 (.t 92), none⟩ :: ⟨none, .store 1 (.t 93) (.t 91), none⟩ :: []))
(.seq (.dreg (⟨⟨(some 94), .mov (.t 0), none⟩, .quiet, 0, 0⟩ :: ⟨⟨(some 95), .faddr 0 (.t 3), none⟩, .quiet, 1, 0⟩ :: ⟨⟨(some 96), .load false 1 (.t 95), none⟩, .load, 2, 2⟩ :: ⟨⟨(some 97), .faddr 1 (.t 3), none⟩, .quiet, 3, 0⟩ :: ⟨⟨(some 98), .load false 1 (.t 97), none⟩, .load, 4, 8⟩ :: ⟨⟨(some 99), .mov (.t 0), none⟩, .quiet, 5, 0⟩ :: ⟨⟨(some 100), .nilchk (.t 99), none⟩, .quiet, 6, 32⟩ :: ⟨⟨(some 101), .faddr 4 (.t 100), none⟩, .quiet, 7, 96⟩ :: ⟨⟨(some 102), .load false 1 (.t 101), none⟩, .load, 8, 224⟩ :: ⟨⟨(some 103), .build [(.bool false), (.int .u32 (.ofNat 0)), (.int .u64 (.ofNat 0))] [(0, 1, (.c (.bool true))), (1, 1, (.t 98)), (2, 1, (.t 102))], none⟩, .quiet, 9, 504⟩ :: ⟨⟨(some 104), .nilchk (.t 94), none⟩, .quiet, 10, 1⟩ :: ⟨⟨(some 105), .faddr 5 (.t 104), none⟩, .quiet, 11, 1025⟩ :: ⟨⟨(some 106), .idxA 16 3 (.t 105) (.t 96), none⟩, .quiet, 12, 4095⟩ :: ⟨⟨none, .store 3 (.t 106) (.t 103), none⟩, .loud, 13, 8191⟩ :: []))
(.seq (.reg (⟨(some 107), .mov (.t 0), none⟩ :: ⟨(some 108), .nilchk (.t 107), none⟩ :: ⟨(some 109), .faddr 4 (.t 108), none⟩ :: ⟨(some 110), .load false 1 (.t 109), none⟩ :: ⟨(some 111), .build [(.int .i64 (.ofNat 0)), (.int .u64 (.ofNat 0)), (.int .i64 (.ofNat 0))] [(1, 1, (.t 110))], none⟩ :: ⟨none, .store 3 (.t 4) (.t 111), none⟩ :: ⟨(some 5), .mov (.c (.bool false)), none⟩ :: []))
.ret)))))))))))⟩
theorem c21_eq : compFn Tryz.prog 21 = some c21 := by kernel_rfl
/-- sodality/query.Run -/
noncomputable def c22 : FnI := ⟨24, [.cell 4 true 11, .tmp 5],
(.seq (.reg (⟨(some 3), .box (.t 1), none⟩ :: ⟨(some 4), .alloc [(.int .i64 (.ofNat 0)), (.int .u64 (.ofNat 0)), (.bool false), (.int .i64 (.ofNat 0)), (.str []), .nilsl, .nilsl, .nilsl, .nilsl, .nilsl, .nilsl], none⟩ :: ⟨(some 5), .mov (.c (.int .i64 (.ofNat 0))), none⟩ :: []))
(.seq (.seq (.reg (⟨(some 7), .mov (.t 0), none⟩ :: ⟨(some 8), .call 33 [(.t 7)], none⟩ :: ⟨(some 9), .eq false .ptr (.t 8) (.c .nilp), none⟩ :: []))
(.cond (.t 9) (.seq (.reg (⟨(some 10), .build [(.int .i64 (.ofNat 0)), (.int .u64 (.ofNat 0)), (.bool false), (.int .i64 (.ofNat 0)), (.str []), .nilsl, .nilsl, .nilsl, .nilsl, .nilsl, .nilsl] [], none⟩ :: ⟨none, .store 11 (.t 4) (.t 10), none⟩ :: ⟨(some 5), .mov (.c (.int .i64 (.ofNat 1))), none⟩ :: []))
.ret) .skip))
(.seq (.seq (.reg (⟨(some 11), .load true 6 (.t 3), none⟩ :: ⟨(some 12), .call 34 [(.t 11)], none⟩ :: ⟨(some 13), .un .not (.t 12), none⟩ :: []))
(.cond (.t 13) (.seq (.reg (⟨(some 14), .build [(.int .i64 (.ofNat 0)), (.int .u64 (.ofNat 0)), (.bool false), (.int .i64 (.ofNat 0)), (.str []), .nilsl, .nilsl, .nilsl, .nilsl, .nilsl, .nilsl] [], none⟩ :: ⟨none, .store 11 (.t 4) (.t 14), none⟩ :: ⟨(some 5), .mov (.c (.int .i64 (.ofNat 2))), none⟩ :: []))
.ret) .skip))
(.seq (.reg (⟨(some 15), .mov (.t 0), none⟩ :: ⟨(some 16), .load true 6 (.t 3), none⟩ :: ⟨(some 17), .build [.nilp, (.int .i64 (.ofNat 0)), (.int .i64 (.ofNat 0)), (.str []), (.str []), (.str []), (.bool false)] [(0, 1, (.t 15)), (1, 6, (.t 16))], none⟩ :: ⟨(some 18), .call 35 [(.t 17)], none⟩ :: ⟨(some 19), .callv (.t 18) [], none⟩ :: ⟨(some 6), .alloc [(.int .i64 (.ofNat 0)), (.int .u64 (.ofNat 0)), (.bool false), (.int .i64 (.ofNat 0)), (.str []), .nilsl, .nilsl, .nilsl, .nilsl, .nilsl, .nilsl], none⟩ :: ⟨none, .store 11 (.t 6) (.t 19), none⟩ :: []))
(.seq (.reg (⟨(some 20), .faddr 0 (.t 3), none⟩ :: ⟨(some 21), .load false 1 (.t 20), none⟩ :: ⟨(some 22), .faddr 0 (.t 6), none⟩ :: ⟨none, .store 1 (.t 22) (.t 21), none⟩ :: []))
(.seq (.reg (⟨(some 23), .load true 11 (.t 6), none⟩ :: ⟨none, .store 11 (.t 4) (.t 23), none⟩ :: ⟨(some 5), .mov (.c (.int .i64 (.ofNat 0))), none⟩ :: []))
.ret))))))⟩
theorem c22_eq : compFn Tryz.prog 22 = some c22 := by kernel_rfl
/-- slices.Equal[[]string,string] -/
noncomputable def c23 : FnI := ⟨26, [.tmp 4],
(.seq (.reg (⟨(some 4), .mov (.c (.bool false)), none⟩ :: []))
(.seq (.seq (.reg (⟨(some 6), .mov (.t 0), none⟩ :: ⟨(some 7), .len false (.t 6), none⟩ :: ⟨(some 8), .mov (.t 1), none⟩ :: ⟨(some 9), .len false (.t 8), none⟩ :: ⟨(some 10), .bin .neq (.t 7) (.t 9), none⟩ :: []))
(.cond (.t 10) (.seq (.reg (⟨(some 4), .mov (.c (.bool false)), none⟩ :: []))
.ret) .skip))
(.seq (.seq (.reg (⟨(some 11), .mov (.t 0), none⟩ :: ⟨(some 12), .len false (.t 11), none⟩ :: ⟨(some 13), .mov (.c (.int .i64 (.ofNat 0))), none⟩ :: []))
(.block 0 (.loop (.seq (.reg (⟨(some 14), .bin .lss (.t 13) (.t 12), none⟩ :: []))
(.seq (.cond (.t 14) .skip (.exit 0))
(.seq (.block 1 (.seq (.reg (⟨(some 15), .mov (.t 13), none⟩ :: ⟨(some 5), .mov (.t 15), none⟩ :: []))
(.seq (.dreg (⟨⟨(some 16), .mov (.t 0), none⟩, .quiet, 0, 0⟩ :: ⟨⟨(some 17), .mov (.t 5), none⟩, .quiet, 1, 0⟩ :: ⟨⟨(some 18), .idxS 1 (.t 16) (.t 17), none⟩, .quiet, 2, 3⟩ :: ⟨⟨(some 19), .load false 1 (.t 18), none⟩, .load, 3, 7⟩ :: ⟨⟨(some 20), .mov (.t 1), none⟩, .quiet, 4, 0⟩ :: ⟨⟨(some 21), .mov (.t 5), none⟩, .quiet, 5, 0⟩ :: ⟨⟨(some 22), .idxS 1 (.t 20) (.t 21), none⟩, .quiet, 6, 48⟩ :: ⟨⟨(some 23), .load false 1 (.t 22), none⟩, .load, 7, 112⟩ :: ⟨⟨(some 24), .bin .neq (.t 19) (.t 23), none⟩, .quiet, 8, 255⟩ :: []))
(.cond (.t 24) (.seq (.reg (⟨(some 4), .mov (.c (.bool false)), none⟩ :: []))
.ret) .skip))))
(.reg (⟨(some 25), .bin .add (.t 13) (.c (.int .i64 (.ofNat 1))), none⟩ :: ⟨(some 13), .mov (.t 25), none⟩ :: []))))))))
(.seq (.reg (⟨(some 4), .mov (.c (.bool true)), none⟩ :: []))
.ret))))⟩
theorem c23_eq : compFn Tryz.prog 23 = some c23 := by kernel_rfl
/-- sodality/sodalityref01.Same -/
noncomputable def c24 : FnI := ⟨26, [.tmp 4],
(.seq (.reg (⟨(some 4), .mov (.c (.bool false)), none⟩ :: []))
(.seq (.seq (.reg (⟨(some 6), .mov (.t 0), none⟩ :: ⟨(some 7), .len false (.t 6), none⟩ :: ⟨(some 8), .mov (.t 1), none⟩ :: ⟨(some 9), .len false (.t 8), none⟩ :: ⟨(some 10), .bin .neq (.t 7) (.t 9), none⟩ :: []))
(.cond (.t 10) (.seq (.reg (⟨(some 4), .mov (.c (.bool false)), none⟩ :: []))
.ret) .skip))
(.seq (.seq (.reg (⟨(some 5), .mov (.c (.int .i64 (.ofNat 0))), none⟩ :: []))
(.block 0 (.loop (.seq (.seq (.reg (⟨(some 11), .mov (.t 5), none⟩ :: ⟨(some 12), .mov (.t 0), none⟩ :: ⟨(some 13), .len false (.t 12), none⟩ :: ⟨(some 14), .bin .lss (.t 11) (.t 13), none⟩ :: []))
(.cond (.t 14) .skip (.exit 0)))
(.seq (.block 1 (.seq (.dreg (⟨⟨(some 17), .mov (.t 0), none⟩, .quiet, 0, 0⟩ :: ⟨⟨(some 18), .mov (.t 5), none⟩, .quiet, 1, 0⟩ :: ⟨⟨(some 19), .idxS 1 (.t 17) (.t 18), none⟩, .quiet, 2, 3⟩ :: ⟨⟨(some 20), .load false 1 (.t 19), none⟩, .load, 3, 7⟩ :: ⟨⟨(some 21), .mov (.t 1), none⟩, .quiet, 4, 0⟩ :: ⟨⟨(some 22), .mov (.t 5), none⟩, .quiet, 5, 0⟩ :: ⟨⟨(some 23), .idxS 1 (.t 21) (.t 22), none⟩, .quiet, 6, 48⟩ :: ⟨⟨(some 24), .load false 1 (.t 23), none⟩, .load, 7, 112⟩ :: ⟨⟨(some 25), .bin .neq (.t 20) (.t 24), none⟩, .quiet, 8, 255⟩ :: []))
(.cond (.t 25) (.seq (.reg (⟨(some 4), .mov (.c (.bool false)), none⟩ :: []))
.ret) .skip)))
(.reg (⟨(some 15), .mov (.t 5), none⟩ :: ⟨(some 16), .bin .add (.t 15) (.c (.int .i64 (.ofNat 1))), none⟩ :: ⟨(some 5), .mov (.t 16), none⟩ :: [])))))))
(.seq (.reg (⟨(some 4), .mov (.c (.bool true)), none⟩ :: []))
.ret))))⟩
theorem c24_eq : compFn Tryz.prog 24 = some c24 := by kernel_rfl
/-- sodality/kv.New -/
noncomputable def c25 : FnI := ⟨7, [.tmp 2],
(.seq (.reg (⟨(some 2), .mov (.c .nilp), none⟩ :: []))
(.seq (.reg (⟨(some 3), .mov (.t 0), none⟩ :: ⟨(some 4), .call 36 [(.t 3)], none⟩ :: ⟨(some 5), .build [.nilp] [(0, 1, (.t 4))], none⟩ :: ⟨(some 6), .box (.t 5), none⟩ :: ⟨(some 2), .mov (.t 6), none⟩ :: []))
.ret))⟩
theorem c25_eq : compFn Tryz.prog 25 = some c25 := by kernel_rfl
/-- sodality/intent.New -/
noncomputable def c26 : FnI := ⟨7, [.tmp 2],
(.seq (.reg (⟨(some 2), .mov (.c .nilp), none⟩ :: []))
(.seq (.reg (⟨(some 3), .mov (.t 0), none⟩ :: ⟨(some 4), .call 37 [(.t 3)], none⟩ :: ⟨(some 5), .build [.nilp] [(0, 1, (.t 4))], none⟩ :: ⟨(some 6), .box (.t 5), none⟩ :: ⟨(some 2), .mov (.t 6), none⟩ :: []))
.ret))⟩
theorem c26_eq : compFn Tryz.prog 26 = some c26 := by kernel_rfl
/-- sodality/roster.New -/
noncomputable def c27 : FnI := ⟨11, [.tmp 2],
(.seq (.reg (⟨(some 2), .mov (.c .nilp), none⟩ :: []))
(.seq (.reg (⟨(some 3), .mov (.t 0), none⟩ :: ⟨(some 4), .call 38 [(.t 3)], none⟩ :: ⟨(some 5), .mov (.t 0), none⟩ :: ⟨(some 6), .call 39 [(.t 5)], none⟩ :: ⟨(some 7), .mov (.t 0), none⟩ :: ⟨(some 8), .call 40 [(.t 7)], none⟩ :: ⟨(some 9), .build [.nilp, .nilp, .nilp] [(0, 1, (.t 4)), (1, 1, (.t 6)), (2, 1, (.t 8))], none⟩ :: ⟨(some 10), .box (.t 9), none⟩ :: ⟨(some 2), .mov (.t 10), none⟩ :: []))
.ret))⟩
theorem c27_eq : compFn Tryz.prog 27 = some c27 := by kernel_rfl
/-- sodality/session.New -/
noncomputable def c28 : FnI := ⟨7, [.tmp 2],
(.seq (.reg (⟨(some 2), .mov (.c .nilp), none⟩ :: []))
(.seq (.reg (⟨(some 3), .mov (.t 0), none⟩ :: ⟨(some 4), .call 41 [(.t 3)], none⟩ :: ⟨(some 5), .build [.nilp] [(0, 1, (.t 4))], none⟩ :: ⟨(some 6), .box (.t 5), none⟩ :: ⟨(some 2), .mov (.t 6), none⟩ :: []))
.ret))⟩
theorem c28_eq : compFn Tryz.prog 28 = some c28 := by kernel_rfl
/-- (*sodality/state.State).none -/
noncomputable def c29 : FnI := ⟨13, [.tmp 2],
(.seq (.reg (⟨(some 2), .mov (.c (.bool false)), none⟩ :: []))
(.seq (.reg (⟨(some 3), .mov (.t 0), none⟩ :: ⟨(some 4), .eq false .ptr (.t 3) (.c .nilp), none⟩ :: ⟨(some 5), .mov (.t 4), none⟩ :: ⟨(some 6), .mov (.t 0), (some (5, false))⟩ :: ⟨(some 7), .nilchk (.t 6), (some (5, false))⟩ :: ⟨(some 8), .faddr 0 (.t 7), (some (5, false))⟩ :: ⟨(some 9), .faddr 0 (.t 8), (some (5, false))⟩ :: ⟨(some 10), .load false 1 (.t 9), (some (5, false))⟩ :: ⟨(some 11), .eq false .ptr (.t 10) (.c .nilp), (some (5, false))⟩ :: ⟨(some 12), .pick (.t 5) (.c (.bool true)) (.t 11), none⟩ :: ⟨(some 2), .mov (.t 12), none⟩ :: []))
.ret))⟩
theorem c29_eq : compFn Tryz.prog 29 = some c29 := by kernel_rfl
/-- sodality/order.Right -/
noncomputable def c30 : FnI := ⟨33, [.tmp 2],
(.seq (.reg (⟨(some 1), .box (.t 0), none⟩ :: ⟨(some 2), .mov (.c (.bool false)), none⟩ :: []))
(.seq (.reg (⟨(some 6), .faddr 0 (.t 1), none⟩ :: ⟨(some 7), .load false 1 (.t 6), none⟩ :: ⟨(some 8), .call 42 [(.t 7)], none⟩ :: ⟨(some 3), .mov (.t 8), none⟩ :: []))
(.seq (.seq (.reg (⟨(some 9), .mov (.t 3), none⟩ :: ⟨(some 10), .bin .eql (.t 9) (.c (.int .i64 (.ofNat 0))), none⟩ :: []))
(.cond (.t 10) (.seq (.reg (⟨(some 2), .mov (.c (.bool false)), none⟩ :: []))
.ret) .skip))
(.seq (.seq (.reg (⟨(some 11), .call 43 [(.t 1)], none⟩ :: ⟨(some 12), .mov (.c (.int .i64 (.ofNat 0))), none⟩ :: []))
(.block 0 (.loop (.seq (.reg (⟨(some 13), .bin .lss (.t 12) (.c (.int .i64 (.ofNat 16))), none⟩ :: []))
(.seq (.cond (.t 13) .skip (.exit 0))
(.seq (.block 1 (.seq (.reg (⟨(some 14), .mov (.t 12), none⟩ :: ⟨(some 15), .idxV 16 4 true (.t 11) (.t 12), none⟩ :: ⟨(some 5), .alloc [.nilfn, .nilfn, .nilfn, .nilfn], none⟩ :: ⟨(some 4), .mov (.t 14), none⟩ :: ⟨none, .store 4 (.t 5) (.t 15), none⟩ :: []))
(.seq (.reg (⟨(some 16), .mov (.t 3), none⟩ :: ⟨(some 17), .mov (.t 4), none⟩ :: ⟨(some 18), .bin .shr (.t 16) (.t 17), none⟩ :: ⟨(some 19), .bin .and (.t 18) (.c (.int .i64 (.ofNat 1))), none⟩ :: ⟨(some 20), .bin .eql (.t 19) (.c (.int .i64 (.ofNat 0))), none⟩ :: ⟨(some 21), .mov (.t 20), none⟩ :: ⟨(some 22), .faddr 2 (.t 5), (some (21, true))⟩ :: ⟨(some 23), .load false 1 (.t 22), (some (21, true))⟩ :: ⟨(some 24), .callv (.t 23) [], (some (21, true))⟩ :: ⟨(some 25), .pick (.t 21) (.t 24) (.c (.bool false)), none⟩ :: ⟨(some 26), .mov (.t 25), none⟩ :: ⟨(some 27), .faddr 3 (.t 5), (some (26, false))⟩ :: ⟨(some 28), .load false 1 (.t 27), (some (26, false))⟩ :: ⟨(some 29), .callv (.t 28) [], (some (26, false))⟩ :: ⟨(some 30), .un .not (.t 29), (some (26, false))⟩ :: ⟨(some 31), .pick (.t 26) (.c (.bool true)) (.t 30), none⟩ :: []))
(.cond (.t 31) (.seq (.reg (⟨(some 2), .mov (.c (.bool false)), none⟩ :: []))
.ret) .skip))))
(.reg (⟨(some 32), .bin .add (.t 12) (.c (.int .i64 (.ofNat 1))), none⟩ :: ⟨(some 12), .mov (.t 32), none⟩ :: []))))))))
(.seq (.reg (⟨(some 2), .mov (.c (.bool true)), none⟩ :: []))
.ret)))))⟩
theorem c30_eq : compFn Tryz.prog 30 = some c30 := by kernel_rfl
/-- (sodality/state.parts).copied -/
noncomputable def c31 : FnI := ⟨16, [.cell 2 true 4],
(.seq (.reg (⟨(some 1), .box (.t 0), none⟩ :: ⟨(some 2), .alloc [.nilp, .nilp, .nilp, .nilp], none⟩ :: []))
(.seq (.dreg (⟨⟨(some 3), .faddr 0 (.t 1), none⟩, .quiet, 0, 0⟩ :: ⟨⟨(some 4), .load false 1 (.t 3), none⟩, .load, 1, 1⟩ :: ⟨⟨(some 5), .call 44 [(.t 4)], none⟩, .loud, 2, 3⟩ :: ⟨⟨(some 6), .faddr 1 (.t 1), none⟩, .quiet, 3, 0⟩ :: ⟨⟨(some 7), .load false 1 (.t 6), none⟩, .load, 4, 8⟩ :: ⟨⟨(some 8), .call 45 [(.t 7)], none⟩, .loud, 5, 31⟩ :: ⟨⟨(some 9), .faddr 2 (.t 1), none⟩, .quiet, 6, 0⟩ :: ⟨⟨(some 10), .load false 1 (.t 9), none⟩, .load, 7, 64⟩ :: ⟨⟨(some 11), .call 46 [(.t 10)], none⟩, .loud, 8, 255⟩ :: ⟨⟨(some 12), .faddr 3 (.t 1), none⟩, .quiet, 9, 0⟩ :: ⟨⟨(some 13), .load false 1 (.t 12), none⟩, .load, 10, 512⟩ :: ⟨⟨(some 14), .call 47 [(.t 13)], none⟩, .loud, 11, 2047⟩ :: ⟨⟨(some 15), .build [.nilp, .nilp, .nilp, .nilp] [(0, 1, (.t 5)), (1, 1, (.t 8)), (2, 1, (.t 11)), (3, 1, (.t 14))], none⟩, .quiet, 12, 4095⟩ :: ⟨⟨none, .store 4 (.t 2) (.t 15), none⟩, .loud, 13, 8191⟩ :: []))
.ret))⟩
theorem c31_eq : compFn Tryz.prog 31 = some c31 := by kernel_rfl
/-- sodality/state.do -/
noncomputable def c32 : FnI := ⟨39, [.tmp 6, .tmp 7],
(.seq (.reg (⟨(some 3), .box (.t 0), none⟩ :: ⟨(some 4), .box (.t 1), none⟩ :: ⟨(some 6), .mov (.c (.int .i64 (.ofNat 0))), none⟩ :: ⟨(some 7), .mov (.c (.int .i64 (.ofNat 0))), none⟩ :: []))
(.seq (.seq (.reg (⟨(some 11), .faddr 0 (.t 4), none⟩ :: ⟨(some 12), .load false 1 (.t 11), none⟩ :: ⟨(some 13), .bin .neq (.t 12) (.c (.int .i64 (.ofNat 18))), none⟩ :: []))
(.cond (.t 13) (.seq (.reg (⟨(some 14), .load true 4 (.t 3), none⟩ :: ⟨(some 15), .load true 17 (.t 4), none⟩ :: ⟨(some 16), .mov (.t 2), none⟩ :: ⟨(some 17), .build [.nilp, .nilp, .nilp, .nilp, (.int .i64 (.ofNat 0)), (.int .i64 (.ofNat 0)), (.int .i64 (.ofNat 0)), (.int .i64 (.ofNat 0)), (.str []), (.str []), (.str []), (.str []), (.str []), (.str []), (.str []), (.str []), .nilsl, (.bool false), (.int .u64 (.ofNat 0)), (.int .u64 (.ofNat 0)), .nilsl, (.int .u64 (.ofNat 0))] [(0, 4, (.t 14)), (4, 17, (.t 15)), (21, 1, (.t 16))], none⟩ :: ⟨(some 18), .call 48 [(.t 17)], none⟩ :: ⟨(some 19), .callv (.t 18) [], none⟩ :: ⟨(some 6), .mov (.c (.int .i64 (.ofNat 0))), none⟩ :: ⟨(some 7), .mov (.t 19), none⟩ :: []))
.ret) .skip))
(.seq (.seq (.reg (⟨(some 20), .faddr 16 (.t 4), none⟩ :: ⟨(some 21), .load false 1 (.t 20), none⟩ :: ⟨(some 22), .len false (.t 21), none⟩ :: ⟨(some 23), .mov (.c (.int .i64 (.ofNat 0))), none⟩ :: []))
(.block 0 (.loop (.seq (.reg (⟨(some 24), .bin .lss (.t 23) (.t 22), none⟩ :: []))
(.seq (.cond (.t 24) .skip (.exit 0))
(.seq (.block 1 (.seq (.reg (⟨(some 25), .mov (.t 23), none⟩ :: ⟨(some 26), .idxS 17 (.t 21) (.t 23), none⟩ :: ⟨(some 27), .load true 17 (.t 26), none⟩ :: ⟨(some 9), .alloc [(.int .i64 (.ofNat 0)), (.int .i64 (.ofNat 0)), (.int .i64 (.ofNat 0)), (.int .i64 (.ofNat 0)), (.str []), (.str []), (.str []), (.str []), (.str []), (.str []), (.str []), (.str []), .nilsl, (.bool false), (.int .u64 (.ofNat 0)), (.int .u64 (.ofNat 0)), .nilsl], none⟩ :: ⟨(some 8), .mov (.t 25), none⟩ :: ⟨none, .store 17 (.t 9) (.t 27), none⟩ :: []))
(.seq (.reg (⟨(some 28), .load true 4 (.t 3), none⟩ :: ⟨(some 29), .load true 17 (.t 9), none⟩ :: ⟨(some 30), .mov (.t 2), none⟩ :: ⟨(some 31), .build [.nilp, .nilp, .nilp, .nilp, (.int .i64 (.ofNat 0)), (.int .i64 (.ofNat 0)), (.int .i64 (.ofNat 0)), (.int .i64 (.ofNat 0)), (.str []), (.str []), (.str []), (.str []), (.str []), (.str []), (.str []), (.str []), .nilsl, (.bool false), (.int .u64 (.ofNat 0)), (.int .u64 (.ofNat 0)), .nilsl, (.int .u64 (.ofNat 0))] [(0, 4, (.t 28)), (4, 17, (.t 29)), (21, 1, (.t 30))], none⟩ :: ⟨(some 32), .call 48 [(.t 31)], none⟩ :: ⟨(some 33), .callv (.t 32) [], none⟩ :: ⟨(some 10), .mov (.t 33), none⟩ :: []))
(.seq (.reg (⟨(some 34), .mov (.t 10), none⟩ :: ⟨(some 35), .bin .neq (.t 34) (.c (.int .i64 (.ofNat 0))), none⟩ :: []))
(.cond (.t 35) (.seq (.reg (⟨(some 36), .mov (.t 8), none⟩ :: ⟨(some 37), .mov (.t 10), none⟩ :: ⟨(some 6), .mov (.t 36), none⟩ :: ⟨(some 7), .mov (.t 37), none⟩ :: []))
.ret) .skip)))))
(.reg (⟨(some 38), .bin .add (.t 23) (.c (.int .i64 (.ofNat 1))), none⟩ :: ⟨(some 23), .mov (.t 38), none⟩ :: []))))))))
(.seq (.reg (⟨(some 6), .mov (.c (.int .i64 (.ofNat 0))), none⟩ :: ⟨(some 7), .mov (.c (.int .i64 (.ofNat 0))), none⟩ :: []))
.ret))))⟩
theorem c32_eq : compFn Tryz.prog 32 = some c32 := by kernel_rfl
/-- (*sodality/state.State).Copy -/
noncomputable def c33 : FnI := ⟨20, [.tmp 2],
(.seq (.reg (⟨(some 2), .mov (.c .nilp), none⟩ :: []))
(.seq (.seq (.reg (⟨(some 3), .mov (.t 0), none⟩ :: ⟨(some 4), .call 29 [(.t 3)], none⟩ :: []))
(.cond (.t 4) (.seq (.reg (⟨(some 2), .mov (.c .nilp), none⟩ :: []))
.ret) .skip))
(.seq (.dreg (⟨⟨(some 5), .mov (.t 0), none⟩, .quiet, 0, 0⟩ :: ⟨⟨(some 6), .nilchk (.t 5), none⟩, .quiet, 1, 1⟩ :: ⟨⟨(some 7), .faddr 0 (.t 6), none⟩, .quiet, 2, 3⟩ :: ⟨⟨(some 8), .load true 4 (.t 7), none⟩, .load, 3, 7⟩ :: ⟨⟨(some 9), .call 31 [(.t 8)], none⟩, .loud, 4, 15⟩ :: ⟨⟨(some 10), .mov (.t 0), none⟩, .quiet, 5, 0⟩ :: ⟨⟨(some 11), .nilchk (.t 10), none⟩, .quiet, 6, 32⟩ :: ⟨⟨(some 12), .faddr 4 (.t 11), none⟩, .quiet, 7, 96⟩ :: ⟨⟨(some 13), .load false 1 (.t 12), none⟩, .load, 8, 224⟩ :: ⟨⟨(some 14), .mov (.t 0), none⟩, .quiet, 9, 0⟩ :: ⟨⟨(some 15), .nilchk (.t 14), none⟩, .quiet, 10, 512⟩ :: ⟨⟨(some 16), .faddr 5 (.t 15), none⟩, .quiet, 11, 1536⟩ :: ⟨⟨(some 17), .load true 48 (.t 16), none⟩, .load, 12, 3584⟩ :: ⟨⟨(some 18), .build [.nilp, .nilp, .nilp, .nilp, (.int .u64 (.ofNat 0)), (.bool false), (.int .u32 (.ofNat 0)), (.int .u64 (.ofNat 0)), (.bool false), (.int .u32 (.ofNat 0)), (.int .u64 (.ofNat 0)), (.bool false), (.int .u32 (.ofNat 0)), (.int .u64 (.ofNat 0)), (.bool false), (.int .u32 (.ofNat 0)), (.int .u64 (.ofNat 0)), (.bool false), (.int .u32 (.ofNat 0)), (.int .u64 (.ofNat 0)), (.bool false), (.int .u32 (.ofNat 0)), (.int .u64 (.ofNat 0)), (.bool false), (.int .u32 (.ofNat 0)), (.int .u64 (.ofNat 0)), (.bool false), (.int .u32 (.ofNat 0)), (.int .u64 (.ofNat 0)), (.bool false), (.int .u32 (.ofNat 0)), (.int .u64 (.ofNat 0)), (.bool false), (.int .u32 (.ofNat 0)), (.int .u64 (.ofNat 0)), (.bool false), (.int .u32 (.ofNat 0)), (.int .u64 (.ofNat 0)), (.bool false), (.int .u32 (.ofNat 0)), (.int .u64 (.ofNat 0)), (.bool false), (.int .u32 (.ofNat 0)), (.int .u64 (.ofNat 0)), (.bool false), (.int .u32 (.ofNat 0)), (.int .u64 (.ofNat 0)), (.bool false), (.int .u32 (.ofNat 0)), (.int .u64 (.ofNat 0)), (.bool false), (.int .u32 (.ofNat 0)), (.int .u64 (.ofNat 0))] [(0, 4, (.t 9)), (4, 1, (.t 13)), (5, 48, (.t 17))], none⟩, .quiet, 13, 8191⟩ :: ⟨⟨(some 19), .box (.t 18), none⟩, .quiet, 14, 16383⟩ :: ⟨⟨(some 2), .mov (.t 19), none⟩, .quiet, 15, 32767⟩ :: []))
.ret)))⟩
theorem c33_eq : compFn Tryz.prog 33 = some c33 := by kernel_rfl
/-- sodality/query.Right -/
noncomputable def c34 : FnI := ⟨75, [.tmp 2],
(.seq (.reg (⟨(some 1), .box (.t 0), none⟩ :: ⟨(some 2), .mov (.c (.bool false)), none⟩ :: []))
(.seq (.seq (.reg (⟨(some 3), .faddr 0 (.t 1), none⟩ :: ⟨(some 4), .load false 1 (.t 3), none⟩ :: []))
(.block 0 (.seq (.reg (⟨(some 6), .bin .eql (.t 4) (.c (.int .i64 (.ofNat 1))), none⟩ :: ⟨(some 5), .mov (.t 6), none⟩ :: []))
(.cond (.t 5) (.seq (.reg (⟨(some 7), .load true 6 (.t 1), none⟩ :: ⟨(some 8), .call 49 [(.t 7), (.c (.bool false)), (.c (.bool true)), (.c (.bool true)), (.c (.bool false)), (.c (.bool true))], none⟩ :: ⟨(some 9), .mov (.t 8), none⟩ :: ⟨(some 10), .faddr 2 (.t 1), (some (9, true))⟩ :: ⟨(some 11), .load false 1 (.t 10), (some (9, true))⟩ :: ⟨(some 12), .call 50 [(.t 11)], (some (9, true))⟩ :: ⟨(some 13), .pick (.t 9) (.t 12) (.c (.bool false)), none⟩ :: ⟨(some 14), .mov (.t 13), none⟩ :: ⟨(some 15), .faddr 3 (.t 1), (some (14, true))⟩ :: ⟨(some 16), .load false 1 (.t 15), (some (14, true))⟩ :: ⟨(some 17), .bin .eql (.t 16) (.c (.str [])), (some (14, true))⟩ :: ⟨(some 18), .mov (.t 17), (some (14, true))⟩ :: ⟨(some 19), .faddr 3 (.t 1), (some (18, false))⟩ :: ⟨(some 20), .load false 1 (.t 19), (some (18, false))⟩ :: ⟨(some 21), .call 50 [(.t 20)], (some (18, false))⟩ :: ⟨(some 22), .pick (.t 18) (.c (.bool true)) (.t 21), (some (14, true))⟩ :: ⟨(some 23), .pick (.t 14) (.t 22) (.c (.bool false)), none⟩ :: ⟨(some 2), .mov (.t 23), none⟩ :: []))
.ret) (.seq (.reg (⟨(some 25), .bin .eql (.t 4) (.c (.int .i64 (.ofNat 2))), none⟩ :: ⟨(some 24), .mov (.t 25), none⟩ :: []))
(.cond (.t 24) (.seq (.reg (⟨(some 26), .load true 6 (.t 1), none⟩ :: ⟨(some 27), .call 49 [(.t 26), (.c (.bool true)), (.c (.bool false)), (.c (.bool false)), (.c (.bool false)), (.c (.bool false))], none⟩ :: ⟨(some 28), .mov (.t 27), none⟩ :: ⟨(some 29), .faddr 1 (.t 1), (some (28, true))⟩ :: ⟨(some 30), .load false 1 (.t 29), (some (28, true))⟩ :: ⟨(some 31), .bin .geq (.t 30) (.c (.int .i64 (.ofNat 0))), (some (28, true))⟩ :: ⟨(some 32), .pick (.t 28) (.t 31) (.c (.bool false)), none⟩ :: ⟨(some 33), .mov (.t 32), none⟩ :: ⟨(some 34), .faddr 1 (.t 1), (some (33, true))⟩ :: ⟨(some 35), .load false 1 (.t 34), (some (33, true))⟩ :: ⟨(some 36), .bin .lss (.t 35) (.c (.int .i64 (.ofNat 8))), (some (33, true))⟩ :: ⟨(some 37), .pick (.t 33) (.t 36) (.c (.bool false)), none⟩ :: ⟨(some 2), .mov (.t 37), none⟩ :: []))
.ret) (.seq (.reg (⟨(some 39), .bin .eql (.t 4) (.c (.int .i64 (.ofNat 3))), none⟩ :: ⟨(some 38), .mov (.t 39), none⟩ :: []))
(.cond (.t 38) (.seq (.reg (⟨(some 40), .load true 6 (.t 1), none⟩ :: ⟨(some 41), .call 49 [(.t 40), (.c (.bool false)), (.c (.bool false)), (.c (.bool false)), (.c (.bool true)), (.c (.bool false))], none⟩ :: ⟨(some 42), .mov (.t 41), none⟩ :: ⟨(some 43), .faddr 4 (.t 1), (some (42, true))⟩ :: ⟨(some 44), .load false 1 (.t 43), (some (42, true))⟩ :: ⟨(some 45), .call 51 [(.t 44)], (some (42, true))⟩ :: ⟨(some 46), .pick (.t 42) (.t 45) (.c (.bool false)), none⟩ :: ⟨(some 2), .mov (.t 46), none⟩ :: []))
.ret) (.seq (.reg (⟨(some 48), .bin .eql (.t 4) (.c (.int .i64 (.ofNat 4))), none⟩ :: ⟨(some 47), .mov (.t 48), none⟩ :: []))
(.cond (.t 47) (.seq (.reg (⟨(some 49), .load true 6 (.t 1), none⟩ :: ⟨(some 50), .call 49 [(.t 49), (.c (.bool false)), (.c (.bool false)), (.c (.bool false)), (.c (.bool true)), (.c (.bool false))], none⟩ :: ⟨(some 51), .mov (.t 50), none⟩ :: ⟨(some 52), .faddr 4 (.t 1), (some (51, true))⟩ :: ⟨(some 53), .load false 1 (.t 52), (some (51, true))⟩ :: ⟨(some 54), .len true (.t 53), (some (51, true))⟩ :: ⟨(some 55), .bin .leq (.t 54) (.c (.int .i64 (.ofNat 32))), (some (51, true))⟩ :: ⟨(some 56), .pick (.t 51) (.t 55) (.c (.bool false)), none⟩ :: ⟨(some 2), .mov (.t 56), none⟩ :: []))
.ret) (.seq (.reg (⟨(some 58), .bin .eql (.t 4) (.c (.int .i64 (.ofNat 5))), none⟩ :: ⟨(some 57), .mov (.t 58), none⟩ :: []))
(.cond (.t 57) (.seq (.reg (⟨(some 59), .load true 6 (.t 1), none⟩ :: ⟨(some 60), .call 49 [(.t 59), (.c (.bool false)), (.c (.bool true)), (.c (.bool false)), (.c (.bool false)), (.c (.bool false))], none⟩ :: ⟨(some 61), .mov (.t 60), none⟩ :: ⟨(some 62), .faddr 2 (.t 1), (some (61, true))⟩ :: ⟨(some 63), .load false 1 (.t 62), (some (61, true))⟩ :: ⟨(some 64), .bin .eql (.t 63) (.c (.str [])), (some (61, true))⟩ :: ⟨(some 65), .mov (.t 64), (some (61, true))⟩ :: ⟨(some 66), .faddr 2 (.t 1), (some (65, false))⟩ :: ⟨(some 67), .load false 1 (.t 66), (some (65, false))⟩ :: ⟨(some 68), .call 50 [(.t 67)], (some (65, false))⟩ :: ⟨(some 69), .pick (.t 65) (.c (.bool true)) (.t 68), (some (61, true))⟩ :: ⟨(some 70), .pick (.t 61) (.t 69) (.c (.bool false)), none⟩ :: ⟨(some 2), .mov (.t 70), none⟩ :: []))
.ret) (.seq (.reg (⟨(some 72), .bin .eql (.t 4) (.c (.int .i64 (.ofNat 6))), none⟩ :: ⟨(some 71), .mov (.t 72), none⟩ :: []))
(.cond (.t 71) (.seq (.reg (⟨(some 73), .load true 6 (.t 1), none⟩ :: ⟨(some 74), .call 49 [(.t 73), (.c (.bool false)), (.c (.bool false)), (.c (.bool false)), (.c (.bool false)), (.c (.bool false))], none⟩ :: ⟨(some 2), .mov (.t 74), none⟩ :: []))
.ret) .skip))))))))))))))
(.seq (.reg (⟨(some 2), .mov (.c (.bool false)), none⟩ :: []))
.ret)))⟩
theorem c34_eq : compFn Tryz.prog 34 = some c34 := by kernel_rfl
/-- (sodality/query.asker).asks -/
noncomputable def c35 : FnI := ⟨28, [.tmp 2],
(.seq (.reg (⟨(some 1), .box (.t 0), none⟩ :: ⟨(some 2), .mov (.c .nilfn), none⟩ :: []))
(.seq (.seq (.reg (⟨(some 3), .faddr 1 (.t 1), none⟩ :: ⟨(some 4), .faddr 0 (.t 3), none⟩ :: ⟨(some 5), .load false 1 (.t 4), none⟩ :: []))
(.block 0 (.seq (.reg (⟨(some 7), .bin .eql (.t 5) (.c (.int .i64 (.ofNat 1))), none⟩ :: ⟨(some 6), .mov (.t 7), none⟩ :: []))
(.cond (.t 6) (.seq (.reg (⟨(some 8), .load true 7 (.t 1), none⟩ :: ⟨(some 9), .mkfn 52 [(.t 8)] [], none⟩ :: ⟨(some 2), .mov (.t 9), none⟩ :: []))
.ret) (.seq (.reg (⟨(some 11), .bin .eql (.t 5) (.c (.int .i64 (.ofNat 2))), none⟩ :: ⟨(some 10), .mov (.t 11), none⟩ :: []))
(.cond (.t 10) (.seq (.reg (⟨(some 12), .load true 7 (.t 1), none⟩ :: ⟨(some 13), .mkfn 53 [(.t 12)] [], none⟩ :: ⟨(some 2), .mov (.t 13), none⟩ :: []))
.ret) (.seq (.reg (⟨(some 15), .bin .eql (.t 5) (.c (.int .i64 (.ofNat 3))), none⟩ :: ⟨(some 14), .mov (.t 15), none⟩ :: []))
(.cond (.t 14) (.seq (.reg (⟨(some 16), .load true 7 (.t 1), none⟩ :: ⟨(some 17), .mkfn 54 [(.t 16)] [], none⟩ :: ⟨(some 2), .mov (.t 17), none⟩ :: []))
.ret) (.seq (.reg (⟨(some 19), .bin .eql (.t 5) (.c (.int .i64 (.ofNat 4))), none⟩ :: ⟨(some 18), .mov (.t 19), none⟩ :: []))
(.cond (.t 18) (.seq (.reg (⟨(some 20), .load true 7 (.t 1), none⟩ :: ⟨(some 21), .mkfn 55 [(.t 20)] [], none⟩ :: ⟨(some 2), .mov (.t 21), none⟩ :: []))
.ret) (.seq (.reg (⟨(some 23), .bin .eql (.t 5) (.c (.int .i64 (.ofNat 5))), none⟩ :: ⟨(some 22), .mov (.t 23), none⟩ :: []))
(.cond (.t 22) (.seq (.reg (⟨(some 24), .load true 7 (.t 1), none⟩ :: ⟨(some 25), .mkfn 56 [(.t 24)] [], none⟩ :: ⟨(some 2), .mov (.t 25), none⟩ :: []))
.ret) .skip))))))))))))
(.seq (.reg (⟨(some 26), .load true 7 (.t 1), none⟩ :: ⟨(some 27), .mkfn 57 [(.t 26)] [], none⟩ :: ⟨(some 2), .mov (.t 27), none⟩ :: []))
.ret)))⟩
theorem c35_eq : compFn Tryz.prog 35 = some c35 := by kernel_rfl
/-- sodality/table.New[sodality/api.Entry] -/
noncomputable def c36 : FnI := ⟨8, [.tmp 2],
(.seq (.reg (⟨(some 2), .mov (.c .nilp), none⟩ :: []))
(.seq (.reg (⟨(some 3), .mov (.t 0), none⟩ :: ⟨(some 4), .mm true (.t 3) [(.c (.int .i64 (.ofNat 1)))], none⟩ :: ⟨(some 5), .mm false (.t 4) [(.c (.int .i64 (.ofNat 64)))], none⟩ :: ⟨(some 6), .build [(.int .i64 (.ofNat 0)), .nilsl, (.int .u64 (.ofNat 0))] [(0, 1, (.t 5))], none⟩ :: ⟨(some 7), .box (.t 6), none⟩ :: ⟨(some 2), .mov (.t 7), none⟩ :: []))
.ret))⟩
theorem c36_eq : compFn Tryz.prog 36 = some c36 := by kernel_rfl
/-- sodality/table.New[sodality/api.Intention] -/
noncomputable def c37 : FnI := ⟨8, [.tmp 2],
(.seq (.reg (⟨(some 2), .mov (.c .nilp), none⟩ :: []))
(.seq (.reg (⟨(some 3), .mov (.t 0), none⟩ :: ⟨(some 4), .mm true (.t 3) [(.c (.int .i64 (.ofNat 1)))], none⟩ :: ⟨(some 5), .mm false (.t 4) [(.c (.int .i64 (.ofNat 64)))], none⟩ :: ⟨(some 6), .build [(.int .i64 (.ofNat 0)), .nilsl, (.int .u64 (.ofNat 0))] [(0, 1, (.t 5))], none⟩ :: ⟨(some 7), .box (.t 6), none⟩ :: ⟨(some 2), .mov (.t 7), none⟩ :: []))
.ret))⟩
theorem c37_eq : compFn Tryz.prog 37 = some c37 := by kernel_rfl
/-- sodality/table.New[sodality/api.Node] -/
noncomputable def c38 : FnI := ⟨8, [.tmp 2],
(.seq (.reg (⟨(some 2), .mov (.c .nilp), none⟩ :: []))
(.seq (.reg (⟨(some 3), .mov (.t 0), none⟩ :: ⟨(some 4), .mm true (.t 3) [(.c (.int .i64 (.ofNat 1)))], none⟩ :: ⟨(some 5), .mm false (.t 4) [(.c (.int .i64 (.ofNat 64)))], none⟩ :: ⟨(some 6), .build [(.int .i64 (.ofNat 0)), .nilsl, (.int .u64 (.ofNat 0))] [(0, 1, (.t 5))], none⟩ :: ⟨(some 7), .box (.t 6), none⟩ :: ⟨(some 2), .mov (.t 7), none⟩ :: []))
.ret))⟩
theorem c38_eq : compFn Tryz.prog 38 = some c38 := by kernel_rfl
/-- sodality/table.New[sodality/api.Service] -/
noncomputable def c39 : FnI := ⟨8, [.tmp 2],
(.seq (.reg (⟨(some 2), .mov (.c .nilp), none⟩ :: []))
(.seq (.reg (⟨(some 3), .mov (.t 0), none⟩ :: ⟨(some 4), .mm true (.t 3) [(.c (.int .i64 (.ofNat 1)))], none⟩ :: ⟨(some 5), .mm false (.t 4) [(.c (.int .i64 (.ofNat 64)))], none⟩ :: ⟨(some 6), .build [(.int .i64 (.ofNat 0)), .nilsl, (.int .u64 (.ofNat 0))] [(0, 1, (.t 5))], none⟩ :: ⟨(some 7), .box (.t 6), none⟩ :: ⟨(some 2), .mov (.t 7), none⟩ :: []))
.ret))⟩
theorem c39_eq : compFn Tryz.prog 39 = some c39 := by kernel_rfl
/-- sodality/table.New[sodality/api.Check] -/
noncomputable def c40 : FnI := ⟨8, [.tmp 2],
(.seq (.reg (⟨(some 2), .mov (.c .nilp), none⟩ :: []))
(.seq (.reg (⟨(some 3), .mov (.t 0), none⟩ :: ⟨(some 4), .mm true (.t 3) [(.c (.int .i64 (.ofNat 1)))], none⟩ :: ⟨(some 5), .mm false (.t 4) [(.c (.int .i64 (.ofNat 64)))], none⟩ :: ⟨(some 6), .build [(.int .i64 (.ofNat 0)), .nilsl, (.int .u64 (.ofNat 0))] [(0, 1, (.t 5))], none⟩ :: ⟨(some 7), .box (.t 6), none⟩ :: ⟨(some 2), .mov (.t 7), none⟩ :: []))
.ret))⟩
theorem c40_eq : compFn Tryz.prog 40 = some c40 := by kernel_rfl
/-- sodality/table.New[sodality/api.Session] -/
noncomputable def c41 : FnI := ⟨8, [.tmp 2],
(.seq (.reg (⟨(some 2), .mov (.c .nilp), none⟩ :: []))
(.seq (.reg (⟨(some 3), .mov (.t 0), none⟩ :: ⟨(some 4), .mm true (.t 3) [(.c (.int .i64 (.ofNat 1)))], none⟩ :: ⟨(some 5), .mm false (.t 4) [(.c (.int .i64 (.ofNat 64)))], none⟩ :: ⟨(some 6), .build [(.int .i64 (.ofNat 0)), .nilsl, (.int .u64 (.ofNat 0))] [(0, 1, (.t 5))], none⟩ :: ⟨(some 7), .box (.t 6), none⟩ :: ⟨(some 2), .mov (.t 7), none⟩ :: []))
.ret))⟩
theorem c41_eq : compFn Tryz.prog 41 = some c41 := by kernel_rfl
/-- sodality/order.fields -/
noncomputable def c42 : FnI := ⟨37, [.tmp 2],
(.seq (.reg (⟨(some 2), .mov (.c (.int .i64 (.ofNat 0))), none⟩ :: []))
(.seq (.seq (.reg (⟨(some 3), .mov (.t 0), none⟩ :: []))
(.block 0 (.seq (.reg (⟨(some 5), .bin .eql (.t 3) (.c (.int .i64 (.ofNat 1))), none⟩ :: ⟨(some 4), .mov (.t 5), none⟩ :: []))
(.cond (.t 4) (.seq (.reg (⟨(some 2), .mov (.c (.int .i64 (.ofNat 65))), none⟩ :: []))
.ret) (.seq (.seq (.reg (⟨(some 7), .bin .eql (.t 3) (.c (.int .i64 (.ofNat 2))), none⟩ :: ⟨(some 6), .mov (.t 7), none⟩ :: []))
(.cond (.t 6) .skip (.reg (⟨(some 8), .bin .eql (.t 3) (.c (.int .i64 (.ofNat 16))), none⟩ :: ⟨(some 6), .mov (.t 8), none⟩ :: []))))
(.cond (.t 6) (.seq (.reg (⟨(some 2), .mov (.c (.int .i64 (.ofNat 1))), none⟩ :: []))
.ret) (.seq (.reg (⟨(some 10), .bin .eql (.t 3) (.c (.int .i64 (.ofNat 3))), none⟩ :: ⟨(some 9), .mov (.t 10), none⟩ :: []))
(.cond (.t 9) (.seq (.reg (⟨(some 2), .mov (.c (.int .i64 (.ofNat 2075))), none⟩ :: []))
.ret) (.seq (.seq (.reg (⟨(some 12), .bin .eql (.t 3) (.c (.int .i64 (.ofNat 4))), none⟩ :: ⟨(some 11), .mov (.t 12), none⟩ :: []))
(.cond (.t 11) .skip (.reg (⟨(some 13), .bin .eql (.t 3) (.c (.int .i64 (.ofNat 6))), none⟩ :: ⟨(some 11), .mov (.t 13), none⟩ :: []))))
(.cond (.t 11) (.seq (.reg (⟨(some 2), .mov (.c (.int .i64 (.ofNat 9))), none⟩ :: []))
.ret) (.seq (.reg (⟨(some 15), .bin .eql (.t 3) (.c (.int .i64 (.ofNat 5))), none⟩ :: ⟨(some 14), .mov (.t 15), none⟩ :: []))
(.cond (.t 14) (.seq (.reg (⟨(some 2), .mov (.c (.int .i64 (.ofNat 109))), none⟩ :: []))
.ret) (.seq (.reg (⟨(some 17), .bin .eql (.t 3) (.c (.int .i64 (.ofNat 7))), none⟩ :: ⟨(some 16), .mov (.t 17), none⟩ :: []))
(.cond (.t 16) (.seq (.reg (⟨(some 2), .mov (.c (.int .i64 (.ofNat 5632))), none⟩ :: []))
.ret) (.seq (.reg (⟨(some 19), .bin .eql (.t 3) (.c (.int .i64 (.ofNat 8))), none⟩ :: ⟨(some 18), .mov (.t 19), none⟩ :: []))
(.cond (.t 18) (.seq (.reg (⟨(some 2), .mov (.c (.int .i64 (.ofNat 13824))), none⟩ :: []))
.ret) (.seq (.reg (⟨(some 21), .bin .eql (.t 3) (.c (.int .i64 (.ofNat 9))), none⟩ :: ⟨(some 20), .mov (.t 21), none⟩ :: []))
(.cond (.t 20) (.seq (.reg (⟨(some 2), .mov (.c (.int .i64 (.ofNat 9728))), none⟩ :: []))
.ret) (.seq (.reg (⟨(some 23), .bin .eql (.t 3) (.c (.int .i64 (.ofNat 10))), none⟩ :: ⟨(some 22), .mov (.t 23), none⟩ :: []))
(.cond (.t 22) (.seq (.reg (⟨(some 2), .mov (.c (.int .i64 (.ofNat 384))), none⟩ :: []))
.ret) (.seq (.reg (⟨(some 25), .bin .eql (.t 3) (.c (.int .i64 (.ofNat 11))), none⟩ :: ⟨(some 24), .mov (.t 25), none⟩ :: []))
(.cond (.t 24) (.seq (.reg (⟨(some 2), .mov (.c (.int .i64 (.ofNat 8576))), none⟩ :: []))
.ret) (.seq (.reg (⟨(some 27), .bin .eql (.t 3) (.c (.int .i64 (.ofNat 12))), none⟩ :: ⟨(some 26), .mov (.t 27), none⟩ :: []))
(.cond (.t 26) (.seq (.reg (⟨(some 2), .mov (.c (.int .i64 (.ofNat 128))), none⟩ :: []))
.ret) (.seq (.reg (⟨(some 29), .bin .eql (.t 3) (.c (.int .i64 (.ofNat 13))), none⟩ :: ⟨(some 28), .mov (.t 29), none⟩ :: []))
(.cond (.t 28) (.seq (.reg (⟨(some 2), .mov (.c (.int .i64 (.ofNat 8320))), none⟩ :: []))
.ret) (.seq (.seq (.reg (⟨(some 31), .bin .eql (.t 3) (.c (.int .i64 (.ofNat 14))), none⟩ :: ⟨(some 30), .mov (.t 31), none⟩ :: []))
(.cond (.t 30) .skip (.reg (⟨(some 32), .bin .eql (.t 3) (.c (.int .i64 (.ofNat 15))), none⟩ :: ⟨(some 30), .mov (.t 32), none⟩ :: []))))
(.cond (.t 30) (.seq (.reg (⟨(some 2), .mov (.c (.int .i64 (.ofNat 16768))), none⟩ :: []))
.ret) (.seq (.reg (⟨(some 34), .bin .eql (.t 3) (.c (.int .i64 (.ofNat 17))), none⟩ :: ⟨(some 33), .mov (.t 34), none⟩ :: []))
(.cond (.t 33) (.seq (.reg (⟨(some 2), .mov (.c (.int .i64 (.ofNat 16384))), none⟩ :: []))
.ret) (.seq (.reg (⟨(some 36), .bin .eql (.t 3) (.c (.int .i64 (.ofNat 18))), none⟩ :: ⟨(some 35), .mov (.t 36), none⟩ :: []))
(.cond (.t 35) (.seq (.reg (⟨(some 2), .mov (.c (.int .i64 (.ofNat 32768))), none⟩ :: []))
.ret) .skip))))))))))))))))))))))))))))))))
(.seq (.reg (⟨(some 2), .mov (.c (.int .i64 (.ofNat 0))), none⟩ :: []))
.ret)))⟩
theorem c42_eq : compFn Tryz.prog 42 = some c42 := by kernel_rfl
/-- sodality/order.all -/
noncomputable def c43 : FnI := ⟨68, [.cell 2 true 64],
(.seq (.reg (⟨(some 2), .alloc [.nilfn, .nilfn, .nilfn, .nilfn, .nilfn, .nilfn, .nilfn, .nilfn, .nilfn, .nilfn, .nilfn, .nilfn, .nilfn, .nilfn, .nilfn, .nilfn, .nilfn, .nilfn, .nilfn, .nilfn, .nilfn, .nilfn, .nilfn, .nilfn, .nilfn, .nilfn, .nilfn, .nilfn, .nilfn, .nilfn, .nilfn, .nilfn, .nilfn, .nilfn, .nilfn, .nilfn, .nilfn, .nilfn, .nilfn, .nilfn, .nilfn, .nilfn, .nilfn, .nilfn, .nilfn, .nilfn, .nilfn, .nilfn, .nilfn, .nilfn, .nilfn, .nilfn, .nilfn, .nilfn, .nilfn, .nilfn, .nilfn, .nilfn, .nilfn, .nilfn, .nilfn, .nilfn, .nilfn, .nilfn], none⟩ :: []))
(.seq (.dreg (⟨⟨(some 3), .mov (.t 0), none⟩, .quiet, 0, 0⟩ :: ⟨⟨(some 4), .nilchk (.t 3), none⟩, .quiet, 1, 1⟩ :: ⟨⟨(some 5), .faddr 1 (.t 4), none⟩, .quiet, 2, 3⟩ :: ⟨⟨(some 6), .call 58 [(.t 5)], none⟩, .loud, 3, 7⟩ :: ⟨⟨(some 7), .mov (.t 0), none⟩, .quiet, 4, 0⟩ :: ⟨⟨(some 8), .nilchk (.t 7), none⟩, .quiet, 5, 16⟩ :: ⟨⟨(some 9), .faddr 2 (.t 8), none⟩, .quiet, 6, 48⟩ :: ⟨⟨(some 10), .call 58 [(.t 9)], none⟩, .loud, 7, 127⟩ :: ⟨⟨(some 11), .mov (.t 0), none⟩, .quiet, 8, 0⟩ :: ⟨⟨(some 12), .nilchk (.t 11), none⟩, .quiet, 9, 256⟩ :: ⟨⟨(some 13), .faddr 3 (.t 12), none⟩, .quiet, 10, 768⟩ :: ⟨⟨(some 14), .call 58 [(.t 13)], none⟩, .loud, 11, 2047⟩ :: ⟨⟨(some 15), .mov (.t 0), none⟩, .quiet, 12, 0⟩ :: ⟨⟨(some 16), .nilchk (.t 15), none⟩, .quiet, 13, 4096⟩ :: ⟨⟨(some 17), .faddr 4 (.t 16), none⟩, .quiet, 14, 12288⟩ :: ⟨⟨(some 18), .call 59 [(.t 17)], none⟩, .loud, 15, 32767⟩ :: ⟨⟨(some 19), .mov (.t 0), none⟩, .quiet, 16, 0⟩ :: ⟨⟨(some 20), .nilchk (.t 19), none⟩, .quiet, 17, 65536⟩ :: ⟨⟨(some 21), .faddr 5 (.t 20), none⟩, .quiet, 18, 196608⟩ :: ⟨⟨(some 22), .call 59 [(.t 21)], none⟩, .loud, 19, 524287⟩ :: ⟨⟨(some 23), .mov (.t 0), none⟩, .quiet, 20, 0⟩ :: ⟨⟨(some 24), .nilchk (.t 23), none⟩, .quiet, 21, 1048576⟩ :: ⟨⟨(some 25), .faddr 6 (.t 24), none⟩, .quiet, 22, 3145728⟩ :: ⟨⟨(some 26), .call 59 [(.t 25)], none⟩, .loud, 23, 8388607⟩ :: ⟨⟨(some 27), .mov (.t 0), none⟩, .quiet, 24, 0⟩ :: ⟨⟨(some 28), .nilchk (.t 27), none⟩, .quiet, 25, 16777216⟩ :: ⟨⟨(some 29), .faddr 7 (.t 28), none⟩, .quiet, 26, 50331648⟩ :: ⟨⟨(some 30), .call 59 [(.t 29)], none⟩, .loud, 27, 134217727⟩ :: ⟨⟨(some 31), .mov (.t 0), none⟩, .quiet, 28, 0⟩ :: ⟨⟨(some 32), .nilchk (.t 31), none⟩, .quiet, 29, 268435456⟩ :: ⟨⟨(some 33), .faddr 8 (.t 32), none⟩, .quiet, 30, 805306368⟩ :: ⟨⟨(some 34), .call 59 [(.t 33)], none⟩, .loud, 31, 2147483647⟩ :: ⟨⟨(some 35), .mov (.t 0), none⟩, .quiet, 32, 0⟩ :: ⟨⟨(some 36), .nilchk (.t 35), none⟩, .quiet, 33, 4294967296⟩ :: ⟨⟨(some 37), .faddr 9 (.t 36), none⟩, .quiet, 34, 12884901888⟩ :: ⟨⟨(some 38), .call 59 [(.t 37)], none⟩, .loud, 35, 34359738367⟩ :: ⟨⟨(some 39), .mov (.t 0), none⟩, .quiet, 36, 0⟩ :: ⟨⟨(some 40), .nilchk (.t 39), none⟩, .quiet, 37, 68719476736⟩ :: ⟨⟨(some 41), .faddr 10 (.t 40), none⟩, .quiet, 38, 206158430208⟩ :: ⟨⟨(some 42), .call 59 [(.t 41)], none⟩, .loud, 39, 549755813887⟩ :: ⟨⟨(some 43), .mov (.t 0), none⟩, .quiet, 40, 0⟩ :: ⟨⟨(some 44), .nilchk (.t 43), none⟩, .quiet, 41, 1099511627776⟩ :: ⟨⟨(some 45), .faddr 11 (.t 44), none⟩, .quiet, 42, 3298534883328⟩ :: ⟨⟨(some 46), .call 59 [(.t 45)], none⟩, .loud, 43, 8796093022207⟩ :: ⟨⟨(some 47), .mov (.t 0), none⟩, .quiet, 44, 0⟩ :: ⟨⟨(some 48), .nilchk (.t 47), none⟩, .quiet, 45, 17592186044416⟩ :: ⟨⟨(some 49), .faddr 12 (.t 48), none⟩, .quiet, 46, 52776558133248⟩ :: ⟨⟨(some 50), .call 60 [(.t 49)], none⟩, .loud, 47, 140737488355327⟩ :: ⟨⟨(some 51), .mov (.t 0), none⟩, .quiet, 48, 0⟩ :: ⟨⟨(some 52), .nilchk (.t 51), none⟩, .quiet, 49, 281474976710656⟩ :: ⟨⟨(some 53), .faddr 13 (.t 52), none⟩, .quiet, 50, 844424930131968⟩ :: ⟨⟨(some 54), .call 61 [(.t 53)], none⟩, .loud, 51, 2251799813685247⟩ :: ⟨⟨(some 55), .mov (.t 0), none⟩, .quiet, 52, 0⟩ :: ⟨⟨(some 56), .nilchk (.t 55), none⟩, .quiet, 53, 4503599627370496⟩ :: ⟨⟨(some 57), .faddr 14 (.t 56), none⟩, .quiet, 54, 13510798882111488⟩ :: ⟨⟨(some 58), .call 62 [(.t 57)], none⟩, .loud, 55, 36028797018963967⟩ :: ⟨⟨(some 59), .mov (.t 0), none⟩, .quiet, 56, 0⟩ :: ⟨⟨(some 60), .nilchk (.t 59), none⟩, .quiet, 57, 72057594037927936⟩ :: ⟨⟨(some 61), .faddr 15 (.t 60), none⟩, .quiet, 58, 216172782113783808⟩ :: ⟨⟨(some 62), .call 62 [(.t 61)], none⟩, .loud, 59, 576460752303423487⟩ :: ⟨⟨(some 63), .mov (.t 0), none⟩, .quiet, 60, 0⟩ :: ⟨⟨(some 64), .nilchk (.t 63), none⟩, .quiet, 61, 1152921504606846976⟩ :: ⟨⟨(some 65), .faddr 16 (.t 64), none⟩, .quiet, 62, 3458764513820540928⟩ :: ⟨⟨(some 66), .call 63 [(.t 65)], none⟩, .loud, 63, 9223372036854775807⟩ :: ⟨⟨(some 67), .build [.nilfn, .nilfn, .nilfn, .nilfn, .nilfn, .nilfn, .nilfn, .nilfn, .nilfn, .nilfn, .nilfn, .nilfn, .nilfn, .nilfn, .nilfn, .nilfn, .nilfn, .nilfn, .nilfn, .nilfn, .nilfn, .nilfn, .nilfn, .nilfn, .nilfn, .nilfn, .nilfn, .nilfn, .nilfn, .nilfn, .nilfn, .nilfn, .nilfn, .nilfn, .nilfn, .nilfn, .nilfn, .nilfn, .nilfn, .nilfn, .nilfn, .nilfn, .nilfn, .nilfn, .nilfn, .nilfn, .nilfn, .nilfn, .nilfn, .nilfn, .nilfn, .nilfn, .nilfn, .nilfn, .nilfn, .nilfn, .nilfn, .nilfn, .nilfn, .nilfn, .nilfn, .nilfn, .nilfn, .nilfn] [(0, 4, (.t 6)), (4, 4, (.t 10)), (8, 4, (.t 14)), (12, 4, (.t 18)), (16, 4, (.t 22)), (20, 4, (.t 26)), (24, 4, (.t 30)), (28, 4, (.t 34)), (32, 4, (.t 38)), (36, 4, (.t 42)), (40, 4, (.t 46)), (44, 4, (.t 50)), (48, 4, (.t 54)), (52, 4, (.t 58)), (56, 4, (.t 62)), (60, 4, (.t 66))], none⟩, .quiet, 64, 18446744073709551615⟩ :: ⟨⟨none, .store 64 (.t 2) (.t 67), none⟩, .loud, 65, 36893488147419103231⟩ :: []))
.ret))⟩
theorem c43_eq : compFn Tryz.prog 43 = some c43 := by kernel_rfl
/-- (*sodality/kv.Kv).Copy -/
noncomputable def c44 : FnI := ⟨12, [.tmp 2],
(.seq (.reg (⟨(some 2), .mov (.c .nilp), none⟩ :: []))
(.seq (.seq (.reg (⟨(some 3), .mov (.t 0), none⟩ :: ⟨(some 4), .call 64 [(.t 3)], none⟩ :: []))
(.cond (.t 4) (.seq (.reg (⟨(some 2), .mov (.c .nilp), none⟩ :: []))
.ret) .skip))
(.seq (.reg (⟨(some 5), .mov (.t 0), none⟩ :: ⟨(some 6), .nilchk (.t 5), none⟩ :: ⟨(some 7), .faddr 0 (.t 6), none⟩ :: ⟨(some 8), .load false 1 (.t 7), none⟩ :: ⟨(some 9), .call 65 [(.t 8)], none⟩ :: ⟨(some 10), .build [.nilp] [(0, 1, (.t 9))], none⟩ :: ⟨(some 11), .box (.t 10), none⟩ :: ⟨(some 2), .mov (.t 11), none⟩ :: []))
.ret)))⟩
theorem c44_eq : compFn Tryz.prog 44 = some c44 := by kernel_rfl
/-- (*sodality/intent.Intents).Copy -/
noncomputable def c45 : FnI := ⟨12, [.tmp 2],
(.seq (.reg (⟨(some 2), .mov (.c .nilp), none⟩ :: []))
(.seq (.seq (.reg (⟨(some 3), .mov (.t 0), none⟩ :: ⟨(some 4), .call 66 [(.t 3)], none⟩ :: []))
(.cond (.t 4) (.seq (.reg (⟨(some 2), .mov (.c .nilp), none⟩ :: []))
.ret) .skip))
(.seq (.reg (⟨(some 5), .mov (.t 0), none⟩ :: ⟨(some 6), .nilchk (.t 5), none⟩ :: ⟨(some 7), .faddr 0 (.t 6), none⟩ :: ⟨(some 8), .load false 1 (.t 7), none⟩ :: ⟨(some 9), .call 67 [(.t 8)], none⟩ :: ⟨(some 10), .build [.nilp] [(0, 1, (.t 9))], none⟩ :: ⟨(some 11), .box (.t 10), none⟩ :: ⟨(some 2), .mov (.t 11), none⟩ :: []))
.ret)))⟩
theorem c45_eq : compFn Tryz.prog 45 = some c45 := by kernel_rfl
/-- (*sodality/roster.Roster).Copy -/
noncomputable def c46 : FnI := ⟨22, [.tmp 2],
(.seq (.reg (⟨(some 2), .mov (.c .nilp), none⟩ :: []))
(.seq (.seq (.reg (⟨(some 3), .mov (.t 0), none⟩ :: ⟨(some 4), .call 68 [(.t 3)], none⟩ :: []))
(.cond (.t 4) (.seq (.reg (⟨(some 2), .mov (.c .nilp), none⟩ :: []))
.ret) .skip))
(.seq (.dreg (⟨⟨(some 5), .mov (.t 0), none⟩, .quiet, 0, 0⟩ :: ⟨⟨(some 6), .nilchk (.t 5), none⟩, .quiet, 1, 1⟩ :: ⟨⟨(some 7), .faddr 0 (.t 6), none⟩, .quiet, 2, 3⟩ :: ⟨⟨(some 8), .load false 1 (.t 7), none⟩, .load, 3, 7⟩ :: ⟨⟨(some 9), .call 69 [(.t 8)], none⟩, .loud, 4, 15⟩ :: ⟨⟨(some 10), .mov (.t 0), none⟩, .quiet, 5, 0⟩ :: ⟨⟨(some 11), .nilchk (.t 10), none⟩, .quiet, 6, 32⟩ :: ⟨⟨(some 12), .faddr 1 (.t 11), none⟩, .quiet, 7, 96⟩ :: ⟨⟨(some 13), .load false 1 (.t 12), none⟩, .load, 8, 224⟩ :: ⟨⟨(some 14), .call 70 [(.t 13)], none⟩, .loud, 9, 511⟩ :: ⟨⟨(some 15), .mov (.t 0), none⟩, .quiet, 10, 0⟩ :: ⟨⟨(some 16), .nilchk (.t 15), none⟩, .quiet, 11, 1024⟩ :: ⟨⟨(some 17), .faddr 2 (.t 16), none⟩, .quiet, 12, 3072⟩ :: ⟨⟨(some 18), .load false 1 (.t 17), none⟩, .load, 13, 7168⟩ :: ⟨⟨(some 19), .call 71 [(.t 18)], none⟩, .loud, 14, 16383⟩ :: ⟨⟨(some 20), .build [.nilp, .nilp, .nilp] [(0, 1, (.t 9)), (1, 1, (.t 14)), (2, 1, (.t 19))], none⟩, .quiet, 15, 32767⟩ :: ⟨⟨(some 21), .box (.t 20), none⟩, .quiet, 16, 65535⟩ :: ⟨⟨(some 2), .mov (.t 21), none⟩, .quiet, 17, 131071⟩ :: []))
.ret)))⟩
theorem c46_eq : compFn Tryz.prog 46 = some c46 := by kernel_rfl
/-- (*sodality/session.Sessions).Copy -/
noncomputable def c47 : FnI := ⟨12, [.tmp 2],
(.seq (.reg (⟨(some 2), .mov (.c .nilp), none⟩ :: []))
(.seq (.seq (.reg (⟨(some 3), .mov (.t 0), none⟩ :: ⟨(some 4), .call 72 [(.t 3)], none⟩ :: []))
(.cond (.t 4) (.seq (.reg (⟨(some 2), .mov (.c .nilp), none⟩ :: []))
.ret) .skip))
(.seq (.reg (⟨(some 5), .mov (.t 0), none⟩ :: ⟨(some 6), .nilchk (.t 5), none⟩ :: ⟨(some 7), .faddr 0 (.t 6), none⟩ :: ⟨(some 8), .load false 1 (.t 7), none⟩ :: ⟨(some 9), .call 73 [(.t 8)], none⟩ :: ⟨(some 10), .build [.nilp] [(0, 1, (.t 9))], none⟩ :: ⟨(some 11), .box (.t 10), none⟩ :: ⟨(some 2), .mov (.t 11), none⟩ :: []))
.ret)))⟩
theorem c47_eq : compFn Tryz.prog 47 = some c47 := by kernel_rfl
/-- (sodality/state.job).does -/
noncomputable def c48 : FnI := ⟨72, [.tmp 2],
(.seq (.reg (⟨(some 1), .box (.t 0), none⟩ :: ⟨(some 2), .mov (.c .nilfn), none⟩ :: []))
(.seq (.seq (.reg (⟨(some 3), .faddr 4 (.t 1), none⟩ :: ⟨(some 4), .faddr 0 (.t 3), none⟩ :: ⟨(some 5), .load false 1 (.t 4), none⟩ :: []))
(.block 0 (.seq (.reg (⟨(some 7), .bin .eql (.t 5) (.c (.int .i64 (.ofNat 1))), none⟩ :: ⟨(some 6), .mov (.t 7), none⟩ :: []))
(.cond (.t 6) (.seq (.reg (⟨(some 8), .load true 22 (.t 1), none⟩ :: ⟨(some 9), .mkfn 74 [(.t 8)] [], none⟩ :: ⟨(some 2), .mov (.t 9), none⟩ :: []))
.ret) (.seq (.reg (⟨(some 11), .bin .eql (.t 5) (.c (.int .i64 (.ofNat 2))), none⟩ :: ⟨(some 10), .mov (.t 11), none⟩ :: []))
(.cond (.t 10) (.seq (.reg (⟨(some 12), .load true 22 (.t 1), none⟩ :: ⟨(some 13), .mkfn 75 [(.t 12)] [], none⟩ :: ⟨(some 2), .mov (.t 13), none⟩ :: []))
.ret) (.seq (.reg (⟨(some 15), .bin .eql (.t 5) (.c (.int .i64 (.ofNat 3))), none⟩ :: ⟨(some 14), .mov (.t 15), none⟩ :: []))
(.cond (.t 14) (.seq (.reg (⟨(some 16), .load true 22 (.t 1), none⟩ :: ⟨(some 17), .mkfn 76 [(.t 16)] [], none⟩ :: ⟨(some 2), .mov (.t 17), none⟩ :: []))
.ret) (.seq (.reg (⟨(some 19), .bin .eql (.t 5) (.c (.int .i64 (.ofNat 4))), none⟩ :: ⟨(some 18), .mov (.t 19), none⟩ :: []))
(.cond (.t 18) (.seq (.reg (⟨(some 20), .load true 22 (.t 1), none⟩ :: ⟨(some 21), .mkfn 77 [(.t 20)] [], none⟩ :: ⟨(some 2), .mov (.t 21), none⟩ :: []))
.ret) (.seq (.reg (⟨(some 23), .bin .eql (.t 5) (.c (.int .i64 (.ofNat 5))), none⟩ :: ⟨(some 22), .mov (.t 23), none⟩ :: []))
(.cond (.t 22) (.seq (.reg (⟨(some 24), .load true 22 (.t 1), none⟩ :: ⟨(some 25), .mkfn 78 [(.t 24)] [], none⟩ :: ⟨(some 2), .mov (.t 25), none⟩ :: []))
.ret) (.seq (.reg (⟨(some 27), .bin .eql (.t 5) (.c (.int .i64 (.ofNat 6))), none⟩ :: ⟨(some 26), .mov (.t 27), none⟩ :: []))
(.cond (.t 26) (.seq (.reg (⟨(some 28), .load true 22 (.t 1), none⟩ :: ⟨(some 29), .mkfn 79 [(.t 28)] [], none⟩ :: ⟨(some 2), .mov (.t 29), none⟩ :: []))
.ret) (.seq (.reg (⟨(some 31), .bin .eql (.t 5) (.c (.int .i64 (.ofNat 7))), none⟩ :: ⟨(some 30), .mov (.t 31), none⟩ :: []))
(.cond (.t 30) (.seq (.reg (⟨(some 32), .load true 22 (.t 1), none⟩ :: ⟨(some 33), .mkfn 80 [(.t 32)] [], none⟩ :: ⟨(some 2), .mov (.t 33), none⟩ :: []))
.ret) (.seq (.reg (⟨(some 35), .bin .eql (.t 5) (.c (.int .i64 (.ofNat 8))), none⟩ :: ⟨(some 34), .mov (.t 35), none⟩ :: []))
(.cond (.t 34) (.seq (.reg (⟨(some 36), .load true 22 (.t 1), none⟩ :: ⟨(some 37), .mkfn 81 [(.t 36)] [], none⟩ :: ⟨(some 2), .mov (.t 37), none⟩ :: []))
.ret) (.seq (.reg (⟨(some 39), .bin .eql (.t 5) (.c (.int .i64 (.ofNat 9))), none⟩ :: ⟨(some 38), .mov (.t 39), none⟩ :: []))
(.cond (.t 38) (.seq (.reg (⟨(some 40), .load true 22 (.t 1), none⟩ :: ⟨(some 41), .mkfn 82 [(.t 40)] [], none⟩ :: ⟨(some 2), .mov (.t 41), none⟩ :: []))
.ret) (.seq (.reg (⟨(some 43), .bin .eql (.t 5) (.c (.int .i64 (.ofNat 10))), none⟩ :: ⟨(some 42), .mov (.t 43), none⟩ :: []))
(.cond (.t 42) (.seq (.reg (⟨(some 44), .load true 22 (.t 1), none⟩ :: ⟨(some 45), .mkfn 83 [(.t 44)] [], none⟩ :: ⟨(some 2), .mov (.t 45), none⟩ :: []))
.ret) (.seq (.reg (⟨(some 47), .bin .eql (.t 5) (.c (.int .i64 (.ofNat 11))), none⟩ :: ⟨(some 46), .mov (.t 47), none⟩ :: []))
(.cond (.t 46) (.seq (.reg (⟨(some 48), .load true 22 (.t 1), none⟩ :: ⟨(some 49), .mkfn 84 [(.t 48)] [], none⟩ :: ⟨(some 2), .mov (.t 49), none⟩ :: []))
.ret) (.seq (.reg (⟨(some 51), .bin .eql (.t 5) (.c (.int .i64 (.ofNat 12))), none⟩ :: ⟨(some 50), .mov (.t 51), none⟩ :: []))
(.cond (.t 50) (.seq (.reg (⟨(some 52), .load true 22 (.t 1), none⟩ :: ⟨(some 53), .mkfn 85 [(.t 52)] [], none⟩ :: ⟨(some 2), .mov (.t 53), none⟩ :: []))
.ret) (.seq (.reg (⟨(some 55), .bin .eql (.t 5) (.c (.int .i64 (.ofNat 13))), none⟩ :: ⟨(some 54), .mov (.t 55), none⟩ :: []))
(.cond (.t 54) (.seq (.reg (⟨(some 56), .load true 22 (.t 1), none⟩ :: ⟨(some 57), .mkfn 86 [(.t 56)] [], none⟩ :: ⟨(some 2), .mov (.t 57), none⟩ :: []))
.ret) (.seq (.reg (⟨(some 59), .bin .eql (.t 5) (.c (.int .i64 (.ofNat 14))), none⟩ :: ⟨(some 58), .mov (.t 59), none⟩ :: []))
(.cond (.t 58) (.seq (.reg (⟨(some 60), .load true 22 (.t 1), none⟩ :: ⟨(some 61), .mkfn 87 [(.t 60)] [], none⟩ :: ⟨(some 2), .mov (.t 61), none⟩ :: []))
.ret) (.seq (.reg (⟨(some 63), .bin .eql (.t 5) (.c (.int .i64 (.ofNat 15))), none⟩ :: ⟨(some 62), .mov (.t 63), none⟩ :: []))
(.cond (.t 62) (.seq (.reg (⟨(some 64), .load true 22 (.t 1), none⟩ :: ⟨(some 65), .mkfn 88 [(.t 64)] [], none⟩ :: ⟨(some 2), .mov (.t 65), none⟩ :: []))
.ret) (.seq (.reg (⟨(some 67), .bin .eql (.t 5) (.c (.int .i64 (.ofNat 16))), none⟩ :: ⟨(some 66), .mov (.t 67), none⟩ :: []))
(.cond (.t 66) (.seq (.reg (⟨(some 68), .load true 22 (.t 1), none⟩ :: ⟨(some 69), .mkfn 89 [(.t 68)] [], none⟩ :: ⟨(some 2), .mov (.t 69), none⟩ :: []))
.ret) .skip))))))))))))))))))))))))))))))))))
(.seq (.reg (⟨(some 70), .load true 22 (.t 1), none⟩ :: ⟨(some 71), .mkfn 90 [(.t 70)] [], none⟩ :: ⟨(some 2), .mov (.t 71), none⟩ :: []))
.ret)))⟩
theorem c48_eq : compFn Tryz.prog 48 = some c48 := by kernel_rfl
/-- sodality/query.bare -/
noncomputable def c49 : FnI := ⟨51, [.tmp 12],
(.seq (.reg (⟨(some 6), .box (.t 0), none⟩ :: ⟨(some 12), .mov (.c (.bool false)), none⟩ :: []))
(.seq (.reg (⟨(some 13), .mov (.t 1), none⟩ :: ⟨(some 14), .mov (.t 13), none⟩ :: ⟨(some 15), .faddr 1 (.t 6), (some (14, false))⟩ :: ⟨(some 16), .load false 1 (.t 15), (some (14, false))⟩ :: ⟨(some 17), .bin .eql (.t 16) (.c (.int .i64 (.ofNat 0))), (some (14, false))⟩ :: ⟨(some 18), .pick (.t 14) (.c (.bool true)) (.t 17), none⟩ :: ⟨(some 19), .mov (.t 18), none⟩ :: ⟨(some 20), .mov (.t 2), (some (19, true))⟩ :: ⟨(some 21), .mov (.t 20), (some (19, true))⟩ :: ⟨(some 22), .faddr 2 (.t 6), (some (21, false))⟩ :: ⟨(some 23), .load false 1 (.t 22), (some (21, false))⟩ :: ⟨(some 24), .bin .eql (.t 23) (.c (.str [])), (some (21, false))⟩ :: ⟨(some 25), .pick (.t 21) (.c (.bool true)) (.t 24), (some (19, true))⟩ :: ⟨(some 26), .pick (.t 19) (.t 25) (.c (.bool false)), none⟩ :: ⟨(some 27), .mov (.t 26), none⟩ :: ⟨(some 28), .mov (.t 3), (some (27, true))⟩ :: ⟨(some 29), .mov (.t 28), (some (27, true))⟩ :: ⟨(some 30), .faddr 3 (.t 6), (some (29, false))⟩ :: ⟨(some 31), .load false 1 (.t 30), (some (29, false))⟩ :: ⟨(some 32), .bin .eql (.t 31) (.c (.str [])), (some (29, false))⟩ :: ⟨(some 33), .pick (.t 29) (.c (.bool true)) (.t 32), (some (27, true))⟩ :: ⟨(some 34), .pick (.t 27) (.t 33) (.c (.bool false)), none⟩ :: ⟨(some 35), .mov (.t 34), none⟩ :: ⟨(some 36), .mov (.t 4), (some (35, true))⟩ :: ⟨(some 37), .mov (.t 36), (some (35, true))⟩ :: ⟨(some 38), .faddr 4 (.t 6), (some (37, false))⟩ :: ⟨(some 39), .load false 1 (.t 38), (some (37, false))⟩ :: ⟨(some 40), .bin .eql (.t 39) (.c (.str [])), (some (37, false))⟩ :: ⟨(some 41), .pick (.t 37) (.c (.bool true)) (.t 40), (some (35, true))⟩ :: ⟨(some 42), .pick (.t 35) (.t 41) (.c (.bool false)), none⟩ :: ⟨(some 43), .mov (.t 42), none⟩ :: ⟨(some 44), .mov (.t 5), (some (43, true))⟩ :: ⟨(some 45), .mov (.t 44), (some (43, true))⟩ :: ⟨(some 46), .faddr 5 (.t 6), (some (45, false))⟩ :: ⟨(some 47), .load false 1 (.t 46), (some (45, false))⟩ :: ⟨(some 48), .un .not (.t 47), (some (45, false))⟩ :: ⟨(some 49), .pick (.t 45) (.c (.bool true)) (.t 48), (some (43, true))⟩ :: ⟨(some 50), .pick (.t 43) (.t 49) (.c (.bool false)), none⟩ :: ⟨(some 12), .mov (.t 50), none⟩ :: []))
.ret))⟩
theorem c49_eq : compFn Tryz.prog 49 = some c49 := by kernel_rfl
/-- sodality/name.Right -/
noncomputable def c50 : FnI := ⟨26, [.tmp 2],
(.seq (.reg (⟨(some 2), .mov (.c (.bool false)), none⟩ :: []))
(.seq (.seq (.reg (⟨(some 3), .mov (.t 0), none⟩ :: ⟨(some 4), .len true (.t 3), none⟩ :: ⟨(some 5), .bin .lss (.t 4) (.c (.int .i64 (.ofNat 1))), none⟩ :: ⟨(some 6), .mov (.t 5), none⟩ :: ⟨(some 7), .mov (.t 0), (some (6, false))⟩ :: ⟨(some 8), .len true (.t 7), (some (6, false))⟩ :: ⟨(some 9), .bin .gtr (.t 8) (.c (.int .i64 (.ofNat 24))), (some (6, false))⟩ :: ⟨(some 10), .pick (.t 6) (.c (.bool true)) (.t 9), none⟩ :: ⟨(some 11), .mov (.t 10), none⟩ :: ⟨(some 12), .mov (.t 0), (some (11, false))⟩ :: ⟨(some 13), .idxStr (.t 12) (.c (.int .i64 (.ofNat 0))), (some (11, false))⟩ :: ⟨(some 14), .bin .eql (.t 13) (.c (.int .u8 (.ofNat 45))), (some (11, false))⟩ :: ⟨(some 15), .pick (.t 11) (.c (.bool true)) (.t 14), none⟩ :: ⟨(some 16), .mov (.t 15), none⟩ :: ⟨(some 17), .mov (.t 0), (some (16, false))⟩ :: ⟨(some 18), .mov (.t 0), (some (16, false))⟩ :: ⟨(some 19), .len true (.t 18), (some (16, false))⟩ :: ⟨(some 20), .bin .sub (.t 19) (.c (.int .i64 (.ofNat 1))), (some (16, false))⟩ :: ⟨(some 21), .idxStr (.t 17) (.t 20), (some (16, false))⟩ :: ⟨(some 22), .bin .eql (.t 21) (.c (.int .u8 (.ofNat 45))), (some (16, false))⟩ :: ⟨(some 23), .pick (.t 16) (.c (.bool true)) (.t 22), none⟩ :: []))
(.cond (.t 23) (.seq (.reg (⟨(some 2), .mov (.c (.bool false)), none⟩ :: []))
.ret) .skip))
(.seq (.reg (⟨(some 24), .mov (.t 0), none⟩ :: ⟨(some 25), .call 91 [(.t 24), (.c (.fn (.func 92) [] []))], none⟩ :: ⟨(some 2), .mov (.t 25), none⟩ :: []))
.ret)))⟩
theorem c50_eq : compFn Tryz.prog 50 = some c50 := by kernel_rfl
/-- (sodality/query.asker).services -/
noncomputable def c52 : FnI := ⟨25, [.cell 2 true 11],
(.seq (.reg (⟨(some 1), .box (.t 0), none⟩ :: ⟨(some 2), .alloc [(.int .i64 (.ofNat 0)), (.int .u64 (.ofNat 0)), (.bool false), (.int .i64 (.ofNat 0)), (.str []), .nilsl, .nilsl, .nilsl, .nilsl, .nilsl, .nilsl], none⟩ :: []))
(.seq (.reg (⟨(some 7), .faddr 0 (.t 1), none⟩ :: ⟨(some 8), .load false 1 (.t 7), none⟩ :: ⟨(some 9), .call 96 [(.t 8)], none⟩ :: ⟨(some 3), .alloc [.nilp], none⟩ :: ⟨none, .store 1 (.t 3) (.t 9), none⟩ :: []))
(.seq (.reg (⟨(some 10), .load false 1 (.t 3), none⟩ :: ⟨(some 11), .call 97 [(.t 10)], none⟩ :: ⟨(some 4), .alloc [(.int .u64 (.ofNat 0)), (.int .u64 (.ofNat 0)), (.int .u64 (.ofNat 0))], none⟩ :: ⟨none, .store 3 (.t 4) (.t 11), none⟩ :: []))
(.seq (.reg (⟨(some 12), .mkfn 98 [] [(.t 3)], none⟩ :: ⟨(some 5), .alloc [.nilfn], none⟩ :: ⟨none, .store 1 (.t 5) (.t 12), none⟩ :: []))
(.seq (.reg (⟨(some 13), .mkfn 100 [] [(.t 1), (.t 5)], none⟩ :: ⟨(some 6), .mov (.t 13), none⟩ :: []))
(.seq (.dreg (⟨⟨(some 19), .load false 1 (.t 3), none⟩, .load, 5, 0⟩ :: ⟨⟨(some 20), .call 103 [(.t 19)], none⟩, .loud, 6, 32⟩ :: ⟨⟨(some 21), .mov (.t 6), none⟩, .quiet, 7, 0⟩ :: ⟨⟨(some 22), .load false 1 (.t 5), none⟩, .load, 8, 0⟩ :: ⟨⟨(some 23), .call 102 [(.t 20), (.t 21), (.t 22)], none⟩, .loud, 9, 480⟩ :: ⟨⟨(some 14), .idxA 3 1 (.t 4) (.c (.int .i64 (.ofNat 1))), none⟩, .quiet, 0, 0⟩ :: ⟨⟨(some 15), .load false 1 (.t 14), none⟩, .load, 1, 1⟩ :: ⟨⟨(some 16), .idxA 3 1 (.t 4) (.c (.int .i64 (.ofNat 2))), none⟩, .quiet, 2, 0⟩ :: ⟨⟨(some 17), .load false 1 (.t 16), none⟩, .load, 3, 4⟩ :: ⟨⟨(some 18), .mm true (.t 15) [(.t 17)], none⟩, .quiet, 4, 15⟩ :: ⟨⟨(some 24), .build [(.int .i64 (.ofNat 0)), (.int .u64 (.ofNat 0)), (.bool false), (.int .i64 (.ofNat 0)), (.str []), .nilsl, .nilsl, .nilsl, .nilsl, .nilsl, .nilsl] [(1, 1, (.t 18)), (8, 1, (.t 23))], none⟩, .quiet, 10, 1023⟩ :: ⟨⟨none, .store 11 (.t 2) (.t 24), none⟩, .loud, 11, 2047⟩ :: []))
.ret))))))⟩
theorem c52_eq : compFn Tryz.prog 52 = some c52 := by kernel_rfl
/-- sodality/order.number -/
noncomputable def c58 : FnI := ⟨8, [.cell 2 true 4],
(.seq (.reg (⟨(some 1), .box (.t 0), none⟩ :: ⟨(some 2), .alloc [.nilfn, .nilfn, .nilfn, .nilfn], none⟩ :: []))
(.seq (.reg (⟨(some 3), .mkfn 114 [] [(.t 1)], none⟩ :: ⟨(some 4), .mkfn 116 [] [(.t 1)], none⟩ :: ⟨(some 5), .mkfn 118 [] [(.t 1)], none⟩ :: ⟨(some 6), .mkfn 119 [] [(.t 1)], none⟩ :: ⟨(some 7), .build [.nilfn, .nilfn, .nilfn, .nilfn] [(0, 1, (.t 3)), (1, 1, (.t 4)), (2, 1, (.t 5)), (3, 1, (.t 6))], none⟩ :: ⟨none, .store 4 (.t 2) (.t 7), none⟩ :: []))
.ret))⟩
theorem c58_eq : compFn Tryz.prog 58 = some c58 := by kernel_rfl
/-- sodality/order.text -/
noncomputable def c59 : FnI := ⟨8, [.cell 2 true 4],
(.seq (.reg (⟨(some 1), .box (.t 0), none⟩ :: ⟨(some 2), .alloc [.nilfn, .nilfn, .nilfn, .nilfn], none⟩ :: []))
(.seq (.reg (⟨(some 3), .mkfn 120 [] [(.t 1)], none⟩ :: ⟨(some 4), .mkfn 122 [] [(.t 1)], none⟩ :: ⟨(some 5), .mkfn 124 [] [(.t 1)], none⟩ :: ⟨(some 6), .mkfn 125 [] [(.t 1)], none⟩ :: ⟨(some 7), .build [.nilfn, .nilfn, .nilfn, .nilfn] [(0, 1, (.t 3)), (1, 1, (.t 4)), (2, 1, (.t 5)), (3, 1, (.t 6))], none⟩ :: ⟨none, .store 4 (.t 2) (.t 7), none⟩ :: []))
.ret))⟩
theorem c59_eq : compFn Tryz.prog 59 = some c59 := by kernel_rfl
/-- sodality/order.texts -/
noncomputable def c60 : FnI := ⟨8, [.cell 2 true 4],
(.seq (.reg (⟨(some 1), .box (.t 0), none⟩ :: ⟨(some 2), .alloc [.nilfn, .nilfn, .nilfn, .nilfn], none⟩ :: []))
(.seq (.reg (⟨(some 3), .mkfn 126 [] [(.t 1)], none⟩ :: ⟨(some 4), .mkfn 128 [] [(.t 1)], none⟩ :: ⟨(some 5), .mkfn 130 [] [(.t 1)], none⟩ :: ⟨(some 6), .mkfn 131 [] [(.t 1)], none⟩ :: ⟨(some 7), .build [.nilfn, .nilfn, .nilfn, .nilfn] [(0, 1, (.t 3)), (1, 1, (.t 4)), (2, 1, (.t 5)), (3, 1, (.t 6))], none⟩ :: ⟨none, .store 4 (.t 2) (.t 7), none⟩ :: []))
.ret))⟩
theorem c60_eq : compFn Tryz.prog 60 = some c60 := by kernel_rfl
/-- sodality/order.flag -/
noncomputable def c61 : FnI := ⟨7, [.cell 2 true 4],
(.seq (.reg (⟨(some 1), .box (.t 0), none⟩ :: ⟨(some 2), .alloc [.nilfn, .nilfn, .nilfn, .nilfn], none⟩ :: []))
(.seq (.reg (⟨(some 3), .mkfn 132 [] [(.t 1)], none⟩ :: ⟨(some 4), .mkfn 134 [] [(.t 1)], none⟩ :: ⟨(some 5), .mkfn 136 [] [(.t 1)], none⟩ :: ⟨(some 6), .build [.nilfn, .nilfn, .nilfn, .nilfn] [(0, 1, (.t 3)), (1, 1, (.t 4)), (2, 1, (.t 5)), (3, 1, (.c (.fn (.func 137) [] [])))], none⟩ :: ⟨none, .store 4 (.t 2) (.t 6), none⟩ :: []))
.ret))⟩
theorem c61_eq : compFn Tryz.prog 61 = some c61 := by kernel_rfl
/-- sodality/order.long -/
noncomputable def c62 : FnI := ⟨7, [.cell 2 true 4],
(.seq (.reg (⟨(some 1), .box (.t 0), none⟩ :: ⟨(some 2), .alloc [.nilfn, .nilfn, .nilfn, .nilfn], none⟩ :: []))
(.seq (.reg (⟨(some 3), .mkfn 138 [] [(.t 1)], none⟩ :: ⟨(some 4), .mkfn 139 [] [(.t 1)], none⟩ :: ⟨(some 5), .mkfn 140 [] [(.t 1)], none⟩ :: ⟨(some 6), .build [.nilfn, .nilfn, .nilfn, .nilfn] [(0, 1, (.t 3)), (1, 1, (.t 4)), (2, 1, (.t 5)), (3, 1, (.c (.fn (.func 141) [] [])))], none⟩ :: ⟨none, .store 4 (.t 2) (.t 6), none⟩ :: []))
.ret))⟩
theorem c62_eq : compFn Tryz.prog 62 = some c62 := by kernel_rfl
/-- sodality/order.commands -/
noncomputable def c63 : FnI := ⟨8, [.cell 2 true 4],
(.seq (.reg (⟨(some 1), .box (.t 0), none⟩ :: ⟨(some 2), .alloc [.nilfn, .nilfn, .nilfn, .nilfn], none⟩ :: []))
(.seq (.reg (⟨(some 3), .mkfn 142 [] [(.t 1)], none⟩ :: ⟨(some 4), .mkfn 144 [] [(.t 1)], none⟩ :: ⟨(some 5), .mkfn 147 [] [(.t 1)], none⟩ :: ⟨(some 6), .mkfn 148 [] [(.t 1)], none⟩ :: ⟨(some 7), .build [.nilfn, .nilfn, .nilfn, .nilfn] [(0, 1, (.t 3)), (1, 1, (.t 4)), (2, 1, (.t 5)), (3, 1, (.t 6))], none⟩ :: ⟨none, .store 4 (.t 2) (.t 7), none⟩ :: []))
.ret))⟩
theorem c63_eq : compFn Tryz.prog 63 = some c63 := by kernel_rfl
/-- (*sodality/kv.Kv).none -/
noncomputable def c64 : FnI := ⟨12, [.tmp 2],
(.seq (.reg (⟨(some 2), .mov (.c (.bool false)), none⟩ :: []))
(.seq (.reg (⟨(some 3), .mov (.t 0), none⟩ :: ⟨(some 4), .eq false .ptr (.t 3) (.c .nilp), none⟩ :: ⟨(some 5), .mov (.t 4), none⟩ :: ⟨(some 6), .mov (.t 0), (some (5, false))⟩ :: ⟨(some 7), .nilchk (.t 6), (some (5, false))⟩ :: ⟨(some 8), .faddr 0 (.t 7), (some (5, false))⟩ :: ⟨(some 9), .load false 1 (.t 8), (some (5, false))⟩ :: ⟨(some 10), .eq false .ptr (.t 9) (.c .nilp), (some (5, false))⟩ :: ⟨(some 11), .pick (.t 5) (.c (.bool true)) (.t 10), none⟩ :: ⟨(some 2), .mov (.t 11), none⟩ :: []))
.ret))⟩
theorem c64_eq : compFn Tryz.prog 64 = some c64 := by kernel_rfl
/-- (*sodality/table.Table[sodality/api.Entry]).Copy -/
noncomputable def c65 : FnI := ⟨17, [.tmp 2],
(.seq (.reg (⟨(some 2), .mov (.c .nilp), none⟩ :: []))
(.seq (.seq (.reg (⟨(some 3), .mov (.t 0), none⟩ :: ⟨(some 4), .call 149 [(.t 3)], none⟩ :: []))
(.cond (.t 4) (.seq (.reg (⟨(some 2), .mov (.c .nilp), none⟩ :: []))
.ret) .skip))
(.seq (.dreg (⟨⟨(some 9), .mov (.t 0), none⟩, .quiet, 4, 0⟩ :: ⟨⟨(some 10), .call 150 [(.t 9)], none⟩, .loud, 5, 16⟩ :: ⟨⟨(some 5), .mov (.t 0), none⟩, .quiet, 0, 0⟩ :: ⟨⟨(some 6), .nilchk (.t 5), none⟩, .quiet, 1, 1⟩ :: ⟨⟨(some 7), .faddr 0 (.t 6), none⟩, .quiet, 2, 3⟩ :: ⟨⟨(some 8), .load false 1 (.t 7), none⟩, .load, 3, 7⟩ :: ⟨⟨(some 11), .mov (.t 0), none⟩, .quiet, 6, 0⟩ :: ⟨⟨(some 12), .nilchk (.t 11), none⟩, .quiet, 7, 64⟩ :: ⟨⟨(some 13), .faddr 2 (.t 12), none⟩, .quiet, 8, 192⟩ :: ⟨⟨(some 14), .load false 1 (.t 13), none⟩, .load, 9, 448⟩ :: ⟨⟨(some 15), .build [(.int .i64 (.ofNat 0)), .nilsl, (.int .u64 (.ofNat 0))] [(0, 1, (.t 8)), (1, 1, (.t 10)), (2, 1, (.t 14))], none⟩, .quiet, 10, 1023⟩ :: ⟨⟨(some 16), .box (.t 15), none⟩, .quiet, 11, 2047⟩ :: ⟨⟨(some 2), .mov (.t 16), none⟩, .quiet, 12, 4095⟩ :: []))
.ret)))⟩
theorem c65_eq : compFn Tryz.prog 65 = some c65 := by kernel_rfl
/-- (*sodality/intent.Intents).none -/
noncomputable def c66 : FnI := ⟨12, [.tmp 2],
(.seq (.reg (⟨(some 2), .mov (.c (.bool false)), none⟩ :: []))
(.seq (.reg (⟨(some 3), .mov (.t 0), none⟩ :: ⟨(some 4), .eq false .ptr (.t 3) (.c .nilp), none⟩ :: ⟨(some 5), .mov (.t 4), none⟩ :: ⟨(some 6), .mov (.t 0), (some (5, false))⟩ :: ⟨(some 7), .nilchk (.t 6), (some (5, false))⟩ :: ⟨(some 8), .faddr 0 (.t 7), (some (5, false))⟩ :: ⟨(some 9), .load false 1 (.t 8), (some (5, false))⟩ :: ⟨(some 10), .eq false .ptr (.t 9) (.c .nilp), (some (5, false))⟩ :: ⟨(some 11), .pick (.t 5) (.c (.bool true)) (.t 10), none⟩ :: ⟨(some 2), .mov (.t 11), none⟩ :: []))
.ret))⟩
theorem c66_eq : compFn Tryz.prog 66 = some c66 := by kernel_rfl
/-- (*sodality/table.Table[sodality/api.Intention]).Copy -/
noncomputable def c67 : FnI := ⟨17, [.tmp 2],
(.seq (.reg (⟨(some 2), .mov (.c .nilp), none⟩ :: []))
(.seq (.seq (.reg (⟨(some 3), .mov (.t 0), none⟩ :: ⟨(some 4), .call 151 [(.t 3)], none⟩ :: []))
(.cond (.t 4) (.seq (.reg (⟨(some 2), .mov (.c .nilp), none⟩ :: []))
.ret) .skip))
(.seq (.dreg (⟨⟨(some 9), .mov (.t 0), none⟩, .quiet, 4, 0⟩ :: ⟨⟨(some 10), .call 152 [(.t 9)], none⟩, .loud, 5, 16⟩ :: ⟨⟨(some 5), .mov (.t 0), none⟩, .quiet, 0, 0⟩ :: ⟨⟨(some 6), .nilchk (.t 5), none⟩, .quiet, 1, 1⟩ :: ⟨⟨(some 7), .faddr 0 (.t 6), none⟩, .quiet, 2, 3⟩ :: ⟨⟨(some 8), .load false 1 (.t 7), none⟩, .load, 3, 7⟩ :: ⟨⟨(some 11), .mov (.t 0), none⟩, .quiet, 6, 0⟩ :: ⟨⟨(some 12), .nilchk (.t 11), none⟩, .quiet, 7, 64⟩ :: ⟨⟨(some 13), .faddr 2 (.t 12), none⟩, .quiet, 8, 192⟩ :: ⟨⟨(some 14), .load false 1 (.t 13), none⟩, .load, 9, 448⟩ :: ⟨⟨(some 15), .build [(.int .i64 (.ofNat 0)), .nilsl, (.int .u64 (.ofNat 0))] [(0, 1, (.t 8)), (1, 1, (.t 10)), (2, 1, (.t 14))], none⟩, .quiet, 10, 1023⟩ :: ⟨⟨(some 16), .box (.t 15), none⟩, .quiet, 11, 2047⟩ :: ⟨⟨(some 2), .mov (.t 16), none⟩, .quiet, 12, 4095⟩ :: []))
.ret)))⟩
theorem c67_eq : compFn Tryz.prog 67 = some c67 := by kernel_rfl
/-- (*sodality/roster.Roster).none -/
noncomputable def c68 : FnI := ⟨12, [.tmp 2],
(.seq (.reg (⟨(some 2), .mov (.c (.bool false)), none⟩ :: []))
(.seq (.reg (⟨(some 3), .mov (.t 0), none⟩ :: ⟨(some 4), .eq false .ptr (.t 3) (.c .nilp), none⟩ :: ⟨(some 5), .mov (.t 4), none⟩ :: ⟨(some 6), .mov (.t 0), (some (5, false))⟩ :: ⟨(some 7), .nilchk (.t 6), (some (5, false))⟩ :: ⟨(some 8), .faddr 0 (.t 7), (some (5, false))⟩ :: ⟨(some 9), .load false 1 (.t 8), (some (5, false))⟩ :: ⟨(some 10), .eq false .ptr (.t 9) (.c .nilp), (some (5, false))⟩ :: ⟨(some 11), .pick (.t 5) (.c (.bool true)) (.t 10), none⟩ :: ⟨(some 2), .mov (.t 11), none⟩ :: []))
.ret))⟩
theorem c68_eq : compFn Tryz.prog 68 = some c68 := by kernel_rfl
/-- (*sodality/table.Table[sodality/api.Node]).Copy -/
noncomputable def c69 : FnI := ⟨17, [.tmp 2],
(.seq (.reg (⟨(some 2), .mov (.c .nilp), none⟩ :: []))
(.seq (.seq (.reg (⟨(some 3), .mov (.t 0), none⟩ :: ⟨(some 4), .call 153 [(.t 3)], none⟩ :: []))
(.cond (.t 4) (.seq (.reg (⟨(some 2), .mov (.c .nilp), none⟩ :: []))
.ret) .skip))
(.seq (.dreg (⟨⟨(some 9), .mov (.t 0), none⟩, .quiet, 4, 0⟩ :: ⟨⟨(some 10), .call 154 [(.t 9)], none⟩, .loud, 5, 16⟩ :: ⟨⟨(some 5), .mov (.t 0), none⟩, .quiet, 0, 0⟩ :: ⟨⟨(some 6), .nilchk (.t 5), none⟩, .quiet, 1, 1⟩ :: ⟨⟨(some 7), .faddr 0 (.t 6), none⟩, .quiet, 2, 3⟩ :: ⟨⟨(some 8), .load false 1 (.t 7), none⟩, .load, 3, 7⟩ :: ⟨⟨(some 11), .mov (.t 0), none⟩, .quiet, 6, 0⟩ :: ⟨⟨(some 12), .nilchk (.t 11), none⟩, .quiet, 7, 64⟩ :: ⟨⟨(some 13), .faddr 2 (.t 12), none⟩, .quiet, 8, 192⟩ :: ⟨⟨(some 14), .load false 1 (.t 13), none⟩, .load, 9, 448⟩ :: ⟨⟨(some 15), .build [(.int .i64 (.ofNat 0)), .nilsl, (.int .u64 (.ofNat 0))] [(0, 1, (.t 8)), (1, 1, (.t 10)), (2, 1, (.t 14))], none⟩, .quiet, 10, 1023⟩ :: ⟨⟨(some 16), .box (.t 15), none⟩, .quiet, 11, 2047⟩ :: ⟨⟨(some 2), .mov (.t 16), none⟩, .quiet, 12, 4095⟩ :: []))
.ret)))⟩
theorem c69_eq : compFn Tryz.prog 69 = some c69 := by kernel_rfl
/-- (*sodality/table.Table[sodality/api.Service]).Copy -/
noncomputable def c70 : FnI := ⟨17, [.tmp 2],
(.seq (.reg (⟨(some 2), .mov (.c .nilp), none⟩ :: []))
(.seq (.seq (.reg (⟨(some 3), .mov (.t 0), none⟩ :: ⟨(some 4), .call 155 [(.t 3)], none⟩ :: []))
(.cond (.t 4) (.seq (.reg (⟨(some 2), .mov (.c .nilp), none⟩ :: []))
.ret) .skip))
(.seq (.dreg (⟨⟨(some 9), .mov (.t 0), none⟩, .quiet, 4, 0⟩ :: ⟨⟨(some 10), .call 156 [(.t 9)], none⟩, .loud, 5, 16⟩ :: ⟨⟨(some 5), .mov (.t 0), none⟩, .quiet, 0, 0⟩ :: ⟨⟨(some 6), .nilchk (.t 5), none⟩, .quiet, 1, 1⟩ :: ⟨⟨(some 7), .faddr 0 (.t 6), none⟩, .quiet, 2, 3⟩ :: ⟨⟨(some 8), .load false 1 (.t 7), none⟩, .load, 3, 7⟩ :: ⟨⟨(some 11), .mov (.t 0), none⟩, .quiet, 6, 0⟩ :: ⟨⟨(some 12), .nilchk (.t 11), none⟩, .quiet, 7, 64⟩ :: ⟨⟨(some 13), .faddr 2 (.t 12), none⟩, .quiet, 8, 192⟩ :: ⟨⟨(some 14), .load false 1 (.t 13), none⟩, .load, 9, 448⟩ :: ⟨⟨(some 15), .build [(.int .i64 (.ofNat 0)), .nilsl, (.int .u64 (.ofNat 0))] [(0, 1, (.t 8)), (1, 1, (.t 10)), (2, 1, (.t 14))], none⟩, .quiet, 10, 1023⟩ :: ⟨⟨(some 16), .box (.t 15), none⟩, .quiet, 11, 2047⟩ :: ⟨⟨(some 2), .mov (.t 16), none⟩, .quiet, 12, 4095⟩ :: []))
.ret)))⟩
theorem c70_eq : compFn Tryz.prog 70 = some c70 := by kernel_rfl
/-- (*sodality/table.Table[sodality/api.Check]).Copy -/
noncomputable def c71 : FnI := ⟨17, [.tmp 2],
(.seq (.reg (⟨(some 2), .mov (.c .nilp), none⟩ :: []))
(.seq (.seq (.reg (⟨(some 3), .mov (.t 0), none⟩ :: ⟨(some 4), .call 157 [(.t 3)], none⟩ :: []))
(.cond (.t 4) (.seq (.reg (⟨(some 2), .mov (.c .nilp), none⟩ :: []))
.ret) .skip))
(.seq (.dreg (⟨⟨(some 9), .mov (.t 0), none⟩, .quiet, 4, 0⟩ :: ⟨⟨(some 10), .call 158 [(.t 9)], none⟩, .loud, 5, 16⟩ :: ⟨⟨(some 5), .mov (.t 0), none⟩, .quiet, 0, 0⟩ :: ⟨⟨(some 6), .nilchk (.t 5), none⟩, .quiet, 1, 1⟩ :: ⟨⟨(some 7), .faddr 0 (.t 6), none⟩, .quiet, 2, 3⟩ :: ⟨⟨(some 8), .load false 1 (.t 7), none⟩, .load, 3, 7⟩ :: ⟨⟨(some 11), .mov (.t 0), none⟩, .quiet, 6, 0⟩ :: ⟨⟨(some 12), .nilchk (.t 11), none⟩, .quiet, 7, 64⟩ :: ⟨⟨(some 13), .faddr 2 (.t 12), none⟩, .quiet, 8, 192⟩ :: ⟨⟨(some 14), .load false 1 (.t 13), none⟩, .load, 9, 448⟩ :: ⟨⟨(some 15), .build [(.int .i64 (.ofNat 0)), .nilsl, (.int .u64 (.ofNat 0))] [(0, 1, (.t 8)), (1, 1, (.t 10)), (2, 1, (.t 14))], none⟩, .quiet, 10, 1023⟩ :: ⟨⟨(some 16), .box (.t 15), none⟩, .quiet, 11, 2047⟩ :: ⟨⟨(some 2), .mov (.t 16), none⟩, .quiet, 12, 4095⟩ :: []))
.ret)))⟩
theorem c71_eq : compFn Tryz.prog 71 = some c71 := by kernel_rfl
/-- (*sodality/session.Sessions).none -/
noncomputable def c72 : FnI := ⟨12, [.tmp 2],
(.seq (.reg (⟨(some 2), .mov (.c (.bool false)), none⟩ :: []))
(.seq (.reg (⟨(some 3), .mov (.t 0), none⟩ :: ⟨(some 4), .eq false .ptr (.t 3) (.c .nilp), none⟩ :: ⟨(some 5), .mov (.t 4), none⟩ :: ⟨(some 6), .mov (.t 0), (some (5, false))⟩ :: ⟨(some 7), .nilchk (.t 6), (some (5, false))⟩ :: ⟨(some 8), .faddr 0 (.t 7), (some (5, false))⟩ :: ⟨(some 9), .load false 1 (.t 8), (some (5, false))⟩ :: ⟨(some 10), .eq false .ptr (.t 9) (.c .nilp), (some (5, false))⟩ :: ⟨(some 11), .pick (.t 5) (.c (.bool true)) (.t 10), none⟩ :: ⟨(some 2), .mov (.t 11), none⟩ :: []))
.ret))⟩
theorem c72_eq : compFn Tryz.prog 72 = some c72 := by kernel_rfl
/-- (*sodality/table.Table[sodality/api.Session]).Copy -/
noncomputable def c73 : FnI := ⟨17, [.tmp 2],
(.seq (.reg (⟨(some 2), .mov (.c .nilp), none⟩ :: []))
(.seq (.seq (.reg (⟨(some 3), .mov (.t 0), none⟩ :: ⟨(some 4), .call 159 [(.t 3)], none⟩ :: []))
(.cond (.t 4) (.seq (.reg (⟨(some 2), .mov (.c .nilp), none⟩ :: []))
.ret) .skip))
(.seq (.dreg (⟨⟨(some 9), .mov (.t 0), none⟩, .quiet, 4, 0⟩ :: ⟨⟨(some 10), .call 160 [(.t 9)], none⟩, .loud, 5, 16⟩ :: ⟨⟨(some 5), .mov (.t 0), none⟩, .quiet, 0, 0⟩ :: ⟨⟨(some 6), .nilchk (.t 5), none⟩, .quiet, 1, 1⟩ :: ⟨⟨(some 7), .faddr 0 (.t 6), none⟩, .quiet, 2, 3⟩ :: ⟨⟨(some 8), .load false 1 (.t 7), none⟩, .load, 3, 7⟩ :: ⟨⟨(some 11), .mov (.t 0), none⟩, .quiet, 6, 0⟩ :: ⟨⟨(some 12), .nilchk (.t 11), none⟩, .quiet, 7, 64⟩ :: ⟨⟨(some 13), .faddr 2 (.t 12), none⟩, .quiet, 8, 192⟩ :: ⟨⟨(some 14), .load false 1 (.t 13), none⟩, .load, 9, 448⟩ :: ⟨⟨(some 15), .build [(.int .i64 (.ofNat 0)), .nilsl, (.int .u64 (.ofNat 0))] [(0, 1, (.t 8)), (1, 1, (.t 10)), (2, 1, (.t 14))], none⟩, .quiet, 10, 1023⟩ :: ⟨⟨(some 16), .box (.t 15), none⟩, .quiet, 11, 2047⟩ :: ⟨⟨(some 2), .mov (.t 16), none⟩, .quiet, 12, 4095⟩ :: []))
.ret)))⟩
theorem c73_eq : compFn Tryz.prog 73 = some c73 := by kernel_rfl
/-- (sodality/state.job).node -/
noncomputable def c74 : FnI := ⟨15, [.tmp 2],
(.seq (.reg (⟨(some 1), .box (.t 0), none⟩ :: ⟨(some 2), .mov (.c (.int .i64 (.ofNat 0))), none⟩ :: []))
(.seq (.reg (⟨(some 3), .faddr 0 (.t 1), none⟩ :: ⟨(some 4), .faddr 2 (.t 3), none⟩ :: ⟨(some 5), .load false 1 (.t 4), none⟩ :: ⟨(some 6), .faddr 4 (.t 1), none⟩ :: ⟨(some 7), .faddr 1 (.t 6), none⟩ :: ⟨(some 8), .load false 1 (.t 7), none⟩ :: ⟨(some 9), .faddr 4 (.t 1), none⟩ :: ⟨(some 10), .faddr 7 (.t 9), none⟩ :: ⟨(some 11), .load false 1 (.t 10), none⟩ :: ⟨(some 12), .faddr 21 (.t 1), none⟩ :: ⟨(some 13), .load false 1 (.t 12), none⟩ :: ⟨(some 14), .call 161 [(.t 5), (.t 8), (.t 11), (.t 13)], none⟩ :: ⟨(some 2), .mov (.t 14), none⟩ :: []))
.ret))⟩
theorem c74_eq : compFn Tryz.prog 74 = some c74 := by kernel_rfl
/-- (sodality/state.job).service -/
noncomputable def c76 : FnI := ⟨25, [.tmp 2],
(.seq (.reg (⟨(some 1), .box (.t 0), none⟩ :: ⟨(some 2), .mov (.c (.int .i64 (.ofNat 0))), none⟩ :: []))
(.seq (.reg (⟨(some 3), .faddr 0 (.t 1), none⟩ :: ⟨(some 4), .faddr 2 (.t 3), none⟩ :: ⟨(some 5), .load false 1 (.t 4), none⟩ :: ⟨(some 6), .faddr 4 (.t 1), none⟩ :: ⟨(some 7), .faddr 1 (.t 6), none⟩ :: ⟨(some 8), .load false 1 (.t 7), none⟩ :: ⟨(some 9), .faddr 4 (.t 1), none⟩ :: ⟨(some 10), .faddr 4 (.t 9), none⟩ :: ⟨(some 11), .load false 1 (.t 10), none⟩ :: ⟨(some 12), .faddr 4 (.t 1), none⟩ :: ⟨(some 13), .faddr 5 (.t 12), none⟩ :: ⟨(some 14), .load false 1 (.t 13), none⟩ :: ⟨(some 15), .faddr 4 (.t 1), none⟩ :: ⟨(some 16), .faddr 12 (.t 15), none⟩ :: ⟨(some 17), .load false 1 (.t 16), none⟩ :: ⟨(some 18), .faddr 4 (.t 1), none⟩ :: ⟨(some 19), .faddr 2 (.t 18), none⟩ :: ⟨(some 20), .load false 1 (.t 19), none⟩ :: ⟨(some 21), .build [(.int .i64 (.ofNat 0)), (.str []), (.str []), .nilsl, (.int .i64 (.ofNat 0)), (.int .u64 (.ofNat 0)), (.int .u64 (.ofNat 0))] [(0, 1, (.t 8)), (1, 1, (.t 11)), (2, 1, (.t 14)), (3, 1, (.t 17)), (4, 1, (.t 20))], none⟩ :: ⟨(some 22), .faddr 21 (.t 1), none⟩ :: ⟨(some 23), .load false 1 (.t 22), none⟩ :: ⟨(some 24), .call 165 [(.t 5), (.t 21), (.t 23)], none⟩ :: ⟨(some 2), .mov (.t 24), none⟩ :: []))
.ret))⟩
theorem c76_eq : compFn Tryz.prog 76 = some c76 := by kernel_rfl
/-- sodality/name.all -/
noncomputable def c91 : FnI := ⟨18, [.tmp 4],
(.seq (.reg (⟨(some 4), .mov (.c (.bool false)), none⟩ :: []))
(.seq (.seq (.reg (⟨(some 6), .mov (.t 0), none⟩ :: ⟨(some 7), .len true (.t 6), none⟩ :: ⟨(some 8), .mov (.c (.int .i64 (.ofNat 0))), none⟩ :: []))
(.block 0 (.loop (.seq (.reg (⟨(some 9), .bin .lss (.t 8) (.t 7), none⟩ :: []))
(.seq (.cond (.t 9) .skip (.exit 0))
(.seq (.block 1 (.seq (.reg (⟨(some 10), .mov (.t 8), none⟩ :: ⟨(some 5), .mov (.t 10), none⟩ :: []))
(.seq (.reg (⟨(some 11), .mov (.t 1), none⟩ :: ⟨(some 12), .mov (.t 0), none⟩ :: ⟨(some 13), .mov (.t 5), none⟩ :: ⟨(some 14), .idxStr (.t 12) (.t 13), none⟩ :: ⟨(some 15), .callv (.t 11) [(.t 14)], none⟩ :: ⟨(some 16), .un .not (.t 15), none⟩ :: []))
(.cond (.t 16) (.seq (.reg (⟨(some 4), .mov (.c (.bool false)), none⟩ :: []))
.ret) .skip))))
(.reg (⟨(some 17), .bin .add (.t 8) (.c (.int .i64 (.ofNat 1))), none⟩ :: ⟨(some 8), .mov (.t 17), none⟩ :: []))))))))
(.seq (.reg (⟨(some 4), .mov (.c (.bool true)), none⟩ :: []))
.ret)))⟩
theorem c91_eq : compFn Tryz.prog 91 = some c91 := by kernel_rfl
/-- sodality/name.Right$1 -/
noncomputable def c92 : FnI := ⟨9, [.tmp 2],
(.seq (.reg (⟨(some 2), .mov (.c (.bool false)), none⟩ :: []))
(.seq (.reg (⟨(some 3), .mov (.t 0), none⟩ :: ⟨(some 4), .call 93 [(.t 3)], none⟩ :: ⟨(some 5), .mov (.t 4), none⟩ :: ⟨(some 6), .mov (.t 0), (some (5, false))⟩ :: ⟨(some 7), .bin .eql (.t 6) (.c (.int .u8 (.ofNat 45))), (some (5, false))⟩ :: ⟨(some 8), .pick (.t 5) (.c (.bool true)) (.t 7), none⟩ :: ⟨(some 2), .mov (.t 8), none⟩ :: []))
.ret))⟩
theorem c92_eq : compFn Tryz.prog 92 = some c92 := by kernel_rfl
/-- sodality/name.plain -/
noncomputable def c93 : FnI := ⟨17, [.tmp 2],
(.seq (.reg (⟨(some 2), .mov (.c (.bool false)), none⟩ :: []))
(.seq (.reg (⟨(some 3), .mov (.t 0), none⟩ :: ⟨(some 4), .bin .geq (.t 3) (.c (.int .u8 (.ofNat 97))), none⟩ :: ⟨(some 5), .mov (.t 4), none⟩ :: ⟨(some 6), .mov (.t 0), (some (5, true))⟩ :: ⟨(some 7), .bin .leq (.t 6) (.c (.int .u8 (.ofNat 122))), (some (5, true))⟩ :: ⟨(some 8), .pick (.t 5) (.t 7) (.c (.bool false)), none⟩ :: ⟨(some 9), .mov (.t 8), none⟩ :: ⟨(some 10), .mov (.t 0), (some (9, false))⟩ :: ⟨(some 11), .bin .geq (.t 10) (.c (.int .u8 (.ofNat 48))), (some (9, false))⟩ :: ⟨(some 12), .mov (.t 11), (some (9, false))⟩ :: ⟨(some 13), .mov (.t 0), (some (12, true))⟩ :: ⟨(some 14), .bin .leq (.t 13) (.c (.int .u8 (.ofNat 57))), (some (12, true))⟩ :: ⟨(some 15), .pick (.t 12) (.t 14) (.c (.bool false)), (some (9, false))⟩ :: ⟨(some 16), .pick (.t 9) (.c (.bool true)) (.t 15), none⟩ :: ⟨(some 2), .mov (.t 16), none⟩ :: []))
.ret))⟩
theorem c93_eq : compFn Tryz.prog 93 = some c93 := by kernel_rfl
/-- (*sodality/state.State).Roster -/
noncomputable def c96 : FnI := ⟨11, [.tmp 2],
(.seq (.reg (⟨(some 2), .mov (.c .nilp), none⟩ :: []))
(.seq (.seq (.reg (⟨(some 3), .mov (.t 0), none⟩ :: ⟨(some 4), .call 29 [(.t 3)], none⟩ :: []))
(.cond (.t 4) (.seq (.reg (⟨(some 2), .mov (.c .nilp), none⟩ :: []))
.ret) .skip))
(.seq (.reg (⟨(some 5), .mov (.t 0), none⟩ :: ⟨(some 6), .nilchk (.t 5), none⟩ :: ⟨(some 7), .faddr 0 (.t 6), none⟩ :: ⟨(some 8), .faddr 2 (.t 7), none⟩ :: ⟨(some 9), .load false 1 (.t 8), none⟩ :: ⟨(some 10), .call 46 [(.t 9)], none⟩ :: ⟨(some 2), .mov (.t 10), none⟩ :: []))
.ret)))⟩
theorem c96_eq : compFn Tryz.prog 96 = some c96 := by kernel_rfl
/-- (*sodality/roster.Roster).Last -/
noncomputable def c97 : FnI := ⟨22, [.cell 2 true 3],
(.seq (.reg (⟨(some 2), .alloc [(.int .u64 (.ofNat 0)), (.int .u64 (.ofNat 0)), (.int .u64 (.ofNat 0))], none⟩ :: []))
(.seq (.seq (.reg (⟨(some 3), .mov (.t 0), none⟩ :: ⟨(some 4), .call 68 [(.t 3)], none⟩ :: []))
(.cond (.t 4) (.seq (.reg (⟨(some 5), .build [(.int .u64 (.ofNat 0)), (.int .u64 (.ofNat 0)), (.int .u64 (.ofNat 0))] [], none⟩ :: ⟨none, .store 3 (.t 2) (.t 5), none⟩ :: []))
.ret) .skip))
(.seq (.dreg (⟨⟨(some 6), .mov (.t 0), none⟩, .quiet, 0, 0⟩ :: ⟨⟨(some 7), .nilchk (.t 6), none⟩, .quiet, 1, 1⟩ :: ⟨⟨(some 8), .faddr 0 (.t 7), none⟩, .quiet, 2, 3⟩ :: ⟨⟨(some 9), .load false 1 (.t 8), none⟩, .load, 3, 7⟩ :: ⟨⟨(some 10), .call 182 [(.t 9)], none⟩, .loud, 4, 15⟩ :: ⟨⟨(some 11), .mov (.t 0), none⟩, .quiet, 5, 0⟩ :: ⟨⟨(some 12), .nilchk (.t 11), none⟩, .quiet, 6, 32⟩ :: ⟨⟨(some 13), .faddr 1 (.t 12), none⟩, .quiet, 7, 96⟩ :: ⟨⟨(some 14), .load false 1 (.t 13), none⟩, .load, 8, 224⟩ :: ⟨⟨(some 15), .call 183 [(.t 14)], none⟩, .loud, 9, 511⟩ :: ⟨⟨(some 16), .mov (.t 0), none⟩, .quiet, 10, 0⟩ :: ⟨⟨(some 17), .nilchk (.t 16), none⟩, .quiet, 11, 1024⟩ :: ⟨⟨(some 18), .faddr 2 (.t 17), none⟩, .quiet, 12, 3072⟩ :: ⟨⟨(some 19), .load false 1 (.t 18), none⟩, .load, 13, 7168⟩ :: ⟨⟨(some 20), .call 184 [(.t 19)], none⟩, .loud, 14, 16383⟩ :: ⟨⟨(some 21), .build [(.int .u64 (.ofNat 0)), (.int .u64 (.ofNat 0)), (.int .u64 (.ofNat 0))] [(0, 1, (.t 10)), (1, 1, (.t 15)), (2, 1, (.t 20))], none⟩, .quiet, 15, 32767⟩ :: ⟨⟨none, .store 3 (.t 2) (.t 21), none⟩, .loud, 16, 65535⟩ :: []))
.ret)))⟩
theorem c97_eq : compFn Tryz.prog 97 = some c97 := by kernel_rfl
/-- (sodality/query.asker).services$1 -/
noncomputable def c98 : FnI := ⟨12, [.cell 3 true 8],
(.seq (.reg (⟨(some 2), .box (.t 0), none⟩ :: ⟨(some 3), .alloc [(.int .i64 (.ofNat 0)), (.str []), (.str []), .nilsl, (.int .i64 (.ofNat 0)), (.int .u64 (.ofNat 0)), (.int .u64 (.ofNat 0)), (.int .i64 (.ofNat 0))], none⟩ :: []))
(.seq (.dreg (⟨⟨(some 5), .load false 1 (.t 1), none⟩, .load, 1, 0⟩ :: ⟨⟨(some 6), .faddr 0 (.t 2), none⟩, .quiet, 2, 0⟩ :: ⟨⟨(some 7), .load false 1 (.t 6), none⟩, .load, 3, 4⟩ :: ⟨⟨(some 8), .faddr 1 (.t 2), none⟩, .quiet, 4, 0⟩ :: ⟨⟨(some 9), .load false 1 (.t 8), none⟩, .load, 5, 16⟩ :: ⟨⟨(some 10), .call 99 [(.t 5), (.t 7), (.t 9)], none⟩, .loud, 6, 62⟩ :: ⟨⟨(some 4), .load true 7 (.t 2), none⟩, .load, 0, 0⟩ :: ⟨⟨(some 11), .build [(.int .i64 (.ofNat 0)), (.str []), (.str []), .nilsl, (.int .i64 (.ofNat 0)), (.int .u64 (.ofNat 0)), (.int .u64 (.ofNat 0)), (.int .i64 (.ofNat 0))] [(0, 7, (.t 4)), (7, 1, (.t 10))], none⟩, .quiet, 7, 127⟩ :: ⟨⟨none, .store 8 (.t 3) (.t 11), none⟩, .loud, 8, 255⟩ :: []))
.ret))⟩
theorem c98_eq : compFn Tryz.prog 98 = some c98 := by kernel_rfl
/-- (*sodality/roster.Roster).Health -/
noncomputable def c99 : FnI := ⟨39, [.tmp 6],
(.seq (.reg (⟨(some 6), .mov (.c (.int .i64 (.ofNat 0))), none⟩ :: []))
(.seq (.reg (⟨(some 7), .mov (.c (.int .i64 (.ofNat 0))), none⟩ :: []))
(.seq (.reg (⟨(some 13), .mov (.t 0), none⟩ :: ⟨(some 14), .mov (.t 1), none⟩ :: ⟨(some 15), .call 105 [(.t 13), (.t 14)], none⟩ :: ⟨(some 12), .mov (.t 15), none⟩ :: ⟨(some 16), .extract (.t 12) 0, none⟩ :: ⟨(some 17), .extract (.t 12) 1, none⟩ :: ⟨(some 8), .mov (.t 16), none⟩ :: ⟨(some 9), .mov (.t 17), none⟩ :: []))
(.seq (.seq (.reg (⟨(some 18), .mov (.t 9), none⟩ :: ⟨(some 19), .len false (.t 18), none⟩ :: ⟨(some 20), .mov (.c (.int .i64 (.ofNat 0))), none⟩ :: []))
(.block 0 (.loop (.seq (.reg (⟨(some 21), .bin .lss (.t 20) (.t 19), none⟩ :: []))
(.seq (.cond (.t 21) .skip (.exit 0))
(.seq (.block 1 (.seq (.reg (⟨(some 22), .idxS 7 (.t 18) (.t 20), none⟩ :: ⟨(some 23), .load true 7 (.t 22), none⟩ :: ⟨(some 11), .alloc [(.int .i64 (.ofNat 0)), (.str []), (.str []), (.str []), (.int .i64 (.ofNat 0)), (.int .u64 (.ofNat 0)), (.int .u64 (.ofNat 0))], none⟩ :: ⟨none, .store 7 (.t 11) (.t 23), none⟩ :: []))
(.seq (.reg (⟨(some 24), .faddr 2 (.t 11), none⟩ :: ⟨(some 25), .load false 1 (.t 24), none⟩ :: ⟨(some 26), .bin .eql (.t 25) (.c (.str [])), none⟩ :: ⟨(some 27), .mov (.t 26), none⟩ :: ⟨(some 28), .faddr 2 (.t 11), (some (27, false))⟩ :: ⟨(some 29), .load false 1 (.t 28), (some (27, false))⟩ :: ⟨(some 30), .mov (.t 2), (some (27, false))⟩ :: ⟨(some 31), .bin .eql (.t 29) (.t 30), (some (27, false))⟩ :: ⟨(some 32), .pick (.t 27) (.c (.bool true)) (.t 31), none⟩ :: []))
(.cond (.t 32) (.reg (⟨(some 33), .mov (.t 7), none⟩ :: ⟨(some 34), .faddr 4 (.t 11), none⟩ :: ⟨(some 35), .load false 1 (.t 34), none⟩ :: ⟨(some 36), .mm true (.t 33) [(.t 35)], none⟩ :: ⟨(some 7), .mov (.t 36), none⟩ :: [])) .skip))))
(.reg (⟨(some 37), .bin .add (.t 20) (.c (.int .i64 (.ofNat 1))), none⟩ :: ⟨(some 20), .mov (.t 37), none⟩ :: []))))))))
(.seq (.reg (⟨(some 38), .mov (.t 7), none⟩ :: ⟨(some 6), .mov (.t 38), none⟩ :: []))
.ret)))))⟩
theorem c99_eq : compFn Tryz.prog 99 = some c99 := by kernel_rfl
/-- (sodality/query.asker).services$2 -/
noncomputable def c100 : FnI := ⟨37, [.tmp 4],
(.seq (.reg (⟨(some 3), .box (.t 0), none⟩ :: ⟨(some 4), .mov (.c (.bool false)), none⟩ :: []))
(.seq (.seq (.reg (⟨(some 5), .faddr 2 (.t 3), none⟩ :: ⟨(some 6), .load false 1 (.t 5), none⟩ :: ⟨(some 7), .faddr 1 (.t 1), none⟩ :: ⟨(some 8), .faddr 2 (.t 7), none⟩ :: ⟨(some 9), .load false 1 (.t 8), none⟩ :: ⟨(some 10), .bin .neq (.t 6) (.t 9), none⟩ :: ⟨(some 11), .mov (.t 10), none⟩ :: ⟨(some 12), .faddr 1 (.t 1), (some (11, false))⟩ :: ⟨(some 13), .faddr 3 (.t 12), (some (11, false))⟩ :: ⟨(some 14), .load false 1 (.t 13), (some (11, false))⟩ :: ⟨(some 15), .bin .neq (.t 14) (.c (.str [])), (some (11, false))⟩ :: ⟨(some 16), .mov (.t 15), (some (11, false))⟩ :: ⟨(some 17), .faddr 3 (.t 3), (some (16, true))⟩ :: ⟨(some 18), .load false 1 (.t 17), (some (16, true))⟩ :: ⟨(some 19), .faddr 1 (.t 1), (some (16, true))⟩ :: ⟨(some 20), .faddr 3 (.t 19), (some (16, true))⟩ :: ⟨(some 21), .load false 1 (.t 20), (some (16, true))⟩ :: ⟨(some 22), .call 101 [(.t 18), (.t 21)], (some (16, true))⟩ :: ⟨(some 23), .un .not (.t 22), (some (16, true))⟩ :: ⟨(some 24), .pick (.t 16) (.t 23) (.c (.bool false)), (some (11, false))⟩ :: ⟨(some 25), .pick (.t 11) (.c (.bool true)) (.t 24), none⟩ :: []))
(.cond (.t 25) (.seq (.reg (⟨(some 4), .mov (.c (.bool false)), none⟩ :: []))
.ret) .skip))
(.seq (.reg (⟨(some 26), .faddr 1 (.t 1), none⟩ :: ⟨(some 27), .faddr 5 (.t 26), none⟩ :: ⟨(some 28), .load false 1 (.t 27), none⟩ :: ⟨(some 29), .un .not (.t 28), none⟩ :: ⟨(some 30), .mov (.t 29), none⟩ :: ⟨(some 31), .load false 1 (.t 2), (some (30, false))⟩ :: ⟨(some 32), .load true 7 (.t 3), (some (30, false))⟩ :: ⟨(some 33), .callv (.t 31) [(.t 32)], (some (30, false))⟩ :: ⟨(some 34), .field false 7 1 (.t 33), (some (30, false))⟩ :: ⟨(some 35), .bin .eql (.t 34) (.c (.int .i64 (.ofNat 0))), (some (30, false))⟩ :: ⟨(some 36), .pick (.t 30) (.c (.bool true)) (.t 35), none⟩ :: ⟨(some 4), .mov (.t 36), none⟩ :: []))
.ret)))⟩
theorem c100_eq : compFn Tryz.prog 100 = some c100 := by kernel_rfl
/-- sodality/query.some[sodality/api.Service,sodality/api.Instance] -/
noncomputable def c102 : FnI := ⟨27, [.tmp 6],
(.seq (.reg (⟨(some 6), .mov (.c .nilsl), none⟩ :: []))
(.seq (.reg (⟨(some 7), .mov (.c .nilsl), none⟩ :: []))
(.seq (.seq (.reg (⟨(some 10), .mov (.t 0), none⟩ :: ⟨(some 11), .len false (.t 10), none⟩ :: ⟨(some 12), .mov (.c (.int .i64 (.ofNat 0))), none⟩ :: []))
(.block 0 (.loop (.seq (.reg (⟨(some 13), .bin .lss (.t 12) (.t 11), none⟩ :: []))
(.seq (.cond (.t 13) .skip (.exit 0))
(.seq (.block 1 (.seq (.reg (⟨(some 14), .idxS 7 (.t 10) (.t 12), none⟩ :: ⟨(some 15), .load true 7 (.t 14), none⟩ :: ⟨(some 9), .alloc [(.int .i64 (.ofNat 0)), (.str []), (.str []), .nilsl, (.int .i64 (.ofNat 0)), (.int .u64 (.ofNat 0)), (.int .u64 (.ofNat 0))], none⟩ :: ⟨none, .store 7 (.t 9) (.t 15), none⟩ :: []))
(.seq (.reg (⟨(some 16), .mov (.t 1), none⟩ :: ⟨(some 17), .load true 7 (.t 9), none⟩ :: ⟨(some 18), .callv (.t 16) [(.t 17)], none⟩ :: []))
(.cond (.t 18) (.reg (⟨(some 19), .mov (.t 7), none⟩ :: ⟨(some 20), .mov (.t 2), none⟩ :: ⟨(some 21), .load true 7 (.t 9), none⟩ :: ⟨(some 22), .callv (.t 20) [(.t 21)], none⟩ :: ⟨(some 23), .buildSl 8 1 [(.int .i64 (.ofNat 0)), (.str []), (.str []), .nilsl, (.int .i64 (.ofNat 0)), (.int .u64 (.ofNat 0)), (.int .u64 (.ofNat 0)), (.int .i64 (.ofNat 0))] [(0, 8, (.t 22))], none⟩ :: ⟨(some 24), .append 8 96 (.t 19) (.t 23), none⟩ :: ⟨(some 7), .mov (.t 24), none⟩ :: [])) .skip))))
(.reg (⟨(some 25), .bin .add (.t 12) (.c (.int .i64 (.ofNat 1))), none⟩ :: ⟨(some 12), .mov (.t 25), none⟩ :: []))))))))
(.seq (.reg (⟨(some 26), .mov (.t 7), none⟩ :: ⟨(some 6), .mov (.t 26), none⟩ :: []))
.ret))))⟩
theorem c102_eq : compFn Tryz.prog 102 = some c102 := by kernel_rfl
/-- (*sodality/roster.Roster).Services -/
noncomputable def c103 : FnI := ⟨11, [.tmp 2],
(.seq (.reg (⟨(some 2), .mov (.c .nilsl), none⟩ :: []))
(.seq (.seq (.reg (⟨(some 3), .mov (.t 0), none⟩ :: ⟨(some 4), .call 68 [(.t 3)], none⟩ :: []))
(.cond (.t 4) (.seq (.reg (⟨(some 2), .mov (.c .nilsl), none⟩ :: []))
.ret) .skip))
(.seq (.reg (⟨(some 5), .mov (.t 0), none⟩ :: ⟨(some 6), .nilchk (.t 5), none⟩ :: ⟨(some 7), .faddr 1 (.t 6), none⟩ :: ⟨(some 8), .load false 1 (.t 7), none⟩ :: ⟨(some 9), .build [.nilfn] [(0, 1, (.c (.fn (.func 187) [] [])))], none⟩ :: ⟨(some 10), .call 186 [(.t 8), (.t 9)], none⟩ :: ⟨(some 2), .mov (.t 10), none⟩ :: []))
.ret)))⟩
theorem c103_eq : compFn Tryz.prog 103 = some c103 := by kernel_rfl
/-- (*sodality/roster.Roster).Of -/
noncomputable def c105 : FnI := ⟨46, [.tmp 4, .tmp 5],
(.seq (.reg (⟨(some 4), .mov (.c .nilsl), none⟩ :: ⟨(some 5), .mov (.c .nilsl), none⟩ :: []))
(.seq (.reg (⟨(some 6), .mov (.c .nilsl), none⟩ :: []))
(.seq (.seq (.reg (⟨(some 12), .mov (.t 0), none⟩ :: ⟨(some 13), .call 103 [(.t 12)], none⟩ :: ⟨(some 14), .len false (.t 13), none⟩ :: ⟨(some 15), .mov (.c (.int .i64 (.ofNat 0))), none⟩ :: []))
(.block 0 (.loop (.seq (.reg (⟨(some 16), .bin .lss (.t 15) (.t 14), none⟩ :: []))
(.seq (.cond (.t 16) .skip (.exit 0))
(.seq (.block 1 (.seq (.reg (⟨(some 17), .idxS 7 (.t 13) (.t 15), none⟩ :: ⟨(some 18), .load true 7 (.t 17), none⟩ :: ⟨(some 8), .alloc [(.int .i64 (.ofNat 0)), (.str []), (.str []), .nilsl, (.int .i64 (.ofNat 0)), (.int .u64 (.ofNat 0)), (.int .u64 (.ofNat 0))], none⟩ :: ⟨none, .store 7 (.t 8) (.t 18), none⟩ :: []))
(.seq (.reg (⟨(some 19), .faddr 0 (.t 8), none⟩ :: ⟨(some 20), .load false 1 (.t 19), none⟩ :: ⟨(some 21), .mov (.t 1), none⟩ :: ⟨(some 22), .bin .eql (.t 20) (.t 21), none⟩ :: []))
(.cond (.t 22) (.reg (⟨(some 23), .mov (.t 6), none⟩ :: ⟨(some 24), .load true 7 (.t 8), none⟩ :: ⟨(some 25), .buildSl 7 1 [(.int .i64 (.ofNat 0)), (.str []), (.str []), .nilsl, (.int .i64 (.ofNat 0)), (.int .u64 (.ofNat 0)), (.int .u64 (.ofNat 0))] [(0, 7, (.t 24))], none⟩ :: ⟨(some 26), .append 7 88 (.t 23) (.t 25), none⟩ :: ⟨(some 6), .mov (.t 26), none⟩ :: [])) .skip))))
(.reg (⟨(some 27), .bin .add (.t 15) (.c (.int .i64 (.ofNat 1))), none⟩ :: ⟨(some 15), .mov (.t 27), none⟩ :: []))))))))
(.seq (.reg (⟨(some 9), .mov (.c .nilsl), none⟩ :: []))
(.seq (.seq (.reg (⟨(some 28), .mov (.t 0), none⟩ :: ⟨(some 29), .call 190 [(.t 28)], none⟩ :: ⟨(some 30), .len false (.t 29), none⟩ :: ⟨(some 31), .mov (.c (.int .i64 (.ofNat 0))), none⟩ :: []))
(.block 2 (.loop (.seq (.reg (⟨(some 32), .bin .lss (.t 31) (.t 30), none⟩ :: []))
(.seq (.cond (.t 32) .skip (.exit 2))
(.seq (.block 3 (.seq (.reg (⟨(some 33), .idxS 7 (.t 29) (.t 31), none⟩ :: ⟨(some 34), .load true 7 (.t 33), none⟩ :: ⟨(some 11), .alloc [(.int .i64 (.ofNat 0)), (.str []), (.str []), (.str []), (.int .i64 (.ofNat 0)), (.int .u64 (.ofNat 0)), (.int .u64 (.ofNat 0))], none⟩ :: ⟨none, .store 7 (.t 11) (.t 34), none⟩ :: []))
(.seq (.reg (⟨(some 35), .faddr 0 (.t 11), none⟩ :: ⟨(some 36), .load false 1 (.t 35), none⟩ :: ⟨(some 37), .mov (.t 1), none⟩ :: ⟨(some 38), .bin .eql (.t 36) (.t 37), none⟩ :: []))
(.cond (.t 38) (.reg (⟨(some 39), .mov (.t 9), none⟩ :: ⟨(some 40), .load true 7 (.t 11), none⟩ :: ⟨(some 41), .buildSl 7 1 [(.int .i64 (.ofNat 0)), (.str []), (.str []), (.str []), (.int .i64 (.ofNat 0)), (.int .u64 (.ofNat 0)), (.int .u64 (.ofNat 0))] [(0, 7, (.t 40))], none⟩ :: ⟨(some 42), .append 7 80 (.t 39) (.t 41), none⟩ :: ⟨(some 9), .mov (.t 42), none⟩ :: [])) .skip))))
(.reg (⟨(some 43), .bin .add (.t 31) (.c (.int .i64 (.ofNat 1))), none⟩ :: ⟨(some 31), .mov (.t 43), none⟩ :: []))))))))
(.seq (.reg (⟨(some 44), .mov (.t 6), none⟩ :: ⟨(some 45), .mov (.t 9), none⟩ :: ⟨(some 4), .mov (.t 44), none⟩ :: ⟨(some 5), .mov (.t 45), none⟩ :: []))
.ret))))))⟩
theorem c105_eq : compFn Tryz.prog 105 = some c105 := by kernel_rfl
/-- sodality/order.number$3 -/
noncomputable def c118 : FnI := ⟨6, [.tmp 1],
(.seq (.reg (⟨(some 1), .mov (.c (.bool false)), none⟩ :: []))
(.seq (.reg (⟨(some 2), .load false 1 (.t 0), none⟩ :: ⟨(some 3), .nilchk (.t 2), none⟩ :: ⟨(some 4), .load false 1 (.t 3), none⟩ :: ⟨(some 5), .bin .neq (.t 4) (.c (.int .i64 (.ofNat 0))), none⟩ :: ⟨(some 1), .mov (.t 5), none⟩ :: []))
.ret))⟩
theorem c118_eq : compFn Tryz.prog 118 = some c118 := by kernel_rfl
/-- sodality/order.number$4 -/
noncomputable def c119 : FnI := ⟨12, [.tmp 1],
(.seq (.reg (⟨(some 1), .mov (.c (.bool false)), none⟩ :: []))
(.seq (.reg (⟨(some 2), .load false 1 (.t 0), none⟩ :: ⟨(some 3), .nilchk (.t 2), none⟩ :: ⟨(some 4), .load false 1 (.t 3), none⟩ :: ⟨(some 5), .bin .geq (.t 4) (.c (.int .i64 (.ofNat 0))), none⟩ :: ⟨(some 6), .mov (.t 5), none⟩ :: ⟨(some 7), .load false 1 (.t 0), (some (6, true))⟩ :: ⟨(some 8), .nilchk (.t 7), (some (6, true))⟩ :: ⟨(some 9), .load false 1 (.t 8), (some (6, true))⟩ :: ⟨(some 10), .bin .leq (.t 9) (.c (.int .i64 (.ofNat 65535))), (some (6, true))⟩ :: ⟨(some 11), .pick (.t 6) (.t 10) (.c (.bool false)), none⟩ :: ⟨(some 1), .mov (.t 11), none⟩ :: []))
.ret))⟩
theorem c119_eq : compFn Tryz.prog 119 = some c119 := by kernel_rfl
/-- sodality/order.text$3 -/
noncomputable def c124 : FnI := ⟨6, [.tmp 1],
(.seq (.reg (⟨(some 1), .mov (.c (.bool false)), none⟩ :: []))
(.seq (.reg (⟨(some 2), .load false 1 (.t 0), none⟩ :: ⟨(some 3), .nilchk (.t 2), none⟩ :: ⟨(some 4), .load false 1 (.t 3), none⟩ :: ⟨(some 5), .bin .neq (.t 4) (.c (.str [])), none⟩ :: ⟨(some 1), .mov (.t 5), none⟩ :: []))
.ret))⟩
theorem c124_eq : compFn Tryz.prog 124 = some c124 := by kernel_rfl
/-- sodality/order.text$4 -/
noncomputable def c125 : FnI := ⟨7, [.tmp 1],
(.seq (.reg (⟨(some 1), .mov (.c (.bool false)), none⟩ :: []))
(.seq (.reg (⟨(some 2), .load false 1 (.t 0), none⟩ :: ⟨(some 3), .nilchk (.t 2), none⟩ :: ⟨(some 4), .load false 1 (.t 3), none⟩ :: ⟨(some 5), .len true (.t 4), none⟩ :: ⟨(some 6), .bin .leq (.t 5) (.c (.int .i64 (.ofNat 80))), none⟩ :: ⟨(some 1), .mov (.t 6), none⟩ :: []))
.ret))⟩
theorem c125_eq : compFn Tryz.prog 125 = some c125 := by kernel_rfl
/-- sodality/order.texts$3 -/
noncomputable def c130 : FnI := ⟨7, [.tmp 1],
(.seq (.reg (⟨(some 1), .mov (.c (.bool false)), none⟩ :: []))
(.seq (.reg (⟨(some 2), .load false 1 (.t 0), none⟩ :: ⟨(some 3), .nilchk (.t 2), none⟩ :: ⟨(some 4), .load false 1 (.t 3), none⟩ :: ⟨(some 5), .len false (.t 4), none⟩ :: ⟨(some 6), .bin .gtr (.t 5) (.c (.int .i64 (.ofNat 0))), none⟩ :: ⟨(some 1), .mov (.t 6), none⟩ :: []))
.ret))⟩
theorem c130_eq : compFn Tryz.prog 130 = some c130 := by kernel_rfl
/-- sodality/order.texts$4 -/
noncomputable def c131 : FnI := ⟨21, [.tmp 1],
(.seq (.reg (⟨(some 1), .mov (.c (.bool false)), none⟩ :: []))
(.seq (.seq (.reg (⟨(some 4), .load false 1 (.t 0), none⟩ :: ⟨(some 5), .nilchk (.t 4), none⟩ :: ⟨(some 6), .load false 1 (.t 5), none⟩ :: ⟨(some 7), .len false (.t 6), none⟩ :: ⟨(some 8), .mov (.c (.int .i64 (.ofNat 0))), none⟩ :: []))
(.block 0 (.loop (.seq (.reg (⟨(some 9), .bin .lss (.t 8) (.t 7), none⟩ :: []))
(.seq (.cond (.t 9) .skip (.exit 0))
(.seq (.block 1 (.seq (.reg (⟨(some 10), .idxS 1 (.t 6) (.t 8), none⟩ :: ⟨(some 11), .load false 1 (.t 10), none⟩ :: ⟨(some 3), .mov (.t 11), none⟩ :: []))
(.seq (.reg (⟨(some 12), .mov (.t 3), none⟩ :: ⟨(some 13), .len true (.t 12), none⟩ :: ⟨(some 14), .bin .gtr (.t 13) (.c (.int .i64 (.ofNat 80))), none⟩ :: []))
(.cond (.t 14) (.seq (.reg (⟨(some 1), .mov (.c (.bool false)), none⟩ :: []))
.ret) .skip))))
(.reg (⟨(some 15), .bin .add (.t 8) (.c (.int .i64 (.ofNat 1))), none⟩ :: ⟨(some 8), .mov (.t 15), none⟩ :: []))))))))
(.seq (.reg (⟨(some 16), .load false 1 (.t 0), none⟩ :: ⟨(some 17), .nilchk (.t 16), none⟩ :: ⟨(some 18), .load false 1 (.t 17), none⟩ :: ⟨(some 19), .len false (.t 18), none⟩ :: ⟨(some 20), .bin .leq (.t 19) (.c (.int .i64 (.ofNat 8))), none⟩ :: ⟨(some 1), .mov (.t 20), none⟩ :: []))
.ret)))⟩
theorem c131_eq : compFn Tryz.prog 131 = some c131 := by kernel_rfl
/-- sodality/order.flag$3 -/
noncomputable def c136 : FnI := ⟨5, [.tmp 1],
(.seq (.reg (⟨(some 1), .mov (.c (.bool false)), none⟩ :: []))
(.seq (.reg (⟨(some 2), .load false 1 (.t 0), none⟩ :: ⟨(some 3), .nilchk (.t 2), none⟩ :: ⟨(some 4), .load false 1 (.t 3), none⟩ :: ⟨(some 1), .mov (.t 4), none⟩ :: []))
.ret))⟩
theorem c136_eq : compFn Tryz.prog 136 = some c136 := by kernel_rfl
/-- sodality/order.flag$4 -/
noncomputable def c137 : FnI := ⟨1, [.tmp 0],
(.seq (.reg (⟨(some 0), .mov (.c (.bool false)), none⟩ :: []))
(.seq (.reg (⟨(some 0), .mov (.c (.bool true)), none⟩ :: []))
.ret))⟩
theorem c137_eq : compFn Tryz.prog 137 = some c137 := by kernel_rfl
/-- sodality/order.long$3 -/
noncomputable def c140 : FnI := ⟨6, [.tmp 1],
(.seq (.reg (⟨(some 1), .mov (.c (.bool false)), none⟩ :: []))
(.seq (.reg (⟨(some 2), .load false 1 (.t 0), none⟩ :: ⟨(some 3), .nilchk (.t 2), none⟩ :: ⟨(some 4), .load false 1 (.t 3), none⟩ :: ⟨(some 5), .bin .neq (.t 4) (.c (.int .u64 (.ofNat 0))), none⟩ :: ⟨(some 1), .mov (.t 5), none⟩ :: []))
.ret))⟩
theorem c140_eq : compFn Tryz.prog 140 = some c140 := by kernel_rfl
/-- sodality/order.long$4 -/
noncomputable def c141 : FnI := ⟨1, [.tmp 0],
(.seq (.reg (⟨(some 0), .mov (.c (.bool false)), none⟩ :: []))
(.seq (.reg (⟨(some 0), .mov (.c (.bool true)), none⟩ :: []))
.ret))⟩
theorem c141_eq : compFn Tryz.prog 141 = some c141 := by kernel_rfl
/-- sodality/order.commands$3 -/
noncomputable def c147 : FnI := ⟨7, [.tmp 1],
(.seq (.reg (⟨(some 1), .mov (.c (.bool false)), none⟩ :: []))
(.seq (.reg (⟨(some 2), .load false 1 (.t 0), none⟩ :: ⟨(some 3), .nilchk (.t 2), none⟩ :: ⟨(some 4), .load false 1 (.t 3), none⟩ :: ⟨(some 5), .len false (.t 4), none⟩ :: ⟨(some 6), .bin .gtr (.t 5) (.c (.int .i64 (.ofNat 0))), none⟩ :: ⟨(some 1), .mov (.t 6), none⟩ :: []))
.ret))⟩
theorem c147_eq : compFn Tryz.prog 147 = some c147 := by kernel_rfl
/-- sodality/order.commands$4 -/
noncomputable def c148 : FnI := ⟨26, [.tmp 1],
(.seq (.reg (⟨(some 1), .mov (.c (.bool false)), none⟩ :: []))
(.seq (.seq (.reg (⟨(some 4), .load false 1 (.t 0), none⟩ :: ⟨(some 5), .nilchk (.t 4), none⟩ :: ⟨(some 6), .load false 1 (.t 5), none⟩ :: ⟨(some 7), .len false (.t 6), none⟩ :: ⟨(some 8), .mov (.c (.int .i64 (.ofNat 0))), none⟩ :: []))
(.block 0 (.loop (.seq (.reg (⟨(some 9), .bin .lss (.t 8) (.t 7), none⟩ :: []))
(.seq (.cond (.t 9) .skip (.exit 0))
(.seq (.block 1 (.seq (.reg (⟨(some 10), .idxS 17 (.t 6) (.t 8), none⟩ :: ⟨(some 11), .load true 17 (.t 10), none⟩ :: ⟨(some 3), .alloc [(.int .i64 (.ofNat 0)), (.int .i64 (.ofNat 0)), (.int .i64 (.ofNat 0)), (.int .i64 (.ofNat 0)), (.str []), (.str []), (.str []), (.str []), (.str []), (.str []), (.str []), (.str []), .nilsl, (.bool false), (.int .u64 (.ofNat 0)), (.int .u64 (.ofNat 0)), .nilsl], none⟩ :: ⟨none, .store 17 (.t 3) (.t 11), none⟩ :: []))
(.seq (.reg (⟨(some 12), .faddr 0 (.t 3), none⟩ :: ⟨(some 13), .load false 1 (.t 12), none⟩ :: ⟨(some 14), .bin .eql (.t 13) (.c (.int .i64 (.ofNat 18))), none⟩ :: ⟨(some 15), .mov (.t 14), none⟩ :: ⟨(some 16), .load true 17 (.t 3), (some (15, false))⟩ :: ⟨(some 17), .call 30 [(.t 16)], (some (15, false))⟩ :: ⟨(some 18), .un .not (.t 17), (some (15, false))⟩ :: ⟨(some 19), .pick (.t 15) (.c (.bool true)) (.t 18), none⟩ :: []))
(.cond (.t 19) (.seq (.reg (⟨(some 1), .mov (.c (.bool false)), none⟩ :: []))
.ret) .skip))))
(.reg (⟨(some 20), .bin .add (.t 8) (.c (.int .i64 (.ofNat 1))), none⟩ :: ⟨(some 8), .mov (.t 20), none⟩ :: []))))))))
(.seq (.reg (⟨(some 21), .load false 1 (.t 0), none⟩ :: ⟨(some 22), .nilchk (.t 21), none⟩ :: ⟨(some 23), .load false 1 (.t 22), none⟩ :: ⟨(some 24), .len false (.t 23), none⟩ :: ⟨(some 25), .bin .leq (.t 24) (.c (.int .i64 (.ofNat 8))), none⟩ :: ⟨(some 1), .mov (.t 25), none⟩ :: []))
.ret)))⟩
theorem c148_eq : compFn Tryz.prog 148 = some c148 := by kernel_rfl
/-- (*sodality/table.Table[sodality/api.Entry]).none -/
noncomputable def c149 : FnI := ⟨12, [.tmp 2],
(.seq (.reg (⟨(some 2), .mov (.c (.bool false)), none⟩ :: []))
(.seq (.reg (⟨(some 3), .mov (.t 0), none⟩ :: ⟨(some 4), .eq false .ptr (.t 3) (.c .nilp), none⟩ :: ⟨(some 5), .mov (.t 4), none⟩ :: ⟨(some 6), .mov (.t 0), (some (5, false))⟩ :: ⟨(some 7), .nilchk (.t 6), (some (5, false))⟩ :: ⟨(some 8), .faddr 0 (.t 7), (some (5, false))⟩ :: ⟨(some 9), .load false 1 (.t 8), (some (5, false))⟩ :: ⟨(some 10), .bin .eql (.t 9) (.c (.int .i64 (.ofNat 0))), (some (5, false))⟩ :: ⟨(some 11), .pick (.t 5) (.c (.bool true)) (.t 10), none⟩ :: ⟨(some 2), .mov (.t 11), none⟩ :: []))
.ret))⟩
theorem c149_eq : compFn Tryz.prog 149 = some c149 := by kernel_rfl
/-- (*sodality/table.Table[sodality/api.Entry]).List -/
noncomputable def c150 : FnI := ⟨11, [.tmp 2],
(.seq (.reg (⟨(some 2), .mov (.c .nilsl), none⟩ :: []))
(.seq (.seq (.reg (⟨(some 3), .mov (.t 0), none⟩ :: ⟨(some 4), .call 149 [(.t 3)], none⟩ :: []))
(.cond (.t 4) (.seq (.reg (⟨(some 2), .mov (.c .nilsl), none⟩ :: []))
.ret) .skip))
(.seq (.reg (⟨(some 5), .buildSl 9 0 [] [], none⟩ :: ⟨(some 6), .mov (.t 0), none⟩ :: ⟨(some 7), .nilchk (.t 6), none⟩ :: ⟨(some 8), .faddr 1 (.t 7), none⟩ :: ⟨(some 9), .load false 1 (.t 8), none⟩ :: ⟨(some 10), .append 9 96 (.t 5) (.t 9), none⟩ :: ⟨(some 2), .mov (.t 10), none⟩ :: []))
.ret)))⟩
theorem c150_eq : compFn Tryz.prog 150 = some c150 := by kernel_rfl
/-- (*sodality/table.Table[sodality/api.Intention]).none -/
noncomputable def c151 : FnI := ⟨12, [.tmp 2],
(.seq (.reg (⟨(some 2), .mov (.c (.bool false)), none⟩ :: []))
(.seq (.reg (⟨(some 3), .mov (.t 0), none⟩ :: ⟨(some 4), .eq false .ptr (.t 3) (.c .nilp), none⟩ :: ⟨(some 5), .mov (.t 4), none⟩ :: ⟨(some 6), .mov (.t 0), (some (5, false))⟩ :: ⟨(some 7), .nilchk (.t 6), (some (5, false))⟩ :: ⟨(some 8), .faddr 0 (.t 7), (some (5, false))⟩ :: ⟨(some 9), .load false 1 (.t 8), (some (5, false))⟩ :: ⟨(some 10), .bin .eql (.t 9) (.c (.int .i64 (.ofNat 0))), (some (5, false))⟩ :: ⟨(some 11), .pick (.t 5) (.c (.bool true)) (.t 10), none⟩ :: ⟨(some 2), .mov (.t 11), none⟩ :: []))
.ret))⟩
theorem c151_eq : compFn Tryz.prog 151 = some c151 := by kernel_rfl
/-- (*sodality/table.Table[sodality/api.Intention]).List -/
noncomputable def c152 : FnI := ⟨11, [.tmp 2],
(.seq (.reg (⟨(some 2), .mov (.c .nilsl), none⟩ :: []))
(.seq (.seq (.reg (⟨(some 3), .mov (.t 0), none⟩ :: ⟨(some 4), .call 151 [(.t 3)], none⟩ :: []))
(.cond (.t 4) (.seq (.reg (⟨(some 2), .mov (.c .nilsl), none⟩ :: []))
.ret) .skip))
(.seq (.reg (⟨(some 5), .buildSl 8 0 [] [], none⟩ :: ⟨(some 6), .mov (.t 0), none⟩ :: ⟨(some 7), .nilchk (.t 6), none⟩ :: ⟨(some 8), .faddr 1 (.t 7), none⟩ :: ⟨(some 9), .load false 1 (.t 8), none⟩ :: ⟨(some 10), .append 8 88 (.t 5) (.t 9), none⟩ :: ⟨(some 2), .mov (.t 10), none⟩ :: []))
.ret)))⟩
theorem c152_eq : compFn Tryz.prog 152 = some c152 := by kernel_rfl
/-- (*sodality/table.Table[sodality/api.Node]).none -/
noncomputable def c153 : FnI := ⟨12, [.tmp 2],
(.seq (.reg (⟨(some 2), .mov (.c (.bool false)), none⟩ :: []))
(.seq (.reg (⟨(some 3), .mov (.t 0), none⟩ :: ⟨(some 4), .eq false .ptr (.t 3) (.c .nilp), none⟩ :: ⟨(some 5), .mov (.t 4), none⟩ :: ⟨(some 6), .mov (.t 0), (some (5, false))⟩ :: ⟨(some 7), .nilchk (.t 6), (some (5, false))⟩ :: ⟨(some 8), .faddr 0 (.t 7), (some (5, false))⟩ :: ⟨(some 9), .load false 1 (.t 8), (some (5, false))⟩ :: ⟨(some 10), .bin .eql (.t 9) (.c (.int .i64 (.ofNat 0))), (some (5, false))⟩ :: ⟨(some 11), .pick (.t 5) (.c (.bool true)) (.t 10), none⟩ :: ⟨(some 2), .mov (.t 11), none⟩ :: []))
.ret))⟩
theorem c153_eq : compFn Tryz.prog 153 = some c153 := by kernel_rfl
/-- (*sodality/table.Table[sodality/api.Node]).List -/
noncomputable def c154 : FnI := ⟨11, [.tmp 2],
(.seq (.reg (⟨(some 2), .mov (.c .nilsl), none⟩ :: []))
(.seq (.seq (.reg (⟨(some 3), .mov (.t 0), none⟩ :: ⟨(some 4), .call 153 [(.t 3)], none⟩ :: []))
(.cond (.t 4) (.seq (.reg (⟨(some 2), .mov (.c .nilsl), none⟩ :: []))
.ret) .skip))
(.seq (.reg (⟨(some 5), .buildSl 7 0 [] [], none⟩ :: ⟨(some 6), .mov (.t 0), none⟩ :: ⟨(some 7), .nilchk (.t 6), none⟩ :: ⟨(some 8), .faddr 1 (.t 7), none⟩ :: ⟨(some 9), .load false 1 (.t 8), none⟩ :: ⟨(some 10), .append 7 72 (.t 5) (.t 9), none⟩ :: ⟨(some 2), .mov (.t 10), none⟩ :: []))
.ret)))⟩
theorem c154_eq : compFn Tryz.prog 154 = some c154 := by kernel_rfl
/-- (*sodality/table.Table[sodality/api.Service]).none -/
noncomputable def c155 : FnI := ⟨12, [.tmp 2],
(.seq (.reg (⟨(some 2), .mov (.c (.bool false)), none⟩ :: []))
(.seq (.reg (⟨(some 3), .mov (.t 0), none⟩ :: ⟨(some 4), .eq false .ptr (.t 3) (.c .nilp), none⟩ :: ⟨(some 5), .mov (.t 4), none⟩ :: ⟨(some 6), .mov (.t 0), (some (5, false))⟩ :: ⟨(some 7), .nilchk (.t 6), (some (5, false))⟩ :: ⟨(some 8), .faddr 0 (.t 7), (some (5, false))⟩ :: ⟨(some 9), .load false 1 (.t 8), (some (5, false))⟩ :: ⟨(some 10), .bin .eql (.t 9) (.c (.int .i64 (.ofNat 0))), (some (5, false))⟩ :: ⟨(some 11), .pick (.t 5) (.c (.bool true)) (.t 10), none⟩ :: ⟨(some 2), .mov (.t 11), none⟩ :: []))
.ret))⟩
theorem c155_eq : compFn Tryz.prog 155 = some c155 := by kernel_rfl
/-- (*sodality/table.Table[sodality/api.Service]).List -/
noncomputable def c156 : FnI := ⟨11, [.tmp 2],
(.seq (.reg (⟨(some 2), .mov (.c .nilsl), none⟩ :: []))
(.seq (.seq (.reg (⟨(some 3), .mov (.t 0), none⟩ :: ⟨(some 4), .call 155 [(.t 3)], none⟩ :: []))
(.cond (.t 4) (.seq (.reg (⟨(some 2), .mov (.c .nilsl), none⟩ :: []))
.ret) .skip))
(.seq (.reg (⟨(some 5), .buildSl 10 0 [] [], none⟩ :: ⟨(some 6), .mov (.t 0), none⟩ :: ⟨(some 7), .nilchk (.t 6), none⟩ :: ⟨(some 8), .faddr 1 (.t 7), none⟩ :: ⟨(some 9), .load false 1 (.t 8), none⟩ :: ⟨(some 10), .append 10 120 (.t 5) (.t 9), none⟩ :: ⟨(some 2), .mov (.t 10), none⟩ :: []))
.ret)))⟩
theorem c156_eq : compFn Tryz.prog 156 = some c156 := by kernel_rfl
/-- (*sodality/table.Table[sodality/api.Check]).none -/
noncomputable def c157 : FnI := ⟨12, [.tmp 2],
(.seq (.reg (⟨(some 2), .mov (.c (.bool false)), none⟩ :: []))
(.seq (.reg (⟨(some 3), .mov (.t 0), none⟩ :: ⟨(some 4), .eq false .ptr (.t 3) (.c .nilp), none⟩ :: ⟨(some 5), .mov (.t 4), none⟩ :: ⟨(some 6), .mov (.t 0), (some (5, false))⟩ :: ⟨(some 7), .nilchk (.t 6), (some (5, false))⟩ :: ⟨(some 8), .faddr 0 (.t 7), (some (5, false))⟩ :: ⟨(some 9), .load false 1 (.t 8), (some (5, false))⟩ :: ⟨(some 10), .bin .eql (.t 9) (.c (.int .i64 (.ofNat 0))), (some (5, false))⟩ :: ⟨(some 11), .pick (.t 5) (.c (.bool true)) (.t 10), none⟩ :: ⟨(some 2), .mov (.t 11), none⟩ :: []))
.ret))⟩
theorem c157_eq : compFn Tryz.prog 157 = some c157 := by kernel_rfl
/-- (*sodality/table.Table[sodality/api.Check]).List -/
noncomputable def c158 : FnI := ⟨11, [.tmp 2],
(.seq (.reg (⟨(some 2), .mov (.c .nilsl), none⟩ :: []))
(.seq (.seq (.reg (⟨(some 3), .mov (.t 0), none⟩ :: ⟨(some 4), .call 157 [(.t 3)], none⟩ :: []))
(.cond (.t 4) (.seq (.reg (⟨(some 2), .mov (.c .nilsl), none⟩ :: []))
.ret) .skip))
(.seq (.reg (⟨(some 5), .buildSl 10 0 [] [], none⟩ :: ⟨(some 6), .mov (.t 0), none⟩ :: ⟨(some 7), .nilchk (.t 6), none⟩ :: ⟨(some 8), .faddr 1 (.t 7), none⟩ :: ⟨(some 9), .load false 1 (.t 8), none⟩ :: ⟨(some 10), .append 10 112 (.t 5) (.t 9), none⟩ :: ⟨(some 2), .mov (.t 10), none⟩ :: []))
.ret)))⟩
theorem c158_eq : compFn Tryz.prog 158 = some c158 := by kernel_rfl
/-- (*sodality/table.Table[sodality/api.Session]).none -/
noncomputable def c159 : FnI := ⟨12, [.tmp 2],
(.seq (.reg (⟨(some 2), .mov (.c (.bool false)), none⟩ :: []))
(.seq (.reg (⟨(some 3), .mov (.t 0), none⟩ :: ⟨(some 4), .eq false .ptr (.t 3) (.c .nilp), none⟩ :: ⟨(some 5), .mov (.t 4), none⟩ :: ⟨(some 6), .mov (.t 0), (some (5, false))⟩ :: ⟨(some 7), .nilchk (.t 6), (some (5, false))⟩ :: ⟨(some 8), .faddr 0 (.t 7), (some (5, false))⟩ :: ⟨(some 9), .load false 1 (.t 8), (some (5, false))⟩ :: ⟨(some 10), .bin .eql (.t 9) (.c (.int .i64 (.ofNat 0))), (some (5, false))⟩ :: ⟨(some 11), .pick (.t 5) (.c (.bool true)) (.t 10), none⟩ :: ⟨(some 2), .mov (.t 11), none⟩ :: []))
.ret))⟩
theorem c159_eq : compFn Tryz.prog 159 = some c159 := by kernel_rfl
/-- (*sodality/table.Table[sodality/api.Session]).List -/
noncomputable def c160 : FnI := ⟨11, [.tmp 2],
(.seq (.reg (⟨(some 2), .mov (.c .nilsl), none⟩ :: []))
(.seq (.seq (.reg (⟨(some 3), .mov (.t 0), none⟩ :: ⟨(some 4), .call 159 [(.t 3)], none⟩ :: []))
(.cond (.t 4) (.seq (.reg (⟨(some 2), .mov (.c .nilsl), none⟩ :: []))
.ret) .skip))
(.seq (.reg (⟨(some 5), .buildSl 7 0 [] [], none⟩ :: ⟨(some 6), .mov (.t 0), none⟩ :: ⟨(some 7), .nilchk (.t 6), none⟩ :: ⟨(some 8), .faddr 1 (.t 7), none⟩ :: ⟨(some 9), .load false 1 (.t 8), none⟩ :: ⟨(some 10), .append 7 64 (.t 5) (.t 9), none⟩ :: ⟨(some 2), .mov (.t 10), none⟩ :: []))
.ret)))⟩
theorem c160_eq : compFn Tryz.prog 160 = some c160 := by kernel_rfl
/-- (*sodality/roster.Roster).Node -/
noncomputable def c161 : FnI := ⟨37, [.tmp 8],
(.seq (.reg (⟨(some 8), .mov (.c (.int .i64 (.ofNat 0))), none⟩ :: []))
(.seq (.block 0 (.seq (.reg (⟨(some 12), .mov (.t 0), none⟩ :: ⟨(some 13), .call 68 [(.t 12)], none⟩ :: ⟨(some 11), .mov (.t 13), none⟩ :: []))
(.cond (.t 11) (.seq (.reg (⟨(some 8), .mov (.c (.int .i64 (.ofNat 1))), none⟩ :: []))
.ret) (.seq (.reg (⟨(some 15), .mov (.t 1), none⟩ :: ⟨(some 16), .call 207 [(.t 15)], none⟩ :: ⟨(some 17), .un .not (.t 16), none⟩ :: ⟨(some 14), .mov (.t 17), none⟩ :: []))
(.cond (.t 14) (.seq (.reg (⟨(some 8), .mov (.c (.int .i64 (.ofNat 2))), none⟩ :: []))
.ret) (.seq (.reg (⟨(some 19), .mov (.t 2), none⟩ :: ⟨(some 20), .len true (.t 19), none⟩ :: ⟨(some 21), .bin .gtr (.t 20) (.c (.int .i64 (.ofNat 32))), none⟩ :: ⟨(some 18), .mov (.t 21), none⟩ :: []))
(.cond (.t 18) (.seq (.reg (⟨(some 8), .mov (.c (.int .i64 (.ofNat 3))), none⟩ :: []))
.ret) .skip)))))))
(.seq (.dreg (⟨⟨(some 27), .mov (.t 1), none⟩, .quiet, 4, 0⟩ :: ⟨⟨(some 28), .call 209 [(.t 27)], none⟩, .loud, 5, 16⟩ :: ⟨⟨(some 23), .mov (.t 0), none⟩, .quiet, 0, 0⟩ :: ⟨⟨(some 24), .nilchk (.t 23), none⟩, .quiet, 1, 1⟩ :: ⟨⟨(some 25), .faddr 0 (.t 24), none⟩, .quiet, 2, 3⟩ :: ⟨⟨(some 26), .load false 1 (.t 25), none⟩, .load, 3, 7⟩ :: ⟨⟨(some 29), .mov (.t 1), none⟩, .quiet, 6, 0⟩ :: ⟨⟨(some 30), .mov (.t 2), none⟩, .quiet, 7, 0⟩ :: ⟨⟨(some 31), .build [(.int .i64 (.ofNat 0)), (.str []), (.int .u64 (.ofNat 0)), (.int .u64 (.ofNat 0))] [(0, 1, (.t 29)), (1, 1, (.t 30))], none⟩, .quiet, 8, 192⟩ :: ⟨⟨(some 32), .mov (.t 3), none⟩, .quiet, 9, 0⟩ :: ⟨⟨(some 33), .call 208 [(.t 26), (.t 28), (.t 31), (.t 32)], none⟩, .loud, 10, 1023⟩ :: ⟨⟨(some 22), .mov (.t 33), none⟩, .quiet, 11, 2047⟩ :: ⟨⟨(some 34), .extract (.t 22) 0, none⟩, .quiet, 12, 4095⟩ :: ⟨⟨(some 9), .alloc [(.str []), (.int .i64 (.ofNat 0)), (.str []), (.int .u64 (.ofNat 0)), (.int .u64 (.ofNat 0)), (.int .u64 (.ofNat 0)), (.int .u64 (.ofNat 0))], none⟩, .quiet, 14, 0⟩ :: ⟨⟨none, .store 7 (.t 9) (.t 34), none⟩, .loud, 15, 24575⟩ :: ⟨⟨(some 35), .extract (.t 22) 1, none⟩, .quiet, 13, 4095⟩ :: ⟨⟨(some 10), .mov (.t 35), none⟩, .quiet, 16, 65535⟩ :: []))
(.seq (.reg (⟨(some 36), .mov (.t 10), none⟩ :: ⟨(some 8), .mov (.t 36), none⟩ :: []))
.ret))))⟩
theorem c161_eq : compFn Tryz.prog 161 = some c161 := by kernel_rfl
/-- (*sodality/roster.Roster).Service -/
noncomputable def c165 : FnI := ⟨39, [.tmp 6],
(.seq (.reg (⟨(some 4), .box (.t 1), none⟩ :: ⟨(some 6), .mov (.c (.int .i64 (.ofNat 0))), none⟩ :: []))
(.seq (.seq (.reg (⟨(some 10), .mov (.t 0), none⟩ :: ⟨(some 11), .call 68 [(.t 10)], none⟩ :: []))
(.cond (.t 11) (.seq (.reg (⟨(some 6), .mov (.c (.int .i64 (.ofNat 1))), none⟩ :: []))
.ret) .skip))
(.seq (.seq (.reg (⟨(some 12), .mov (.t 0), none⟩ :: ⟨(some 13), .load true 7 (.t 4), none⟩ :: ⟨(some 14), .call 218 [(.t 12), (.t 13)], none⟩ :: ⟨(some 7), .mov (.t 14), none⟩ :: []))
(.seq (.reg (⟨(some 15), .mov (.t 7), none⟩ :: ⟨(some 16), .bin .neq (.t 15) (.c (.int .i64 (.ofNat 0))), none⟩ :: []))
(.cond (.t 16) (.seq (.reg (⟨(some 17), .mov (.t 7), none⟩ :: ⟨(some 6), .mov (.t 17), none⟩ :: []))
.ret) .skip)))
(.seq (.reg (⟨(some 18), .buildSl 1 0 [] [], none⟩ :: ⟨(some 19), .faddr 3 (.t 4), none⟩ :: ⟨(some 20), .load false 1 (.t 19), none⟩ :: ⟨(some 21), .append 1 16 (.t 18) (.t 20), none⟩ :: ⟨(some 22), .faddr 3 (.t 4), none⟩ :: ⟨none, .store 1 (.t 22) (.t 21), none⟩ :: []))
(.seq (.dreg (⟨⟨(some 28), .faddr 0 (.t 4), none⟩, .quiet, 4, 0⟩ :: ⟨⟨(some 29), .load false 1 (.t 28), none⟩, .load, 5, 16⟩ :: ⟨⟨(some 30), .faddr 1 (.t 4), none⟩, .quiet, 6, 0⟩ :: ⟨⟨(some 31), .load false 1 (.t 30), none⟩, .load, 7, 64⟩ :: ⟨⟨(some 32), .call 220 [(.t 29), (.t 31)], none⟩, .loud, 8, 240⟩ :: ⟨⟨(some 24), .mov (.t 0), none⟩, .quiet, 0, 0⟩ :: ⟨⟨(some 25), .nilchk (.t 24), none⟩, .quiet, 1, 1⟩ :: ⟨⟨(some 26), .faddr 1 (.t 25), none⟩, .quiet, 2, 3⟩ :: ⟨⟨(some 27), .load false 1 (.t 26), none⟩, .load, 3, 7⟩ :: ⟨⟨(some 33), .load true 7 (.t 4), none⟩, .load, 9, 0⟩ :: ⟨⟨(some 34), .mov (.t 2), none⟩, .quiet, 10, 0⟩ :: ⟨⟨(some 35), .call 219 [(.t 27), (.t 32), (.t 33), (.t 34)], none⟩, .loud, 11, 2047⟩ :: ⟨⟨(some 23), .mov (.t 35), none⟩, .quiet, 12, 4095⟩ :: ⟨⟨(some 36), .extract (.t 23) 0, none⟩, .quiet, 13, 8191⟩ :: ⟨⟨(some 8), .alloc [(.str []), (.int .i64 (.ofNat 0)), (.str []), (.str []), .nilsl, (.int .i64 (.ofNat 0)), (.int .u64 (.ofNat 0)), (.int .u64 (.ofNat 0)), (.int .u64 (.ofNat 0)), (.int .u64 (.ofNat 0))], none⟩, .quiet, 15, 0⟩ :: ⟨⟨none, .store 10 (.t 8) (.t 36), none⟩, .loud, 16, 49151⟩ :: ⟨⟨(some 37), .extract (.t 23) 1, none⟩, .quiet, 14, 8191⟩ :: ⟨⟨(some 9), .mov (.t 37), none⟩, .quiet, 17, 131071⟩ :: []))
(.seq (.reg (⟨(some 38), .mov (.t 9), none⟩ :: ⟨(some 6), .mov (.t 38), none⟩ :: []))
.ret))))))⟩
theorem c165_eq : compFn Tryz.prog 165 = some c165 := by kernel_rfl
/-- (*sodality/table.Table[sodality/api.Node]).Last -/
noncomputable def c182 : FnI := ⟨9, [.tmp 2],
(.seq (.reg (⟨(some 2), .mov (.c (.int .u64 (.ofNat 0))), none⟩ :: []))
(.seq (.seq (.reg (⟨(some 3), .mov (.t 0), none⟩ :: ⟨(some 4), .call 153 [(.t 3)], none⟩ :: []))
(.cond (.t 4) (.seq (.reg (⟨(some 2), .mov (.c (.int .u64 (.ofNat 0))), none⟩ :: []))
.ret) .skip))
(.seq (.reg (⟨(some 5), .mov (.t 0), none⟩ :: ⟨(some 6), .nilchk (.t 5), none⟩ :: ⟨(some 7), .faddr 2 (.t 6), none⟩ :: ⟨(some 8), .load false 1 (.t 7), none⟩ :: ⟨(some 2), .mov (.t 8), none⟩ :: []))
.ret)))⟩
theorem c182_eq : compFn Tryz.prog 182 = some c182 := by kernel_rfl
/-- (*sodality/table.Table[sodality/api.Service]).Last -/
noncomputable def c183 : FnI := ⟨9, [.tmp 2],
(.seq (.reg (⟨(some 2), .mov (.c (.int .u64 (.ofNat 0))), none⟩ :: []))
(.seq (.seq (.reg (⟨(some 3), .mov (.t 0), none⟩ :: ⟨(some 4), .call 155 [(.t 3)], none⟩ :: []))
(.cond (.t 4) (.seq (.reg (⟨(some 2), .mov (.c (.int .u64 (.ofNat 0))), none⟩ :: []))
.ret) .skip))
(.seq (.reg (⟨(some 5), .mov (.t 0), none⟩ :: ⟨(some 6), .nilchk (.t 5), none⟩ :: ⟨(some 7), .faddr 2 (.t 6), none⟩ :: ⟨(some 8), .load false 1 (.t 7), none⟩ :: ⟨(some 2), .mov (.t 8), none⟩ :: []))
.ret)))⟩
theorem c183_eq : compFn Tryz.prog 183 = some c183 := by kernel_rfl
/-- (*sodality/table.Table[sodality/api.Check]).Last -/
noncomputable def c184 : FnI := ⟨9, [.tmp 2],
(.seq (.reg (⟨(some 2), .mov (.c (.int .u64 (.ofNat 0))), none⟩ :: []))
(.seq (.seq (.reg (⟨(some 3), .mov (.t 0), none⟩ :: ⟨(some 4), .call 157 [(.t 3)], none⟩ :: []))
(.cond (.t 4) (.seq (.reg (⟨(some 2), .mov (.c (.int .u64 (.ofNat 0))), none⟩ :: []))
.ret) .skip))
(.seq (.reg (⟨(some 5), .mov (.t 0), none⟩ :: ⟨(some 6), .nilchk (.t 5), none⟩ :: ⟨(some 7), .faddr 2 (.t 6), none⟩ :: ⟨(some 8), .load false 1 (.t 7), none⟩ :: ⟨(some 2), .mov (.t 8), none⟩ :: []))
.ret)))⟩
theorem c184_eq : compFn Tryz.prog 184 = some c184 := by kernel_rfl
/-- sodality/roster.all[sodality/api.Service] -/
noncomputable def c186 : FnI := ⟨29, [.tmp 4],
(.seq (.reg (⟨(some 3), .box (.t 1), none⟩ :: ⟨(some 4), .mov (.c .nilsl), none⟩ :: []))
(.seq (.reg (⟨(some 5), .mov (.c .nilsl), none⟩ :: []))
(.seq (.seq (.reg (⟨(some 8), .mov (.t 0), none⟩ :: ⟨(some 9), .call 156 [(.t 8)], none⟩ :: ⟨(some 10), .len false (.t 9), none⟩ :: ⟨(some 11), .mov (.c (.int .i64 (.ofNat 0))), none⟩ :: []))
(.block 0 (.loop (.seq (.reg (⟨(some 12), .bin .lss (.t 11) (.t 10), none⟩ :: []))
(.seq (.cond (.t 12) .skip (.exit 0))
(.seq (.block 1 (.seq (.reg (⟨(some 13), .idxS 10 (.t 9) (.t 11), none⟩ :: ⟨(some 14), .load true 10 (.t 13), none⟩ :: ⟨(some 7), .alloc [(.str []), (.int .i64 (.ofNat 0)), (.str []), (.str []), .nilsl, (.int .i64 (.ofNat 0)), (.int .u64 (.ofNat 0)), (.int .u64 (.ofNat 0)), (.int .u64 (.ofNat 0)), (.int .u64 (.ofNat 0))], none⟩ :: ⟨none, .store 10 (.t 7) (.t 14), none⟩ :: []))
(.reg (⟨(some 15), .mov (.t 5), none⟩ :: ⟨(some 16), .faddr 0 (.t 3), none⟩ :: ⟨(some 17), .load false 1 (.t 16), none⟩ :: ⟨(some 18), .faddr 1 (.t 7), none⟩ :: ⟨(some 19), .load true 7 (.t 18), none⟩ :: ⟨(some 20), .faddr 8 (.t 7), none⟩ :: ⟨(some 21), .load false 1 (.t 20), none⟩ :: ⟨(some 22), .faddr 9 (.t 7), none⟩ :: ⟨(some 23), .load false 1 (.t 22), none⟩ :: ⟨(some 24), .callv (.t 17) [(.t 19), (.t 21), (.t 23)], none⟩ :: ⟨(some 25), .buildSl 7 1 [(.int .i64 (.ofNat 0)), (.str []), (.str []), .nilsl, (.int .i64 (.ofNat 0)), (.int .u64 (.ofNat 0)), (.int .u64 (.ofNat 0))] [(0, 7, (.t 24))], none⟩ :: ⟨(some 26), .append 7 88 (.t 15) (.t 25), none⟩ :: ⟨(some 5), .mov (.t 26), none⟩ :: []))))
(.reg (⟨(some 27), .bin .add (.t 11) (.c (.int .i64 (.ofNat 1))), none⟩ :: ⟨(some 11), .mov (.t 27), none⟩ :: []))))))))
(.seq (.reg (⟨(some 28), .mov (.t 5), none⟩ :: ⟨(some 4), .mov (.t 28), none⟩ :: []))
.ret))))⟩
theorem c186_eq : compFn Tryz.prog 186 = some c186 := by kernel_rfl
/-- (*sodality/roster.Roster).Services$1 -/
noncomputable def c187 : FnI := ⟨17, [.cell 6 true 7],
(.seq (.reg (⟨(some 3), .box (.t 0), none⟩ :: ⟨(some 6), .alloc [(.int .i64 (.ofNat 0)), (.str []), (.str []), .nilsl, (.int .i64 (.ofNat 0)), (.int .u64 (.ofNat 0)), (.int .u64 (.ofNat 0))], none⟩ :: []))
(.seq (.reg (⟨(some 7), .mov (.t 1), none⟩ :: ⟨(some 8), .mov (.t 2), none⟩ :: ⟨(some 9), .faddr 5 (.t 3), none⟩ :: ⟨none, .store 1 (.t 9) (.t 7), none⟩ :: ⟨(some 10), .faddr 6 (.t 3), none⟩ :: ⟨none, .store 1 (.t 10) (.t 8), none⟩ :: []))
(.seq (.reg (⟨(some 11), .buildSl 1 0 [] [], none⟩ :: ⟨(some 12), .faddr 3 (.t 3), none⟩ :: ⟨(some 13), .load false 1 (.t 12), none⟩ :: ⟨(some 14), .append 1 16 (.t 11) (.t 13), none⟩ :: ⟨(some 15), .faddr 3 (.t 3), none⟩ :: ⟨none, .store 1 (.t 15) (.t 14), none⟩ :: []))
(.seq (.reg (⟨(some 16), .load true 7 (.t 3), none⟩ :: ⟨none, .store 7 (.t 6) (.t 16), none⟩ :: []))
.ret))))⟩
theorem c187_eq : compFn Tryz.prog 187 = some c187 := by kernel_rfl
/-- (*sodality/roster.Roster).Checks -/
noncomputable def c190 : FnI := ⟨11, [.tmp 2],
(.seq (.reg (⟨(some 2), .mov (.c .nilsl), none⟩ :: []))
(.seq (.seq (.reg (⟨(some 3), .mov (.t 0), none⟩ :: ⟨(some 4), .call 68 [(.t 3)], none⟩ :: []))
(.cond (.t 4) (.seq (.reg (⟨(some 2), .mov (.c .nilsl), none⟩ :: []))
.ret) .skip))
(.seq (.reg (⟨(some 5), .mov (.t 0), none⟩ :: ⟨(some 6), .nilchk (.t 5), none⟩ :: ⟨(some 7), .faddr 2 (.t 6), none⟩ :: ⟨(some 8), .load false 1 (.t 7), none⟩ :: ⟨(some 9), .build [.nilfn] [(0, 1, (.c (.fn (.func 246) [] [])))], none⟩ :: ⟨(some 10), .call 245 [(.t 8), (.t 9)], none⟩ :: ⟨(some 2), .mov (.t 10), none⟩ :: []))
.ret)))⟩
theorem c190_eq : compFn Tryz.prog 190 = some c190 := by kernel_rfl
/-- sodality/roster.right -/
noncomputable def c207 : FnI := ⟨9, [.tmp 2],
(.seq (.reg (⟨(some 2), .mov (.c (.bool false)), none⟩ :: []))
(.seq (.reg (⟨(some 3), .mov (.t 0), none⟩ :: ⟨(some 4), .bin .geq (.t 3) (.c (.int .i64 (.ofNat 0))), none⟩ :: ⟨(some 5), .mov (.t 4), none⟩ :: ⟨(some 6), .mov (.t 0), (some (5, true))⟩ :: ⟨(some 7), .bin .lss (.t 6) (.c (.int .i64 (.ofNat 8))), (some (5, true))⟩ :: ⟨(some 8), .pick (.t 5) (.t 7) (.c (.bool false)), none⟩ :: ⟨(some 2), .mov (.t 8), none⟩ :: []))
.ret))⟩
theorem c207_eq : compFn Tryz.prog 207 = some c207 := by kernel_rfl
/-- (*sodality/table.Table[sodality/api.Node]).Put -/
noncomputable def c208 : FnI := ⟨94, [.cell 8 true 7, .tmp 9],
(.seq (.reg (⟨(some 6), .box (.t 2), none⟩ :: ⟨(some 8), .alloc [(.str []), (.int .i64 (.ofNat 0)), (.str []), (.int .u64 (.ofNat 0)), (.int .u64 (.ofNat 0)), (.int .u64 (.ofNat 0)), (.int .u64 (.ofNat 0))], none⟩ :: ⟨(some 9), .mov (.c (.int .i64 (.ofNat 0))), none⟩ :: []))
(.seq (.seq (.reg (⟨(some 13), .mov (.t 0), none⟩ :: ⟨(some 14), .call 153 [(.t 13)], none⟩ :: []))
(.cond (.t 14) (.seq (.reg (⟨(some 15), .build [(.str []), (.int .i64 (.ofNat 0)), (.str []), (.int .u64 (.ofNat 0)), (.int .u64 (.ofNat 0)), (.int .u64 (.ofNat 0)), (.int .u64 (.ofNat 0))] [], none⟩ :: ⟨none, .store 7 (.t 8) (.t 15), none⟩ :: ⟨(some 9), .mov (.c (.int .i64 (.ofNat 1))), none⟩ :: []))
.ret) .skip))
(.seq (.reg (⟨(some 17), .mov (.t 0), none⟩ :: ⟨(some 18), .mov (.t 1), none⟩ :: ⟨(some 19), .call 256 [(.t 17), (.t 18)], none⟩ :: ⟨(some 16), .mov (.t 19), none⟩ :: ⟨(some 20), .extract (.t 16) 0, none⟩ :: ⟨(some 21), .extract (.t 16) 1, none⟩ :: ⟨(some 10), .mov (.t 20), none⟩ :: ⟨(some 11), .mov (.t 21), none⟩ :: []))
(.seq (.seq (.dreg (⟨⟨(some 22), .mov (.t 11), none⟩, .quiet, 0, 0⟩ :: ⟨⟨(some 23), .un .not (.t 22), none⟩, .quiet, 1, 1⟩ :: ⟨⟨(some 24), .mov (.t 23), none⟩, .quiet, 2, 3⟩ :: ⟨⟨(some 25), .mov (.t 0), (some (24, true))⟩, .quiet, 3, 7⟩ :: ⟨⟨(some 26), .nilchk (.t 25), (some (24, true))⟩, .quiet, 4, 15⟩ :: ⟨⟨(some 27), .faddr 1 (.t 26), (some (24, true))⟩, .quiet, 5, 31⟩ :: ⟨⟨(some 28), .load false 1 (.t 27), (some (24, true))⟩, .load, 6, 63⟩ :: ⟨⟨(some 29), .len false (.t 28), (some (24, true))⟩, .quiet, 7, 127⟩ :: ⟨⟨(some 30), .mov (.t 0), (some (24, true))⟩, .quiet, 8, 7⟩ :: ⟨⟨(some 31), .nilchk (.t 30), (some (24, true))⟩, .quiet, 9, 263⟩ :: ⟨⟨(some 32), .faddr 0 (.t 31), (some (24, true))⟩, .quiet, 10, 775⟩ :: ⟨⟨(some 33), .load false 1 (.t 32), (some (24, true))⟩, .load, 11, 1799⟩ :: ⟨⟨(some 34), .bin .geq (.t 29) (.t 33), (some (24, true))⟩, .quiet, 12, 4095⟩ :: ⟨⟨(some 35), .pick (.t 24) (.t 34) (.c (.bool false)), none⟩, .quiet, 13, 8191⟩ :: []))
(.cond (.t 35) (.seq (.reg (⟨(some 36), .build [(.str []), (.int .i64 (.ofNat 0)), (.str []), (.int .u64 (.ofNat 0)), (.int .u64 (.ofNat 0)), (.int .u64 (.ofNat 0)), (.int .u64 (.ofNat 0))] [], none⟩ :: ⟨none, .store 7 (.t 8) (.t 36), none⟩ :: ⟨(some 9), .mov (.c (.int .i64 (.ofNat 5))), none⟩ :: []))
.ret) .skip))
(.seq (.reg (⟨(some 37), .mov (.t 1), none⟩ :: ⟨(some 38), .load true 4 (.t 6), none⟩ :: ⟨(some 39), .mov (.t 3), none⟩ :: ⟨(some 40), .mov (.t 3), none⟩ :: ⟨(some 41), .build [(.str []), (.int .i64 (.ofNat 0)), (.str []), (.int .u64 (.ofNat 0)), (.int .u64 (.ofNat 0)), (.int .u64 (.ofNat 0)), (.int .u64 (.ofNat 0))] [(0, 1, (.t 37)), (1, 4, (.t 38)), (5, 1, (.t 39)), (6, 1, (.t 40))], none⟩ :: ⟨(some 12), .alloc [(.str []), (.int .i64 (.ofNat 0)), (.str []), (.int .u64 (.ofNat 0)), (.int .u64 (.ofNat 0)), (.int .u64 (.ofNat 0)), (.int .u64 (.ofNat 0))], none⟩ :: ⟨none, .store 7 (.t 12) (.t 41), none⟩ :: []))
(.seq (.seq (.reg (⟨(some 42), .mov (.t 11), none⟩ :: []))
(.cond (.t 42) (.seq (.reg (⟨(some 43), .mov (.t 0), none⟩ :: ⟨(some 44), .nilchk (.t 43), none⟩ :: ⟨(some 45), .faddr 1 (.t 44), none⟩ :: ⟨(some 46), .load false 1 (.t 45), none⟩ :: ⟨(some 47), .mov (.t 10), none⟩ :: ⟨(some 48), .idxS 7 (.t 46) (.t 47), none⟩ :: ⟨(some 49), .faddr 5 (.t 48), none⟩ :: ⟨(some 50), .load false 1 (.t 49), none⟩ :: ⟨(some 51), .faddr 5 (.t 12), none⟩ :: ⟨none, .store 1 (.t 51) (.t 50), none⟩ :: []))
(.dreg (⟨⟨(some 52), .mov (.t 0), none⟩, .quiet, 0, 0⟩ :: ⟨⟨(some 53), .nilchk (.t 52), none⟩, .quiet, 1, 1⟩ :: ⟨⟨(some 54), .faddr 1 (.t 53), none⟩, .quiet, 2, 3⟩ :: ⟨⟨(some 55), .load false 1 (.t 54), none⟩, .load, 3, 7⟩ :: ⟨⟨(some 56), .mov (.t 10), none⟩, .quiet, 4, 0⟩ :: ⟨⟨(some 57), .load true 7 (.t 12), none⟩, .load, 5, 0⟩ :: ⟨⟨(some 58), .idxS 7 (.t 55) (.t 56), none⟩, .quiet, 6, 63⟩ :: ⟨⟨none, .store 7 (.t 58) (.t 57), none⟩, .loud, 7, 127⟩ :: []))) (.seq (.reg (⟨(some 59), .mov (.t 0), none⟩ :: ⟨(some 60), .mov (.t 0), none⟩ :: ⟨(some 61), .nilchk (.t 60), none⟩ :: ⟨(some 62), .faddr 1 (.t 61), none⟩ :: ⟨(some 63), .load false 1 (.t 62), none⟩ :: ⟨(some 64), .build [(.str []), (.int .i64 (.ofNat 0)), (.str []), (.int .u64 (.ofNat 0)), (.int .u64 (.ofNat 0)), (.int .u64 (.ofNat 0)), (.int .u64 (.ofNat 0))] [], none⟩ :: ⟨(some 65), .buildSl 7 1 [(.str []), (.int .i64 (.ofNat 0)), (.str []), (.int .u64 (.ofNat 0)), (.int .u64 (.ofNat 0)), (.int .u64 (.ofNat 0)), (.int .u64 (.ofNat 0))] [(0, 7, (.t 64))], none⟩ :: ⟨(some 66), .append 7 72 (.t 63) (.t 65), none⟩ :: ⟨(some 67), .nilchk (.t 59), none⟩ :: ⟨(some 68), .faddr 1 (.t 67), none⟩ :: ⟨none, .store 1 (.t 68) (.t 66), none⟩ :: []))
(.seq (.dreg (⟨⟨(some 69), .mov (.t 0), none⟩, .quiet, 0, 0⟩ :: ⟨⟨(some 70), .nilchk (.t 69), none⟩, .quiet, 1, 1⟩ :: ⟨⟨(some 71), .faddr 1 (.t 70), none⟩, .quiet, 2, 3⟩ :: ⟨⟨(some 72), .load false 1 (.t 71), none⟩, .load, 3, 7⟩ :: ⟨⟨(some 73), .mov (.t 10), none⟩, .quiet, 4, 0⟩ :: ⟨⟨(some 74), .bin .add (.t 73) (.c (.int .i64 (.ofNat 1))), none⟩, .quiet, 5, 16⟩ :: ⟨⟨(some 75), .slS 7 (.t 72) (some (.t 74)) none none, none⟩, .quiet, 6, 63⟩ :: ⟨⟨(some 76), .mov (.t 0), none⟩, .quiet, 7, 0⟩ :: ⟨⟨(some 77), .nilchk (.t 76), none⟩, .quiet, 8, 128⟩ :: ⟨⟨(some 78), .faddr 1 (.t 77), none⟩, .quiet, 9, 384⟩ :: ⟨⟨(some 79), .load false 1 (.t 78), none⟩, .load, 10, 896⟩ :: ⟨⟨(some 80), .mov (.t 10), none⟩, .quiet, 11, 0⟩ :: ⟨⟨(some 81), .slS 7 (.t 79) (some (.t 80)) none none, none⟩, .quiet, 12, 3968⟩ :: ⟨⟨(some 82), .copy 7 (.t 75) (.t 81), none⟩, .loud, 13, 8191⟩ :: []))
(.dreg (⟨⟨(some 83), .mov (.t 0), none⟩, .quiet, 0, 0⟩ :: ⟨⟨(some 84), .nilchk (.t 83), none⟩, .quiet, 1, 1⟩ :: ⟨⟨(some 85), .faddr 1 (.t 84), none⟩, .quiet, 2, 3⟩ :: ⟨⟨(some 86), .load false 1 (.t 85), none⟩, .load, 3, 7⟩ :: ⟨⟨(some 87), .mov (.t 10), none⟩, .quiet, 4, 0⟩ :: ⟨⟨(some 88), .load true 7 (.t 12), none⟩, .load, 5, 0⟩ :: ⟨⟨(some 89), .idxS 7 (.t 86) (.t 87), none⟩, .quiet, 6, 63⟩ :: ⟨⟨none, .store 7 (.t 89) (.t 88), none⟩, .loud, 7, 127⟩ :: []))))))
(.seq (.reg (⟨(some 90), .mov (.t 0), none⟩ :: ⟨(some 91), .mov (.t 3), none⟩ :: ⟨(some 92), .call 257 [(.t 90), (.t 91)], none⟩ :: []))
(.seq (.reg (⟨(some 93), .load true 7 (.t 12), none⟩ :: ⟨none, .store 7 (.t 8) (.t 93), none⟩ :: ⟨(some 9), .mov (.c (.int .i64 (.ofNat 0))), none⟩ :: []))
.ret))))))))⟩
theorem c208_eq : compFn Tryz.prog 208 = some c208 := by kernel_rfl
/-- sodality/roster.digit -/
noncomputable def c209 : FnI := ⟨8, [.tmp 2],
(.seq (.reg (⟨(some 2), .mov (.c (.str [])), none⟩ :: []))
(.seq (.reg (⟨(some 3), .mov (.t 0), none⟩ :: ⟨(some 4), .cvInt .u8 (.t 3), none⟩ :: ⟨(some 5), .bin .add (.c (.int .u8 (.ofNat 48))) (.t 4), none⟩ :: ⟨(some 6), .buildSl 1 1 [(.int .u8 (.ofNat 0))] [(0, 1, (.t 5))], none⟩ :: ⟨(some 7), .cvStr (.t 6), none⟩ :: ⟨(some 2), .mov (.t 7), none⟩ :: []))
.ret))⟩
theorem c209_eq : compFn Tryz.prog 209 = some c209 := by kernel_rfl
/-- (*sodality/roster.Roster).there -/
noncomputable def c210 : FnI := ⟨21, [.tmp 4],
(.seq (.reg (⟨(some 4), .mov (.c (.bool false)), none⟩ :: []))
(.seq (.seq (.reg (⟨(some 7), .mov (.t 1), none⟩ :: ⟨(some 8), .call 207 [(.t 7)], none⟩ :: ⟨(some 9), .un .not (.t 8), none⟩ :: []))
(.cond (.t 9) (.seq (.reg (⟨(some 4), .mov (.c (.bool false)), none⟩ :: []))
.ret) .skip))
(.seq (.dreg (⟨⟨(some 15), .mov (.t 1), none⟩, .quiet, 4, 0⟩ :: ⟨⟨(some 16), .call 209 [(.t 15)], none⟩, .loud, 5, 16⟩ :: ⟨⟨(some 11), .mov (.t 0), none⟩, .quiet, 0, 0⟩ :: ⟨⟨(some 12), .nilchk (.t 11), none⟩, .quiet, 1, 1⟩ :: ⟨⟨(some 13), .faddr 0 (.t 12), none⟩, .quiet, 2, 3⟩ :: ⟨⟨(some 14), .load false 1 (.t 13), none⟩, .load, 3, 7⟩ :: ⟨⟨(some 17), .call 258 [(.t 14), (.t 16)], none⟩, .loud, 6, 63⟩ :: ⟨⟨(some 10), .mov (.t 17), none⟩, .quiet, 7, 127⟩ :: ⟨⟨(some 18), .extract (.t 10) 0, none⟩, .quiet, 8, 255⟩ :: ⟨⟨(some 5), .alloc [(.str []), (.int .i64 (.ofNat 0)), (.str []), (.int .u64 (.ofNat 0)), (.int .u64 (.ofNat 0)), (.int .u64 (.ofNat 0)), (.int .u64 (.ofNat 0))], none⟩, .quiet, 10, 0⟩ :: ⟨⟨none, .store 7 (.t 5) (.t 18), none⟩, .loud, 11, 1535⟩ :: ⟨⟨(some 19), .extract (.t 10) 1, none⟩, .quiet, 9, 255⟩ :: ⟨⟨(some 6), .mov (.t 19), none⟩, .quiet, 12, 4095⟩ :: []))
(.seq (.reg (⟨(some 20), .mov (.t 6), none⟩ :: ⟨(some 4), .mov (.t 20), none⟩ :: []))
.ret))))⟩
theorem c210_eq : compFn Tryz.prog 210 = some c210 := by kernel_rfl
/-- (*sodality/roster.Roster).wrongService -/
noncomputable def c218 : FnI := ⟨43, [.tmp 4],
(.seq (.reg (⟨(some 3), .box (.t 1), none⟩ :: ⟨(some 4), .mov (.c (.int .i64 (.ofNat 0))), none⟩ :: []))
(.seq (.block 0 (.seq (.reg (⟨(some 6), .faddr 0 (.t 3), none⟩ :: ⟨(some 7), .load false 1 (.t 6), none⟩ :: ⟨(some 8), .call 207 [(.t 7)], none⟩ :: ⟨(some 9), .un .not (.t 8), none⟩ :: ⟨(some 10), .mov (.t 9), none⟩ :: ⟨(some 11), .faddr 4 (.t 3), (some (10, false))⟩ :: ⟨(some 12), .load false 1 (.t 11), (some (10, false))⟩ :: ⟨(some 13), .bin .lss (.t 12) (.c (.int .i64 (.ofNat 0))), (some (10, false))⟩ :: ⟨(some 14), .pick (.t 10) (.c (.bool true)) (.t 13), none⟩ :: ⟨(some 15), .mov (.t 14), none⟩ :: ⟨(some 16), .faddr 4 (.t 3), (some (15, false))⟩ :: ⟨(some 17), .load false 1 (.t 16), (some (15, false))⟩ :: ⟨(some 18), .bin .gtr (.t 17) (.c (.int .i64 (.ofNat 65535))), (some (15, false))⟩ :: ⟨(some 19), .pick (.t 15) (.c (.bool true)) (.t 18), none⟩ :: ⟨(some 5), .mov (.t 19), none⟩ :: []))
(.cond (.t 5) (.seq (.reg (⟨(some 4), .mov (.c (.int .i64 (.ofNat 2))), none⟩ :: []))
.ret) (.seq (.reg (⟨(some 21), .faddr 1 (.t 3), none⟩ :: ⟨(some 22), .load false 1 (.t 21), none⟩ :: ⟨(some 23), .call 50 [(.t 22)], none⟩ :: ⟨(some 24), .un .not (.t 23), none⟩ :: ⟨(some 25), .mov (.t 24), none⟩ :: ⟨(some 26), .faddr 2 (.t 3), (some (25, false))⟩ :: ⟨(some 27), .load false 1 (.t 26), (some (25, false))⟩ :: ⟨(some 28), .call 50 [(.t 27)], (some (25, false))⟩ :: ⟨(some 29), .un .not (.t 28), (some (25, false))⟩ :: ⟨(some 30), .pick (.t 25) (.c (.bool true)) (.t 29), none⟩ :: ⟨(some 31), .mov (.t 30), none⟩ :: ⟨(some 32), .faddr 3 (.t 3), (some (31, false))⟩ :: ⟨(some 33), .load false 1 (.t 32), (some (31, false))⟩ :: ⟨(some 34), .call 266 [(.t 33)], (some (31, false))⟩ :: ⟨(some 35), .un .not (.t 34), (some (31, false))⟩ :: ⟨(some 36), .pick (.t 31) (.c (.bool true)) (.t 35), none⟩ :: ⟨(some 20), .mov (.t 36), none⟩ :: []))
(.cond (.t 20) (.seq (.reg (⟨(some 4), .mov (.c (.int .i64 (.ofNat 10))), none⟩ :: []))
.ret) (.seq (.reg (⟨(some 38), .mov (.t 0), none⟩ :: ⟨(some 39), .faddr 0 (.t 3), none⟩ :: ⟨(some 40), .load false 1 (.t 39), none⟩ :: ⟨(some 41), .call 210 [(.t 38), (.t 40)], none⟩ :: ⟨(some 42), .un .not (.t 41), none⟩ :: ⟨(some 37), .mov (.t 42), none⟩ :: []))
(.cond (.t 37) (.seq (.reg (⟨(some 4), .mov (.c (.int .i64 (.ofNat 4))), none⟩ :: []))
.ret) .skip)))))))
(.seq (.reg (⟨(some 4), .mov (.c (.int .i64 (.ofNat 0))), none⟩ :: []))
.ret)))⟩
theorem c218_eq : compFn Tryz.prog 218 = some c218 := by kernel_rfl
/-- (*sodality/table.Table[sodality/api.Service]).Put -/
noncomputable def c219 : FnI := ⟨94, [.cell 8 true 10, .tmp 9],
(.seq (.reg (⟨(some 6), .box (.t 2), none⟩ :: ⟨(some 8), .alloc [(.str []), (.int .i64 (.ofNat 0)), (.str []), (.str []), .nilsl, (.int .i64 (.ofNat 0)), (.int .u64 (.ofNat 0)), (.int .u64 (.ofNat 0)), (.int .u64 (.ofNat 0)), (.int .u64 (.ofNat 0))], none⟩ :: ⟨(some 9), .mov (.c (.int .i64 (.ofNat 0))), none⟩ :: []))
(.seq (.seq (.reg (⟨(some 13), .mov (.t 0), none⟩ :: ⟨(some 14), .call 155 [(.t 13)], none⟩ :: []))
(.cond (.t 14) (.seq (.reg (⟨(some 15), .build [(.str []), (.int .i64 (.ofNat 0)), (.str []), (.str []), .nilsl, (.int .i64 (.ofNat 0)), (.int .u64 (.ofNat 0)), (.int .u64 (.ofNat 0)), (.int .u64 (.ofNat 0)), (.int .u64 (.ofNat 0))] [], none⟩ :: ⟨none, .store 10 (.t 8) (.t 15), none⟩ :: ⟨(some 9), .mov (.c (.int .i64 (.ofNat 1))), none⟩ :: []))
.ret) .skip))
(.seq (.reg (⟨(some 17), .mov (.t 0), none⟩ :: ⟨(some 18), .mov (.t 1), none⟩ :: ⟨(some 19), .call 261 [(.t 17), (.t 18)], none⟩ :: ⟨(some 16), .mov (.t 19), none⟩ :: ⟨(some 20), .extract (.t 16) 0, none⟩ :: ⟨(some 21), .extract (.t 16) 1, none⟩ :: ⟨(some 10), .mov (.t 20), none⟩ :: ⟨(some 11), .mov (.t 21), none⟩ :: []))
(.seq (.seq (.dreg (⟨⟨(some 22), .mov (.t 11), none⟩, .quiet, 0, 0⟩ :: ⟨⟨(some 23), .un .not (.t 22), none⟩, .quiet, 1, 1⟩ :: ⟨⟨(some 24), .mov (.t 23), none⟩, .quiet, 2, 3⟩ :: ⟨⟨(some 25), .mov (.t 0), (some (24, true))⟩, .quiet, 3, 7⟩ :: ⟨⟨(some 26), .nilchk (.t 25), (some (24, true))⟩, .quiet, 4, 15⟩ :: ⟨⟨(some 27), .faddr 1 (.t 26), (some (24, true))⟩, .quiet, 5, 31⟩ :: ⟨⟨(some 28), .load false 1 (.t 27), (some (24, true))⟩, .load, 6, 63⟩ :: ⟨⟨(some 29), .len false (.t 28), (some (24, true))⟩, .quiet, 7, 127⟩ :: ⟨⟨(some 30), .mov (.t 0), (some (24, true))⟩, .quiet, 8, 7⟩ :: ⟨⟨(some 31), .nilchk (.t 30), (some (24, true))⟩, .quiet, 9, 263⟩ :: ⟨⟨(some 32), .faddr 0 (.t 31), (some (24, true))⟩, .quiet, 10, 775⟩ :: ⟨⟨(some 33), .load false 1 (.t 32), (some (24, true))⟩, .load, 11, 1799⟩ :: ⟨⟨(some 34), .bin .geq (.t 29) (.t 33), (some (24, true))⟩, .quiet, 12, 4095⟩ :: ⟨⟨(some 35), .pick (.t 24) (.t 34) (.c (.bool false)), none⟩, .quiet, 13, 8191⟩ :: []))
(.cond (.t 35) (.seq (.reg (⟨(some 36), .build [(.str []), (.int .i64 (.ofNat 0)), (.str []), (.str []), .nilsl, (.int .i64 (.ofNat 0)), (.int .u64 (.ofNat 0)), (.int .u64 (.ofNat 0)), (.int .u64 (.ofNat 0)), (.int .u64 (.ofNat 0))] [], none⟩ :: ⟨none, .store 10 (.t 8) (.t 36), none⟩ :: ⟨(some 9), .mov (.c (.int .i64 (.ofNat 5))), none⟩ :: []))
.ret) .skip))
(.seq (.reg (⟨(some 37), .mov (.t 1), none⟩ :: ⟨(some 38), .load true 7 (.t 6), none⟩ :: ⟨(some 39), .mov (.t 3), none⟩ :: ⟨(some 40), .mov (.t 3), none⟩ :: ⟨(some 41), .build [(.str []), (.int .i64 (.ofNat 0)), (.str []), (.str []), .nilsl, (.int .i64 (.ofNat 0)), (.int .u64 (.ofNat 0)), (.int .u64 (.ofNat 0)), (.int .u64 (.ofNat 0)), (.int .u64 (.ofNat 0))] [(0, 1, (.t 37)), (1, 7, (.t 38)), (8, 1, (.t 39)), (9, 1, (.t 40))], none⟩ :: ⟨(some 12), .alloc [(.str []), (.int .i64 (.ofNat 0)), (.str []), (.str []), .nilsl, (.int .i64 (.ofNat 0)), (.int .u64 (.ofNat 0)), (.int .u64 (.ofNat 0)), (.int .u64 (.ofNat 0)), (.int .u64 (.ofNat 0))], none⟩ :: ⟨none, .store 10 (.t 12) (.t 41), none⟩ :: []))
(.seq (.seq (.reg (⟨(some 42), .mov (.t 11), none⟩ :: []))
(.cond (.t 42) (.seq (.reg (⟨(some 43), .mov (.t 0), none⟩ :: ⟨(some 44), .nilchk (.t 43), none⟩ :: ⟨(some 45), .faddr 1 (.t 44), none⟩ :: ⟨(some 46), .load false 1 (.t 45), none⟩ :: ⟨(some 47), .mov (.t 10), none⟩ :: ⟨(some 48), .idxS 10 (.t 46) (.t 47), none⟩ :: ⟨(some 49), .faddr 8 (.t 48), none⟩ :: ⟨(some 50), .load false 1 (.t 49), none⟩ :: ⟨(some 51), .faddr 8 (.t 12), none⟩ :: ⟨none, .store 1 (.t 51) (.t 50), none⟩ :: []))
(.dreg (⟨⟨(some 52), .mov (.t 0), none⟩, .quiet, 0, 0⟩ :: ⟨⟨(some 53), .nilchk (.t 52), none⟩, .quiet, 1, 1⟩ :: ⟨⟨(some 54), .faddr 1 (.t 53), none⟩, .quiet, 2, 3⟩ :: ⟨⟨(some 55), .load false 1 (.t 54), none⟩, .load, 3, 7⟩ :: ⟨⟨(some 56), .mov (.t 10), none⟩, .quiet, 4, 0⟩ :: ⟨⟨(some 57), .load true 10 (.t 12), none⟩, .load, 5, 0⟩ :: ⟨⟨(some 58), .idxS 10 (.t 55) (.t 56), none⟩, .quiet, 6, 63⟩ :: ⟨⟨none, .store 10 (.t 58) (.t 57), none⟩, .loud, 7, 127⟩ :: []))) (.seq (.reg (⟨(some 59), .mov (.t 0), none⟩ :: ⟨(some 60), .mov (.t 0), none⟩ :: ⟨(some 61), .nilchk (.t 60), none⟩ :: ⟨(some 62), .faddr 1 (.t 61), none⟩ :: ⟨(some 63), .load false 1 (.t 62), none⟩ :: ⟨(some 64), .build [(.str []), (.int .i64 (.ofNat 0)), (.str []), (.str []), .nilsl, (.int .i64 (.ofNat 0)), (.int .u64 (.ofNat 0)), (.int .u64 (.ofNat 0)), (.int .u64 (.ofNat 0)), (.int .u64 (.ofNat 0))] [], none⟩ :: ⟨(some 65), .buildSl 10 1 [(.str []), (.int .i64 (.ofNat 0)), (.str []), (.str []), .nilsl, (.int .i64 (.ofNat 0)), (.int .u64 (.ofNat 0)), (.int .u64 (.ofNat 0)), (.int .u64 (.ofNat 0)), (.int .u64 (.ofNat 0))] [(0, 10, (.t 64))], none⟩ :: ⟨(some 66), .append 10 120 (.t 63) (.t 65), none⟩ :: ⟨(some 67), .nilchk (.t 59), none⟩ :: ⟨(some 68), .faddr 1 (.t 67), none⟩ :: ⟨none, .store 1 (.t 68) (.t 66), none⟩ :: []))
(.seq (.dreg (⟨⟨(some 69), .mov (.t 0), none⟩, .quiet, 0, 0⟩ :: ⟨⟨(some 70), .nilchk (.t 69), none⟩, .quiet, 1, 1⟩ :: ⟨⟨(some 71), .faddr 1 (.t 70), none⟩, .quiet, 2, 3⟩ :: ⟨⟨(some 72), .load false 1 (.t 71), none⟩, .load, 3, 7⟩ :: ⟨⟨(some 73), .mov (.t 10), none⟩, .quiet, 4, 0⟩ :: ⟨⟨(some 74), .bin .add (.t 73) (.c (.int .i64 (.ofNat 1))), none⟩, .quiet, 5, 16⟩ :: ⟨⟨(some 75), .slS 10 (.t 72) (some (.t 74)) none none, none⟩, .quiet, 6, 63⟩ :: ⟨⟨(some 76), .mov (.t 0), none⟩, .quiet, 7, 0⟩ :: ⟨⟨(some 77), .nilchk (.t 76), none⟩, .quiet, 8, 128⟩ :: ⟨⟨(some 78), .faddr 1 (.t 77), none⟩, .quiet, 9, 384⟩ :: ⟨⟨(some 79), .load false 1 (.t 78), none⟩, .load, 10, 896⟩ :: ⟨⟨(some 80), .mov (.t 10), none⟩, .quiet, 11, 0⟩ :: ⟨⟨(some 81), .slS 10 (.t 79) (some (.t 80)) none none, none⟩, .quiet, 12, 3968⟩ :: ⟨⟨(some 82), .copy 10 (.t 75) (.t 81), none⟩, .loud, 13, 8191⟩ :: []))
(.dreg (⟨⟨(some 83), .mov (.t 0), none⟩, .quiet, 0, 0⟩ :: ⟨⟨(some 84), .nilchk (.t 83), none⟩, .quiet, 1, 1⟩ :: ⟨⟨(some 85), .faddr 1 (.t 84), none⟩, .quiet, 2, 3⟩ :: ⟨⟨(some 86), .load false 1 (.t 85), none⟩, .load, 3, 7⟩ :: ⟨⟨(some 87), .mov (.t 10), none⟩, .quiet, 4, 0⟩ :: ⟨⟨(some 88), .load true 10 (.t 12), none⟩, .load, 5, 0⟩ :: ⟨⟨(some 89), .idxS 10 (.t 86) (.t 87), none⟩, .quiet, 6, 63⟩ :: ⟨⟨none, .store 10 (.t 89) (.t 88), none⟩, .loud, 7, 127⟩ :: []))))))
(.seq (.reg (⟨(some 90), .mov (.t 0), none⟩ :: ⟨(some 91), .mov (.t 3), none⟩ :: ⟨(some 92), .call 262 [(.t 90), (.t 91)], none⟩ :: []))
(.seq (.reg (⟨(some 93), .load true 10 (.t 12), none⟩ :: ⟨none, .store 10 (.t 8) (.t 93), none⟩ :: ⟨(some 9), .mov (.c (.int .i64 (.ofNat 0))), none⟩ :: []))
.ret))))))))⟩
theorem c219_eq : compFn Tryz.prog 219 = some c219 := by kernel_rfl
/-- (sodality/roster.of).key -/
noncomputable def c220 : FnI := ⟨10, [.tmp 4],
(.seq (.reg (⟨(some 4), .mov (.c (.str [])), none⟩ :: []))
(.seq (.reg (⟨(some 5), .mov (.t 0), none⟩ :: ⟨(some 6), .call 209 [(.t 5)], none⟩ :: ⟨(some 7), .bin .add (.t 6) (.c (.str [32])), none⟩ :: ⟨(some 8), .mov (.t 1), none⟩ :: ⟨(some 9), .bin .add (.t 7) (.t 8), none⟩ :: ⟨(some 4), .mov (.t 9), none⟩ :: []))
.ret))⟩
theorem c220_eq : compFn Tryz.prog 220 = some c220 := by kernel_rfl
/-- sodality/roster.all[sodality/api.Check] -/
noncomputable def c245 : FnI := ⟨29, [.tmp 4],
(.seq (.reg (⟨(some 3), .box (.t 1), none⟩ :: ⟨(some 4), .mov (.c .nilsl), none⟩ :: []))
(.seq (.reg (⟨(some 5), .mov (.c .nilsl), none⟩ :: []))
(.seq (.seq (.reg (⟨(some 8), .mov (.t 0), none⟩ :: ⟨(some 9), .call 158 [(.t 8)], none⟩ :: ⟨(some 10), .len false (.t 9), none⟩ :: ⟨(some 11), .mov (.c (.int .i64 (.ofNat 0))), none⟩ :: []))
(.block 0 (.loop (.seq (.reg (⟨(some 12), .bin .lss (.t 11) (.t 10), none⟩ :: []))
(.seq (.cond (.t 12) .skip (.exit 0))
(.seq (.block 1 (.seq (.reg (⟨(some 13), .idxS 10 (.t 9) (.t 11), none⟩ :: ⟨(some 14), .load true 10 (.t 13), none⟩ :: ⟨(some 7), .alloc [(.str []), (.int .i64 (.ofNat 0)), (.str []), (.str []), (.str []), (.int .i64 (.ofNat 0)), (.int .u64 (.ofNat 0)), (.int .u64 (.ofNat 0)), (.int .u64 (.ofNat 0)), (.int .u64 (.ofNat 0))], none⟩ :: ⟨none, .store 10 (.t 7) (.t 14), none⟩ :: []))
(.reg (⟨(some 15), .mov (.t 5), none⟩ :: ⟨(some 16), .faddr 0 (.t 3), none⟩ :: ⟨(some 17), .load false 1 (.t 16), none⟩ :: ⟨(some 18), .faddr 1 (.t 7), none⟩ :: ⟨(some 19), .load true 7 (.t 18), none⟩ :: ⟨(some 20), .faddr 8 (.t 7), none⟩ :: ⟨(some 21), .load false 1 (.t 20), none⟩ :: ⟨(some 22), .faddr 9 (.t 7), none⟩ :: ⟨(some 23), .load false 1 (.t 22), none⟩ :: ⟨(some 24), .callv (.t 17) [(.t 19), (.t 21), (.t 23)], none⟩ :: ⟨(some 25), .buildSl 7 1 [(.int .i64 (.ofNat 0)), (.str []), (.str []), (.str []), (.int .i64 (.ofNat 0)), (.int .u64 (.ofNat 0)), (.int .u64 (.ofNat 0))] [(0, 7, (.t 24))], none⟩ :: ⟨(some 26), .append 7 80 (.t 15) (.t 25), none⟩ :: ⟨(some 5), .mov (.t 26), none⟩ :: []))))
(.reg (⟨(some 27), .bin .add (.t 11) (.c (.int .i64 (.ofNat 1))), none⟩ :: ⟨(some 11), .mov (.t 27), none⟩ :: []))))))))
(.seq (.reg (⟨(some 28), .mov (.t 5), none⟩ :: ⟨(some 4), .mov (.t 28), none⟩ :: []))
.ret))))⟩
theorem c245_eq : compFn Tryz.prog 245 = some c245 := by kernel_rfl
/-- (*sodality/table.Table[sodality/api.Node]).at -/
noncomputable def c256 : FnI := ⟨34, [.tmp 4, .tmp 5],
(.seq (.reg (⟨(some 2), .box (.t 0), none⟩ :: ⟨(some 3), .box (.t 1), none⟩ :: ⟨(some 4), .mov (.c (.int .i64 (.ofNat 0))), none⟩ :: ⟨(some 5), .mov (.c (.bool false)), none⟩ :: []))
(.seq (.reg (⟨(some 7), .load false 1 (.t 2), none⟩ :: ⟨(some 8), .nilchk (.t 7), none⟩ :: ⟨(some 9), .faddr 1 (.t 8), none⟩ :: ⟨(some 10), .load false 1 (.t 9), none⟩ :: ⟨(some 11), .len false (.t 10), none⟩ :: ⟨(some 12), .mkfn 306 [] [(.t 2), (.t 3)], none⟩ :: ⟨(some 13), .call 283 [(.t 11), (.t 12)], none⟩ :: ⟨(some 6), .mov (.t 13), none⟩ :: []))
(.seq (.dreg (⟨⟨(some 14), .mov (.t 6), none⟩, .quiet, 0, 0⟩ :: ⟨⟨(some 15), .mov (.t 6), none⟩, .quiet, 1, 0⟩ :: ⟨⟨(some 16), .load false 1 (.t 2), none⟩, .load, 2, 0⟩ :: ⟨⟨(some 17), .nilchk (.t 16), none⟩, .quiet, 3, 4⟩ :: ⟨⟨(some 18), .faddr 1 (.t 17), none⟩, .quiet, 4, 12⟩ :: ⟨⟨(some 19), .load false 1 (.t 18), none⟩, .load, 5, 28⟩ :: ⟨⟨(some 20), .len false (.t 19), none⟩, .quiet, 6, 60⟩ :: ⟨⟨(some 21), .bin .lss (.t 15) (.t 20), none⟩, .quiet, 7, 126⟩ :: ⟨⟨(some 22), .mov (.t 21), none⟩, .quiet, 8, 254⟩ :: ⟨⟨(some 23), .load false 1 (.t 2), (some (22, true))⟩, .load, 9, 510⟩ :: ⟨⟨(some 24), .nilchk (.t 23), (some (22, true))⟩, .quiet, 10, 1022⟩ :: ⟨⟨(some 25), .faddr 1 (.t 24), (some (22, true))⟩, .quiet, 11, 2046⟩ :: ⟨⟨(some 26), .load false 1 (.t 25), (some (22, true))⟩, .load, 12, 4094⟩ :: ⟨⟨(some 27), .mov (.t 6), (some (22, true))⟩, .quiet, 13, 510⟩ :: ⟨⟨(some 28), .idxS 7 (.t 26) (.t 27), (some (22, true))⟩, .quiet, 14, 16382⟩ :: ⟨⟨(some 29), .faddr 0 (.t 28), (some (22, true))⟩, .quiet, 15, 32766⟩ :: ⟨⟨(some 30), .load false 1 (.t 29), (some (22, true))⟩, .load, 16, 65534⟩ :: ⟨⟨(some 31), .load false 1 (.t 3), (some (22, true))⟩, .load, 17, 510⟩ :: ⟨⟨(some 32), .bin .eql (.t 30) (.t 31), (some (22, true))⟩, .quiet, 18, 262142⟩ :: ⟨⟨(some 33), .pick (.t 22) (.t 32) (.c (.bool false)), none⟩, .quiet, 19, 524286⟩ :: ⟨⟨(some 4), .mov (.t 14), none⟩, .quiet, 20, 511⟩ :: ⟨⟨(some 5), .mov (.t 33), none⟩, .quiet, 21, 2097151⟩ :: []))
.ret)))⟩
theorem c256_eq : compFn Tryz.prog 256 = some c256 := by kernel_rfl
/-- (*sodality/table.Table[sodality/api.Node]).Raise -/
noncomputable def c257 : FnI := ⟨16, [],
(.seq (.reg (⟨(some 4), .mov (.t 0), none⟩ :: ⟨(some 5), .call 153 [(.t 4)], none⟩ :: ⟨(some 6), .un .not (.t 5), none⟩ :: []))
(.cond (.t 6) (.reg (⟨(some 7), .mov (.t 0), none⟩ :: ⟨(some 8), .mov (.t 0), none⟩ :: ⟨(some 9), .nilchk (.t 8), none⟩ :: ⟨(some 10), .faddr 2 (.t 9), none⟩ :: ⟨(some 11), .load false 1 (.t 10), none⟩ :: ⟨(some 12), .mov (.t 1), none⟩ :: ⟨(some 13), .mm true (.t 11) [(.t 12)], none⟩ :: ⟨(some 14), .nilchk (.t 7), none⟩ :: ⟨(some 15), .faddr 2 (.t 14), none⟩ :: ⟨none, .store 1 (.t 15) (.t 13), none⟩ :: [])) .skip))⟩
theorem c257_eq : compFn Tryz.prog 257 = some c257 := by kernel_rfl
/-- (*sodality/table.Table[sodality/api.Node]).Get -/
noncomputable def c258 : FnI := ⟨27, [.cell 4 true 7, .tmp 5],
(.seq (.reg (⟨(some 4), .alloc [(.str []), (.int .i64 (.ofNat 0)), (.str []), (.int .u64 (.ofNat 0)), (.int .u64 (.ofNat 0)), (.int .u64 (.ofNat 0)), (.int .u64 (.ofNat 0))], none⟩ :: ⟨(some 5), .mov (.c (.bool false)), none⟩ :: []))
(.seq (.seq (.reg (⟨(some 8), .mov (.t 0), none⟩ :: ⟨(some 9), .call 153 [(.t 8)], none⟩ :: []))
(.cond (.t 9) (.seq (.reg (⟨(some 10), .build [(.str []), (.int .i64 (.ofNat 0)), (.str []), (.int .u64 (.ofNat 0)), (.int .u64 (.ofNat 0)), (.int .u64 (.ofNat 0)), (.int .u64 (.ofNat 0))] [], none⟩ :: ⟨none, .store 7 (.t 4) (.t 10), none⟩ :: ⟨(some 5), .mov (.c (.bool false)), none⟩ :: []))
.ret) .skip))
(.seq (.reg (⟨(some 12), .mov (.t 0), none⟩ :: ⟨(some 13), .mov (.t 1), none⟩ :: ⟨(some 14), .call 256 [(.t 12), (.t 13)], none⟩ :: ⟨(some 11), .mov (.t 14), none⟩ :: ⟨(some 15), .extract (.t 11) 0, none⟩ :: ⟨(some 16), .extract (.t 11) 1, none⟩ :: ⟨(some 6), .mov (.t 15), none⟩ :: ⟨(some 7), .mov (.t 16), none⟩ :: []))
(.seq (.seq (.reg (⟨(some 17), .mov (.t 7), none⟩ :: ⟨(some 18), .un .not (.t 17), none⟩ :: []))
(.cond (.t 18) (.seq (.reg (⟨(some 19), .build [(.str []), (.int .i64 (.ofNat 0)), (.str []), (.int .u64 (.ofNat 0)), (.int .u64 (.ofNat 0)), (.int .u64 (.ofNat 0)), (.int .u64 (.ofNat 0))] [], none⟩ :: ⟨none, .store 7 (.t 4) (.t 19), none⟩ :: ⟨(some 5), .mov (.c (.bool false)), none⟩ :: []))
.ret) .skip))
(.seq (.reg (⟨(some 20), .mov (.t 0), none⟩ :: ⟨(some 21), .nilchk (.t 20), none⟩ :: ⟨(some 22), .faddr 1 (.t 21), none⟩ :: ⟨(some 23), .load false 1 (.t 22), none⟩ :: ⟨(some 24), .mov (.t 6), none⟩ :: ⟨(some 25), .idxS 7 (.t 23) (.t 24), none⟩ :: ⟨(some 26), .load true 7 (.t 25), none⟩ :: ⟨none, .store 7 (.t 4) (.t 26), none⟩ :: ⟨(some 5), .mov (.c (.bool true)), none⟩ :: []))
.ret)))))⟩
theorem c258_eq : compFn Tryz.prog 258 = some c258 := by kernel_rfl
/-- (*sodality/table.Table[sodality/api.Service]).at -/
noncomputable def c261 : FnI := ⟨34, [.tmp 4, .tmp 5],
(.seq (.reg (⟨(some 2), .box (.t 0), none⟩ :: ⟨(some 3), .box (.t 1), none⟩ :: ⟨(some 4), .mov (.c (.int .i64 (.ofNat 0))), none⟩ :: ⟨(some 5), .mov (.c (.bool false)), none⟩ :: []))
(.seq (.reg (⟨(some 7), .load false 1 (.t 2), none⟩ :: ⟨(some 8), .nilchk (.t 7), none⟩ :: ⟨(some 9), .faddr 1 (.t 8), none⟩ :: ⟨(some 10), .load false 1 (.t 9), none⟩ :: ⟨(some 11), .len false (.t 10), none⟩ :: ⟨(some 12), .mkfn 308 [] [(.t 2), (.t 3)], none⟩ :: ⟨(some 13), .call 283 [(.t 11), (.t 12)], none⟩ :: ⟨(some 6), .mov (.t 13), none⟩ :: []))
(.seq (.dreg (⟨⟨(some 14), .mov (.t 6), none⟩, .quiet, 0, 0⟩ :: ⟨⟨(some 15), .mov (.t 6), none⟩, .quiet, 1, 0⟩ :: ⟨⟨(some 16), .load false 1 (.t 2), none⟩, .load, 2, 0⟩ :: ⟨⟨(some 17), .nilchk (.t 16), none⟩, .quiet, 3, 4⟩ :: ⟨⟨(some 18), .faddr 1 (.t 17), none⟩, .quiet, 4, 12⟩ :: ⟨⟨(some 19), .load false 1 (.t 18), none⟩, .load, 5, 28⟩ :: ⟨⟨(some 20), .len false (.t 19), none⟩, .quiet, 6, 60⟩ :: ⟨⟨(some 21), .bin .lss (.t 15) (.t 20), none⟩, .quiet, 7, 126⟩ :: ⟨⟨(some 22), .mov (.t 21), none⟩, .quiet, 8, 254⟩ :: ⟨⟨(some 23), .load false 1 (.t 2), (some (22, true))⟩, .load, 9, 510⟩ :: ⟨⟨(some 24), .nilchk (.t 23), (some (22, true))⟩, .quiet, 10, 1022⟩ :: ⟨⟨(some 25), .faddr 1 (.t 24), (some (22, true))⟩, .quiet, 11, 2046⟩ :: ⟨⟨(some 26), .load false 1 (.t 25), (some (22, true))⟩, .load, 12, 4094⟩ :: ⟨⟨(some 27), .mov (.t 6), (some (22, true))⟩, .quiet, 13, 510⟩ :: ⟨⟨(some 28), .idxS 10 (.t 26) (.t 27), (some (22, true))⟩, .quiet, 14, 16382⟩ :: ⟨⟨(some 29), .faddr 0 (.t 28), (some (22, true))⟩, .quiet, 15, 32766⟩ :: ⟨⟨(some 30), .load false 1 (.t 29), (some (22, true))⟩, .load, 16, 65534⟩ :: ⟨⟨(some 31), .load false 1 (.t 3), (some (22, true))⟩, .load, 17, 510⟩ :: ⟨⟨(some 32), .bin .eql (.t 30) (.t 31), (some (22, true))⟩, .quiet, 18, 262142⟩ :: ⟨⟨(some 33), .pick (.t 22) (.t 32) (.c (.bool false)), none⟩, .quiet, 19, 524286⟩ :: ⟨⟨(some 4), .mov (.t 14), none⟩, .quiet, 20, 511⟩ :: ⟨⟨(some 5), .mov (.t 33), none⟩, .quiet, 21, 2097151⟩ :: []))
.ret)))⟩
theorem c261_eq : compFn Tryz.prog 261 = some c261 := by kernel_rfl
/-- (*sodality/table.Table[sodality/api.Service]).Raise -/
noncomputable def c262 : FnI := ⟨16, [],
(.seq (.reg (⟨(some 4), .mov (.t 0), none⟩ :: ⟨(some 5), .call 155 [(.t 4)], none⟩ :: ⟨(some 6), .un .not (.t 5), none⟩ :: []))
(.cond (.t 6) (.reg (⟨(some 7), .mov (.t 0), none⟩ :: ⟨(some 8), .mov (.t 0), none⟩ :: ⟨(some 9), .nilchk (.t 8), none⟩ :: ⟨(some 10), .faddr 2 (.t 9), none⟩ :: ⟨(some 11), .load false 1 (.t 10), none⟩ :: ⟨(some 12), .mov (.t 1), none⟩ :: ⟨(some 13), .mm true (.t 11) [(.t 12)], none⟩ :: ⟨(some 14), .nilchk (.t 7), none⟩ :: ⟨(some 15), .faddr 2 (.t 14), none⟩ :: ⟨none, .store 1 (.t 15) (.t 13), none⟩ :: [])) .skip))⟩
theorem c262_eq : compFn Tryz.prog 262 = some c262 := by kernel_rfl
/-- sodality/name.Tags -/
noncomputable def c266 : FnI := ⟨32, [.tmp 2],
(.seq (.reg (⟨(some 2), .mov (.c (.bool false)), none⟩ :: []))
(.seq (.seq (.reg (⟨(some 5), .mov (.t 0), none⟩ :: ⟨(some 6), .len false (.t 5), none⟩ :: ⟨(some 7), .bin .gtr (.t 6) (.c (.int .i64 (.ofNat 4))), none⟩ :: []))
(.cond (.t 7) (.seq (.reg (⟨(some 2), .mov (.c (.bool false)), none⟩ :: []))
.ret) .skip))
(.seq (.seq (.reg (⟨(some 8), .mov (.t 0), none⟩ :: ⟨(some 9), .len false (.t 8), none⟩ :: ⟨(some 10), .mov (.c (.int .i64 (.ofNat 0))), none⟩ :: []))
(.block 0 (.loop (.seq (.reg (⟨(some 11), .bin .lss (.t 10) (.t 9), none⟩ :: []))
(.seq (.cond (.t 11) .skip (.exit 0))
(.seq (.block 1 (.seq (.reg (⟨(some 12), .mov (.t 10), none⟩ :: ⟨(some 13), .idxS 1 (.t 8) (.t 10), none⟩ :: ⟨(some 14), .load false 1 (.t 13), none⟩ :: ⟨(some 3), .mov (.t 12), none⟩ :: ⟨(some 4), .mov (.t 14), none⟩ :: []))
(.seq (.reg (⟨(some 15), .mov (.t 4), none⟩ :: ⟨(some 16), .call 50 [(.t 15)], none⟩ :: ⟨(some 17), .un .not (.t 16), none⟩ :: ⟨(some 18), .mov (.t 17), none⟩ :: ⟨(some 19), .mov (.t 3), (some (18, false))⟩ :: ⟨(some 20), .bin .gtr (.t 19) (.c (.int .i64 (.ofNat 0))), (some (18, false))⟩ :: ⟨(some 21), .mov (.t 20), (some (18, false))⟩ :: ⟨(some 22), .mov (.t 0), (some (21, true))⟩ :: ⟨(some 23), .mov (.t 3), (some (21, true))⟩ :: ⟨(some 24), .bin .sub (.t 23) (.c (.int .i64 (.ofNat 1))), (some (21, true))⟩ :: ⟨(some 25), .idxS 1 (.t 22) (.t 24), (some (21, true))⟩ :: ⟨(some 26), .load false 1 (.t 25), (some (21, true))⟩ :: ⟨(some 27), .mov (.t 4), (some (21, true))⟩ :: ⟨(some 28), .bin .geq (.t 26) (.t 27), (some (21, true))⟩ :: ⟨(some 29), .pick (.t 21) (.t 28) (.c (.bool false)), (some (18, false))⟩ :: ⟨(some 30), .pick (.t 18) (.c (.bool true)) (.t 29), none⟩ :: []))
(.cond (.t 30) (.seq (.reg (⟨(some 2), .mov (.c (.bool false)), none⟩ :: []))
.ret) .skip))))
(.reg (⟨(some 31), .bin .add (.t 10) (.c (.int .i64 (.ofNat 1))), none⟩ :: ⟨(some 10), .mov (.t 31), none⟩ :: []))))))))
(.seq (.reg (⟨(some 2), .mov (.c (.bool true)), none⟩ :: []))
.ret))))⟩
theorem c266_eq : compFn Tryz.prog 266 = some c266 := by kernel_rfl
/-- sort.Search -/
noncomputable def c283 : FnI := ⟨26, [.tmp 4],
(.seq (.reg (⟨(some 4), .mov (.c (.int .i64 (.ofNat 0))), none⟩ :: []))
(.seq (.reg (⟨(some 8), .mov (.t 0), none⟩ :: ⟨(some 5), .mov (.c (.int .i64 (.ofNat 0))), none⟩ :: ⟨(some 6), .mov (.t 8), none⟩ :: []))
(.seq (.block 0 (.loop (.seq (.seq (.reg (⟨(some 9), .mov (.t 5), none⟩ :: ⟨(some 10), .mov (.t 6), none⟩ :: ⟨(some 11), .bin .lss (.t 9) (.t 10), none⟩ :: []))
(.cond (.t 11) .skip (.exit 0)))
(.block 1 (.seq (.reg (⟨(some 12), .mov (.t 5), none⟩ :: ⟨(some 13), .mov (.t 6), none⟩ :: ⟨(some 14), .bin .add (.t 12) (.t 13), none⟩ :: ⟨(some 15), .cvInt .u64 (.t 14), none⟩ :: ⟨(some 16), .bin .shr (.t 15) (.c (.int .u64 (.ofNat 1))), none⟩ :: ⟨(some 17), .cvInt .i64 (.t 16), none⟩ :: ⟨(some 7), .mov (.t 17), none⟩ :: []))
(.seq (.reg (⟨(some 18), .mov (.t 1), none⟩ :: ⟨(some 19), .mov (.t 7), none⟩ :: ⟨(some 20), .callv (.t 18) [(.t 19)], none⟩ :: ⟨(some 21), .un .not (.t 20), none⟩ :: []))
(.cond (.t 21) (.reg (⟨(some 22), .mov (.t 7), none⟩ :: ⟨(some 23), .bin .add (.t 22) (.c (.int .i64 (.ofNat 1))), none⟩ :: ⟨(some 5), .mov (.t 23), none⟩ :: [])) (.reg (⟨(some 24), .mov (.t 7), none⟩ :: ⟨(some 6), .mov (.t 24), none⟩ :: [])))))))))
(.seq (.reg (⟨(some 25), .mov (.t 5), none⟩ :: ⟨(some 4), .mov (.t 25), none⟩ :: []))
.ret))))⟩
theorem c283_eq : compFn Tryz.prog 283 = some c283 := by kernel_rfl
/-- (*sodality/table.Table[sodality/api.Node]).at$1 -/
noncomputable def c306 : FnI := ⟨15, [.tmp 4],
(.seq (.reg (⟨(some 4), .mov (.c (.bool false)), none⟩ :: []))
(.seq (.dreg (⟨⟨(some 5), .load false 1 (.t 1), none⟩, .load, 0, 0⟩ :: ⟨⟨(some 6), .nilchk (.t 5), none⟩, .quiet, 1, 1⟩ :: ⟨⟨(some 7), .faddr 1 (.t 6), none⟩, .quiet, 2, 3⟩ :: ⟨⟨(some 8), .load false 1 (.t 7), none⟩, .load, 3, 7⟩ :: ⟨⟨(some 9), .mov (.t 0), none⟩, .quiet, 4, 0⟩ :: ⟨⟨(some 10), .idxS 7 (.t 8) (.t 9), none⟩, .quiet, 5, 31⟩ :: ⟨⟨(some 11), .faddr 0 (.t 10), none⟩, .quiet, 6, 63⟩ :: ⟨⟨(some 12), .load false 1 (.t 11), none⟩, .load, 7, 127⟩ :: ⟨⟨(some 13), .load false 1 (.t 2), none⟩, .load, 8, 0⟩ :: ⟨⟨(some 14), .bin .geq (.t 12) (.t 13), none⟩, .quiet, 9, 511⟩ :: ⟨⟨(some 4), .mov (.t 14), none⟩, .quiet, 10, 1023⟩ :: []))
.ret))⟩
theorem c306_eq : compFn Tryz.prog 306 = some c306 := by kernel_rfl
end Go.Proofs.YtmkcbjklcfegcaaGreat.QS
