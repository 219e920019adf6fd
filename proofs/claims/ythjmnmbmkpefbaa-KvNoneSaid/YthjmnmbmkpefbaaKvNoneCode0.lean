/- The functions' code, as the evaluator takes it (part 0), and that it is what the evaluator's compiler makes of the program. -/
import Derived.Test.YthjmnmbmkpefbaaAbsK
import Derived.Test.YthjmnmbmkpefbaaRows
set_option maxRecDepth 100000
namespace Go.Proofs.Ythjmnmbmkpefbaa.AbsKvNone
open Go.Proofs.Ythjmnmbmkpefbaa.Abs
noncomputable def c4 : FnI := ⟨107, [.tmp 2],
(.seq (.reg [⟨(some 1), .box (.t 0), none⟩, ⟨(some 2), .mov (.c (.bool false)), none⟩])
(.seq (.reg [⟨(some 3), .mov (.c .nilp), none⟩])
(.seq (.reg [⟨(some 9), .mov (.t 3), none⟩, ⟨(some 10), .build [.nilp] [], none⟩, ⟨(some 11), .box (.t 10), none⟩, ⟨(some 12), .buildSl 1 2 [.nilp, .nilp] [(0, 1, (.t 9)), (1, 1, (.t 11))], none⟩, ⟨(some 4), .mov (.t 12), none⟩])
(.seq (.seq (.reg [⟨(some 5), .mov (.c (.int .i64 (.ofNat 0))), none⟩])
(.block 0 (.loop (.seq (.seq (.reg [⟨(some 13), .mov (.t 5), none⟩, ⟨(some 14), .mov (.t 4), none⟩, ⟨(some 15), .len false (.t 14), none⟩, ⟨(some 16), .bin .lss (.t 13) (.t 15), none⟩])
(.cond (.t 16) .skip (.exit 0)))
(.seq (.block 1 (.seq (.reg [⟨(some 19), .mov (.t 4), none⟩, ⟨(some 20), .mov (.t 5), none⟩, ⟨(some 21), .idxS 1 (.t 19) (.t 20), none⟩, ⟨(some 22), .load false 1 (.t 21), none⟩, ⟨(some 6), .mov (.t 22), none⟩])
(.seq (.reg [⟨(some 24), .mov (.t 6), none⟩, ⟨(some 25), .faddr 1 (.t 1), none⟩, ⟨(some 26), .load false 1 (.t 25), none⟩, ⟨(some 27), .call 19 [(.t 24), (.t 26)], none⟩, ⟨(some 23), .mov (.t 27), none⟩, ⟨(some 28), .extract (.t 23) 0, none⟩, ⟨(some 29), .extract (.t 23) 1, none⟩, ⟨(some 7), .alloc [(.str []), (.str []), (.int .u64 (.ofNat 0)), (.int .u64 (.ofNat 0)), (.int .u64 (.ofNat 0)), (.int .u64 (.ofNat 0))], none⟩, ⟨none, .store 6 (.t 7) (.t 28), none⟩, ⟨(some 8), .mov (.t 29), none⟩])
(.seq (.seq (.reg [⟨(some 30), .mov (.t 6), none⟩, ⟨(some 31), .faddr 1 (.t 1), none⟩, ⟨(some 32), .load false 1 (.t 31), none⟩, ⟨(some 33), .faddr 2 (.t 1), none⟩, ⟨(some 34), .load false 1 (.t 33), none⟩, ⟨(some 35), .call 20 [(.t 30), (.t 32), (.t 34), (.c (.int .u64 (.ofNat 1)))], none⟩, ⟨(some 36), .bin .neq (.t 35) (.c (.int .i64 (.ofNat 1))), none⟩, ⟨(some 37), .mov (.t 36), none⟩, ⟨(some 38), .mov (.t 6), (some (37, false))⟩, ⟨(some 39), .faddr 1 (.t 1), (some (37, false))⟩, ⟨(some 40), .load false 1 (.t 39), (some (37, false))⟩, ⟨(some 41), .faddr 2 (.t 1), (some (37, false))⟩, ⟨(some 42), .load false 1 (.t 41), (some (37, false))⟩, ⟨(some 43), .call 21 [(.t 38), (.t 40), (.t 42), (.c (.int .u64 (.ofNat 0))), (.c (.int .u64 (.ofNat 1)))], (some (37, false))⟩, ⟨(some 44), .bin .neq (.t 43) (.c (.int .i64 (.ofNat 1))), (some (37, false))⟩, ⟨(some 45), .pick (.t 37) (.c (.bool true)) (.t 44), none⟩, ⟨(some 46), .mov (.t 45), none⟩, ⟨(some 47), .mov (.t 6), (some (46, false))⟩, ⟨(some 48), .faddr 1 (.t 1), (some (46, false))⟩, ⟨(some 49), .load false 1 (.t 48), (some (46, false))⟩, ⟨(some 50), .call 22 [(.t 47), (.t 49), (.c (.int .u64 (.ofNat 1)))], (some (46, false))⟩, ⟨(some 51), .bin .neq (.t 50) (.c (.int .i64 (.ofNat 1))), (some (46, false))⟩, ⟨(some 52), .pick (.t 46) (.c (.bool true)) (.t 51), none⟩, ⟨(some 53), .mov (.t 52), none⟩, ⟨(some 54), .mov (.t 6), (some (53, false))⟩, ⟨(some 55), .faddr 1 (.t 1), (some (53, false))⟩, ⟨(some 56), .load false 1 (.t 55), (some (53, false))⟩, ⟨(some 57), .call 23 [(.t 54), (.t 56), (.c (.int .u64 (.ofNat 0))), (.c (.int .u64 (.ofNat 1)))], (some (53, false))⟩, ⟨(some 58), .bin .neq (.t 57) (.c (.int .i64 (.ofNat 1))), (some (53, false))⟩, ⟨(some 59), .pick (.t 53) (.c (.bool true)) (.t 58), none⟩, ⟨(some 60), .mov (.t 59), none⟩, ⟨(some 61), .mov (.t 6), (some (60, false))⟩, ⟨(some 62), .faddr 1 (.t 1), (some (60, false))⟩, ⟨(some 63), .load false 1 (.t 62), (some (60, false))⟩, ⟨(some 64), .faddr 2 (.t 1), (some (60, false))⟩, ⟨(some 65), .load false 1 (.t 64), (some (60, false))⟩, ⟨(some 66), .call 24 [(.t 61), (.t 63), (.t 65), (.c (.int .u64 (.ofNat 1))), (.c (.int .u64 (.ofNat 1)))], (some (60, false))⟩, ⟨(some 67), .bin .neq (.t 66) (.c (.int .i64 (.ofNat 1))), (some (60, false))⟩, ⟨(some 68), .pick (.t 60) (.c (.bool true)) (.t 67), none⟩, ⟨(some 69), .mov (.t 68), none⟩, ⟨(some 70), .mov (.t 6), (some (69, false))⟩, ⟨(some 71), .faddr 1 (.t 1), (some (69, false))⟩, ⟨(some 72), .load false 1 (.t 71), (some (69, false))⟩, ⟨(some 73), .faddr 2 (.t 1), (some (69, false))⟩, ⟨(some 74), .load false 1 (.t 73), (some (69, false))⟩, ⟨(some 75), .call 25 [(.t 70), (.t 72), (.t 74), (.c (.int .u64 (.ofNat 1))), (.c (.int .u64 (.ofNat 1)))], (some (69, false))⟩, ⟨(some 76), .bin .neq (.t 75) (.c (.int .i64 (.ofNat 1))), (some (69, false))⟩, ⟨(some 77), .pick (.t 69) (.c (.bool true)) (.t 76), none⟩])
(.cond (.t 77) (.seq (.reg [⟨(some 2), .mov (.c (.bool false)), none⟩])
.ret) .skip))
(.seq (.reg [⟨(some 78), .mov (.t 6), none⟩, ⟨(some 79), .faddr 4 (.t 1), none⟩, ⟨(some 80), .load false 1 (.t 79), none⟩, ⟨(some 81), .call 26 [(.t 78), (.t 80), (.c (.int .u64 (.ofNat 1)))], none⟩, ⟨(some 82), .len false (.t 81), none⟩, ⟨(some 83), .mov (.t 6), none⟩, ⟨(some 84), .call 27 [(.t 83), (.c (.str []))], none⟩, ⟨(some 85), .len false (.t 84), none⟩, ⟨(some 86), .bin .add (.t 82) (.t 85), none⟩, ⟨(some 87), .bin .neq (.t 86) (.c (.int .i64 (.ofNat 0))), none⟩, ⟨(some 88), .mov (.t 87), none⟩, ⟨(some 89), .load true 6 (.t 7), (some (88, false))⟩, ⟨(some 90), .build [(.str []), (.str []), (.int .u64 (.ofNat 0)), (.int .u64 (.ofNat 0)), (.int .u64 (.ofNat 0)), (.int .u64 (.ofNat 0))] [], (some (88, false))⟩, ⟨(some 91), .eq true (.str0 [(0, 1, false), (1, 1, false), (2, 1, false), (3, 1, false), (4, 1, false), (5, 1, false)] [.str, .str, .int, .int, .int, .int]) (.t 89) (.t 90), (some (88, false))⟩, ⟨(some 92), .pick (.t 88) (.c (.bool true)) (.t 91), none⟩, ⟨(some 93), .mov (.t 92), none⟩, ⟨(some 94), .mov (.t 8), (some (93, false))⟩, ⟨(some 95), .pick (.t 93) (.c (.bool true)) (.t 94), none⟩, ⟨(some 96), .mov (.t 95), none⟩, ⟨(some 97), .mov (.t 6), (some (96, false))⟩, ⟨(some 98), .call 28 [(.t 97)], (some (96, false))⟩, ⟨(some 99), .bin .neq (.t 98) (.c (.int .u64 (.ofNat 0))), (some (96, false))⟩, ⟨(some 100), .pick (.t 96) (.c (.bool true)) (.t 99), none⟩, ⟨(some 101), .mov (.t 100), none⟩, ⟨(some 102), .mov (.t 6), (some (101, false))⟩, ⟨(some 103), .call 29 [(.t 102)], (some (101, false))⟩, ⟨(some 104), .eq true .ptr (.t 103) (.c .nilp), (some (101, false))⟩, ⟨(some 105), .pick (.t 101) (.c (.bool true)) (.t 104), none⟩])
(.cond (.t 105) (.seq (.reg [⟨(some 2), .mov (.c (.bool false)), none⟩])
.ret) .skip))))))
(.reg [⟨(some 17), .mov (.t 5), none⟩, ⟨(some 18), .bin .add (.t 17) (.c (.int .i64 (.ofNat 1))), none⟩, ⟨(some 5), .mov (.t 18), none⟩]))))))
(.seq (.reg [⟨(some 106), .call 30 [], none⟩, ⟨(some 2), .mov (.t 106), none⟩])
.ret)))))⟩
theorem c4_eq : compFn Try.prog 4 = some c4 := by kernel_rfl
noncomputable def c19 : FnI := ⟨25, [.cell 4 true 6, .tmp 5],
(.seq (.reg [⟨(some 4), .alloc [(.str []), (.str []), (.int .u64 (.ofNat 0)), (.int .u64 (.ofNat 0)), (.int .u64 (.ofNat 0)), (.int .u64 (.ofNat 0))], none⟩, ⟨(some 5), .mov (.c (.bool false)), none⟩])
(.seq (.seq (.reg [⟨(some 8), .mov (.t 0), none⟩, ⟨(some 9), .call 61 [(.t 8)], none⟩])
(.cond (.t 9) (.seq (.reg [⟨(some 10), .build [(.str []), (.str []), (.int .u64 (.ofNat 0)), (.int .u64 (.ofNat 0)), (.int .u64 (.ofNat 0)), (.int .u64 (.ofNat 0))] [], none⟩, ⟨none, .store 6 (.t 4) (.t 10), none⟩, ⟨(some 5), .mov (.c (.bool false)), none⟩])
.ret) .skip))
(.seq (.reg [⟨(some 12), .mov (.t 0), none⟩, ⟨(some 13), .nilchk (.t 12), none⟩, ⟨(some 14), .faddr 0 (.t 13), none⟩, ⟨(some 15), .load false 1 (.t 14), none⟩, ⟨(some 16), .mov (.t 1), none⟩, ⟨(some 17), .call 62 [(.t 15), (.t 16)], none⟩, ⟨(some 11), .mov (.t 17), none⟩, ⟨(some 18), .extract (.t 11) 0, none⟩, ⟨(some 19), .extract (.t 11) 1, none⟩, ⟨(some 6), .alloc [(.str []), (.str []), (.str []), (.int .u64 (.ofNat 0)), (.int .u64 (.ofNat 0)), (.int .u64 (.ofNat 0)), (.int .u64 (.ofNat 0)), (.int .u64 (.ofNat 0)), (.int .u64 (.ofNat 0))], none⟩, ⟨none, .store 9 (.t 6) (.t 18), none⟩, ⟨(some 7), .mov (.t 19), none⟩])
(.seq (.seq (.reg [⟨(some 20), .mov (.t 7), none⟩, ⟨(some 21), .un .not (.t 20), none⟩])
(.cond (.t 21) (.seq (.reg [⟨(some 22), .build [(.str []), (.str []), (.int .u64 (.ofNat 0)), (.int .u64 (.ofNat 0)), (.int .u64 (.ofNat 0)), (.int .u64 (.ofNat 0))] [], none⟩, ⟨none, .store 6 (.t 4) (.t 22), none⟩, ⟨(some 5), .mov (.c (.bool false)), none⟩])
.ret) .skip))
(.seq (.reg [⟨(some 23), .load true 9 (.t 6), none⟩, ⟨(some 24), .call 63 [(.t 23)], none⟩, ⟨none, .store 6 (.t 4) (.t 24), none⟩, ⟨(some 5), .mov (.c (.bool true)), none⟩])
.ret)))))⟩
theorem c19_eq : compFn Try.prog 19 = some c19 := by kernel_rfl
noncomputable def c20 : FnI := ⟨19, [.tmp 8],
(.seq (.reg [⟨(some 8), .mov (.c (.int .i64 (.ofNat 0))), none⟩])
(.seq (.reg [⟨(some 9), .mov (.t 0), none⟩, ⟨(some 10), .mov (.t 1), none⟩, ⟨(some 11), .mov (.t 2), none⟩, ⟨(some 12), .call 65 [(.t 11)], none⟩, ⟨(some 13), .buildSl 1 1 [.nilfn] [(0, 1, (.t 12))], none⟩, ⟨(some 14), .mov (.t 2), none⟩, ⟨(some 15), .call 66 [(.t 14)], none⟩, ⟨(some 16), .build [.nilsl, .nilfn] [(0, 1, (.t 13)), (1, 1, (.t 15))], none⟩, ⟨(some 17), .mov (.t 3), none⟩, ⟨(some 18), .call 64 [(.t 9), (.t 10), (.t 16), (.t 17)], none⟩, ⟨(some 8), .mov (.t 18), none⟩])
.ret))⟩
theorem c20_eq : compFn Try.prog 20 = some c20 := by kernel_rfl
noncomputable def c21 : FnI := ⟨23, [.tmp 10],
(.seq (.reg [⟨(some 10), .mov (.c (.int .i64 (.ofNat 0))), none⟩])
(.seq (.reg [⟨(some 11), .mov (.t 0), none⟩, ⟨(some 12), .mov (.t 1), none⟩, ⟨(some 13), .mov (.t 2), none⟩, ⟨(some 14), .call 65 [(.t 13)], none⟩, ⟨(some 15), .mov (.t 3), none⟩, ⟨(some 16), .call 67 [(.t 15)], none⟩, ⟨(some 17), .buildSl 1 2 [.nilfn, .nilfn] [(0, 1, (.t 14)), (1, 1, (.t 16))], none⟩, ⟨(some 18), .mov (.t 2), none⟩, ⟨(some 19), .call 66 [(.t 18)], none⟩, ⟨(some 20), .build [.nilsl, .nilfn] [(0, 1, (.t 17)), (1, 1, (.t 19))], none⟩, ⟨(some 21), .mov (.t 4), none⟩, ⟨(some 22), .call 64 [(.t 11), (.t 12), (.t 20), (.t 21)], none⟩, ⟨(some 10), .mov (.t 22), none⟩])
.ret))⟩
theorem c21_eq : compFn Try.prog 21 = some c21 := by kernel_rfl
noncomputable def c22 : FnI := ⟨13, [.tmp 6],
(.seq (.reg [⟨(some 6), .mov (.c (.int .i64 (.ofNat 0))), none⟩])
(.seq (.reg [⟨(some 7), .mov (.t 0), none⟩, ⟨(some 8), .mov (.t 1), none⟩, ⟨(some 9), .buildSl 1 1 [.nilfn] [(0, 1, (.c (.fn (.func 68) [] [])))], none⟩, ⟨(some 10), .build [.nilsl, .nilfn] [(0, 1, (.t 9))], none⟩, ⟨(some 11), .mov (.t 2), none⟩, ⟨(some 12), .call 64 [(.t 7), (.t 8), (.t 10), (.t 11)], none⟩, ⟨(some 6), .mov (.t 12), none⟩])
.ret))⟩
theorem c22_eq : compFn Try.prog 22 = some c22 := by kernel_rfl
noncomputable def c23 : FnI := ⟨18, [.tmp 8],
(.seq (.reg [⟨(some 6), .box (.t 2), none⟩, ⟨(some 8), .mov (.c (.int .i64 (.ofNat 0))), none⟩])
(.seq (.reg [⟨(some 10), .mkfn 69 [] [(.t 6)], none⟩, ⟨(some 9), .mov (.t 10), none⟩])
(.seq (.reg [⟨(some 11), .mov (.t 0), none⟩, ⟨(some 12), .mov (.t 1), none⟩, ⟨(some 13), .mov (.t 9), none⟩, ⟨(some 14), .buildSl 1 2 [.nilfn, .nilfn] [(0, 1, (.c (.fn (.func 68) [] []))), (1, 1, (.t 13))], none⟩, ⟨(some 15), .build [.nilsl, .nilfn] [(0, 1, (.t 14))], none⟩, ⟨(some 16), .mov (.t 3), none⟩, ⟨(some 17), .call 64 [(.t 11), (.t 12), (.t 15), (.t 16)], none⟩, ⟨(some 8), .mov (.t 17), none⟩])
.ret)))⟩
theorem c23_eq : compFn Try.prog 23 = some c23 := by kernel_rfl
noncomputable def c24 : FnI := ⟨25, [.tmp 10],
(.seq (.reg [⟨(some 7), .box (.t 2), none⟩, ⟨(some 8), .box (.t 3), none⟩, ⟨(some 10), .mov (.c (.int .i64 (.ofNat 0))), none⟩])
(.seq (.reg [⟨(some 13), .mkfn 70 [] [(.t 8)], none⟩, ⟨(some 11), .mov (.t 13), none⟩])
(.seq (.reg [⟨(some 14), .mkfn 71 [] [(.t 8), (.t 7)], none⟩, ⟨(some 12), .mov (.t 14), none⟩])
(.seq (.reg [⟨(some 15), .mov (.t 0), none⟩, ⟨(some 16), .mov (.t 1), none⟩, ⟨(some 17), .load false 1 (.t 7), none⟩, ⟨(some 18), .call 65 [(.t 17)], none⟩, ⟨(some 19), .mov (.t 11), none⟩, ⟨(some 20), .buildSl 1 2 [.nilfn, .nilfn] [(0, 1, (.t 18)), (1, 1, (.t 19))], none⟩, ⟨(some 21), .mov (.t 12), none⟩, ⟨(some 22), .build [.nilsl, .nilfn] [(0, 1, (.t 20)), (1, 1, (.t 21))], none⟩, ⟨(some 23), .mov (.t 4), none⟩, ⟨(some 24), .call 64 [(.t 15), (.t 16), (.t 22), (.t 23)], none⟩, ⟨(some 10), .mov (.t 24), none⟩])
.ret))))⟩
theorem c24_eq : compFn Try.prog 24 = some c24 := by kernel_rfl
noncomputable def c25 : FnI := ⟨25, [.tmp 10],
(.seq (.reg [⟨(some 7), .box (.t 2), none⟩, ⟨(some 8), .box (.t 3), none⟩, ⟨(some 10), .mov (.c (.int .i64 (.ofNat 0))), none⟩])
(.seq (.reg [⟨(some 13), .mkfn 72 [] [(.t 8)], none⟩, ⟨(some 11), .mov (.t 13), none⟩])
(.seq (.reg [⟨(some 14), .mkfn 73 [] [(.t 7)], none⟩, ⟨(some 12), .mov (.t 14), none⟩])
(.seq (.reg [⟨(some 15), .mov (.t 0), none⟩, ⟨(some 16), .mov (.t 1), none⟩, ⟨(some 17), .load false 1 (.t 7), none⟩, ⟨(some 18), .call 65 [(.t 17)], none⟩, ⟨(some 19), .mov (.t 11), none⟩, ⟨(some 20), .buildSl 1 3 [.nilfn, .nilfn, .nilfn] [(0, 1, (.t 18)), (1, 1, (.c (.fn (.func 68) [] []))), (2, 1, (.t 19))], none⟩, ⟨(some 21), .mov (.t 12), none⟩, ⟨(some 22), .build [.nilsl, .nilfn] [(0, 1, (.t 20)), (1, 1, (.t 21))], none⟩, ⟨(some 23), .mov (.t 4), none⟩, ⟨(some 24), .call 64 [(.t 15), (.t 16), (.t 22), (.t 23)], none⟩, ⟨(some 10), .mov (.t 24), none⟩])
.ret))))⟩
theorem c25_eq : compFn Try.prog 25 = some c25 := by kernel_rfl
noncomputable def c26 : FnI := ⟨39, [.tmp 6],
(.seq (.reg [⟨(some 6), .mov (.c .nilsl), none⟩])
(.seq (.seq (.reg [⟨(some 10), .mov (.t 0), none⟩, ⟨(some 11), .call 61 [(.t 10)], none⟩, ⟨(some 12), .mov (.t 11), none⟩, ⟨(some 13), .mov (.t 1), (some (12, false))⟩, ⟨(some 14), .bin .eql (.t 13) (.c (.int .u64 (.ofNat 0))), (some (12, false))⟩, ⟨(some 15), .pick (.t 12) (.c (.bool true)) (.t 14), none⟩])
(.cond (.t 15) (.seq (.reg [⟨(some 6), .mov (.c .nilsl), none⟩])
.ret) .skip))
(.seq (.reg [⟨(some 7), .mov (.c .nilsl), none⟩])
(.seq (.seq (.reg [⟨(some 16), .mov (.t 0), none⟩, ⟨(some 17), .call 27 [(.t 16), (.c (.str []))], none⟩, ⟨(some 18), .len false (.t 17), none⟩, ⟨(some 19), .mov (.c (.int .i64 (.ofNat 0))), none⟩])
(.block 0 (.loop (.seq (.reg [⟨(some 20), .bin .lss (.t 19) (.t 18), none⟩])
(.seq (.cond (.t 20) .skip (.exit 0))
(.seq (.block 1 (.seq (.reg [⟨(some 21), .idxS 6 (.t 17) (.t 19), none⟩, ⟨(some 22), .load true 6 (.t 21), none⟩, ⟨(some 9), .alloc [(.str []), (.str []), (.int .u64 (.ofNat 0)), (.int .u64 (.ofNat 0)), (.int .u64 (.ofNat 0)), (.int .u64 (.ofNat 0))], none⟩, ⟨none, .store 6 (.t 9) (.t 22), none⟩])
(.seq (.reg [⟨(some 23), .faddr 2 (.t 9), none⟩, ⟨(some 24), .load false 1 (.t 23), none⟩, ⟨(some 25), .mov (.t 1), none⟩, ⟨(some 26), .bin .eql (.t 24) (.t 25), none⟩])
(.cond (.t 26) (.seq (.reg [⟨(some 27), .faddr 2 (.t 9), none⟩, ⟨none, .store 1 (.t 27) (.c (.int .u64 (.ofNat 0))), none⟩])
(.seq (.reg [⟨(some 28), .mov (.t 0), none⟩, ⟨(some 29), .load true 6 (.t 9), none⟩, ⟨(some 30), .mov (.t 2), none⟩, ⟨(some 31), .call 74 [(.t 28), (.t 29), (.t 30)], none⟩])
(.reg [⟨(some 32), .mov (.t 7), none⟩, ⟨(some 33), .faddr 0 (.t 9), none⟩, ⟨(some 34), .load false 1 (.t 33), none⟩, ⟨(some 35), .buildSl 1 1 [(.str [])] [(0, 1, (.t 34))], none⟩, ⟨(some 36), .append 1 16 (.t 32) (.t 35), none⟩, ⟨(some 7), .mov (.t 36), none⟩]))) .skip))))
(.reg [⟨(some 37), .bin .add (.t 19) (.c (.int .i64 (.ofNat 1))), none⟩, ⟨(some 19), .mov (.t 37), none⟩])))))))
(.seq (.reg [⟨(some 38), .mov (.t 7), none⟩, ⟨(some 6), .mov (.t 38), none⟩])
.ret)))))⟩
theorem c26_eq : compFn Try.prog 26 = some c26 := by kernel_rfl
noncomputable def c27 : FnI := ⟨28, [.tmp 4],
(.seq (.reg [⟨(some 4), .mov (.c .nilsl), none⟩])
(.seq (.seq (.reg [⟨(some 8), .mov (.t 0), none⟩, ⟨(some 9), .call 61 [(.t 8)], none⟩])
(.cond (.t 9) (.seq (.reg [⟨(some 4), .mov (.c .nilsl), none⟩])
.ret) .skip))
(.seq (.reg [⟨(some 5), .mov (.c .nilsl), none⟩])
(.seq (.seq (.reg [⟨(some 10), .mov (.t 0), none⟩, ⟨(some 11), .nilchk (.t 10), none⟩, ⟨(some 12), .faddr 0 (.t 11), none⟩, ⟨(some 13), .load false 1 (.t 12), none⟩, ⟨(some 14), .mov (.t 1), none⟩, ⟨(some 15), .call 75 [(.t 13), (.t 14)], none⟩, ⟨(some 16), .len false (.t 15), none⟩, ⟨(some 17), .mov (.c (.int .i64 (.ofNat 0))), none⟩])
(.block 0 (.loop (.seq (.reg [⟨(some 18), .bin .lss (.t 17) (.t 16), none⟩])
(.seq (.cond (.t 18) .skip (.exit 0))
(.seq (.block 1 (.seq (.reg [⟨(some 19), .idxS 9 (.t 15) (.t 17), none⟩, ⟨(some 20), .load true 9 (.t 19), none⟩, ⟨(some 7), .alloc [(.str []), (.str []), (.str []), (.int .u64 (.ofNat 0)), (.int .u64 (.ofNat 0)), (.int .u64 (.ofNat 0)), (.int .u64 (.ofNat 0)), (.int .u64 (.ofNat 0)), (.int .u64 (.ofNat 0))], none⟩, ⟨none, .store 9 (.t 7) (.t 20), none⟩])
(.reg [⟨(some 21), .mov (.t 5), none⟩, ⟨(some 22), .load true 9 (.t 7), none⟩, ⟨(some 23), .call 63 [(.t 22)], none⟩, ⟨(some 24), .buildSl 6 1 [(.str []), (.str []), (.int .u64 (.ofNat 0)), (.int .u64 (.ofNat 0)), (.int .u64 (.ofNat 0)), (.int .u64 (.ofNat 0))] [(0, 6, (.t 23))], none⟩, ⟨(some 25), .append 6 64 (.t 21) (.t 24), none⟩, ⟨(some 5), .mov (.t 25), none⟩])))
(.reg [⟨(some 26), .bin .add (.t 17) (.c (.int .i64 (.ofNat 1))), none⟩, ⟨(some 17), .mov (.t 26), none⟩])))))))
(.seq (.reg [⟨(some 27), .mov (.t 5), none⟩, ⟨(some 4), .mov (.t 27), none⟩])
.ret)))))⟩
theorem c27_eq : compFn Try.prog 27 = some c27 := by kernel_rfl
noncomputable def c28 : FnI := ⟨10, [.tmp 2],
(.seq (.reg [⟨(some 2), .mov (.c (.int .u64 (.ofNat 0))), none⟩])
(.seq (.seq (.reg [⟨(some 3), .mov (.t 0), none⟩, ⟨(some 4), .call 61 [(.t 3)], none⟩])
(.cond (.t 4) (.seq (.reg [⟨(some 2), .mov (.c (.int .u64 (.ofNat 0))), none⟩])
.ret) .skip))
(.seq (.reg [⟨(some 5), .mov (.t 0), none⟩, ⟨(some 6), .nilchk (.t 5), none⟩, ⟨(some 7), .faddr 0 (.t 6), none⟩, ⟨(some 8), .load false 1 (.t 7), none⟩, ⟨(some 9), .call 76 [(.t 8)], none⟩, ⟨(some 2), .mov (.t 9), none⟩])
.ret)))⟩
theorem c28_eq : compFn Try.prog 28 = some c28 := by kernel_rfl
noncomputable def c29 : FnI := ⟨12, [.tmp 2],
(.seq (.reg [⟨(some 2), .mov (.c .nilp), none⟩])
(.seq (.seq (.reg [⟨(some 3), .mov (.t 0), none⟩, ⟨(some 4), .call 61 [(.t 3)], none⟩])
(.cond (.t 4) (.seq (.reg [⟨(some 2), .mov (.c .nilp), none⟩])
.ret) .skip))
(.seq (.reg [⟨(some 5), .mov (.t 0), none⟩, ⟨(some 6), .nilchk (.t 5), none⟩, ⟨(some 7), .faddr 0 (.t 6), none⟩, ⟨(some 8), .load false 1 (.t 7), none⟩, ⟨(some 9), .call 77 [(.t 8)], none⟩, ⟨(some 10), .build [.nilp] [(0, 1, (.t 9))], none⟩, ⟨(some 11), .box (.t 10), none⟩, ⟨(some 2), .mov (.t 11), none⟩])
.ret)))⟩
theorem c29_eq : compFn Try.prog 29 = some c29 := by kernel_rfl
noncomputable def c30 : FnI := ⟨23, [.tmp 0],
(.seq (.reg [⟨(some 0), .mov (.c (.bool false)), none⟩])
(.seq (.reg [⟨(some 5), .call 78 [(.c (.int .i64 (.ofNat 9)))], none⟩, ⟨(some 1), .mov (.t 5), none⟩])
(.seq (.reg [⟨(some 6), .mov (.t 1), none⟩, ⟨(some 7), .call 20 [(.t 6), (.c (.str [97])), (.c (.str [49])), (.c (.int .u64 (.ofNat 3)))], none⟩, ⟨(some 2), .mov (.t 7), none⟩])
(.seq (.reg [⟨(some 9), .mov (.t 1), none⟩, ⟨(some 10), .call 19 [(.t 9), (.c (.str [97]))], none⟩, ⟨(some 8), .mov (.t 10), none⟩, ⟨(some 11), .extract (.t 8) 0, none⟩, ⟨(some 12), .extract (.t 8) 1, none⟩, ⟨(some 3), .alloc [(.str []), (.str []), (.int .u64 (.ofNat 0)), (.int .u64 (.ofNat 0)), (.int .u64 (.ofNat 0)), (.int .u64 (.ofNat 0))], none⟩, ⟨none, .store 6 (.t 3) (.t 11), none⟩, ⟨(some 4), .mov (.t 12), none⟩])
(.seq (.reg [⟨(some 13), .mov (.t 2), none⟩, ⟨(some 14), .bin .eql (.t 13) (.c (.int .i64 (.ofNat 0))), none⟩, ⟨(some 15), .mov (.t 14), none⟩, ⟨(some 16), .mov (.t 4), (some (15, true))⟩, ⟨(some 17), .pick (.t 15) (.t 16) (.c (.bool false)), none⟩, ⟨(some 18), .mov (.t 17), none⟩, ⟨(some 19), .load true 6 (.t 3), (some (18, true))⟩, ⟨(some 20), .build [(.str []), (.str []), (.int .u64 (.ofNat 0)), (.int .u64 (.ofNat 0)), (.int .u64 (.ofNat 0)), (.int .u64 (.ofNat 0))] [(0, 1, (.c (.str [97]))), (1, 1, (.c (.str [49]))), (4, 1, (.c (.int .u64 (.ofNat 3)))), (5, 1, (.c (.int .u64 (.ofNat 3))))], (some (18, true))⟩, ⟨(some 21), .eq false (.str0 [(0, 1, false), (1, 1, false), (2, 1, false), (3, 1, false), (4, 1, false), (5, 1, false)] [.str, .str, .int, .int, .int, .int]) (.t 19) (.t 20), (some (18, true))⟩, ⟨(some 22), .pick (.t 18) (.t 21) (.c (.bool false)), none⟩, ⟨(some 0), .mov (.t 22), none⟩])
.ret)))))⟩
theorem c30_eq : compFn Try.prog 30 = some c30 := by kernel_rfl
noncomputable def c61 : FnI := ⟨12, [.tmp 2],
(.seq (.reg [⟨(some 2), .mov (.c (.bool false)), none⟩])
(.seq (.reg [⟨(some 3), .mov (.t 0), none⟩, ⟨(some 4), .eq false .ptr (.t 3) (.c .nilp), none⟩, ⟨(some 5), .mov (.t 4), none⟩, ⟨(some 6), .mov (.t 0), (some (5, false))⟩, ⟨(some 7), .nilchk (.t 6), (some (5, false))⟩, ⟨(some 8), .faddr 0 (.t 7), (some (5, false))⟩, ⟨(some 9), .load false 1 (.t 8), (some (5, false))⟩, ⟨(some 10), .eq false .ptr (.t 9) (.c .nilp), (some (5, false))⟩, ⟨(some 11), .pick (.t 5) (.c (.bool true)) (.t 10), none⟩, ⟨(some 2), .mov (.t 11), none⟩])
.ret))⟩
theorem c61_eq : compFn Try.prog 61 = some c61 := by kernel_rfl
noncomputable def c62 : FnI := ⟨27, [.cell 4 true 9, .tmp 5],
(.seq (.reg [⟨(some 4), .alloc [(.str []), (.str []), (.str []), (.int .u64 (.ofNat 0)), (.int .u64 (.ofNat 0)), (.int .u64 (.ofNat 0)), (.int .u64 (.ofNat 0)), (.int .u64 (.ofNat 0)), (.int .u64 (.ofNat 0))], none⟩, ⟨(some 5), .mov (.c (.bool false)), none⟩])
(.seq (.seq (.reg [⟨(some 8), .mov (.t 0), none⟩, ⟨(some 9), .call 101 [(.t 8)], none⟩])
(.cond (.t 9) (.seq (.reg [⟨(some 10), .build [(.str []), (.str []), (.str []), (.int .u64 (.ofNat 0)), (.int .u64 (.ofNat 0)), (.int .u64 (.ofNat 0)), (.int .u64 (.ofNat 0)), (.int .u64 (.ofNat 0)), (.int .u64 (.ofNat 0))] [], none⟩, ⟨none, .store 9 (.t 4) (.t 10), none⟩, ⟨(some 5), .mov (.c (.bool false)), none⟩])
.ret) .skip))
(.seq (.reg [⟨(some 12), .mov (.t 0), none⟩, ⟨(some 13), .mov (.t 1), none⟩, ⟨(some 14), .call 102 [(.t 12), (.t 13)], none⟩, ⟨(some 11), .mov (.t 14), none⟩, ⟨(some 15), .extract (.t 11) 0, none⟩, ⟨(some 16), .extract (.t 11) 1, none⟩, ⟨(some 6), .mov (.t 15), none⟩, ⟨(some 7), .mov (.t 16), none⟩])
(.seq (.seq (.reg [⟨(some 17), .mov (.t 7), none⟩, ⟨(some 18), .un .not (.t 17), none⟩])
(.cond (.t 18) (.seq (.reg [⟨(some 19), .build [(.str []), (.str []), (.str []), (.int .u64 (.ofNat 0)), (.int .u64 (.ofNat 0)), (.int .u64 (.ofNat 0)), (.int .u64 (.ofNat 0)), (.int .u64 (.ofNat 0)), (.int .u64 (.ofNat 0))] [], none⟩, ⟨none, .store 9 (.t 4) (.t 19), none⟩, ⟨(some 5), .mov (.c (.bool false)), none⟩])
.ret) .skip))
(.seq (.reg [⟨(some 20), .mov (.t 0), none⟩, ⟨(some 21), .nilchk (.t 20), none⟩, ⟨(some 22), .faddr 1 (.t 21), none⟩, ⟨(some 23), .load false 1 (.t 22), none⟩, ⟨(some 24), .mov (.t 6), none⟩, ⟨(some 25), .idxS 9 (.t 23) (.t 24), none⟩, ⟨(some 26), .load true 9 (.t 25), none⟩, ⟨none, .store 9 (.t 4) (.t 26), none⟩, ⟨(some 5), .mov (.c (.bool true)), none⟩])
.ret)))))⟩
theorem c62_eq : compFn Try.prog 62 = some c62 := by kernel_rfl
noncomputable def c63 : FnI := ⟨16, [.cell 2 true 6],
(.seq (.reg [⟨(some 1), .box (.t 0), none⟩, ⟨(some 2), .alloc [(.str []), (.str []), (.int .u64 (.ofNat 0)), (.int .u64 (.ofNat 0)), (.int .u64 (.ofNat 0)), (.int .u64 (.ofNat 0))], none⟩])
(.seq (.reg [⟨(some 4), .faddr 1 (.t 1), none⟩, ⟨(some 5), .load true 6 (.t 4), none⟩, ⟨(some 3), .alloc [(.str []), (.str []), (.int .u64 (.ofNat 0)), (.int .u64 (.ofNat 0)), (.int .u64 (.ofNat 0)), (.int .u64 (.ofNat 0))], none⟩, ⟨none, .store 6 (.t 3) (.t 5), none⟩])
(.seq (.dreg [⟨⟨(some 6), .faddr 0 (.t 1), none⟩, .quiet, 0, 0⟩, ⟨⟨(some 7), .load false 1 (.t 6), none⟩, .load, 1, 1⟩, ⟨⟨(some 12), .faddr 0 (.t 3), none⟩, .quiet, 6, 3⟩, ⟨⟨none, .store 1 (.t 12) (.t 7), none⟩, .loud, 7, 67⟩, ⟨⟨(some 8), .faddr 7 (.t 1), none⟩, .quiet, 2, 0⟩, ⟨⟨(some 9), .load false 1 (.t 8), none⟩, .load, 3, 4⟩, ⟨⟨(some 13), .faddr 4 (.t 3), none⟩, .quiet, 8, 207⟩, ⟨⟨none, .store 1 (.t 13) (.t 9), none⟩, .loud, 9, 463⟩, ⟨⟨(some 10), .faddr 8 (.t 1), none⟩, .quiet, 4, 0⟩, ⟨⟨(some 11), .load false 1 (.t 10), none⟩, .load, 5, 16⟩, ⟨⟨(some 14), .faddr 5 (.t 3), none⟩, .quiet, 10, 1023⟩, ⟨⟨none, .store 1 (.t 14) (.t 11), none⟩, .loud, 11, 2047⟩])
(.seq (.reg [⟨(some 15), .load true 6 (.t 3), none⟩, ⟨none, .store 6 (.t 2) (.t 15), none⟩])
.ret))))⟩
theorem c63_eq : compFn Try.prog 63 = some c63 := by kernel_rfl
noncomputable def c64 : FnI := ⟨63, [.tmp 8],
(.seq (.reg [⟨(some 6), .box (.t 2), none⟩, ⟨(some 8), .mov (.c (.int .i64 (.ofNat 0))), none⟩])
(.scope (.seq (.seq (.reg [⟨(some 14), .mov (.t 0), none⟩, ⟨(some 15), .call 61 [(.t 14)], none⟩])
(.cond (.t 15) (.seq (.reg [⟨(some 8), .mov (.c (.int .i64 (.ofNat 1))), none⟩])
.ret) .skip))
(.seq (.seq (.reg [⟨(some 16), .mov (.t 1), none⟩, ⟨(some 17), .call 103 [(.t 16)], none⟩, ⟨(some 18), .un .not (.t 17), none⟩])
(.cond (.t 18) (.seq (.reg [⟨(some 8), .mov (.c (.int .i64 (.ofNat 10))), none⟩])
.ret) .skip))
(.seq (.reg [⟨(some 20), .mov (.t 0), none⟩, ⟨(some 21), .mov (.t 1), none⟩, ⟨(some 22), .call 19 [(.t 20), (.t 21)], none⟩, ⟨(some 19), .mov (.t 22), none⟩, ⟨(some 23), .extract (.t 19) 0, none⟩, ⟨(some 24), .extract (.t 19) 1, none⟩, ⟨(some 9), .alloc [(.str []), (.str []), (.int .u64 (.ofNat 0)), (.int .u64 (.ofNat 0)), (.int .u64 (.ofNat 0)), (.int .u64 (.ofNat 0))], none⟩, ⟨none, .store 6 (.t 9) (.t 23), none⟩, ⟨(some 10), .mov (.t 24), none⟩])
(.seq (.reg [⟨(some 11), .mov (.c (.int .i64 (.ofNat 0))), none⟩])
(.seq .skip
(.seq (.seq (.reg [⟨(some 25), .faddr 0 (.t 6), none⟩, ⟨(some 26), .load false 1 (.t 25), none⟩, ⟨(some 27), .len false (.t 26), none⟩, ⟨(some 28), .mov (.c (.int .i64 (.ofNat 0))), none⟩])
(.block 0 (.loop (.seq (.reg [⟨(some 29), .bin .lss (.t 28) (.t 27), none⟩])
(.seq (.cond (.t 29) .skip (.exit 0))
(.seq (.block 1 (.seq (.reg [⟨(some 30), .idxS 1 (.t 26) (.t 28), none⟩, ⟨(some 31), .load false 1 (.t 30), none⟩, ⟨(some 13), .mov (.t 31), none⟩])
(.seq (.reg [⟨(some 32), .mov (.t 13), none⟩, ⟨(some 33), .load true 6 (.t 9), none⟩, ⟨(some 34), .mov (.t 10), none⟩, ⟨(some 35), .callv (.t 32) [(.t 33), (.t 34)], none⟩, ⟨(some 11), .mov (.t 35), none⟩])
(.seq (.reg [⟨(some 36), .mov (.t 11), none⟩, ⟨(some 37), .bin .neq (.t 36) (.c (.int .i64 (.ofNat 0))), none⟩])
(.cond (.t 37) (.exit 0) .skip)))))
(.reg [⟨(some 38), .bin .add (.t 28) (.c (.int .i64 (.ofNat 1))), none⟩, ⟨(some 28), .mov (.t 38), none⟩])))))))
(.seq (.block 2 (.seq (.reg [⟨(some 40), .mov (.t 11), none⟩, ⟨(some 41), .bin .neq (.t 40) (.c (.int .i64 (.ofNat 0))), none⟩, ⟨(some 39), .mov (.t 41), none⟩])
(.cond (.t 39) (.seq (.reg [⟨(some 42), .mov (.t 11), none⟩, ⟨(some 8), .mov (.t 42), none⟩])
.ret) (.seq (.reg [⟨(some 44), .faddr 1 (.t 6), none⟩, ⟨(some 45), .load false 1 (.t 44), none⟩, ⟨(some 46), .eq false .fn (.t 45) (.c .nilfn), none⟩, ⟨(some 43), .mov (.t 46), none⟩])
(.cond (.t 43) (.seq (.reg [⟨(some 47), .mov (.t 0), none⟩, ⟨(some 48), .nilchk (.t 47), none⟩, ⟨(some 49), .faddr 0 (.t 48), none⟩, ⟨(some 50), .load false 1 (.t 49), none⟩, ⟨(some 51), .mov (.t 1), none⟩, ⟨(some 52), .mov (.t 3), none⟩, ⟨(some 53), .call 104 [(.t 50), (.t 51), (.t 52)], none⟩])
(.seq (.reg [⟨(some 8), .mov (.c (.int .i64 (.ofNat 0))), none⟩])
.ret)) .skip)))))
(.seq (.reg [⟨(some 54), .mov (.t 1), none⟩, ⟨(some 55), .faddr 0 (.t 9), none⟩, ⟨none, .store 1 (.t 55) (.t 54), none⟩])
(.seq (.reg [⟨(some 56), .faddr 1 (.t 6), none⟩, ⟨(some 57), .load false 1 (.t 56), none⟩, ⟨(some 58), .callv (.t 57) [(.t 9)], none⟩])
(.seq (.reg [⟨(some 59), .mov (.t 0), none⟩, ⟨(some 60), .load true 6 (.t 9), none⟩, ⟨(some 61), .mov (.t 3), none⟩, ⟨(some 62), .call 74 [(.t 59), (.t 60), (.t 61)], none⟩, ⟨(some 8), .mov (.t 62), none⟩])
.ret))))))))))))⟩
theorem c64_eq : compFn Try.prog 64 = some c64 := by kernel_rfl
noncomputable def c65 : FnI := ⟨4, [.tmp 2],
(.seq (.reg [⟨(some 1), .box (.t 0), none⟩, ⟨(some 2), .mov (.c .nilfn), none⟩])
(.seq (.reg [⟨(some 3), .mkfn 105 [] [(.t 1)], none⟩, ⟨(some 2), .mov (.t 3), none⟩])
.ret))⟩
theorem c65_eq : compFn Try.prog 65 = some c65 := by kernel_rfl
noncomputable def c66 : FnI := ⟨4, [.tmp 2],
(.seq (.reg [⟨(some 1), .box (.t 0), none⟩, ⟨(some 2), .mov (.c .nilfn), none⟩])
(.seq (.reg [⟨(some 3), .mkfn 106 [] [(.t 1)], none⟩, ⟨(some 2), .mov (.t 3), none⟩])
.ret))⟩
theorem c66_eq : compFn Try.prog 66 = some c66 := by kernel_rfl
noncomputable def c67 : FnI := ⟨4, [.tmp 2],
(.seq (.reg [⟨(some 1), .box (.t 0), none⟩, ⟨(some 2), .mov (.c .nilfn), none⟩])
(.seq (.reg [⟨(some 3), .mkfn 107 [] [(.t 1)], none⟩, ⟨(some 2), .mov (.t 3), none⟩])
.ret))⟩
theorem c67_eq : compFn Try.prog 67 = some c67 := by kernel_rfl
noncomputable def c74 : FnI := ⟨27, [.tmp 6],
(.seq (.reg [⟨(some 4), .box (.t 1), none⟩, ⟨(some 6), .mov (.c (.int .i64 (.ofNat 0))), none⟩])
(.seq (.reg [⟨(some 10), .faddr 0 (.t 4), none⟩, ⟨(some 11), .load false 1 (.t 10), none⟩, ⟨(some 7), .mov (.t 11), none⟩])
(.seq (.reg [⟨(some 12), .faddr 0 (.t 4), none⟩, ⟨none, .store 1 (.t 12) (.c (.str [])), none⟩, ⟨(some 13), .faddr 4 (.t 4), none⟩, ⟨none, .store 1 (.t 13) (.c (.int .u64 (.ofNat 0))), none⟩, ⟨(some 14), .faddr 5 (.t 4), none⟩, ⟨none, .store 1 (.t 14) (.c (.int .u64 (.ofNat 0))), none⟩])
(.seq (.dreg [⟨⟨(some 16), .mov (.t 0), none⟩, .quiet, 0, 0⟩, ⟨⟨(some 17), .nilchk (.t 16), none⟩, .quiet, 1, 1⟩, ⟨⟨(some 18), .faddr 0 (.t 17), none⟩, .quiet, 2, 3⟩, ⟨⟨(some 19), .load false 1 (.t 18), none⟩, .load, 3, 7⟩, ⟨⟨(some 20), .mov (.t 7), none⟩, .quiet, 4, 0⟩, ⟨⟨(some 21), .load true 6 (.t 4), none⟩, .load, 5, 0⟩, ⟨⟨(some 22), .mov (.t 2), none⟩, .quiet, 6, 0⟩, ⟨⟨(some 23), .call 108 [(.t 19), (.t 20), (.t 21), (.t 22)], none⟩, .loud, 7, 127⟩, ⟨⟨(some 15), .mov (.t 23), none⟩, .quiet, 8, 255⟩, ⟨⟨(some 24), .extract (.t 15) 0, none⟩, .quiet, 9, 511⟩, ⟨⟨(some 8), .alloc [(.str []), (.str []), (.str []), (.int .u64 (.ofNat 0)), (.int .u64 (.ofNat 0)), (.int .u64 (.ofNat 0)), (.int .u64 (.ofNat 0)), (.int .u64 (.ofNat 0)), (.int .u64 (.ofNat 0))], none⟩, .quiet, 11, 0⟩, ⟨⟨none, .store 9 (.t 8) (.t 24), none⟩, .loud, 12, 3071⟩, ⟨⟨(some 25), .extract (.t 15) 1, none⟩, .quiet, 10, 511⟩, ⟨⟨(some 9), .mov (.t 25), none⟩, .quiet, 13, 8191⟩])
(.seq (.reg [⟨(some 26), .mov (.t 9), none⟩, ⟨(some 6), .mov (.t 26), none⟩])
.ret)))))⟩
theorem c74_eq : compFn Try.prog 74 = some c74 := by kernel_rfl
noncomputable def c78 : FnI := ⟨7, [.tmp 2],
(.seq (.reg [⟨(some 2), .mov (.c .nilp), none⟩])
(.seq (.reg [⟨(some 3), .mov (.t 0), none⟩, ⟨(some 4), .call 112 [(.t 3)], none⟩, ⟨(some 5), .build [.nilp] [(0, 1, (.t 4))], none⟩, ⟨(some 6), .box (.t 5), none⟩, ⟨(some 2), .mov (.t 6), none⟩])
.ret))⟩
theorem c78_eq : compFn Try.prog 78 = some c78 := by kernel_rfl
noncomputable def c101 : FnI := ⟨12, [.tmp 2],
(.seq (.reg [⟨(some 2), .mov (.c (.bool false)), none⟩])
(.seq (.reg [⟨(some 3), .mov (.t 0), none⟩, ⟨(some 4), .eq false .ptr (.t 3) (.c .nilp), none⟩, ⟨(some 5), .mov (.t 4), none⟩, ⟨(some 6), .mov (.t 0), (some (5, false))⟩, ⟨(some 7), .nilchk (.t 6), (some (5, false))⟩, ⟨(some 8), .faddr 0 (.t 7), (some (5, false))⟩, ⟨(some 9), .load false 1 (.t 8), (some (5, false))⟩, ⟨(some 10), .bin .eql (.t 9) (.c (.int .i64 (.ofNat 0))), (some (5, false))⟩, ⟨(some 11), .pick (.t 5) (.c (.bool true)) (.t 10), none⟩, ⟨(some 2), .mov (.t 11), none⟩])
.ret))⟩
theorem c101_eq : compFn Try.prog 101 = some c101 := by kernel_rfl
noncomputable def c102 : FnI := ⟨34, [.tmp 4, .tmp 5],
(.seq (.reg [⟨(some 2), .box (.t 0), none⟩, ⟨(some 3), .box (.t 1), none⟩, ⟨(some 4), .mov (.c (.int .i64 (.ofNat 0))), none⟩, ⟨(some 5), .mov (.c (.bool false)), none⟩])
(.seq (.reg [⟨(some 7), .load false 1 (.t 2), none⟩, ⟨(some 8), .nilchk (.t 7), none⟩, ⟨(some 9), .faddr 1 (.t 8), none⟩, ⟨(some 10), .load false 1 (.t 9), none⟩, ⟨(some 11), .len false (.t 10), none⟩, ⟨(some 12), .mkfn 123 [] [(.t 2), (.t 3)], none⟩, ⟨(some 13), .call 113 [(.t 11), (.t 12)], none⟩, ⟨(some 6), .mov (.t 13), none⟩])
(.seq (.dreg [⟨⟨(some 14), .mov (.t 6), none⟩, .quiet, 0, 0⟩, ⟨⟨(some 15), .mov (.t 6), none⟩, .quiet, 1, 0⟩, ⟨⟨(some 16), .load false 1 (.t 2), none⟩, .load, 2, 0⟩, ⟨⟨(some 17), .nilchk (.t 16), none⟩, .quiet, 3, 4⟩, ⟨⟨(some 18), .faddr 1 (.t 17), none⟩, .quiet, 4, 12⟩, ⟨⟨(some 19), .load false 1 (.t 18), none⟩, .load, 5, 28⟩, ⟨⟨(some 20), .len false (.t 19), none⟩, .quiet, 6, 60⟩, ⟨⟨(some 21), .bin .lss (.t 15) (.t 20), none⟩, .quiet, 7, 126⟩, ⟨⟨(some 22), .mov (.t 21), none⟩, .quiet, 8, 254⟩, ⟨⟨(some 23), .load false 1 (.t 2), (some (22, true))⟩, .load, 9, 510⟩, ⟨⟨(some 24), .nilchk (.t 23), (some (22, true))⟩, .quiet, 10, 1022⟩, ⟨⟨(some 25), .faddr 1 (.t 24), (some (22, true))⟩, .quiet, 11, 2046⟩, ⟨⟨(some 26), .load false 1 (.t 25), (some (22, true))⟩, .load, 12, 4094⟩, ⟨⟨(some 27), .mov (.t 6), (some (22, true))⟩, .quiet, 13, 510⟩, ⟨⟨(some 28), .idxS 9 (.t 26) (.t 27), (some (22, true))⟩, .quiet, 14, 16382⟩, ⟨⟨(some 29), .faddr 0 (.t 28), (some (22, true))⟩, .quiet, 15, 32766⟩, ⟨⟨(some 30), .load false 1 (.t 29), (some (22, true))⟩, .load, 16, 65534⟩, ⟨⟨(some 31), .load false 1 (.t 3), (some (22, true))⟩, .load, 17, 510⟩, ⟨⟨(some 32), .bin .eql (.t 30) (.t 31), (some (22, true))⟩, .quiet, 18, 262142⟩, ⟨⟨(some 33), .pick (.t 22) (.t 32) (.c (.bool false)), none⟩, .quiet, 19, 524286⟩, ⟨⟨(some 4), .mov (.t 14), none⟩, .quiet, 20, 511⟩, ⟨⟨(some 5), .mov (.t 33), none⟩, .quiet, 21, 2097151⟩])
.ret)))⟩
theorem c102_eq : compFn Try.prog 102 = some c102 := by kernel_rfl
noncomputable def c103 : FnI := ⟨32, [.tmp 2],
(.seq (.reg [⟨(some 2), .mov (.c (.bool false)), none⟩])
(.seq (.seq (.reg [⟨(some 6), .mov (.t 0), none⟩, ⟨(some 7), .len true (.t 6), none⟩, ⟨(some 8), .bin .lss (.t 7) (.c (.int .i64 (.ofNat 1))), none⟩, ⟨(some 9), .mov (.t 8), none⟩, ⟨(some 10), .mov (.t 0), (some (9, false))⟩, ⟨(some 11), .len true (.t 10), (some (9, false))⟩, ⟨(some 12), .bin .gtr (.t 11) (.c (.int .i64 (.ofNat 32))), (some (9, false))⟩, ⟨(some 13), .pick (.t 9) (.c (.bool true)) (.t 12), none⟩])
(.cond (.t 13) (.seq (.reg [⟨(some 2), .mov (.c (.bool false)), none⟩])
.ret) .skip))
(.seq (.reg [⟨(some 14), .mov (.t 0), none⟩, ⟨(some 15), .build [(.str [])] [(0, 1, (.t 14))], none⟩, ⟨(some 16), .box (.t 15), none⟩, ⟨(some 17), .mkfn 124 [(.t 16)] [], none⟩, ⟨(some 3), .mov (.t 17), none⟩])
(.block 0 (.loop (.block 1 (.seq (.reg [⟨(some 19), .mov (.t 3), none⟩, ⟨(some 20), .callv (.t 19) [], none⟩, ⟨(some 18), .mov (.t 20), none⟩, ⟨(some 21), .extract (.t 18) 0, none⟩, ⟨(some 22), .extract (.t 18) 1, none⟩, ⟨(some 4), .mov (.t 21), none⟩, ⟨(some 5), .mov (.t 22), none⟩])
(.seq (.seq (.reg [⟨(some 23), .mov (.t 4), none⟩, ⟨(some 24), .bin .eql (.t 23) (.c (.str [])), none⟩, ⟨(some 25), .mov (.t 24), none⟩, ⟨(some 26), .mov (.t 4), (some (25, false))⟩, ⟨(some 27), .call 119 [(.t 26), (.c (.fn (.func 125) [] []))], (some (25, false))⟩, ⟨(some 28), .un .not (.t 27), (some (25, false))⟩, ⟨(some 29), .pick (.t 25) (.c (.bool true)) (.t 28), none⟩])
(.cond (.t 29) (.seq (.reg [⟨(some 2), .mov (.c (.bool false)), none⟩])
.ret) .skip))
(.seq (.reg [⟨(some 30), .mov (.t 5), none⟩, ⟨(some 31), .un .not (.t 30), none⟩])
(.cond (.t 31) (.seq (.reg [⟨(some 2), .mov (.c (.bool true)), none⟩])
.ret) .skip))))))))))⟩
theorem c103_eq : compFn Try.prog 103 = some c103 := by kernel_rfl
noncomputable def c105 : FnI := ⟨9, [.tmp 5],
(.seq (.reg [⟨(some 3), .box (.t 0), none⟩, ⟨(some 5), .mov (.c (.int .i64 (.ofNat 0))), none⟩])
(.seq (.seq (.reg [⟨(some 6), .load false 1 (.t 2), none⟩, ⟨(some 7), .len true (.t 6), none⟩, ⟨(some 8), .bin .gtr (.t 7) (.c (.int .i64 (.ofNat 64))), none⟩])
(.cond (.t 8) (.seq (.reg [⟨(some 5), .mov (.c (.int .i64 (.ofNat 3))), none⟩])
.ret) .skip))
(.seq (.reg [⟨(some 5), .mov (.c (.int .i64 (.ofNat 0))), none⟩])
.ret)))⟩
theorem c105_eq : compFn Try.prog 105 = some c105 := by kernel_rfl
noncomputable def c106 : FnI := ⟨7, [],
(.reg [⟨(some 3), .mov (.t 0), none⟩, ⟨(some 4), .load false 1 (.t 1), none⟩, ⟨(some 5), .nilchk (.t 3), none⟩, ⟨(some 6), .faddr 1 (.t 5), none⟩, ⟨none, .store 1 (.t 6) (.t 4), none⟩])⟩
theorem c106_eq : compFn Try.prog 106 = some c106 := by kernel_rfl
noncomputable def c108 : FnI := ⟨94, [.cell 8 true 9, .tmp 9],
(.seq (.reg [⟨(some 6), .box (.t 2), none⟩, ⟨(some 8), .alloc [(.str []), (.str []), (.str []), (.int .u64 (.ofNat 0)), (.int .u64 (.ofNat 0)), (.int .u64 (.ofNat 0)), (.int .u64 (.ofNat 0)), (.int .u64 (.ofNat 0)), (.int .u64 (.ofNat 0))], none⟩, ⟨(some 9), .mov (.c (.int .i64 (.ofNat 0))), none⟩])
(.seq (.seq (.reg [⟨(some 13), .mov (.t 0), none⟩, ⟨(some 14), .call 101 [(.t 13)], none⟩])
(.cond (.t 14) (.seq (.reg [⟨(some 15), .build [(.str []), (.str []), (.str []), (.int .u64 (.ofNat 0)), (.int .u64 (.ofNat 0)), (.int .u64 (.ofNat 0)), (.int .u64 (.ofNat 0)), (.int .u64 (.ofNat 0)), (.int .u64 (.ofNat 0))] [], none⟩, ⟨none, .store 9 (.t 8) (.t 15), none⟩, ⟨(some 9), .mov (.c (.int .i64 (.ofNat 1))), none⟩])
.ret) .skip))
(.seq (.reg [⟨(some 17), .mov (.t 0), none⟩, ⟨(some 18), .mov (.t 1), none⟩, ⟨(some 19), .call 102 [(.t 17), (.t 18)], none⟩, ⟨(some 16), .mov (.t 19), none⟩, ⟨(some 20), .extract (.t 16) 0, none⟩, ⟨(some 21), .extract (.t 16) 1, none⟩, ⟨(some 10), .mov (.t 20), none⟩, ⟨(some 11), .mov (.t 21), none⟩])
(.seq (.seq (.dreg [⟨⟨(some 22), .mov (.t 11), none⟩, .quiet, 0, 0⟩, ⟨⟨(some 23), .un .not (.t 22), none⟩, .quiet, 1, 1⟩, ⟨⟨(some 24), .mov (.t 23), none⟩, .quiet, 2, 3⟩, ⟨⟨(some 25), .mov (.t 0), (some (24, true))⟩, .quiet, 3, 7⟩, ⟨⟨(some 26), .nilchk (.t 25), (some (24, true))⟩, .quiet, 4, 15⟩, ⟨⟨(some 27), .faddr 1 (.t 26), (some (24, true))⟩, .quiet, 5, 31⟩, ⟨⟨(some 28), .load false 1 (.t 27), (some (24, true))⟩, .load, 6, 63⟩, ⟨⟨(some 29), .len false (.t 28), (some (24, true))⟩, .quiet, 7, 127⟩, ⟨⟨(some 30), .mov (.t 0), (some (24, true))⟩, .quiet, 8, 7⟩, ⟨⟨(some 31), .nilchk (.t 30), (some (24, true))⟩, .quiet, 9, 263⟩, ⟨⟨(some 32), .faddr 0 (.t 31), (some (24, true))⟩, .quiet, 10, 775⟩, ⟨⟨(some 33), .load false 1 (.t 32), (some (24, true))⟩, .load, 11, 1799⟩, ⟨⟨(some 34), .bin .geq (.t 29) (.t 33), (some (24, true))⟩, .quiet, 12, 4095⟩, ⟨⟨(some 35), .pick (.t 24) (.t 34) (.c (.bool false)), none⟩, .quiet, 13, 8191⟩])
(.cond (.t 35) (.seq (.reg [⟨(some 36), .build [(.str []), (.str []), (.str []), (.int .u64 (.ofNat 0)), (.int .u64 (.ofNat 0)), (.int .u64 (.ofNat 0)), (.int .u64 (.ofNat 0)), (.int .u64 (.ofNat 0)), (.int .u64 (.ofNat 0))] [], none⟩, ⟨none, .store 9 (.t 8) (.t 36), none⟩, ⟨(some 9), .mov (.c (.int .i64 (.ofNat 5))), none⟩])
.ret) .skip))
(.seq (.reg [⟨(some 37), .mov (.t 1), none⟩, ⟨(some 38), .load true 6 (.t 6), none⟩, ⟨(some 39), .mov (.t 3), none⟩, ⟨(some 40), .mov (.t 3), none⟩, ⟨(some 41), .build [(.str []), (.str []), (.str []), (.int .u64 (.ofNat 0)), (.int .u64 (.ofNat 0)), (.int .u64 (.ofNat 0)), (.int .u64 (.ofNat 0)), (.int .u64 (.ofNat 0)), (.int .u64 (.ofNat 0))] [(0, 1, (.t 37)), (1, 6, (.t 38)), (7, 1, (.t 39)), (8, 1, (.t 40))], none⟩, ⟨(some 12), .alloc [(.str []), (.str []), (.str []), (.int .u64 (.ofNat 0)), (.int .u64 (.ofNat 0)), (.int .u64 (.ofNat 0)), (.int .u64 (.ofNat 0)), (.int .u64 (.ofNat 0)), (.int .u64 (.ofNat 0))], none⟩, ⟨none, .store 9 (.t 12) (.t 41), none⟩])
(.seq (.seq (.reg [⟨(some 42), .mov (.t 11), none⟩])
(.cond (.t 42) (.seq (.reg [⟨(some 43), .mov (.t 0), none⟩, ⟨(some 44), .nilchk (.t 43), none⟩, ⟨(some 45), .faddr 1 (.t 44), none⟩, ⟨(some 46), .load false 1 (.t 45), none⟩, ⟨(some 47), .mov (.t 10), none⟩, ⟨(some 48), .idxS 9 (.t 46) (.t 47), none⟩, ⟨(some 49), .faddr 7 (.t 48), none⟩, ⟨(some 50), .load false 1 (.t 49), none⟩, ⟨(some 51), .faddr 7 (.t 12), none⟩, ⟨none, .store 1 (.t 51) (.t 50), none⟩])
(.dreg [⟨⟨(some 52), .mov (.t 0), none⟩, .quiet, 0, 0⟩, ⟨⟨(some 53), .nilchk (.t 52), none⟩, .quiet, 1, 1⟩, ⟨⟨(some 54), .faddr 1 (.t 53), none⟩, .quiet, 2, 3⟩, ⟨⟨(some 55), .load false 1 (.t 54), none⟩, .load, 3, 7⟩, ⟨⟨(some 56), .mov (.t 10), none⟩, .quiet, 4, 0⟩, ⟨⟨(some 57), .load true 9 (.t 12), none⟩, .load, 5, 0⟩, ⟨⟨(some 58), .idxS 9 (.t 55) (.t 56), none⟩, .quiet, 6, 63⟩, ⟨⟨none, .store 9 (.t 58) (.t 57), none⟩, .loud, 7, 127⟩])) (.seq (.reg [⟨(some 59), .mov (.t 0), none⟩, ⟨(some 60), .mov (.t 0), none⟩, ⟨(some 61), .nilchk (.t 60), none⟩, ⟨(some 62), .faddr 1 (.t 61), none⟩, ⟨(some 63), .load false 1 (.t 62), none⟩, ⟨(some 64), .build [(.str []), (.str []), (.str []), (.int .u64 (.ofNat 0)), (.int .u64 (.ofNat 0)), (.int .u64 (.ofNat 0)), (.int .u64 (.ofNat 0)), (.int .u64 (.ofNat 0)), (.int .u64 (.ofNat 0))] [], none⟩, ⟨(some 65), .buildSl 9 1 [(.str []), (.str []), (.str []), (.int .u64 (.ofNat 0)), (.int .u64 (.ofNat 0)), (.int .u64 (.ofNat 0)), (.int .u64 (.ofNat 0)), (.int .u64 (.ofNat 0)), (.int .u64 (.ofNat 0))] [(0, 9, (.t 64))], none⟩, ⟨(some 66), .append 9 96 (.t 63) (.t 65), none⟩, ⟨(some 67), .nilchk (.t 59), none⟩, ⟨(some 68), .faddr 1 (.t 67), none⟩, ⟨none, .store 1 (.t 68) (.t 66), none⟩])
(.seq (.dreg [⟨⟨(some 69), .mov (.t 0), none⟩, .quiet, 0, 0⟩, ⟨⟨(some 70), .nilchk (.t 69), none⟩, .quiet, 1, 1⟩, ⟨⟨(some 71), .faddr 1 (.t 70), none⟩, .quiet, 2, 3⟩, ⟨⟨(some 72), .load false 1 (.t 71), none⟩, .load, 3, 7⟩, ⟨⟨(some 73), .mov (.t 10), none⟩, .quiet, 4, 0⟩, ⟨⟨(some 74), .bin .add (.t 73) (.c (.int .i64 (.ofNat 1))), none⟩, .quiet, 5, 16⟩, ⟨⟨(some 75), .slS 9 (.t 72) (some (.t 74)) none none, none⟩, .quiet, 6, 63⟩, ⟨⟨(some 76), .mov (.t 0), none⟩, .quiet, 7, 0⟩, ⟨⟨(some 77), .nilchk (.t 76), none⟩, .quiet, 8, 128⟩, ⟨⟨(some 78), .faddr 1 (.t 77), none⟩, .quiet, 9, 384⟩, ⟨⟨(some 79), .load false 1 (.t 78), none⟩, .load, 10, 896⟩, ⟨⟨(some 80), .mov (.t 10), none⟩, .quiet, 11, 0⟩, ⟨⟨(some 81), .slS 9 (.t 79) (some (.t 80)) none none, none⟩, .quiet, 12, 3968⟩, ⟨⟨(some 82), .copy 9 (.t 75) (.t 81), none⟩, .loud, 13, 8191⟩])
(.dreg [⟨⟨(some 83), .mov (.t 0), none⟩, .quiet, 0, 0⟩, ⟨⟨(some 84), .nilchk (.t 83), none⟩, .quiet, 1, 1⟩, ⟨⟨(some 85), .faddr 1 (.t 84), none⟩, .quiet, 2, 3⟩, ⟨⟨(some 86), .load false 1 (.t 85), none⟩, .load, 3, 7⟩, ⟨⟨(some 87), .mov (.t 10), none⟩, .quiet, 4, 0⟩, ⟨⟨(some 88), .load true 9 (.t 12), none⟩, .load, 5, 0⟩, ⟨⟨(some 89), .idxS 9 (.t 86) (.t 87), none⟩, .quiet, 6, 63⟩, ⟨⟨none, .store 9 (.t 89) (.t 88), none⟩, .loud, 7, 127⟩])))))
(.seq (.reg [⟨(some 90), .mov (.t 0), none⟩, ⟨(some 91), .mov (.t 3), none⟩, ⟨(some 92), .call 126 [(.t 90), (.t 91)], none⟩])
(.seq (.reg [⟨(some 93), .load true 9 (.t 12), none⟩, ⟨none, .store 9 (.t 8) (.t 93), none⟩, ⟨(some 9), .mov (.c (.int .i64 (.ofNat 0))), none⟩])
.ret))))))))⟩
theorem c108_eq : compFn Try.prog 108 = some c108 := by kernel_rfl
noncomputable def c112 : FnI := ⟨8, [.tmp 2],
(.seq (.reg [⟨(some 2), .mov (.c .nilp), none⟩])
(.seq (.reg [⟨(some 3), .mov (.t 0), none⟩, ⟨(some 4), .mm true (.t 3) [(.c (.int .i64 (.ofNat 1)))], none⟩, ⟨(some 5), .mm false (.t 4) [(.c (.int .i64 (.ofNat 64)))], none⟩, ⟨(some 6), .build [(.int .i64 (.ofNat 0)), .nilsl, (.int .u64 (.ofNat 0))] [(0, 1, (.t 5))], none⟩, ⟨(some 7), .box (.t 6), none⟩, ⟨(some 2), .mov (.t 7), none⟩])
.ret))⟩
theorem c112_eq : compFn Try.prog 112 = some c112 := by kernel_rfl
noncomputable def c113 : FnI := ⟨26, [.tmp 4],
(.seq (.reg [⟨(some 4), .mov (.c (.int .i64 (.ofNat 0))), none⟩])
(.seq (.reg [⟨(some 8), .mov (.t 0), none⟩, ⟨(some 5), .mov (.c (.int .i64 (.ofNat 0))), none⟩, ⟨(some 6), .mov (.t 8), none⟩])
(.seq (.block 0 (.loop (.seq (.seq (.reg [⟨(some 9), .mov (.t 5), none⟩, ⟨(some 10), .mov (.t 6), none⟩, ⟨(some 11), .bin .lss (.t 9) (.t 10), none⟩])
(.cond (.t 11) .skip (.exit 0)))
(.block 1 (.seq (.reg [⟨(some 12), .mov (.t 5), none⟩, ⟨(some 13), .mov (.t 6), none⟩, ⟨(some 14), .bin .add (.t 12) (.t 13), none⟩, ⟨(some 15), .cvInt .u64 (.t 14), none⟩, ⟨(some 16), .bin .shr (.t 15) (.c (.int .u64 (.ofNat 1))), none⟩, ⟨(some 17), .cvInt .i64 (.t 16), none⟩, ⟨(some 7), .mov (.t 17), none⟩])
(.seq (.reg [⟨(some 18), .mov (.t 1), none⟩, ⟨(some 19), .mov (.t 7), none⟩, ⟨(some 20), .callv (.t 18) [(.t 19)], none⟩, ⟨(some 21), .un .not (.t 20), none⟩])
(.cond (.t 21) (.reg [⟨(some 22), .mov (.t 7), none⟩, ⟨(some 23), .bin .add (.t 22) (.c (.int .i64 (.ofNat 1))), none⟩, ⟨(some 5), .mov (.t 23), none⟩]) (.reg [⟨(some 24), .mov (.t 7), none⟩, ⟨(some 6), .mov (.t 24), none⟩]))))))))
(.seq (.reg [⟨(some 25), .mov (.t 5), none⟩, ⟨(some 4), .mov (.t 25), none⟩])
.ret))))⟩
theorem c113_eq : compFn Try.prog 113 = some c113 := by kernel_rfl
noncomputable def c119 : FnI := ⟨18, [.tmp 4],
(.seq (.reg [⟨(some 4), .mov (.c (.bool false)), none⟩])
(.seq (.seq (.reg [⟨(some 6), .mov (.t 0), none⟩, ⟨(some 7), .len true (.t 6), none⟩, ⟨(some 8), .mov (.c (.int .i64 (.ofNat 0))), none⟩])
(.block 0 (.loop (.seq (.reg [⟨(some 9), .bin .lss (.t 8) (.t 7), none⟩])
(.seq (.cond (.t 9) .skip (.exit 0))
(.seq (.block 1 (.seq (.reg [⟨(some 10), .mov (.t 8), none⟩, ⟨(some 5), .mov (.t 10), none⟩])
(.seq (.reg [⟨(some 11), .mov (.t 1), none⟩, ⟨(some 12), .mov (.t 0), none⟩, ⟨(some 13), .mov (.t 5), none⟩, ⟨(some 14), .idxStr (.t 12) (.t 13), none⟩, ⟨(some 15), .callv (.t 11) [(.t 14)], none⟩, ⟨(some 16), .un .not (.t 15), none⟩])
(.cond (.t 16) (.seq (.reg [⟨(some 4), .mov (.c (.bool false)), none⟩])
.ret) .skip))))
(.reg [⟨(some 17), .bin .add (.t 8) (.c (.int .i64 (.ofNat 1))), none⟩, ⟨(some 8), .mov (.t 17), none⟩])))))))
(.seq (.reg [⟨(some 4), .mov (.c (.bool true)), none⟩])
.ret)))⟩
theorem c119_eq : compFn Try.prog 119 = some c119 := by kernel_rfl
noncomputable def c121 : FnI := ⟨17, [.tmp 2],
(.seq (.reg [⟨(some 2), .mov (.c (.bool false)), none⟩])
(.seq (.reg [⟨(some 3), .mov (.t 0), none⟩, ⟨(some 4), .bin .geq (.t 3) (.c (.int .u8 (.ofNat 97))), none⟩, ⟨(some 5), .mov (.t 4), none⟩, ⟨(some 6), .mov (.t 0), (some (5, true))⟩, ⟨(some 7), .bin .leq (.t 6) (.c (.int .u8 (.ofNat 122))), (some (5, true))⟩, ⟨(some 8), .pick (.t 5) (.t 7) (.c (.bool false)), none⟩, ⟨(some 9), .mov (.t 8), none⟩, ⟨(some 10), .mov (.t 0), (some (9, false))⟩, ⟨(some 11), .bin .geq (.t 10) (.c (.int .u8 (.ofNat 48))), (some (9, false))⟩, ⟨(some 12), .mov (.t 11), (some (9, false))⟩, ⟨(some 13), .mov (.t 0), (some (12, true))⟩, ⟨(some 14), .bin .leq (.t 13) (.c (.int .u8 (.ofNat 57))), (some (12, true))⟩, ⟨(some 15), .pick (.t 12) (.t 14) (.c (.bool false)), (some (9, false))⟩, ⟨(some 16), .pick (.t 9) (.c (.bool true)) (.t 15), none⟩, ⟨(some 2), .mov (.t 16), none⟩])
.ret))⟩
theorem c121_eq : compFn Try.prog 121 = some c121 := by kernel_rfl
noncomputable def c123 : FnI := ⟨15, [.tmp 4],
(.seq (.reg [⟨(some 4), .mov (.c (.bool false)), none⟩])
(.seq (.dreg [⟨⟨(some 5), .load false 1 (.t 1), none⟩, .load, 0, 0⟩, ⟨⟨(some 6), .nilchk (.t 5), none⟩, .quiet, 1, 1⟩, ⟨⟨(some 7), .faddr 1 (.t 6), none⟩, .quiet, 2, 3⟩, ⟨⟨(some 8), .load false 1 (.t 7), none⟩, .load, 3, 7⟩, ⟨⟨(some 9), .mov (.t 0), none⟩, .quiet, 4, 0⟩, ⟨⟨(some 10), .idxS 9 (.t 8) (.t 9), none⟩, .quiet, 5, 31⟩, ⟨⟨(some 11), .faddr 0 (.t 10), none⟩, .quiet, 6, 63⟩, ⟨⟨(some 12), .load false 1 (.t 11), none⟩, .load, 7, 127⟩, ⟨⟨(some 13), .load false 1 (.t 2), none⟩, .load, 8, 0⟩, ⟨⟨(some 14), .bin .geq (.t 12) (.t 13), none⟩, .quiet, 9, 511⟩, ⟨⟨(some 4), .mov (.t 14), none⟩, .quiet, 10, 1023⟩])
.ret))⟩
theorem c123_eq : compFn Try.prog 123 = some c123 := by kernel_rfl
noncomputable def c124 : FnI := ⟨22, [.tmp 2, .tmp 3],
(.seq (.reg [⟨(some 2), .mov (.c (.str [])), none⟩, ⟨(some 3), .mov (.c (.bool false)), none⟩])
(.seq (.reg [⟨(some 8), .mov (.t 0), none⟩, ⟨(some 9), .nilchk (.t 8), none⟩, ⟨(some 10), .faddr 0 (.t 9), none⟩, ⟨(some 11), .load false 1 (.t 10), none⟩, ⟨(some 12), .call 130 [(.t 11), (.c (.str [47]))], none⟩, ⟨(some 7), .mov (.t 12), none⟩, ⟨(some 13), .extract (.t 7) 0, none⟩, ⟨(some 14), .extract (.t 7) 1, none⟩, ⟨(some 15), .extract (.t 7) 2, none⟩, ⟨(some 4), .mov (.t 13), none⟩, ⟨(some 5), .mov (.t 14), none⟩, ⟨(some 6), .mov (.t 15), none⟩])
(.seq (.reg [⟨(some 16), .mov (.t 0), none⟩, ⟨(some 17), .mov (.t 5), none⟩, ⟨(some 18), .nilchk (.t 16), none⟩, ⟨(some 19), .faddr 0 (.t 18), none⟩, ⟨none, .store 1 (.t 19) (.t 17), none⟩])
(.seq (.reg [⟨(some 20), .mov (.t 4), none⟩, ⟨(some 21), .mov (.t 6), none⟩, ⟨(some 2), .mov (.t 20), none⟩, ⟨(some 3), .mov (.t 21), none⟩])
.ret))))⟩
theorem c124_eq : compFn Try.prog 124 = some c124 := by kernel_rfl
noncomputable def c125 : FnI := ⟨17, [.tmp 2],
(.seq (.reg [⟨(some 2), .mov (.c (.bool false)), none⟩])
(.seq (.reg [⟨(some 3), .mov (.t 0), none⟩, ⟨(some 4), .call 121 [(.t 3)], none⟩, ⟨(some 5), .mov (.t 4), none⟩, ⟨(some 6), .mov (.t 0), (some (5, false))⟩, ⟨(some 7), .bin .eql (.t 6) (.c (.int .u8 (.ofNat 45))), (some (5, false))⟩, ⟨(some 8), .pick (.t 5) (.c (.bool true)) (.t 7), none⟩, ⟨(some 9), .mov (.t 8), none⟩, ⟨(some 10), .mov (.t 0), (some (9, false))⟩, ⟨(some 11), .bin .eql (.t 10) (.c (.int .u8 (.ofNat 95))), (some (9, false))⟩, ⟨(some 12), .pick (.t 9) (.c (.bool true)) (.t 11), none⟩, ⟨(some 13), .mov (.t 12), none⟩, ⟨(some 14), .mov (.t 0), (some (13, false))⟩, ⟨(some 15), .bin .eql (.t 14) (.c (.int .u8 (.ofNat 46))), (some (13, false))⟩, ⟨(some 16), .pick (.t 13) (.c (.bool true)) (.t 15), none⟩, ⟨(some 2), .mov (.t 16), none⟩])
.ret))⟩
theorem c125_eq : compFn Try.prog 125 = some c125 := by kernel_rfl
noncomputable def c126 : FnI := ⟨16, [],
(.seq (.reg [⟨(some 4), .mov (.t 0), none⟩, ⟨(some 5), .call 101 [(.t 4)], none⟩, ⟨(some 6), .un .not (.t 5), none⟩])
(.cond (.t 6) (.reg [⟨(some 7), .mov (.t 0), none⟩, ⟨(some 8), .mov (.t 0), none⟩, ⟨(some 9), .nilchk (.t 8), none⟩, ⟨(some 10), .faddr 2 (.t 9), none⟩, ⟨(some 11), .load false 1 (.t 10), none⟩, ⟨(some 12), .mov (.t 1), none⟩, ⟨(some 13), .mm true (.t 11) [(.t 12)], none⟩, ⟨(some 14), .nilchk (.t 7), none⟩, ⟨(some 15), .faddr 2 (.t 14), none⟩, ⟨none, .store 1 (.t 15) (.t 13), none⟩]) .skip))⟩
theorem c126_eq : compFn Try.prog 126 = some c126 := by kernel_rfl
noncomputable def c130 : FnI := ⟨13, [.tmp 4, .tmp 5, .tmp 6],
(.seq (.reg [⟨(some 4), .mov (.c (.str [])), none⟩, ⟨(some 5), .mov (.c (.str [])), none⟩, ⟨(some 6), .mov (.c (.bool false)), none⟩])
(.seq (.reg [⟨(some 7), .mov (.t 0), none⟩, ⟨(some 8), .mov (.t 1), none⟩, ⟨(some 9), .call 132 [(.t 7), (.t 8)], none⟩, ⟨(some 10), .extract (.t 9) 0, none⟩, ⟨(some 11), .extract (.t 9) 1, none⟩, ⟨(some 12), .extract (.t 9) 2, none⟩, ⟨(some 4), .mov (.t 10), none⟩, ⟨(some 5), .mov (.t 11), none⟩, ⟨(some 6), .mov (.t 12), none⟩])
.ret))⟩
theorem c130_eq : compFn Try.prog 130 = some c130 := by kernel_rfl
noncomputable def c132 : FnI := ⟨23, [.tmp 4, .tmp 5, .tmp 6],
(.seq (.reg [⟨(some 4), .mov (.c (.str [])), none⟩, ⟨(some 5), .mov (.c (.str [])), none⟩, ⟨(some 6), .mov (.c (.bool false)), none⟩])
(.seq (.seq (.reg [⟨(some 8), .mov (.t 0), none⟩, ⟨(some 9), .mov (.t 1), none⟩, ⟨(some 10), .call 134 [(.t 8), (.t 9)], none⟩, ⟨(some 7), .mov (.t 10), none⟩])
(.seq (.reg [⟨(some 11), .mov (.t 7), none⟩, ⟨(some 12), .bin .geq (.t 11) (.c (.int .i64 (.ofNat 0))), none⟩])
(.cond (.t 12) (.seq (.dreg [⟨⟨(some 13), .mov (.t 0), none⟩, .quiet, 0, 0⟩, ⟨⟨(some 14), .mov (.t 7), none⟩, .quiet, 1, 0⟩, ⟨⟨(some 15), .slStr (.t 13) none (some (.t 14)), none⟩, .quiet, 2, 3⟩, ⟨⟨(some 16), .mov (.t 0), none⟩, .quiet, 3, 0⟩, ⟨⟨(some 17), .mov (.t 7), none⟩, .quiet, 4, 0⟩, ⟨⟨(some 18), .mov (.t 1), none⟩, .quiet, 5, 0⟩, ⟨⟨(some 19), .len true (.t 18), none⟩, .quiet, 6, 32⟩, ⟨⟨(some 20), .bin .add (.t 17) (.t 19), none⟩, .quiet, 7, 112⟩, ⟨⟨(some 21), .slStr (.t 16) (some (.t 20)) none, none⟩, .quiet, 8, 248⟩, ⟨⟨(some 4), .mov (.t 15), none⟩, .quiet, 9, 7⟩, ⟨⟨(some 5), .mov (.t 21), none⟩, .quiet, 10, 1023⟩, ⟨⟨(some 6), .mov (.c (.bool true)), none⟩, .quiet, 11, 2047⟩])
.ret) .skip)))
(.seq (.reg [⟨(some 22), .mov (.t 0), none⟩, ⟨(some 4), .mov (.t 22), none⟩, ⟨(some 5), .mov (.c (.str [])), none⟩, ⟨(some 6), .mov (.c (.bool false)), none⟩])
.ret)))⟩
theorem c132_eq : compFn Try.prog 132 = some c132 := by kernel_rfl
noncomputable def c134 : FnI := ⟨143, [.tmp 4],
(.seq (.reg [⟨(some 4), .mov (.c (.int .i64 (.ofNat 0))), none⟩])
(.seq (.reg [⟨(some 14), .mov (.t 1), none⟩, ⟨(some 15), .len true (.t 14), none⟩, ⟨(some 5), .mov (.t 15), none⟩])
(.seq (.block 0 (.seq (.reg [⟨(some 17), .mov (.t 5), none⟩, ⟨(some 18), .bin .eql (.t 17) (.c (.int .i64 (.ofNat 0))), none⟩, ⟨(some 19), .mov (.t 18), none⟩, ⟨(some 20), .mov (.t 1), (some (19, false))⟩, ⟨(some 21), .mov (.t 0), (some (19, false))⟩, ⟨(some 22), .bin .eql (.t 20) (.t 21), (some (19, false))⟩, ⟨(some 23), .pick (.t 19) (.c (.bool true)) (.t 22), none⟩, ⟨(some 16), .mov (.t 23), none⟩])
(.cond (.t 16) (.seq (.reg [⟨(some 4), .mov (.c (.int .i64 (.ofNat 0))), none⟩])
.ret) (.seq (.reg [⟨(some 25), .mov (.t 5), none⟩, ⟨(some 26), .bin .eql (.t 25) (.c (.int .i64 (.ofNat 1))), none⟩, ⟨(some 24), .mov (.t 26), none⟩])
(.cond (.t 24) (.seq (.reg [⟨(some 27), .mov (.t 0), none⟩, ⟨(some 28), .mov (.t 1), none⟩, ⟨(some 29), .idxStr (.t 28) (.c (.int .i64 (.ofNat 0))), none⟩, ⟨(some 30), .call 135 [(.t 27), (.t 29)], none⟩, ⟨(some 4), .mov (.t 30), none⟩])
.ret) (.seq (.reg [⟨(some 32), .mov (.t 5), none⟩, ⟨(some 33), .mov (.t 0), none⟩, ⟨(some 34), .len true (.t 33), none⟩, ⟨(some 35), .bin .geq (.t 32) (.t 34), none⟩, ⟨(some 31), .mov (.t 35), none⟩])
(.cond (.t 31) (.seq (.reg [⟨(some 4), .mov (.c (.int .i64 (.negSucc 0))), none⟩])
.ret) (.seq (.reg [⟨(some 37), .mov (.t 5), none⟩, ⟨(some 38), .fail, none⟩, ⟨(some 39), .bin .leq (.t 37) (.t 38), none⟩, ⟨(some 40), .mov (.t 39), none⟩, ⟨(some 41), .mov (.t 0), (some (40, true))⟩, ⟨(some 42), .len true (.t 41), (some (40, true))⟩, ⟨(some 43), .bin .leq (.t 42) (.c (.int .i64 (.ofNat 64))), (some (40, true))⟩, ⟨(some 44), .pick (.t 40) (.t 43) (.c (.bool false)), none⟩, ⟨(some 36), .mov (.t 44), none⟩])
(.cond (.t 36) (.seq (.reg [⟨(some 45), .mov (.t 0), none⟩, ⟨(some 46), .mov (.t 1), none⟩, ⟨(some 47), .call 136 [(.t 45), (.t 46)], none⟩, ⟨(some 4), .mov (.t 47), none⟩])
.ret) .skip)))))))))
(.seq (.reg [⟨(some 48), .mov (.t 1), none⟩, ⟨(some 49), .idxStr (.t 48) (.c (.int .i64 (.ofNat 0))), none⟩, ⟨(some 6), .mov (.t 49), none⟩])
(.seq (.reg [⟨(some 50), .mov (.t 1), none⟩, ⟨(some 51), .idxStr (.t 50) (.c (.int .i64 (.ofNat 1))), none⟩, ⟨(some 7), .mov (.t 51), none⟩])
(.seq (.reg [⟨(some 8), .mov (.c (.int .i64 (.ofNat 0))), none⟩])
(.seq (.reg [⟨(some 52), .mov (.t 0), none⟩, ⟨(some 53), .len true (.t 52), none⟩, ⟨(some 54), .mov (.t 5), none⟩, ⟨(some 55), .bin .sub (.t 53) (.t 54), none⟩, ⟨(some 56), .bin .add (.t 55) (.c (.int .i64 (.ofNat 1))), none⟩, ⟨(some 9), .mov (.t 56), none⟩])
(.seq (.reg [⟨(some 10), .mov (.c (.int .i64 (.ofNat 0))), none⟩])
(.seq (.block 1 (.loop (.seq (.seq (.reg [⟨(some 57), .mov (.t 8), none⟩, ⟨(some 58), .mov (.t 9), none⟩, ⟨(some 59), .bin .lss (.t 57) (.t 58), none⟩])
(.cond (.t 59) .skip (.exit 1)))
(.block 2 (.seq (.seq (.reg [⟨(some 60), .mov (.t 0), none⟩, ⟨(some 61), .mov (.t 8), none⟩, ⟨(some 62), .idxStr (.t 60) (.t 61), none⟩, ⟨(some 63), .mov (.t 6), none⟩, ⟨(some 64), .bin .neq (.t 62) (.t 63), none⟩])
(.cond (.t 64) (.seq (.reg [⟨(some 65), .mov (.t 0), none⟩, ⟨(some 66), .mov (.t 8), none⟩, ⟨(some 67), .bin .add (.t 66) (.c (.int .i64 (.ofNat 1))), none⟩, ⟨(some 68), .mov (.t 9), none⟩, ⟨(some 69), .slStr (.t 65) (some (.t 67)) (some (.t 68)), none⟩, ⟨(some 70), .mov (.t 6), none⟩, ⟨(some 71), .call 135 [(.t 69), (.t 70)], none⟩, ⟨(some 11), .mov (.t 71), none⟩])
(.seq (.seq (.reg [⟨(some 72), .mov (.t 11), none⟩, ⟨(some 73), .bin .lss (.t 72) (.c (.int .i64 (.ofNat 0))), none⟩])
(.cond (.t 73) (.seq (.reg [⟨(some 4), .mov (.c (.int .i64 (.negSucc 0))), none⟩])
.ret) .skip))
(.reg [⟨(some 74), .mov (.t 8), none⟩, ⟨(some 75), .mov (.t 11), none⟩, ⟨(some 76), .bin .add (.t 75) (.c (.int .i64 (.ofNat 1))), none⟩, ⟨(some 77), .bin .add (.t 74) (.t 76), none⟩, ⟨(some 8), .mov (.t 77), none⟩]))) .skip))
(.seq (.seq (.reg [⟨(some 78), .mov (.t 0), none⟩, ⟨(some 79), .mov (.t 8), none⟩, ⟨(some 80), .bin .add (.t 79) (.c (.int .i64 (.ofNat 1))), none⟩, ⟨(some 81), .idxStr (.t 78) (.t 80), none⟩, ⟨(some 82), .mov (.t 7), none⟩, ⟨(some 83), .bin .eql (.t 81) (.t 82), none⟩, ⟨(some 84), .mov (.t 83), none⟩, ⟨(some 85), .mov (.t 0), (some (84, true))⟩, ⟨(some 86), .mov (.t 8), (some (84, true))⟩, ⟨(some 87), .mov (.t 8), (some (84, true))⟩, ⟨(some 88), .mov (.t 5), (some (84, true))⟩, ⟨(some 89), .bin .add (.t 87) (.t 88), (some (84, true))⟩, ⟨(some 90), .slStr (.t 85) (some (.t 86)) (some (.t 89)), (some (84, true))⟩, ⟨(some 91), .mov (.t 1), (some (84, true))⟩, ⟨(some 92), .bin .eql (.t 90) (.t 91), (some (84, true))⟩, ⟨(some 93), .pick (.t 84) (.t 92) (.c (.bool false)), none⟩])
(.cond (.t 93) (.seq (.reg [⟨(some 94), .mov (.t 8), none⟩, ⟨(some 4), .mov (.t 94), none⟩])
.ret) .skip))
(.seq (.reg [⟨(some 95), .mov (.t 8), none⟩, ⟨(some 96), .bin .add (.t 95) (.c (.int .i64 (.ofNat 1))), none⟩, ⟨(some 8), .mov (.t 96), none⟩])
(.seq (.reg [⟨(some 97), .mov (.t 10), none⟩, ⟨(some 98), .bin .add (.t 97) (.c (.int .i64 (.ofNat 1))), none⟩, ⟨(some 10), .mov (.t 98), none⟩])
(.seq (.reg [⟨(some 99), .mov (.t 5), none⟩, ⟨(some 100), .fail, none⟩, ⟨(some 101), .bin .leq (.t 99) (.t 100), none⟩, ⟨(some 102), .mov (.t 101), none⟩, ⟨(some 103), .mov (.t 10), (some (102, true))⟩, ⟨(some 104), .mov (.t 8), (some (102, true))⟩, ⟨(some 105), .call 137 [(.t 104)], (some (102, true))⟩, ⟨(some 106), .bin .gtr (.t 103) (.t 105), (some (102, true))⟩, ⟨(some 107), .pick (.t 102) (.t 106) (.c (.bool false)), none⟩])
(.cond (.t 107) (.seq (.reg [⟨(some 108), .mov (.t 0), none⟩, ⟨(some 109), .mov (.t 8), none⟩, ⟨(some 110), .slStr (.t 108) (some (.t 109)) none, none⟩, ⟨(some 111), .mov (.t 1), none⟩, ⟨(some 112), .call 136 [(.t 110), (.t 111)], none⟩, ⟨(some 12), .mov (.t 112), none⟩])
(.seq (.seq (.reg [⟨(some 113), .mov (.t 12), none⟩, ⟨(some 114), .bin .geq (.t 113) (.c (.int .i64 (.ofNat 0))), none⟩])
(.cond (.t 114) (.seq (.reg [⟨(some 115), .mov (.t 12), none⟩, ⟨(some 116), .mov (.t 8), none⟩, ⟨(some 117), .bin .add (.t 115) (.t 116), none⟩, ⟨(some 4), .mov (.t 117), none⟩])
.ret) .skip))
(.seq (.reg [⟨(some 4), .mov (.c (.int .i64 (.negSucc 0))), none⟩])
.ret))) (.seq (.reg [⟨(some 118), .mov (.t 5), none⟩, ⟨(some 119), .fail, none⟩, ⟨(some 120), .bin .gtr (.t 118) (.t 119), none⟩, ⟨(some 121), .mov (.t 120), none⟩, ⟨(some 122), .mov (.t 10), (some (121, true))⟩, ⟨(some 123), .mov (.t 8), (some (121, true))⟩, ⟨(some 124), .bin .shr (.t 123) (.c (.int .u64 (.ofNat 4))), (some (121, true))⟩, ⟨(some 125), .bin .add (.c (.int .i64 (.ofNat 4))) (.t 124), (some (121, true))⟩, ⟨(some 126), .bin .geq (.t 122) (.t 125), (some (121, true))⟩, ⟨(some 127), .pick (.t 121) (.t 126) (.c (.bool false)), none⟩, ⟨(some 128), .mov (.t 127), none⟩, ⟨(some 129), .mov (.t 8), (some (128, true))⟩, ⟨(some 130), .mov (.t 9), (some (128, true))⟩, ⟨(some 131), .bin .lss (.t 129) (.t 130), (some (128, true))⟩, ⟨(some 132), .pick (.t 128) (.t 131) (.c (.bool false)), none⟩])
(.cond (.t 132) (.seq (.reg [⟨(some 133), .mov (.t 0), none⟩, ⟨(some 134), .mov (.t 8), none⟩, ⟨(some 135), .slStr (.t 133) (some (.t 134)) none, none⟩, ⟨(some 136), .mov (.t 1), none⟩, ⟨(some 137), .call 138 [(.t 135), (.t 136)], none⟩, ⟨(some 13), .mov (.t 137), none⟩])
(.seq (.seq (.reg [⟨(some 138), .mov (.t 13), none⟩, ⟨(some 139), .bin .lss (.t 138) (.c (.int .i64 (.ofNat 0))), none⟩])
(.cond (.t 139) (.seq (.reg [⟨(some 4), .mov (.c (.int .i64 (.negSucc 0))), none⟩])
.ret) .skip))
(.seq (.reg [⟨(some 140), .mov (.t 8), none⟩, ⟨(some 141), .mov (.t 13), none⟩, ⟨(some 142), .bin .add (.t 140) (.t 141), none⟩, ⟨(some 4), .mov (.t 142), none⟩])
.ret))) .skip))))))))))))
(.seq (.reg [⟨(some 4), .mov (.c (.int .i64 (.negSucc 0))), none⟩])
.ret))))))))))⟩
theorem c134_eq : compFn Try.prog 134 = some c134 := by kernel_rfl
noncomputable def c135 : FnI := ⟨8, [.tmp 4],
(.seq (.reg [⟨(some 4), .mov (.c (.int .i64 (.ofNat 0))), none⟩])
(.seq (.reg [⟨(some 5), .mov (.t 0), none⟩, ⟨(some 6), .mov (.t 1), none⟩, ⟨(some 7), .ext .idxByte [(.t 5), (.t 6)], none⟩, ⟨(some 4), .mov (.t 7), none⟩])
.ret))⟩
theorem c135_eq : compFn Try.prog 135 = some c135 := by kernel_rfl
end Go.Proofs.Ythjmnmbmkpefbaa.AbsKvNone
