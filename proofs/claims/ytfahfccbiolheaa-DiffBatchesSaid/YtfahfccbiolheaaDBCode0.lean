/- The functions' code, as the evaluator takes it (part 0), and that it is what the evaluator's compiler makes of the program. -/
import Derived.Test.YtfahfccbiolheaaAbsJ
import Derived.Test.YtfahfccbiolheaaRows
set_option maxRecDepth 100000
namespace Go.Proofs.Ytfahfccbiolheaa.DB
open Go.Proofs.Ytfahfccbiolheaa.Abs
/-- sodality/sodalitylaw27.DiffBatches -/
noncomputable def c4 : FnI := ⟨20, [.tmp 4],
(.seq (.reg (⟨(some 4), .mov (.c (.bool false)), none⟩ :: []))
(.seq (.seq (.reg (⟨(some 5), .mov (.t 0), none⟩ :: ⟨(some 6), .len false (.t 5), none⟩ :: ⟨(some 7), .bin .gtr (.t 6) (.c (.int .i64 (.ofNat 60))), none⟩ :: []))
(.cond (.t 7) (.reg (⟨(some 8), .mov (.t 0), none⟩ :: ⟨(some 9), .slS 17 (.t 8) none (some (.c (.int .i64 (.ofNat 60)))) none, none⟩ :: ⟨(some 0), .mov (.t 9), none⟩ :: [])) .skip))
(.seq (.reg (⟨(some 10), .mov (.t 0), none⟩ :: ⟨(some 11), .mov (.t 1), none⟩ :: ⟨(some 12), .call 12 [(.t 10), (.t 11)], none⟩ :: ⟨(some 13), .mov (.t 0), none⟩ :: ⟨(some 14), .mov (.t 1), none⟩ :: ⟨(some 15), .call 13 [(.t 13), (.t 14)], none⟩ :: ⟨(some 16), .call 9 [(.t 12), (.t 15)], none⟩ :: ⟨(some 17), .mov (.t 16), none⟩ :: ⟨(some 18), .call 7 [], (some (17, true))⟩ :: ⟨(some 19), .pick (.t 17) (.t 18) (.c (.bool false)), none⟩ :: ⟨(some 4), .mov (.t 19), none⟩ :: []))
.ret)))⟩
theorem c4_eq : compFn Try.prog 4 = some c4 := by kernel_rfl
/-- sodality/sodalitylaw27.works -/
noncomputable def c7 : FnI := ⟨29, [.tmp 0],
(.seq (.reg (⟨(some 0), .mov (.c (.bool false)), none⟩ :: []))
(.seq (.reg (⟨(some 2), .build [(.bool false), (.int .i64 (.ofNat 0)), (.str []), .nilsl, .nilsl] [(1, 1, (.c (.int .i64 (.ofNat 1)))), (2, 1, (.c (.str [120])))], none⟩ :: ⟨(some 3), .build [(.bool false), (.int .i64 (.ofNat 0)), (.str []), .nilsl, .nilsl] [], none⟩ :: ⟨(some 4), .call 10 [(.t 2), (.t 3)], none⟩ :: ⟨(some 1), .mov (.t 4), none⟩ :: []))
(.seq (.reg (⟨(some 5), .mov (.t 1), none⟩ :: ⟨(some 6), .len false (.t 5), none⟩ :: ⟨(some 7), .bin .eql (.t 6) (.c (.int .i64 (.ofNat 1))), none⟩ :: ⟨(some 8), .mov (.t 7), none⟩ :: ⟨(some 9), .mov (.t 1), (some (8, true))⟩ :: ⟨(some 10), .idxS 17 (.t 9) (.c (.int .i64 (.ofNat 0))), (some (8, true))⟩ :: ⟨(some 11), .faddr 0 (.t 10), (some (8, true))⟩ :: ⟨(some 12), .load false 1 (.t 11), (some (8, true))⟩ :: ⟨(some 13), .bin .eql (.t 12) (.c (.int .i64 (.ofNat 1))), (some (8, true))⟩ :: ⟨(some 14), .pick (.t 8) (.t 13) (.c (.bool false)), none⟩ :: ⟨(some 15), .mov (.t 14), none⟩ :: ⟨(some 16), .mov (.t 1), (some (15, true))⟩ :: ⟨(some 17), .idxS 17 (.t 16) (.c (.int .i64 (.ofNat 0))), (some (15, true))⟩ :: ⟨(some 18), .faddr 1 (.t 17), (some (15, true))⟩ :: ⟨(some 19), .load false 1 (.t 18), (some (15, true))⟩ :: ⟨(some 20), .bin .eql (.t 19) (.c (.int .i64 (.ofNat 1))), (some (15, true))⟩ :: ⟨(some 21), .pick (.t 15) (.t 20) (.c (.bool false)), none⟩ :: ⟨(some 22), .mov (.t 21), none⟩ :: ⟨(some 23), .mov (.t 1), (some (22, true))⟩ :: ⟨(some 24), .idxS 17 (.t 23) (.c (.int .i64 (.ofNat 0))), (some (22, true))⟩ :: ⟨(some 25), .faddr 7 (.t 24), (some (22, true))⟩ :: ⟨(some 26), .load false 1 (.t 25), (some (22, true))⟩ :: ⟨(some 27), .bin .eql (.t 26) (.c (.str [120])), (some (22, true))⟩ :: ⟨(some 28), .pick (.t 22) (.t 27) (.c (.bool false)), none⟩ :: ⟨(some 0), .mov (.t 28), none⟩ :: []))
.ret)))⟩
theorem c7_eq : compFn Try.prog 7 = some c7 := by kernel_rfl
/-- sodality/sodalitylaw27.cmds -/
noncomputable def c9 : FnI := ⟨27, [.tmp 4],
(.seq (.reg (⟨(some 4), .mov (.c (.bool false)), none⟩ :: []))
(.seq (.seq (.reg (⟨(some 6), .mov (.t 0), none⟩ :: ⟨(some 7), .len false (.t 6), none⟩ :: ⟨(some 8), .mov (.t 1), none⟩ :: ⟨(some 9), .len false (.t 8), none⟩ :: ⟨(some 10), .bin .neq (.t 7) (.t 9), none⟩ :: []))
(.cond (.t 10) (.seq (.reg (⟨(some 4), .mov (.c (.bool false)), none⟩ :: []))
.ret) .skip))
(.seq (.seq (.reg (⟨(some 5), .mov (.c (.int .i64 (.ofNat 0))), none⟩ :: []))
(.block 0 (.loop (.seq (.seq (.reg (⟨(some 11), .mov (.t 5), none⟩ :: ⟨(some 12), .mov (.t 0), none⟩ :: ⟨(some 13), .len false (.t 12), none⟩ :: ⟨(some 14), .bin .lss (.t 11) (.t 13), none⟩ :: []))
(.cond (.t 14) .skip (.exit 0)))
(.seq (.block 1 (.seq (.dreg (⟨⟨(some 17), .mov (.t 0), none⟩, .quiet, 0, 0⟩ :: ⟨⟨(some 18), .mov (.t 5), none⟩, .quiet, 1, 0⟩ :: ⟨⟨(some 19), .idxS 17 (.t 17) (.t 18), none⟩, .quiet, 2, 3⟩ :: ⟨⟨(some 20), .load true 17 (.t 19), none⟩, .load, 3, 7⟩ :: ⟨⟨(some 21), .mov (.t 1), none⟩, .quiet, 4, 0⟩ :: ⟨⟨(some 22), .mov (.t 5), none⟩, .quiet, 5, 0⟩ :: ⟨⟨(some 23), .idxS 17 (.t 21) (.t 22), none⟩, .quiet, 6, 48⟩ :: ⟨⟨(some 24), .load true 17 (.t 23), none⟩, .load, 7, 112⟩ :: ⟨⟨(some 25), .call 17 [(.t 20), (.t 24)], none⟩, .loud, 8, 255⟩ :: ⟨⟨(some 26), .un .not (.t 25), none⟩, .quiet, 9, 511⟩ :: []))
(.cond (.t 26) (.seq (.reg (⟨(some 4), .mov (.c (.bool false)), none⟩ :: []))
.ret) .skip)))
(.reg (⟨(some 15), .mov (.t 5), none⟩ :: ⟨(some 16), .bin .add (.t 15) (.c (.int .i64 (.ofNat 1))), none⟩ :: ⟨(some 5), .mov (.t 16), none⟩ :: [])))))))
(.seq (.reg (⟨(some 4), .mov (.c (.bool true)), none⟩ :: []))
.ret))))⟩
theorem c9_eq : compFn Try.prog 9 = some c9 := by kernel_rfl
/-- sodality/diff.Diff -/
noncomputable def c10 : FnI := ⟨69, [.tmp 4],
(.seq (.reg (⟨(some 2), .box (.t 0), none⟩ :: ⟨(some 3), .box (.t 1), none⟩ :: ⟨(some 4), .mov (.c .nilsl), none⟩ :: []))
(.seq (.reg (⟨(some 5), .mov (.c .nilsl), none⟩ :: []))
(.seq (.seq (.reg (⟨(some 8), .faddr 0 (.t 3), none⟩ :: ⟨(some 9), .load false 1 (.t 8), none⟩ :: ⟨(some 10), .un .not (.t 9), none⟩ :: []))
(.cond (.t 10) (.reg (⟨(some 11), .faddr 3 (.t 3), none⟩ :: ⟨none, .store 1 (.t 11) (.c .nilsl), none⟩ :: ⟨(some 12), .faddr 4 (.t 3), none⟩ :: ⟨none, .store 1 (.t 12) (.c .nilsl), none⟩ :: [])) .skip))
(.seq (.seq (.reg (⟨(some 13), .faddr 0 (.t 3), none⟩ :: ⟨(some 14), .load false 1 (.t 13), none⟩ :: ⟨(some 15), .un .not (.t 14), none⟩ :: ⟨(some 16), .mov (.t 15), none⟩ :: ⟨(some 17), .faddr 2 (.t 2), (some (16, false))⟩ :: ⟨(some 18), .load false 1 (.t 17), (some (16, false))⟩ :: ⟨(some 19), .faddr 2 (.t 3), (some (16, false))⟩ :: ⟨(some 20), .load false 1 (.t 19), (some (16, false))⟩ :: ⟨(some 21), .bin .neq (.t 18) (.t 20), (some (16, false))⟩ :: ⟨(some 22), .pick (.t 16) (.c (.bool true)) (.t 21), none⟩ :: []))
(.cond (.t 22) (.reg (⟨(some 23), .mov (.t 5), none⟩ :: ⟨(some 24), .faddr 1 (.t 2), none⟩ :: ⟨(some 25), .load false 1 (.t 24), none⟩ :: ⟨(some 26), .faddr 2 (.t 2), none⟩ :: ⟨(some 27), .load false 1 (.t 26), none⟩ :: ⟨(some 28), .build [(.int .i64 (.ofNat 0)), (.int .i64 (.ofNat 0)), (.int .i64 (.ofNat 0)), (.int .i64 (.ofNat 0)), (.str []), (.str []), (.str []), (.str []), (.str []), (.str []), (.str []), (.str []), .nilsl, (.bool false), (.int .u64 (.ofNat 0)), (.int .u64 (.ofNat 0)), .nilsl] [(0, 1, (.c (.int .i64 (.ofNat 1)))), (1, 1, (.t 25)), (7, 1, (.t 27))], none⟩ :: ⟨(some 29), .buildSl 17 1 [(.int .i64 (.ofNat 0)), (.int .i64 (.ofNat 0)), (.int .i64 (.ofNat 0)), (.int .i64 (.ofNat 0)), (.str []), (.str []), (.str []), (.str []), (.str []), (.str []), (.str []), (.str []), .nilsl, (.bool false), (.int .u64 (.ofNat 0)), (.int .u64 (.ofNat 0)), .nilsl] [(0, 17, (.t 28))], none⟩ :: ⟨(some 30), .append 17 232 (.t 23) (.t 29), none⟩ :: ⟨(some 5), .mov (.t 30), none⟩ :: [])) .skip))
(.seq (.dreg (⟨⟨(some 31), .faddr 1 (.t 2), none⟩, .quiet, 0, 0⟩ :: ⟨⟨(some 32), .load false 1 (.t 31), none⟩, .load, 1, 1⟩ :: ⟨⟨(some 33), .call 18 [(.t 32)], none⟩, .loud, 2, 3⟩ :: ⟨⟨(some 34), .faddr 1 (.t 2), none⟩, .quiet, 3, 0⟩ :: ⟨⟨(some 35), .load false 1 (.t 34), none⟩, .load, 4, 8⟩ :: ⟨⟨(some 36), .call 19 [(.t 35)], none⟩, .loud, 5, 31⟩ :: ⟨⟨(some 6), .alloc [.nilfn, .nilfn, .nilfn, .nilfn], none⟩, .quiet, 6, 0⟩ :: ⟨⟨(some 7), .alloc [.nilfn, .nilfn, .nilfn, .nilfn], none⟩, .quiet, 7, 0⟩ :: ⟨⟨none, .store 4 (.t 6) (.t 33), none⟩, .loud, 8, 255⟩ :: ⟨⟨none, .store 4 (.t 7) (.t 36), none⟩, .loud, 9, 511⟩ :: []))
(.seq (.reg (⟨(some 37), .mov (.t 5), none⟩ :: ⟨(some 38), .faddr 4 (.t 2), none⟩ :: ⟨(some 39), .load false 1 (.t 38), none⟩ :: ⟨(some 40), .faddr 4 (.t 3), none⟩ :: ⟨(some 41), .load false 1 (.t 40), none⟩ :: ⟨(some 42), .load true 4 (.t 7), none⟩ :: ⟨(some 43), .call 20 [(.t 39), (.t 41), (.t 42)], none⟩ :: ⟨(some 44), .append 17 232 (.t 37) (.t 43), none⟩ :: ⟨(some 5), .mov (.t 44), none⟩ :: []))
(.seq (.reg (⟨(some 45), .mov (.t 5), none⟩ :: ⟨(some 46), .faddr 3 (.t 2), none⟩ :: ⟨(some 47), .load false 1 (.t 46), none⟩ :: ⟨(some 48), .faddr 3 (.t 3), none⟩ :: ⟨(some 49), .load false 1 (.t 48), none⟩ :: ⟨(some 50), .load true 4 (.t 6), none⟩ :: ⟨(some 51), .call 21 [(.t 47), (.t 49), (.t 50)], none⟩ :: ⟨(some 52), .append 17 232 (.t 45) (.t 51), none⟩ :: ⟨(some 5), .mov (.t 52), none⟩ :: []))
(.seq (.reg (⟨(some 53), .mov (.t 5), none⟩ :: ⟨(some 54), .faddr 3 (.t 2), none⟩ :: ⟨(some 55), .load false 1 (.t 54), none⟩ :: ⟨(some 56), .faddr 3 (.t 3), none⟩ :: ⟨(some 57), .load false 1 (.t 56), none⟩ :: ⟨(some 58), .load true 4 (.t 6), none⟩ :: ⟨(some 59), .call 22 [(.t 55), (.t 57), (.t 58)], none⟩ :: ⟨(some 60), .append 17 232 (.t 53) (.t 59), none⟩ :: ⟨(some 5), .mov (.t 60), none⟩ :: []))
(.seq (.reg (⟨(some 61), .mov (.t 5), none⟩ :: ⟨(some 62), .faddr 4 (.t 2), none⟩ :: ⟨(some 63), .load false 1 (.t 62), none⟩ :: ⟨(some 64), .faddr 4 (.t 3), none⟩ :: ⟨(some 65), .load false 1 (.t 64), none⟩ :: ⟨(some 66), .load true 4 (.t 7), none⟩ :: ⟨(some 67), .call 23 [(.t 63), (.t 65), (.t 66)], none⟩ :: ⟨(some 68), .append 17 232 (.t 61) (.t 67), none⟩ :: ⟨(some 4), .mov (.t 68), none⟩ :: []))
.ret)))))))))⟩
theorem c10_eq : compFn Try.prog 10 = some c10 := by kernel_rfl
/-- sodality/diff.Batches -/
noncomputable def c12 : FnI := ⟨33, [.tmp 4],
(.seq (.reg (⟨(some 4), .mov (.c .nilsl), none⟩ :: []))
(.seq (.reg (⟨(some 5), .alloc [.nilsl], none⟩ :: []))
(.seq (.seq (.reg (⟨(some 7), .mov (.t 0), none⟩ :: ⟨(some 8), .mov (.t 1), none⟩ :: ⟨(some 9), .mm true (.t 8) [(.c (.int .i64 (.ofNat 1)))], none⟩ :: ⟨(some 10), .mm false (.t 9) [(.c (.int .i64 (.ofNat 8)))], none⟩ :: ⟨(some 11), .call 24 [(.t 7), (.t 10)], none⟩ :: []))
(.block 0 (.rangef (.t 11) [12] (.reg (⟨(some 6), .mov (.t 12), none⟩ :: [])) (.block 1 (.seq (.seq (.reg (⟨(some 13), .mov (.t 6), none⟩ :: ⟨(some 14), .len false (.t 13), none⟩ :: ⟨(some 15), .bin .eql (.t 14) (.c (.int .i64 (.ofNat 1))), none⟩ :: []))
(.cond (.t 15) (.seq (.dreg2 (⟨⟨(some 16), .load false 1 (.t 5), none⟩, .load, 0, 0⟩ :: ⟨⟨(some 17), .mov (.t 6), none⟩, .quiet, 1, 0⟩ :: ⟨⟨(some 18), .idxS 17 (.t 17) (.c (.int .i64 (.ofNat 0))), none⟩, .quiet, 2, 2⟩ :: ⟨⟨(some 19), .load true 17 (.t 18), none⟩, .load, 3, 6⟩ :: ⟨⟨(some 20), .len false (.t 16), none⟩, .quiet, 4, 1⟩ :: ⟨⟨(some 21), .buildSl 17 1 [(.int .i64 (.ofNat 0)), (.int .i64 (.ofNat 0)), (.int .i64 (.ofNat 0)), (.int .i64 (.ofNat 0)), (.str []), (.str []), (.str []), (.str []), (.str []), (.str []), (.str []), (.str []), .nilsl, (.bool false), (.int .u64 (.ofNat 0)), (.int .u64 (.ofNat 0)), .nilsl] [(0, 17, (.c (.agg [(.int .i64 (.ofNat 0)), (.int .i64 (.ofNat 0)), (.int .i64 (.ofNat 0)), (.int .i64 (.ofNat 0)), (.str []), (.str []), (.str []), (.str []), (.str []), (.str []), (.str []), (.str []), .nilsl, (.bool false), (.int .u64 (.ofNat 0)), (.int .u64 (.ofNat 0)), .nilsl])))], none⟩, .quiet, 5, 0⟩ :: ⟨⟨(some 22), .append 17 232 (.t 16) (.t 21), none⟩, .loud, 6, 63⟩ :: []) 23 17 (.t 22) (.t 20) 17 (.t 19) 1 (.t 5) (.t 22))
(.exit 1)) .skip))
(.dreg2 (⟨⟨(some 25), .mov (.t 6), none⟩, .quiet, 1, 0⟩ :: ⟨⟨(some 26), .call 25 [(.t 25)], none⟩, .loud, 2, 2⟩ :: ⟨⟨(some 24), .load false 1 (.t 5), none⟩, .load, 0, 0⟩ :: ⟨⟨(some 27), .build [(.int .i64 (.ofNat 0)), (.int .i64 (.ofNat 0)), (.int .i64 (.ofNat 0)), (.int .i64 (.ofNat 0)), (.str []), (.str []), (.str []), (.str []), (.str []), (.str []), (.str []), (.str []), .nilsl, (.bool false), (.int .u64 (.ofNat 0)), (.int .u64 (.ofNat 0)), .nilsl] [(0, 1, (.c (.int .i64 (.ofNat 18)))), (16, 1, (.t 26))], none⟩, .quiet, 3, 6⟩ :: ⟨⟨(some 28), .len false (.t 24), none⟩, .quiet, 4, 1⟩ :: ⟨⟨(some 29), .buildSl 17 1 [(.int .i64 (.ofNat 0)), (.int .i64 (.ofNat 0)), (.int .i64 (.ofNat 0)), (.int .i64 (.ofNat 0)), (.str []), (.str []), (.str []), (.str []), (.str []), (.str []), (.str []), (.str []), .nilsl, (.bool false), (.int .u64 (.ofNat 0)), (.int .u64 (.ofNat 0)), .nilsl] [(0, 17, (.c (.agg [(.int .i64 (.ofNat 0)), (.int .i64 (.ofNat 0)), (.int .i64 (.ofNat 0)), (.int .i64 (.ofNat 0)), (.str []), (.str []), (.str []), (.str []), (.str []), (.str []), (.str []), (.str []), .nilsl, (.bool false), (.int .u64 (.ofNat 0)), (.int .u64 (.ofNat 0)), .nilsl])))], none⟩, .quiet, 5, 0⟩ :: ⟨⟨(some 30), .append 17 232 (.t 24) (.t 29), none⟩, .loud, 6, 63⟩ :: []) 31 17 (.t 30) (.t 28) 17 (.t 27) 1 (.t 5) (.t 30)))))))
(.seq (.reg (⟨(some 32), .load false 1 (.t 5), none⟩ :: ⟨(some 4), .mov (.t 32), none⟩ :: []))
.ret))))⟩
theorem c12_eq : compFn Try.prog 12 = some c12 := by kernel_rfl
/-- sodality/sodalityref27.Batches -/
noncomputable def c13 : FnI := ⟨48, [.tmp 4],
(.seq (.reg (⟨(some 4), .mov (.c .nilsl), none⟩ :: []))
(.seq (.seq (.reg (⟨(some 8), .mov (.t 1), none⟩ :: ⟨(some 9), .bin .lss (.t 8) (.c (.int .i64 (.ofNat 1))), none⟩ :: []))
(.cond (.t 9) (.reg (⟨(some 1), .mov (.c (.int .i64 (.ofNat 1))), none⟩ :: [])) .skip))
(.seq (.seq (.reg (⟨(some 10), .mov (.t 1), none⟩ :: ⟨(some 11), .bin .gtr (.t 10) (.c (.int .i64 (.ofNat 8))), none⟩ :: []))
(.cond (.t 11) (.reg (⟨(some 1), .mov (.c (.int .i64 (.ofNat 8))), none⟩ :: [])) .skip))
(.seq (.reg (⟨(some 5), .mov (.c .nilsl), none⟩ :: []))
(.seq (.seq (.reg (⟨(some 6), .mov (.c (.int .i64 (.ofNat 0))), none⟩ :: []))
(.block 0 (.loop (.seq (.seq (.reg (⟨(some 12), .mov (.t 6), none⟩ :: ⟨(some 13), .mov (.t 0), none⟩ :: ⟨(some 14), .len false (.t 13), none⟩ :: ⟨(some 15), .bin .lss (.t 12) (.t 14), none⟩ :: []))
(.cond (.t 15) .skip (.exit 0)))
(.seq (.block 1 (.seq (.reg (⟨(some 19), .mov (.t 6), none⟩ :: ⟨(some 20), .mov (.t 1), none⟩ :: ⟨(some 21), .bin .add (.t 19) (.t 20), none⟩ :: ⟨(some 7), .mov (.t 21), none⟩ :: []))
(.seq (.seq (.reg (⟨(some 22), .mov (.t 7), none⟩ :: ⟨(some 23), .mov (.t 0), none⟩ :: ⟨(some 24), .len false (.t 23), none⟩ :: ⟨(some 25), .bin .gtr (.t 22) (.t 24), none⟩ :: []))
(.cond (.t 25) (.reg (⟨(some 26), .mov (.t 0), none⟩ :: ⟨(some 27), .len false (.t 26), none⟩ :: ⟨(some 7), .mov (.t 27), none⟩ :: [])) .skip))
(.seq (.reg (⟨(some 28), .mov (.t 7), none⟩ :: ⟨(some 29), .mov (.t 6), none⟩ :: ⟨(some 30), .bin .add (.t 29) (.c (.int .i64 (.ofNat 1))), none⟩ :: ⟨(some 31), .bin .eql (.t 28) (.t 30), none⟩ :: []))
(.cond (.t 31) (.reg (⟨(some 32), .mov (.t 5), none⟩ :: ⟨(some 33), .mov (.t 0), none⟩ :: ⟨(some 34), .mov (.t 6), none⟩ :: ⟨(some 35), .idxS 17 (.t 33) (.t 34), none⟩ :: ⟨(some 36), .load true 17 (.t 35), none⟩ :: ⟨(some 37), .buildSl 17 1 [(.int .i64 (.ofNat 0)), (.int .i64 (.ofNat 0)), (.int .i64 (.ofNat 0)), (.int .i64 (.ofNat 0)), (.str []), (.str []), (.str []), (.str []), (.str []), (.str []), (.str []), (.str []), .nilsl, (.bool false), (.int .u64 (.ofNat 0)), (.int .u64 (.ofNat 0)), .nilsl] [(0, 17, (.t 36))], none⟩ :: ⟨(some 38), .append 17 232 (.t 32) (.t 37), none⟩ :: ⟨(some 5), .mov (.t 38), none⟩ :: [])) (.reg (⟨(some 39), .mov (.t 5), none⟩ :: ⟨(some 40), .mov (.t 0), none⟩ :: ⟨(some 41), .mov (.t 6), none⟩ :: ⟨(some 42), .mov (.t 7), none⟩ :: ⟨(some 43), .slS 17 (.t 40) (some (.t 41)) (some (.t 42)) none, none⟩ :: ⟨(some 44), .build [(.int .i64 (.ofNat 0)), (.int .i64 (.ofNat 0)), (.int .i64 (.ofNat 0)), (.int .i64 (.ofNat 0)), (.str []), (.str []), (.str []), (.str []), (.str []), (.str []), (.str []), (.str []), .nilsl, (.bool false), (.int .u64 (.ofNat 0)), (.int .u64 (.ofNat 0)), .nilsl] [(0, 1, (.c (.int .i64 (.ofNat 18)))), (16, 1, (.t 43))], none⟩ :: ⟨(some 45), .buildSl 17 1 [(.int .i64 (.ofNat 0)), (.int .i64 (.ofNat 0)), (.int .i64 (.ofNat 0)), (.int .i64 (.ofNat 0)), (.str []), (.str []), (.str []), (.str []), (.str []), (.str []), (.str []), (.str []), .nilsl, (.bool false), (.int .u64 (.ofNat 0)), (.int .u64 (.ofNat 0)), .nilsl] [(0, 17, (.t 44))], none⟩ :: ⟨(some 46), .append 17 232 (.t 39) (.t 45), none⟩ :: ⟨(some 5), .mov (.t 46), none⟩ :: [])))))))
(.reg (⟨(some 16), .mov (.t 6), none⟩ :: ⟨(some 17), .mov (.t 1), none⟩ :: ⟨(some 18), .bin .add (.t 16) (.t 17), none⟩ :: ⟨(some 6), .mov (.t 18), none⟩ :: [])))))))
(.seq (.reg (⟨(some 47), .mov (.t 5), none⟩ :: ⟨(some 4), .mov (.t 47), none⟩ :: []))
.ret))))))⟩
theorem c13_eq : compFn Try.prog 13 = some c13 := by kernel_rfl
/-- sodality/sodalityref01.Same -/
noncomputable def c16 : FnI := ⟨26, [.tmp 4],
(.seq (.reg (⟨(some 4), .mov (.c (.bool false)), none⟩ :: []))
(.seq (.seq (.reg (⟨(some 6), .mov (.t 0), none⟩ :: ⟨(some 7), .len false (.t 6), none⟩ :: ⟨(some 8), .mov (.t 1), none⟩ :: ⟨(some 9), .len false (.t 8), none⟩ :: ⟨(some 10), .bin .neq (.t 7) (.t 9), none⟩ :: []))
(.cond (.t 10) (.seq (.reg (⟨(some 4), .mov (.c (.bool false)), none⟩ :: []))
.ret) .skip))
(.seq (.seq (.reg (⟨(some 5), .mov (.c (.int .i64 (.ofNat 0))), none⟩ :: []))
(.block 0 (.loop (.seq (.seq (.reg (⟨(some 11), .mov (.t 5), none⟩ :: ⟨(some 12), .mov (.t 0), none⟩ :: ⟨(some 13), .len false (.t 12), none⟩ :: ⟨(some 14), .bin .lss (.t 11) (.t 13), none⟩ :: []))
(.cond (.t 14) .skip (.exit 0)))
(.seq (.block 1 (.seq (.dreg (⟨⟨(some 17), .mov (.t 0), none⟩, .quiet, 0, 0⟩ :: ⟨⟨(some 18), .mov (.t 5), none⟩, .quiet, 1, 0⟩ :: ⟨⟨(some 19), .idxS 1 (.t 17) (.t 18), none⟩, .quiet, 2, 3⟩ :: ⟨⟨(some 20), .load false 1 (.t 19), none⟩, .load, 3, 7⟩ :: ⟨⟨(some 21), .mov (.t 1), none⟩, .quiet, 4, 0⟩ :: ⟨⟨(some 22), .mov (.t 5), none⟩, .quiet, 5, 0⟩ :: ⟨⟨(some 23), .idxS 1 (.t 21) (.t 22), none⟩, .quiet, 6, 48⟩ :: ⟨⟨(some 24), .load false 1 (.t 23), none⟩, .load, 7, 112⟩ :: ⟨⟨(some 25), .bin .neq (.t 20) (.t 24), none⟩, .quiet, 8, 255⟩ :: []))
(.cond (.t 25) (.seq (.reg (⟨(some 4), .mov (.c (.bool false)), none⟩ :: []))
.ret) .skip)))
(.reg (⟨(some 15), .mov (.t 5), none⟩ :: ⟨(some 16), .bin .add (.t 15) (.c (.int .i64 (.ofNat 1))), none⟩ :: ⟨(some 5), .mov (.t 16), none⟩ :: [])))))))
(.seq (.reg (⟨(some 4), .mov (.c (.bool true)), none⟩ :: []))
.ret))))⟩
theorem c16_eq : compFn Try.prog 16 = some c16 := by kernel_rfl
/-- sodality/sodalityref20.Same -/
noncomputable def c17 : FnI := ⟨95, [.tmp 4],
(.seq (.reg (⟨(some 2), .box (.t 0), none⟩ :: ⟨(some 3), .box (.t 1), none⟩ :: ⟨(some 4), .mov (.c (.bool false)), none⟩ :: []))
(.seq (.seq (.reg (⟨(some 6), .faddr 0 (.t 2), none⟩ :: ⟨(some 7), .load false 1 (.t 6), none⟩ :: ⟨(some 8), .faddr 0 (.t 3), none⟩ :: ⟨(some 9), .load false 1 (.t 8), none⟩ :: ⟨(some 10), .bin .neq (.t 7) (.t 9), none⟩ :: ⟨(some 11), .mov (.t 10), none⟩ :: ⟨(some 12), .faddr 1 (.t 2), (some (11, false))⟩ :: ⟨(some 13), .load false 1 (.t 12), (some (11, false))⟩ :: ⟨(some 14), .faddr 1 (.t 3), (some (11, false))⟩ :: ⟨(some 15), .load false 1 (.t 14), (some (11, false))⟩ :: ⟨(some 16), .bin .neq (.t 13) (.t 15), (some (11, false))⟩ :: ⟨(some 17), .pick (.t 11) (.c (.bool true)) (.t 16), none⟩ :: ⟨(some 18), .mov (.t 17), none⟩ :: ⟨(some 19), .faddr 2 (.t 2), (some (18, false))⟩ :: ⟨(some 20), .load false 1 (.t 19), (some (18, false))⟩ :: ⟨(some 21), .faddr 2 (.t 3), (some (18, false))⟩ :: ⟨(some 22), .load false 1 (.t 21), (some (18, false))⟩ :: ⟨(some 23), .bin .neq (.t 20) (.t 22), (some (18, false))⟩ :: ⟨(some 24), .pick (.t 18) (.c (.bool true)) (.t 23), none⟩ :: ⟨(some 25), .mov (.t 24), none⟩ :: ⟨(some 26), .faddr 3 (.t 2), (some (25, false))⟩ :: ⟨(some 27), .load false 1 (.t 26), (some (25, false))⟩ :: ⟨(some 28), .faddr 3 (.t 3), (some (25, false))⟩ :: ⟨(some 29), .load false 1 (.t 28), (some (25, false))⟩ :: ⟨(some 30), .bin .neq (.t 27) (.t 29), (some (25, false))⟩ :: ⟨(some 31), .pick (.t 25) (.c (.bool true)) (.t 30), none⟩ :: ⟨(some 32), .mov (.t 31), none⟩ :: ⟨(some 33), .faddr 13 (.t 2), (some (32, false))⟩ :: ⟨(some 34), .load false 1 (.t 33), (some (32, false))⟩ :: ⟨(some 35), .faddr 13 (.t 3), (some (32, false))⟩ :: ⟨(some 36), .load false 1 (.t 35), (some (32, false))⟩ :: ⟨(some 37), .eq true .bool (.t 34) (.t 36), (some (32, false))⟩ :: ⟨(some 38), .pick (.t 32) (.c (.bool true)) (.t 37), none⟩ :: ⟨(some 39), .mov (.t 38), none⟩ :: ⟨(some 40), .faddr 14 (.t 2), (some (39, false))⟩ :: ⟨(some 41), .load false 1 (.t 40), (some (39, false))⟩ :: ⟨(some 42), .faddr 14 (.t 3), (some (39, false))⟩ :: ⟨(some 43), .load false 1 (.t 42), (some (39, false))⟩ :: ⟨(some 44), .bin .neq (.t 41) (.t 43), (some (39, false))⟩ :: ⟨(some 45), .pick (.t 39) (.c (.bool true)) (.t 44), none⟩ :: ⟨(some 46), .mov (.t 45), none⟩ :: ⟨(some 47), .faddr 15 (.t 2), (some (46, false))⟩ :: ⟨(some 48), .load false 1 (.t 47), (some (46, false))⟩ :: ⟨(some 49), .faddr 15 (.t 3), (some (46, false))⟩ :: ⟨(some 50), .load false 1 (.t 49), (some (46, false))⟩ :: ⟨(some 51), .bin .neq (.t 48) (.t 50), (some (46, false))⟩ :: ⟨(some 52), .pick (.t 46) (.c (.bool true)) (.t 51), none⟩ :: []))
(.cond (.t 52) (.seq (.reg (⟨(some 4), .mov (.c (.bool false)), none⟩ :: []))
.ret) .skip))
(.seq (.seq (.dreg (⟨⟨(some 53), .load true 17 (.t 2), none⟩, .load, 0, 0⟩ :: ⟨⟨(some 54), .call 26 [(.t 53)], none⟩, .loud, 1, 1⟩ :: ⟨⟨(some 55), .load true 17 (.t 3), none⟩, .load, 2, 0⟩ :: ⟨⟨(some 56), .call 26 [(.t 55)], none⟩, .loud, 3, 7⟩ :: ⟨⟨(some 57), .call 16 [(.t 54), (.t 56)], none⟩, .loud, 4, 15⟩ :: ⟨⟨(some 58), .un .not (.t 57), none⟩, .quiet, 5, 31⟩ :: ⟨⟨(some 59), .mov (.t 58), none⟩, .quiet, 6, 63⟩ :: ⟨⟨(some 60), .faddr 12 (.t 2), (some (59, false))⟩, .quiet, 7, 127⟩ :: ⟨⟨(some 61), .load false 1 (.t 60), (some (59, false))⟩, .load, 8, 255⟩ :: ⟨⟨(some 62), .faddr 12 (.t 3), (some (59, false))⟩, .quiet, 9, 127⟩ :: ⟨⟨(some 63), .load false 1 (.t 62), (some (59, false))⟩, .load, 10, 639⟩ :: ⟨⟨(some 64), .call 16 [(.t 61), (.t 63)], (some (59, false))⟩, .loud, 11, 2047⟩ :: ⟨⟨(some 65), .un .not (.t 64), (some (59, false))⟩, .quiet, 12, 4095⟩ :: ⟨⟨(some 66), .pick (.t 59) (.c (.bool true)) (.t 65), none⟩, .quiet, 13, 8191⟩ :: ⟨⟨(some 67), .mov (.t 66), none⟩, .quiet, 14, 16383⟩ :: ⟨⟨(some 68), .faddr 16 (.t 2), (some (67, false))⟩, .quiet, 15, 32767⟩ :: ⟨⟨(some 69), .load false 1 (.t 68), (some (67, false))⟩, .load, 16, 65535⟩ :: ⟨⟨(some 70), .len false (.t 69), (some (67, false))⟩, .quiet, 17, 131071⟩ :: ⟨⟨(some 71), .faddr 16 (.t 3), (some (67, false))⟩, .quiet, 18, 32767⟩ :: ⟨⟨(some 72), .load false 1 (.t 71), (some (67, false))⟩, .load, 19, 294911⟩ :: ⟨⟨(some 73), .len false (.t 72), (some (67, false))⟩, .quiet, 20, 819199⟩ :: ⟨⟨(some 74), .bin .neq (.t 70) (.t 73), (some (67, false))⟩, .quiet, 21, 2097151⟩ :: ⟨⟨(some 75), .pick (.t 67) (.c (.bool true)) (.t 74), none⟩, .quiet, 22, 4194303⟩ :: []))
(.cond (.t 75) (.seq (.reg (⟨(some 4), .mov (.c (.bool false)), none⟩ :: []))
.ret) .skip))
(.seq (.seq (.reg (⟨(some 5), .mov (.c (.int .i64 (.ofNat 0))), none⟩ :: []))
(.block 0 (.loop (.seq (.seq (.reg (⟨(some 76), .mov (.t 5), none⟩ :: ⟨(some 77), .faddr 16 (.t 2), none⟩ :: ⟨(some 78), .load false 1 (.t 77), none⟩ :: ⟨(some 79), .len false (.t 78), none⟩ :: ⟨(some 80), .bin .lss (.t 76) (.t 79), none⟩ :: []))
(.cond (.t 80) .skip (.exit 0)))
(.seq (.block 1 (.seq (.dreg (⟨⟨(some 83), .faddr 16 (.t 2), none⟩, .quiet, 0, 0⟩ :: ⟨⟨(some 84), .load false 1 (.t 83), none⟩, .load, 1, 1⟩ :: ⟨⟨(some 85), .mov (.t 5), none⟩, .quiet, 2, 0⟩ :: ⟨⟨(some 86), .idxS 17 (.t 84) (.t 85), none⟩, .quiet, 3, 7⟩ :: ⟨⟨(some 87), .load true 17 (.t 86), none⟩, .load, 4, 15⟩ :: ⟨⟨(some 88), .faddr 16 (.t 3), none⟩, .quiet, 5, 0⟩ :: ⟨⟨(some 89), .load false 1 (.t 88), none⟩, .load, 6, 32⟩ :: ⟨⟨(some 90), .mov (.t 5), none⟩, .quiet, 7, 0⟩ :: ⟨⟨(some 91), .idxS 17 (.t 89) (.t 90), none⟩, .quiet, 8, 224⟩ :: ⟨⟨(some 92), .load true 17 (.t 91), none⟩, .load, 9, 480⟩ :: ⟨⟨(some 93), .call 17 [(.t 87), (.t 92)], none⟩, .loud, 10, 1023⟩ :: ⟨⟨(some 94), .un .not (.t 93), none⟩, .quiet, 11, 2047⟩ :: []))
(.cond (.t 94) (.seq (.reg (⟨(some 4), .mov (.c (.bool false)), none⟩ :: []))
.ret) .skip)))
(.reg (⟨(some 81), .mov (.t 5), none⟩ :: ⟨(some 82), .bin .add (.t 81) (.c (.int .i64 (.ofNat 1))), none⟩ :: ⟨(some 5), .mov (.t 82), none⟩ :: [])))))))
(.seq (.reg (⟨(some 4), .mov (.c (.bool true)), none⟩ :: []))
.ret)))))⟩
theorem c17_eq : compFn Try.prog 17 = some c17 := by kernel_rfl
/-- sodality/diff.services -/
noncomputable def c18 : FnI := ⟨6, [.cell 2 true 4],
(.seq (.reg (⟨(some 1), .box (.t 0), none⟩ :: ⟨(some 2), .alloc [.nilfn, .nilfn, .nilfn, .nilfn], none⟩ :: []))
(.seq (.reg (⟨(some 3), .mkfn 30 [] [(.t 1)], none⟩ :: ⟨(some 4), .mkfn 31 [] [(.t 1)], none⟩ :: ⟨(some 5), .build [.nilfn, .nilfn, .nilfn, .nilfn] [(0, 1, (.c (.fn (.func 27) [] []))), (1, 1, (.c (.fn (.func 28) [] []))), (2, 1, (.t 3)), (3, 1, (.t 4))], none⟩ :: ⟨none, .store 4 (.t 2) (.t 5), none⟩ :: []))
.ret))⟩
theorem c18_eq : compFn Try.prog 18 = some c18 := by kernel_rfl
/-- sodality/diff.checks -/
noncomputable def c19 : FnI := ⟨6, [.cell 2 true 4],
(.seq (.reg (⟨(some 1), .box (.t 0), none⟩ :: ⟨(some 2), .alloc [.nilfn, .nilfn, .nilfn, .nilfn], none⟩ :: []))
(.seq (.reg (⟨(some 3), .mkfn 35 [] [(.t 1)], none⟩ :: ⟨(some 4), .mkfn 36 [] [(.t 1)], none⟩ :: ⟨(some 5), .build [.nilfn, .nilfn, .nilfn, .nilfn] [(0, 1, (.c (.fn (.func 33) [] []))), (1, 1, (.c (.fn (.func 34) [] []))), (2, 1, (.t 3)), (3, 1, (.t 4))], none⟩ :: ⟨none, .store 4 (.t 2) (.t 5), none⟩ :: []))
.ret))⟩
theorem c19_eq : compFn Try.prog 19 = some c19 := by kernel_rfl
/-- sodality/diff.drops[sodality/api.Check] -/
noncomputable def c20 : FnI := ⟨45, [.tmp 6],
(.seq (.reg (⟨(some 5), .box (.t 2), none⟩ :: ⟨(some 6), .mov (.c .nilsl), none⟩ :: []))
(.seq (.reg (⟨(some 13), .mov (.t 0), none⟩ :: ⟨(some 14), .load true 4 (.t 5), none⟩ :: ⟨(some 15), .call 37 [(.t 13), (.t 14)], none⟩ :: ⟨(some 7), .mov (.t 15), none⟩ :: []))
(.seq (.reg (⟨(some 8), .mov (.c .nilsl), none⟩ :: []))
(.seq (.seq (.reg (⟨(some 16), .mov (.t 1), none⟩ :: ⟨(some 17), .len false (.t 16), none⟩ :: ⟨(some 18), .mov (.c (.int .i64 (.ofNat 0))), none⟩ :: []))
(.block 0 (.loop (.seq (.reg (⟨(some 19), .bin .lss (.t 18) (.t 17), none⟩ :: []))
(.seq (.cond (.t 19) .skip (.exit 0))
(.seq (.block 1 (.seq (.reg (⟨(some 20), .idxS 7 (.t 16) (.t 18), none⟩ :: ⟨(some 21), .load true 7 (.t 20), none⟩ :: ⟨(some 10), .alloc [(.int .i64 (.ofNat 0)), (.str []), (.str []), (.str []), (.int .i64 (.ofNat 0)), (.int .u64 (.ofNat 0)), (.int .u64 (.ofNat 0))], none⟩ :: ⟨none, .store 7 (.t 10) (.t 21), none⟩ :: []))
(.seq (.reg (⟨(some 23), .mov (.t 7), none⟩ :: ⟨(some 24), .faddr 0 (.t 5), none⟩ :: ⟨(some 25), .load false 1 (.t 24), none⟩ :: ⟨(some 26), .load true 7 (.t 10), none⟩ :: ⟨(some 27), .callv (.t 25) [(.t 26)], none⟩ :: ⟨(some 28), .lookup true .str (.agg [(.int .i64 (.ofNat 0)), (.str []), (.str []), (.str []), (.int .i64 (.ofNat 0)), (.int .u64 (.ofNat 0)), (.int .u64 (.ofNat 0))]) (.t 23) (.t 27), none⟩ :: ⟨(some 22), .mov (.t 28), none⟩ :: ⟨(some 29), .extract (.t 22) 0, none⟩ :: ⟨(some 30), .extract (.t 22) 1, none⟩ :: ⟨(some 11), .alloc [(.int .i64 (.ofNat 0)), (.str []), (.str []), (.str []), (.int .i64 (.ofNat 0)), (.int .u64 (.ofNat 0)), (.int .u64 (.ofNat 0))], none⟩ :: ⟨none, .store 7 (.t 11) (.t 29), none⟩ :: ⟨(some 12), .mov (.t 30), none⟩ :: []))
(.seq (.reg (⟨(some 31), .mov (.t 12), none⟩ :: ⟨(some 32), .un .not (.t 31), none⟩ :: []))
(.cond (.t 32) (.dreg (⟨⟨(some 36), .faddr 0 (.t 5), none⟩, .quiet, 3, 0⟩ :: ⟨⟨(some 37), .load false 1 (.t 36), none⟩, .load, 4, 8⟩ :: ⟨⟨(some 38), .load true 7 (.t 10), none⟩, .load, 5, 0⟩ :: ⟨⟨(some 39), .callv (.t 37) [(.t 38)], none⟩, .loud, 6, 56⟩ :: ⟨⟨(some 34), .faddr 2 (.t 5), none⟩, .quiet, 1, 0⟩ :: ⟨⟨(some 35), .load false 1 (.t 34), none⟩, .load, 2, 2⟩ :: ⟨⟨(some 40), .callv (.t 35) [(.t 39)], none⟩, .loud, 7, 126⟩ :: ⟨⟨(some 33), .mov (.t 8), none⟩, .quiet, 0, 0⟩ :: ⟨⟨(some 41), .buildSl 17 1 [(.int .i64 (.ofNat 0)), (.int .i64 (.ofNat 0)), (.int .i64 (.ofNat 0)), (.int .i64 (.ofNat 0)), (.str []), (.str []), (.str []), (.str []), (.str []), (.str []), (.str []), (.str []), .nilsl, (.bool false), (.int .u64 (.ofNat 0)), (.int .u64 (.ofNat 0)), .nilsl] [(0, 17, (.t 40))], none⟩, .quiet, 8, 254⟩ :: ⟨⟨(some 42), .append 17 232 (.t 33) (.t 41), none⟩, .loud, 9, 511⟩ :: ⟨⟨(some 8), .mov (.t 42), none⟩, .quiet, 10, 1023⟩ :: [])) .skip)))))
(.reg (⟨(some 43), .bin .add (.t 18) (.c (.int .i64 (.ofNat 1))), none⟩ :: ⟨(some 18), .mov (.t 43), none⟩ :: []))))))))
(.seq (.reg (⟨(some 44), .mov (.t 8), none⟩ :: ⟨(some 6), .mov (.t 44), none⟩ :: []))
.ret)))))⟩
theorem c20_eq : compFn Try.prog 20 = some c20 := by kernel_rfl
/-- sodality/diff.drops[sodality/api.Service] -/
noncomputable def c21 : FnI := ⟨45, [.tmp 6],
(.seq (.reg (⟨(some 5), .box (.t 2), none⟩ :: ⟨(some 6), .mov (.c .nilsl), none⟩ :: []))
(.seq (.reg (⟨(some 13), .mov (.t 0), none⟩ :: ⟨(some 14), .load true 4 (.t 5), none⟩ :: ⟨(some 15), .call 38 [(.t 13), (.t 14)], none⟩ :: ⟨(some 7), .mov (.t 15), none⟩ :: []))
(.seq (.reg (⟨(some 8), .mov (.c .nilsl), none⟩ :: []))
(.seq (.seq (.reg (⟨(some 16), .mov (.t 1), none⟩ :: ⟨(some 17), .len false (.t 16), none⟩ :: ⟨(some 18), .mov (.c (.int .i64 (.ofNat 0))), none⟩ :: []))
(.block 0 (.loop (.seq (.reg (⟨(some 19), .bin .lss (.t 18) (.t 17), none⟩ :: []))
(.seq (.cond (.t 19) .skip (.exit 0))
(.seq (.block 1 (.seq (.reg (⟨(some 20), .idxS 7 (.t 16) (.t 18), none⟩ :: ⟨(some 21), .load true 7 (.t 20), none⟩ :: ⟨(some 10), .alloc [(.int .i64 (.ofNat 0)), (.str []), (.str []), .nilsl, (.int .i64 (.ofNat 0)), (.int .u64 (.ofNat 0)), (.int .u64 (.ofNat 0))], none⟩ :: ⟨none, .store 7 (.t 10) (.t 21), none⟩ :: []))
(.seq (.reg (⟨(some 23), .mov (.t 7), none⟩ :: ⟨(some 24), .faddr 0 (.t 5), none⟩ :: ⟨(some 25), .load false 1 (.t 24), none⟩ :: ⟨(some 26), .load true 7 (.t 10), none⟩ :: ⟨(some 27), .callv (.t 25) [(.t 26)], none⟩ :: ⟨(some 28), .lookup true .str (.agg [(.int .i64 (.ofNat 0)), (.str []), (.str []), .nilsl, (.int .i64 (.ofNat 0)), (.int .u64 (.ofNat 0)), (.int .u64 (.ofNat 0))]) (.t 23) (.t 27), none⟩ :: ⟨(some 22), .mov (.t 28), none⟩ :: ⟨(some 29), .extract (.t 22) 0, none⟩ :: ⟨(some 30), .extract (.t 22) 1, none⟩ :: ⟨(some 11), .alloc [(.int .i64 (.ofNat 0)), (.str []), (.str []), .nilsl, (.int .i64 (.ofNat 0)), (.int .u64 (.ofNat 0)), (.int .u64 (.ofNat 0))], none⟩ :: ⟨none, .store 7 (.t 11) (.t 29), none⟩ :: ⟨(some 12), .mov (.t 30), none⟩ :: []))
(.seq (.reg (⟨(some 31), .mov (.t 12), none⟩ :: ⟨(some 32), .un .not (.t 31), none⟩ :: []))
(.cond (.t 32) (.dreg (⟨⟨(some 36), .faddr 0 (.t 5), none⟩, .quiet, 3, 0⟩ :: ⟨⟨(some 37), .load false 1 (.t 36), none⟩, .load, 4, 8⟩ :: ⟨⟨(some 38), .load true 7 (.t 10), none⟩, .load, 5, 0⟩ :: ⟨⟨(some 39), .callv (.t 37) [(.t 38)], none⟩, .loud, 6, 56⟩ :: ⟨⟨(some 34), .faddr 2 (.t 5), none⟩, .quiet, 1, 0⟩ :: ⟨⟨(some 35), .load false 1 (.t 34), none⟩, .load, 2, 2⟩ :: ⟨⟨(some 40), .callv (.t 35) [(.t 39)], none⟩, .loud, 7, 126⟩ :: ⟨⟨(some 33), .mov (.t 8), none⟩, .quiet, 0, 0⟩ :: ⟨⟨(some 41), .buildSl 17 1 [(.int .i64 (.ofNat 0)), (.int .i64 (.ofNat 0)), (.int .i64 (.ofNat 0)), (.int .i64 (.ofNat 0)), (.str []), (.str []), (.str []), (.str []), (.str []), (.str []), (.str []), (.str []), .nilsl, (.bool false), (.int .u64 (.ofNat 0)), (.int .u64 (.ofNat 0)), .nilsl] [(0, 17, (.t 40))], none⟩, .quiet, 8, 254⟩ :: ⟨⟨(some 42), .append 17 232 (.t 33) (.t 41), none⟩, .loud, 9, 511⟩ :: ⟨⟨(some 8), .mov (.t 42), none⟩, .quiet, 10, 1023⟩ :: [])) .skip)))))
(.reg (⟨(some 43), .bin .add (.t 18) (.c (.int .i64 (.ofNat 1))), none⟩ :: ⟨(some 18), .mov (.t 43), none⟩ :: []))))))))
(.seq (.reg (⟨(some 44), .mov (.t 8), none⟩ :: ⟨(some 6), .mov (.t 44), none⟩ :: []))
.ret)))))⟩
theorem c21_eq : compFn Try.prog 21 = some c21 := by kernel_rfl
/-- sodality/diff.lays[sodality/api.Service] -/
noncomputable def c22 : FnI := ⟨50, [.tmp 6],
(.seq (.reg (⟨(some 5), .box (.t 2), none⟩ :: ⟨(some 6), .mov (.c .nilsl), none⟩ :: []))
(.seq (.reg (⟨(some 13), .mov (.t 1), none⟩ :: ⟨(some 14), .load true 4 (.t 5), none⟩ :: ⟨(some 15), .call 38 [(.t 13), (.t 14)], none⟩ :: ⟨(some 7), .mov (.t 15), none⟩ :: []))
(.seq (.reg (⟨(some 8), .mov (.c .nilsl), none⟩ :: []))
(.seq (.seq (.reg (⟨(some 16), .mov (.t 0), none⟩ :: ⟨(some 17), .len false (.t 16), none⟩ :: ⟨(some 18), .mov (.c (.int .i64 (.ofNat 0))), none⟩ :: []))
(.block 0 (.loop (.seq (.reg (⟨(some 19), .bin .lss (.t 18) (.t 17), none⟩ :: []))
(.seq (.cond (.t 19) .skip (.exit 0))
(.seq (.block 1 (.seq (.reg (⟨(some 20), .idxS 7 (.t 16) (.t 18), none⟩ :: ⟨(some 21), .load true 7 (.t 20), none⟩ :: ⟨(some 10), .alloc [(.int .i64 (.ofNat 0)), (.str []), (.str []), .nilsl, (.int .i64 (.ofNat 0)), (.int .u64 (.ofNat 0)), (.int .u64 (.ofNat 0))], none⟩ :: ⟨none, .store 7 (.t 10) (.t 21), none⟩ :: []))
(.seq (.reg (⟨(some 23), .mov (.t 7), none⟩ :: ⟨(some 24), .faddr 0 (.t 5), none⟩ :: ⟨(some 25), .load false 1 (.t 24), none⟩ :: ⟨(some 26), .load true 7 (.t 10), none⟩ :: ⟨(some 27), .callv (.t 25) [(.t 26)], none⟩ :: ⟨(some 28), .lookup true .str (.agg [(.int .i64 (.ofNat 0)), (.str []), (.str []), .nilsl, (.int .i64 (.ofNat 0)), (.int .u64 (.ofNat 0)), (.int .u64 (.ofNat 0))]) (.t 23) (.t 27), none⟩ :: ⟨(some 22), .mov (.t 28), none⟩ :: ⟨(some 29), .extract (.t 22) 0, none⟩ :: ⟨(some 30), .extract (.t 22) 1, none⟩ :: ⟨(some 11), .alloc [(.int .i64 (.ofNat 0)), (.str []), (.str []), .nilsl, (.int .i64 (.ofNat 0)), (.int .u64 (.ofNat 0)), (.int .u64 (.ofNat 0))], none⟩ :: ⟨none, .store 7 (.t 11) (.t 29), none⟩ :: ⟨(some 12), .mov (.t 30), none⟩ :: []))
(.seq (.reg (⟨(some 31), .mov (.t 12), none⟩ :: ⟨(some 32), .un .not (.t 31), none⟩ :: ⟨(some 33), .mov (.t 32), none⟩ :: ⟨(some 34), .faddr 1 (.t 5), (some (33, false))⟩ :: ⟨(some 35), .load false 1 (.t 34), (some (33, false))⟩ :: ⟨(some 36), .load true 7 (.t 10), (some (33, false))⟩ :: ⟨(some 37), .load true 7 (.t 11), (some (33, false))⟩ :: ⟨(some 38), .callv (.t 35) [(.t 36), (.t 37)], (some (33, false))⟩ :: ⟨(some 39), .un .not (.t 38), (some (33, false))⟩ :: ⟨(some 40), .pick (.t 33) (.c (.bool true)) (.t 39), none⟩ :: []))
(.cond (.t 40) (.reg (⟨(some 41), .mov (.t 8), none⟩ :: ⟨(some 42), .faddr 3 (.t 5), none⟩ :: ⟨(some 43), .load false 1 (.t 42), none⟩ :: ⟨(some 44), .load true 7 (.t 10), none⟩ :: ⟨(some 45), .callv (.t 43) [(.t 44)], none⟩ :: ⟨(some 46), .buildSl 17 1 [(.int .i64 (.ofNat 0)), (.int .i64 (.ofNat 0)), (.int .i64 (.ofNat 0)), (.int .i64 (.ofNat 0)), (.str []), (.str []), (.str []), (.str []), (.str []), (.str []), (.str []), (.str []), .nilsl, (.bool false), (.int .u64 (.ofNat 0)), (.int .u64 (.ofNat 0)), .nilsl] [(0, 17, (.t 45))], none⟩ :: ⟨(some 47), .append 17 232 (.t 41) (.t 46), none⟩ :: ⟨(some 8), .mov (.t 47), none⟩ :: [])) .skip)))))
(.reg (⟨(some 48), .bin .add (.t 18) (.c (.int .i64 (.ofNat 1))), none⟩ :: ⟨(some 18), .mov (.t 48), none⟩ :: []))))))))
(.seq (.reg (⟨(some 49), .mov (.t 8), none⟩ :: ⟨(some 6), .mov (.t 49), none⟩ :: []))
.ret)))))⟩
theorem c22_eq : compFn Try.prog 22 = some c22 := by kernel_rfl
/-- sodality/diff.lays[sodality/api.Check] -/
noncomputable def c23 : FnI := ⟨50, [.tmp 6],
(.seq (.reg (⟨(some 5), .box (.t 2), none⟩ :: ⟨(some 6), .mov (.c .nilsl), none⟩ :: []))
(.seq (.reg (⟨(some 13), .mov (.t 1), none⟩ :: ⟨(some 14), .load true 4 (.t 5), none⟩ :: ⟨(some 15), .call 37 [(.t 13), (.t 14)], none⟩ :: ⟨(some 7), .mov (.t 15), none⟩ :: []))
(.seq (.reg (⟨(some 8), .mov (.c .nilsl), none⟩ :: []))
(.seq (.seq (.reg (⟨(some 16), .mov (.t 0), none⟩ :: ⟨(some 17), .len false (.t 16), none⟩ :: ⟨(some 18), .mov (.c (.int .i64 (.ofNat 0))), none⟩ :: []))
(.block 0 (.loop (.seq (.reg (⟨(some 19), .bin .lss (.t 18) (.t 17), none⟩ :: []))
(.seq (.cond (.t 19) .skip (.exit 0))
(.seq (.block 1 (.seq (.reg (⟨(some 20), .idxS 7 (.t 16) (.t 18), none⟩ :: ⟨(some 21), .load true 7 (.t 20), none⟩ :: ⟨(some 10), .alloc [(.int .i64 (.ofNat 0)), (.str []), (.str []), (.str []), (.int .i64 (.ofNat 0)), (.int .u64 (.ofNat 0)), (.int .u64 (.ofNat 0))], none⟩ :: ⟨none, .store 7 (.t 10) (.t 21), none⟩ :: []))
(.seq (.reg (⟨(some 23), .mov (.t 7), none⟩ :: ⟨(some 24), .faddr 0 (.t 5), none⟩ :: ⟨(some 25), .load false 1 (.t 24), none⟩ :: ⟨(some 26), .load true 7 (.t 10), none⟩ :: ⟨(some 27), .callv (.t 25) [(.t 26)], none⟩ :: ⟨(some 28), .lookup true .str (.agg [(.int .i64 (.ofNat 0)), (.str []), (.str []), (.str []), (.int .i64 (.ofNat 0)), (.int .u64 (.ofNat 0)), (.int .u64 (.ofNat 0))]) (.t 23) (.t 27), none⟩ :: ⟨(some 22), .mov (.t 28), none⟩ :: ⟨(some 29), .extract (.t 22) 0, none⟩ :: ⟨(some 30), .extract (.t 22) 1, none⟩ :: ⟨(some 11), .alloc [(.int .i64 (.ofNat 0)), (.str []), (.str []), (.str []), (.int .i64 (.ofNat 0)), (.int .u64 (.ofNat 0)), (.int .u64 (.ofNat 0))], none⟩ :: ⟨none, .store 7 (.t 11) (.t 29), none⟩ :: ⟨(some 12), .mov (.t 30), none⟩ :: []))
(.seq (.reg (⟨(some 31), .mov (.t 12), none⟩ :: ⟨(some 32), .un .not (.t 31), none⟩ :: ⟨(some 33), .mov (.t 32), none⟩ :: ⟨(some 34), .faddr 1 (.t 5), (some (33, false))⟩ :: ⟨(some 35), .load false 1 (.t 34), (some (33, false))⟩ :: ⟨(some 36), .load true 7 (.t 10), (some (33, false))⟩ :: ⟨(some 37), .load true 7 (.t 11), (some (33, false))⟩ :: ⟨(some 38), .callv (.t 35) [(.t 36), (.t 37)], (some (33, false))⟩ :: ⟨(some 39), .un .not (.t 38), (some (33, false))⟩ :: ⟨(some 40), .pick (.t 33) (.c (.bool true)) (.t 39), none⟩ :: []))
(.cond (.t 40) (.reg (⟨(some 41), .mov (.t 8), none⟩ :: ⟨(some 42), .faddr 3 (.t 5), none⟩ :: ⟨(some 43), .load false 1 (.t 42), none⟩ :: ⟨(some 44), .load true 7 (.t 10), none⟩ :: ⟨(some 45), .callv (.t 43) [(.t 44)], none⟩ :: ⟨(some 46), .buildSl 17 1 [(.int .i64 (.ofNat 0)), (.int .i64 (.ofNat 0)), (.int .i64 (.ofNat 0)), (.int .i64 (.ofNat 0)), (.str []), (.str []), (.str []), (.str []), (.str []), (.str []), (.str []), (.str []), .nilsl, (.bool false), (.int .u64 (.ofNat 0)), (.int .u64 (.ofNat 0)), .nilsl] [(0, 17, (.t 45))], none⟩ :: ⟨(some 47), .append 17 232 (.t 41) (.t 46), none⟩ :: ⟨(some 8), .mov (.t 47), none⟩ :: [])) .skip)))))
(.reg (⟨(some 48), .bin .add (.t 18) (.c (.int .i64 (.ofNat 1))), none⟩ :: ⟨(some 18), .mov (.t 48), none⟩ :: []))))))))
(.seq (.reg (⟨(some 49), .mov (.t 8), none⟩ :: ⟨(some 6), .mov (.t 49), none⟩ :: []))
.ret)))))⟩
theorem c23_eq : compFn Try.prog 23 = some c23 := by kernel_rfl
/-- slices.Chunk[[]sodality/api.Cmd,sodality/api.Cmd] -/
noncomputable def c24 : FnI := ⟨9, [.tmp 4],
(.seq (.reg (⟨(some 2), .box (.t 0), none⟩ :: ⟨(some 3), .box (.t 1), none⟩ :: ⟨(some 4), .mov (.c .nilfn), none⟩ :: []))
(.seq (.seq (.reg (⟨(some 5), .load false 1 (.t 3), none⟩ :: ⟨(some 6), .bin .lss (.t 5) (.c (.int .i64 (.ofNat 1))), none⟩ :: []))
(.cond (.t 6) (.reg (⟨(some 7), .mkif 9 (.c (.str [99, 97, 110, 110, 111, 116, 32, 98, 101, 32, 108, 101, 115, 115, 32, 116, 104, 97, 110, 32, 49])), none⟩ :: ⟨none, .fail, none⟩ :: [])) .skip))
(.seq (.reg (⟨(some 8), .mkfn 39 [] [(.t 2), (.t 3)], none⟩ :: ⟨(some 4), .mov (.t 8), none⟩ :: []))
.ret)))⟩
theorem c24_eq : compFn Try.prog 24 = some c24 := by kernel_rfl
/-- slices.Clone[[]sodality/api.Cmd,sodality/api.Cmd] -/
noncomputable def c25 : FnI := ⟨8, [.tmp 2],
(.seq (.reg (⟨(some 2), .mov (.c .nilsl), none⟩ :: []))
(.seq (.seq (.reg (⟨(some 3), .mov (.t 0), none⟩ :: ⟨(some 4), .eq false .sl (.t 3) (.c .nilsl), none⟩ :: []))
(.cond (.t 4) (.seq (.reg (⟨(some 2), .mov (.c .nilsl), none⟩ :: []))
.ret) .skip))
(.seq (.reg (⟨(some 5), .buildSl 17 0 [] [], none⟩ :: ⟨(some 6), .mov (.t 0), none⟩ :: ⟨(some 7), .append 17 232 (.t 5) (.t 6), none⟩ :: ⟨(some 2), .mov (.t 7), none⟩ :: []))
.ret)))⟩
theorem c25_eq : compFn Try.prog 25 = some c25 := by kernel_rfl
/-- sodality/sodalityref20.texts -/
noncomputable def c26 : FnI := ⟨20, [.tmp 2],
(.seq (.reg (⟨(some 1), .box (.t 0), none⟩ :: ⟨(some 2), .mov (.c .nilsl), none⟩ :: []))
(.seq (.reg (⟨(some 3), .faddr 4 (.t 1), none⟩ :: ⟨(some 4), .load false 1 (.t 3), none⟩ :: ⟨(some 5), .faddr 5 (.t 1), none⟩ :: ⟨(some 6), .load false 1 (.t 5), none⟩ :: ⟨(some 7), .faddr 6 (.t 1), none⟩ :: ⟨(some 8), .load false 1 (.t 7), none⟩ :: ⟨(some 9), .faddr 7 (.t 1), none⟩ :: ⟨(some 10), .load false 1 (.t 9), none⟩ :: ⟨(some 11), .faddr 8 (.t 1), none⟩ :: ⟨(some 12), .load false 1 (.t 11), none⟩ :: ⟨(some 13), .faddr 9 (.t 1), none⟩ :: ⟨(some 14), .load false 1 (.t 13), none⟩ :: ⟨(some 15), .faddr 10 (.t 1), none⟩ :: ⟨(some 16), .load false 1 (.t 15), none⟩ :: ⟨(some 17), .faddr 11 (.t 1), none⟩ :: ⟨(some 18), .load false 1 (.t 17), none⟩ :: ⟨(some 19), .buildSl 1 8 [(.str []), (.str []), (.str []), (.str []), (.str []), (.str []), (.str []), (.str [])] [(0, 1, (.t 4)), (1, 1, (.t 6)), (2, 1, (.t 8)), (3, 1, (.t 10)), (4, 1, (.t 12)), (5, 1, (.t 14)), (6, 1, (.t 16)), (7, 1, (.t 18))], none⟩ :: ⟨(some 2), .mov (.t 19), none⟩ :: []))
.ret))⟩
theorem c26_eq : compFn Try.prog 26 = some c26 := by kernel_rfl
/-- sodality/diff.known[sodality/api.Check] -/
noncomputable def c37 : FnI := ⟨23, [.tmp 4],
(.seq (.reg (⟨(some 3), .box (.t 1), none⟩ :: ⟨(some 4), .mov (.c .nilmap), none⟩ :: []))
(.seq (.reg (⟨(some 8), .mkmap, none⟩ :: ⟨(some 5), .mov (.t 8), none⟩ :: []))
(.seq (.seq (.reg (⟨(some 9), .mov (.t 0), none⟩ :: ⟨(some 10), .len false (.t 9), none⟩ :: ⟨(some 11), .mov (.c (.int .i64 (.ofNat 0))), none⟩ :: []))
(.block 0 (.loop (.seq (.reg (⟨(some 12), .bin .lss (.t 11) (.t 10), none⟩ :: []))
(.seq (.cond (.t 12) .skip (.exit 0))
(.seq (.block 1 (.seq (.reg (⟨(some 13), .idxS 7 (.t 9) (.t 11), none⟩ :: ⟨(some 14), .load true 7 (.t 13), none⟩ :: ⟨(some 7), .alloc [(.int .i64 (.ofNat 0)), (.str []), (.str []), (.str []), (.int .i64 (.ofNat 0)), (.int .u64 (.ofNat 0)), (.int .u64 (.ofNat 0))], none⟩ :: ⟨none, .store 7 (.t 7) (.t 14), none⟩ :: []))
(.dreg (⟨⟨(some 16), .faddr 0 (.t 3), none⟩, .quiet, 1, 0⟩ :: ⟨⟨(some 17), .load false 1 (.t 16), none⟩, .load, 2, 2⟩ :: ⟨⟨(some 18), .load true 7 (.t 7), none⟩, .load, 3, 0⟩ :: ⟨⟨(some 19), .callv (.t 17) [(.t 18)], none⟩, .loud, 4, 14⟩ :: ⟨⟨(some 15), .mov (.t 5), none⟩, .quiet, 0, 0⟩ :: ⟨⟨(some 20), .load true 7 (.t 7), none⟩, .load, 5, 0⟩ :: ⟨⟨none, .mapup .str (.t 15) (.t 19) (.t 20), none⟩, .loud, 6, 63⟩ :: []))))
(.reg (⟨(some 21), .bin .add (.t 11) (.c (.int .i64 (.ofNat 1))), none⟩ :: ⟨(some 11), .mov (.t 21), none⟩ :: []))))))))
(.seq (.reg (⟨(some 22), .mov (.t 5), none⟩ :: ⟨(some 4), .mov (.t 22), none⟩ :: []))
.ret))))⟩
theorem c37_eq : compFn Try.prog 37 = some c37 := by kernel_rfl
/-- sodality/diff.known[sodality/api.Service] -/
noncomputable def c38 : FnI := ⟨23, [.tmp 4],
(.seq (.reg (⟨(some 3), .box (.t 1), none⟩ :: ⟨(some 4), .mov (.c .nilmap), none⟩ :: []))
(.seq (.reg (⟨(some 8), .mkmap, none⟩ :: ⟨(some 5), .mov (.t 8), none⟩ :: []))
(.seq (.seq (.reg (⟨(some 9), .mov (.t 0), none⟩ :: ⟨(some 10), .len false (.t 9), none⟩ :: ⟨(some 11), .mov (.c (.int .i64 (.ofNat 0))), none⟩ :: []))
(.block 0 (.loop (.seq (.reg (⟨(some 12), .bin .lss (.t 11) (.t 10), none⟩ :: []))
(.seq (.cond (.t 12) .skip (.exit 0))
(.seq (.block 1 (.seq (.reg (⟨(some 13), .idxS 7 (.t 9) (.t 11), none⟩ :: ⟨(some 14), .load true 7 (.t 13), none⟩ :: ⟨(some 7), .alloc [(.int .i64 (.ofNat 0)), (.str []), (.str []), .nilsl, (.int .i64 (.ofNat 0)), (.int .u64 (.ofNat 0)), (.int .u64 (.ofNat 0))], none⟩ :: ⟨none, .store 7 (.t 7) (.t 14), none⟩ :: []))
(.dreg (⟨⟨(some 16), .faddr 0 (.t 3), none⟩, .quiet, 1, 0⟩ :: ⟨⟨(some 17), .load false 1 (.t 16), none⟩, .load, 2, 2⟩ :: ⟨⟨(some 18), .load true 7 (.t 7), none⟩, .load, 3, 0⟩ :: ⟨⟨(some 19), .callv (.t 17) [(.t 18)], none⟩, .loud, 4, 14⟩ :: ⟨⟨(some 15), .mov (.t 5), none⟩, .quiet, 0, 0⟩ :: ⟨⟨(some 20), .load true 7 (.t 7), none⟩, .load, 5, 0⟩ :: ⟨⟨none, .mapup .str (.t 15) (.t 19) (.t 20), none⟩, .loud, 6, 63⟩ :: []))))
(.reg (⟨(some 21), .bin .add (.t 11) (.c (.int .i64 (.ofNat 1))), none⟩ :: ⟨(some 11), .mov (.t 21), none⟩ :: []))))))))
(.seq (.reg (⟨(some 22), .mov (.t 5), none⟩ :: ⟨(some 4), .mov (.t 22), none⟩ :: []))
.ret))))⟩
theorem c38_eq : compFn Try.prog 38 = some c38 := by kernel_rfl
/-- slices.Chunk[[]sodality/api.Cmd,sodality/api.Cmd]$1 -/
noncomputable def c39 : FnI := ⟨31, [],
(.seq (.reg (⟨(some 4), .mov (.c (.int .i64 (.ofNat 0))), none⟩ :: []))
(.block 0 (.loop (.seq (.seq (.reg (⟨(some 6), .mov (.t 4), none⟩ :: ⟨(some 7), .load false 1 (.t 1), none⟩ :: ⟨(some 8), .len false (.t 7), none⟩ :: ⟨(some 9), .bin .lss (.t 6) (.t 8), none⟩ :: []))
(.cond (.t 9) .skip (.exit 0)))
(.seq (.block 1 (.seq (.dreg (⟨⟨(some 13), .load false 1 (.t 2), none⟩, .load, 0, 0⟩ :: ⟨⟨(some 14), .load false 1 (.t 1), none⟩, .load, 1, 0⟩ :: ⟨⟨(some 15), .mov (.t 4), none⟩, .quiet, 2, 0⟩ :: ⟨⟨(some 16), .slS 17 (.t 14) (some (.t 15)) none none, none⟩, .quiet, 3, 6⟩ :: ⟨⟨(some 17), .len false (.t 16), none⟩, .quiet, 4, 14⟩ :: ⟨⟨(some 18), .mm false (.t 13) [(.t 17)], none⟩, .quiet, 5, 31⟩ :: ⟨⟨(some 5), .mov (.t 18), none⟩, .quiet, 6, 63⟩ :: []))
(.seq (.reg (⟨(some 19), .mov (.t 0), none⟩ :: ⟨(some 20), .load false 1 (.t 1), none⟩ :: ⟨(some 21), .mov (.t 4), none⟩ :: ⟨(some 22), .mov (.t 4), none⟩ :: ⟨(some 23), .mov (.t 5), none⟩ :: ⟨(some 24), .bin .add (.t 22) (.t 23), none⟩ :: ⟨(some 25), .mov (.t 4), none⟩ :: ⟨(some 26), .mov (.t 5), none⟩ :: ⟨(some 27), .bin .add (.t 25) (.t 26), none⟩ :: ⟨(some 28), .slS 17 (.t 20) (some (.t 21)) (some (.t 24)) (some (.t 27)), none⟩ :: ⟨(some 29), .callv (.t 19) [(.t 28)], none⟩ :: ⟨(some 30), .un .not (.t 29), none⟩ :: []))
(.cond (.t 30) .ret .skip))))
(.reg (⟨(some 10), .mov (.t 4), none⟩ :: ⟨(some 11), .load false 1 (.t 2), none⟩ :: ⟨(some 12), .bin .add (.t 10) (.t 11), none⟩ :: ⟨(some 4), .mov (.t 12), none⟩ :: [])))))))⟩
theorem c39_eq : compFn Try.prog 39 = some c39 := by kernel_rfl
end Go.Proofs.Ytfahfccbiolheaa.DB
