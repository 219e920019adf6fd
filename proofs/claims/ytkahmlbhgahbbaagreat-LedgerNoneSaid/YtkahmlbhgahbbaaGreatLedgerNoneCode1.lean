/- The functions' code, as the evaluator takes it (part 1), and that it is what the evaluator's compiler makes of the program. -/
import Derived.Test.YtkahmlbhgahbbaaGreatAbsK
import Derived.Test.YtkahmlbhgahbbaaGreatRows
set_option maxRecDepth 100000
namespace Go.Proofs.YtkahmlbhgahbbaaGreat.AbsLedgerNone
open Go.Proofs.YtkahmlbhgahbbaaGreat.Abs
noncomputable def c364 : FnI := ⟨34, [.tmp 4, .tmp 5],
(.seq (.reg [⟨(some 2), .box (.t 0), none⟩, ⟨(some 3), .box (.t 1), none⟩, ⟨(some 4), .mov (.c (.int .i64 (.ofNat 0))), none⟩, ⟨(some 5), .mov (.c (.bool false)), none⟩])
(.seq (.reg [⟨(some 7), .load false 1 (.t 2), none⟩, ⟨(some 8), .nilchk (.t 7), none⟩, ⟨(some 9), .faddr 1 (.t 8), none⟩, ⟨(some 10), .load false 1 (.t 9), none⟩, ⟨(some 11), .len false (.t 10), none⟩, ⟨(some 12), .mkfn 404 [] [(.t 2), (.t 3)], none⟩, ⟨(some 13), .call 401 [(.t 11), (.t 12)], none⟩, ⟨(some 6), .mov (.t 13), none⟩])
(.seq (.dreg [⟨⟨(some 14), .mov (.t 6), none⟩, .quiet, 0, 0⟩, ⟨⟨(some 15), .mov (.t 6), none⟩, .quiet, 1, 0⟩, ⟨⟨(some 16), .load false 1 (.t 2), none⟩, .load, 2, 0⟩, ⟨⟨(some 17), .nilchk (.t 16), none⟩, .quiet, 3, 4⟩, ⟨⟨(some 18), .faddr 1 (.t 17), none⟩, .quiet, 4, 12⟩, ⟨⟨(some 19), .load false 1 (.t 18), none⟩, .load, 5, 28⟩, ⟨⟨(some 20), .len false (.t 19), none⟩, .quiet, 6, 60⟩, ⟨⟨(some 21), .bin .lss (.t 15) (.t 20), none⟩, .quiet, 7, 126⟩, ⟨⟨(some 22), .mov (.t 21), none⟩, .quiet, 8, 254⟩, ⟨⟨(some 23), .load false 1 (.t 2), (some (22, true))⟩, .load, 9, 510⟩, ⟨⟨(some 24), .nilchk (.t 23), (some (22, true))⟩, .quiet, 10, 1022⟩, ⟨⟨(some 25), .faddr 1 (.t 24), (some (22, true))⟩, .quiet, 11, 2046⟩, ⟨⟨(some 26), .load false 1 (.t 25), (some (22, true))⟩, .load, 12, 4094⟩, ⟨⟨(some 27), .mov (.t 6), (some (22, true))⟩, .quiet, 13, 510⟩, ⟨⟨(some 28), .idxS 7 (.t 26) (.t 27), (some (22, true))⟩, .quiet, 14, 16382⟩, ⟨⟨(some 29), .faddr 0 (.t 28), (some (22, true))⟩, .quiet, 15, 32766⟩, ⟨⟨(some 30), .load false 1 (.t 29), (some (22, true))⟩, .load, 16, 65534⟩, ⟨⟨(some 31), .load false 1 (.t 3), (some (22, true))⟩, .load, 17, 510⟩, ⟨⟨(some 32), .bin .eql (.t 30) (.t 31), (some (22, true))⟩, .quiet, 18, 262142⟩, ⟨⟨(some 33), .pick (.t 22) (.t 32) (.c (.bool false)), none⟩, .quiet, 19, 524286⟩, ⟨⟨(some 4), .mov (.t 14), none⟩, .quiet, 20, 511⟩, ⟨⟨(some 5), .mov (.t 33), none⟩, .quiet, 21, 2097151⟩])
.ret)))⟩
theorem c364_eq : compFn Tryz.prog 364 = some c364 := by kernel_rfl
noncomputable def c401 : FnI := ⟨26, [.tmp 4],
(.seq (.reg [⟨(some 4), .mov (.c (.int .i64 (.ofNat 0))), none⟩])
(.seq (.reg [⟨(some 8), .mov (.t 0), none⟩, ⟨(some 5), .mov (.c (.int .i64 (.ofNat 0))), none⟩, ⟨(some 6), .mov (.t 8), none⟩])
(.seq (.block 0 (.loop (.seq (.seq (.reg [⟨(some 9), .mov (.t 5), none⟩, ⟨(some 10), .mov (.t 6), none⟩, ⟨(some 11), .bin .lss (.t 9) (.t 10), none⟩])
(.cond (.t 11) .skip (.exit 0)))
(.block 1 (.seq (.reg [⟨(some 12), .mov (.t 5), none⟩, ⟨(some 13), .mov (.t 6), none⟩, ⟨(some 14), .bin .add (.t 12) (.t 13), none⟩, ⟨(some 15), .cvInt .u64 (.t 14), none⟩, ⟨(some 16), .bin .shr (.t 15) (.c (.int .u64 (.ofNat 1))), none⟩, ⟨(some 17), .cvInt .i64 (.t 16), none⟩, ⟨(some 7), .mov (.t 17), none⟩])
(.seq (.reg [⟨(some 18), .mov (.t 1), none⟩, ⟨(some 19), .mov (.t 7), none⟩, ⟨(some 20), .callv (.t 18) [(.t 19)], none⟩, ⟨(some 21), .un .not (.t 20), none⟩])
(.cond (.t 21) (.reg [⟨(some 22), .mov (.t 7), none⟩, ⟨(some 23), .bin .add (.t 22) (.c (.int .i64 (.ofNat 1))), none⟩, ⟨(some 5), .mov (.t 23), none⟩]) (.reg [⟨(some 24), .mov (.t 7), none⟩, ⟨(some 6), .mov (.t 24), none⟩]))))))))
(.seq (.reg [⟨(some 25), .mov (.t 5), none⟩, ⟨(some 4), .mov (.t 25), none⟩])
.ret))))⟩
theorem c401_eq : compFn Tryz.prog 401 = some c401 := by kernel_rfl
end Go.Proofs.YtkahmlbhgahbbaaGreat.AbsLedgerNone
