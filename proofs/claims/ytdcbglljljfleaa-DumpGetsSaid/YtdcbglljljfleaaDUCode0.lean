/- The functions' code, as the evaluator takes it (part 0), and that it is what the evaluator's compiler makes of the program. -/
import Derived.Test.YtdcbglljljfleaaAbsJ
import Derived.Test.YtdcbglljljfleaaRows
set_option maxRecDepth 100000
namespace Go.Proofs.Ytdcbglljljfleaa.DU
open Go.Proofs.Ytdcbglljljfleaa.Abs
/-- sodality/sodalitylaw22.DumpPuts -/
noncomputable def c3 : FnI := ⟨41, [.tmp 2],
(.seq (.reg (⟨some 1,.box (.t 0),none⟩::⟨some 2,.mov (.c (.bool false)),none⟩::[]))
(.seq (.reg (⟨some 6,.load true 14 (.t 1),none⟩::⟨some 7,.call 7 [(.t 6)],none⟩::⟨some 5,.mov (.t 7),none⟩::⟨some 8,.extract (.t 5) 0,none⟩::⟨some 9,.extract (.t 5) 1,none⟩::⟨some 3,.mov (.t 8),none⟩::⟨some 4,.mov (.t 9),none⟩::[]))
(.seq (.seq (.dreg (⟨⟨some 10,.load true 14 (.t 1),none⟩,.load,0,0⟩::⟨⟨some 11,.call 8 [(.t 10)],none⟩,.loud,1,1⟩::⟨⟨some 12,.load true 14 (.t 1),none⟩,.load,2,0⟩::⟨⟨some 13,.call 9 [(.t 12)],none⟩,.loud,3,7⟩::⟨⟨some 14,.eq true .bool (.t 11) (.t 13),none⟩,.quiet,4,15⟩::[]))
(.cond (.t 14) (.seq (.reg (⟨some 2,.mov (.c (.bool false)),none⟩::[]))
.ret) .skip))
(.seq (.seq (.reg (⟨some 15,.load true 14 (.t 1),none⟩::⟨some 16,.call 9 [(.t 15)],none⟩::⟨some 17,.un .not (.t 16),none⟩::[]))
(.cond (.t 17) (.seq (.reg (⟨some 18,.mov (.t 4),none⟩::⟨some 19,.bin .eql (.t 18) (.c (.int .i64 (.ofNat 2))),none⟩::⟨some 20,.mov (.t 19),none⟩::⟨some 21,.mov (.t 3),some (20,true)⟩::⟨some 22,.len false (.t 21),some (20,true)⟩::⟨some 23,.bin .eql (.t 22) (.c (.int .i64 (.ofNat 0))),some (20,true)⟩::⟨some 24,.pick (.t 20) (.t 23) (.c (.bool false)),none⟩::⟨some 25,.mov (.t 24),none⟩::⟨some 26,.call 10 [],some (25,true)⟩::⟨some 27,.pick (.t 25) (.t 26) (.c (.bool false)),none⟩::⟨some 2,.mov (.t 27),none⟩::[]))
.ret) .skip))
(.seq (.dreg (⟨⟨some 28,.mov (.t 4),none⟩,.quiet,0,0⟩::⟨⟨some 29,.bin .eql (.t 28) (.c (.int .i64 (.ofNat 0))),none⟩,.quiet,1,1⟩::⟨⟨some 30,.mov (.t 29),none⟩,.quiet,2,3⟩::⟨⟨some 33,.load true 14 (.t 1),some (30,true)⟩,.load,5,7⟩::⟨⟨some 34,.call 11 [(.t 33)],some (30,true)⟩,.loud,6,39⟩::⟨⟨some 31,.mov (.t 3),some (30,true)⟩,.quiet,3,7⟩::⟨⟨some 32,.cvStr (.t 31),some (30,true)⟩,.load,4,15⟩::⟨⟨some 35,.cvStr (.t 34),some (30,true)⟩,.load,7,103⟩::⟨⟨some 36,.bin .eql (.t 32) (.t 35),some (30,true)⟩,.quiet,8,255⟩::⟨⟨some 37,.pick (.t 30) (.t 36) (.c (.bool false)),none⟩,.quiet,9,511⟩::⟨⟨some 38,.mov (.t 37),none⟩,.quiet,10,1023⟩::⟨⟨some 39,.call 10 [],some (38,true)⟩,.loud,11,2047⟩::⟨⟨some 40,.pick (.t 38) (.t 39) (.c (.bool false)),none⟩,.quiet,12,4095⟩::⟨⟨some 2,.mov (.t 40),none⟩,.quiet,13,8191⟩::[]))
.ret)))))⟩
theorem c3_eq : compFn Try.prog 3 = some c3 := by kernel_rfl
/-- sodality/sodalitylaw22.DumpGets -/
noncomputable def c4 : FnI := ⟨28, [.tmp 2],
(.seq (.reg (⟨some 2,.mov (.c (.bool false)),none⟩::[]))
(.seq (.reg (⟨some 8,.mov (.t 0),none⟩::⟨some 9,.call 12 [(.t 8)],none⟩::⟨some 7,.mov (.t 9),none⟩::⟨some 10,.extract (.t 7) 0,none⟩::⟨some 11,.extract (.t 7) 1,none⟩::⟨some 3,.alloc [(.int .u64 (.ofNat 0)), .nilsl, .nilsl, .nilsl, .nilsl, .nilsl, .nilsl, (.int .u64 (.ofNat 0)), (.int .u64 (.ofNat 0)), (.int .u64 (.ofNat 0)), (.int .u64 (.ofNat 0)), (.int .u64 (.ofNat 0)), (.int .u64 (.ofNat 0)), .nilsl],none⟩::⟨none,.store 14 (.t 3) (.t 10),none⟩::⟨some 4,.mov (.t 11),none⟩::[]))
(.seq (.reg (⟨some 13,.mov (.t 0),none⟩::⟨some 14,.call 13 [(.t 13)],none⟩::⟨some 12,.mov (.t 14),none⟩::⟨some 15,.extract (.t 12) 0,none⟩::⟨some 16,.extract (.t 12) 1,none⟩::⟨some 5,.alloc [(.int .u64 (.ofNat 0)), .nilsl, .nilsl, .nilsl, .nilsl, .nilsl, .nilsl, (.int .u64 (.ofNat 0)), (.int .u64 (.ofNat 0)), (.int .u64 (.ofNat 0)), (.int .u64 (.ofNat 0)), (.int .u64 (.ofNat 0)), (.int .u64 (.ofNat 0)), .nilsl],none⟩::⟨none,.store 14 (.t 5) (.t 15),none⟩::⟨some 6,.mov (.t 16),none⟩::[]))
(.seq (.reg (⟨some 17,.load true 14 (.t 3),none⟩::⟨some 18,.load true 14 (.t 5),none⟩::⟨some 19,.call 14 [(.t 17), (.t 18)],none⟩::⟨some 20,.mov (.t 19),none⟩::⟨some 21,.mov (.t 4),some (20,true)⟩::⟨some 22,.mov (.t 6),some (20,true)⟩::⟨some 23,.bin .eql (.t 21) (.t 22),some (20,true)⟩::⟨some 24,.pick (.t 20) (.t 23) (.c (.bool false)),none⟩::⟨some 25,.mov (.t 24),none⟩::⟨some 26,.call 10 [],some (25,true)⟩::⟨some 27,.pick (.t 25) (.t 26) (.c (.bool false)),none⟩::⟨some 2,.mov (.t 27),none⟩::[]))
.ret))))⟩
theorem c4_eq : compFn Try.prog 4 = some c4 := by kernel_rfl
/-- sodality/sodalitylaw22.DumpBack -/
noncomputable def c5 : FnI := ⟨35, [.tmp 2],
(.seq (.reg (⟨some 1,.box (.t 0),none⟩::⟨some 2,.mov (.c (.bool false)),none⟩::[]))
(.seq (.reg (⟨some 8,.load true 14 (.t 1),none⟩::⟨some 9,.call 7 [(.t 8)],none⟩::⟨some 7,.mov (.t 9),none⟩::⟨some 10,.extract (.t 7) 0,none⟩::⟨some 11,.extract (.t 7) 1,none⟩::⟨some 3,.mov (.t 10),none⟩::⟨some 4,.mov (.t 11),none⟩::[]))
(.seq (.seq (.reg (⟨some 12,.mov (.t 4),none⟩::⟨some 13,.bin .neq (.t 12) (.c (.int .i64 (.ofNat 0))),none⟩::[]))
(.cond (.t 13) (.seq (.reg (⟨some 14,.mov (.t 3),none⟩::⟨some 15,.len false (.t 14),none⟩::⟨some 16,.bin .eql (.t 15) (.c (.int .i64 (.ofNat 0))),none⟩::⟨some 17,.mov (.t 16),none⟩::⟨some 18,.call 10 [],some (17,true)⟩::⟨some 19,.pick (.t 17) (.t 18) (.c (.bool false)),none⟩::⟨some 2,.mov (.t 19),none⟩::[]))
.ret) .skip))
(.seq (.reg (⟨some 21,.mov (.t 3),none⟩::⟨some 22,.call 12 [(.t 21)],none⟩::⟨some 20,.mov (.t 22),none⟩::⟨some 23,.extract (.t 20) 0,none⟩::⟨some 24,.extract (.t 20) 1,none⟩::⟨some 5,.alloc [(.int .u64 (.ofNat 0)), .nilsl, .nilsl, .nilsl, .nilsl, .nilsl, .nilsl, (.int .u64 (.ofNat 0)), (.int .u64 (.ofNat 0)), (.int .u64 (.ofNat 0)), (.int .u64 (.ofNat 0)), (.int .u64 (.ofNat 0)), (.int .u64 (.ofNat 0)), .nilsl],none⟩::⟨none,.store 14 (.t 5) (.t 23),none⟩::⟨some 6,.mov (.t 24),none⟩::[]))
(.seq (.reg (⟨some 25,.mov (.t 6),none⟩::⟨some 26,.bin .eql (.t 25) (.c (.int .i64 (.ofNat 0))),none⟩::⟨some 27,.mov (.t 26),none⟩::⟨some 28,.load true 14 (.t 1),some (27,true)⟩::⟨some 29,.load true 14 (.t 5),some (27,true)⟩::⟨some 30,.call 14 [(.t 28), (.t 29)],some (27,true)⟩::⟨some 31,.pick (.t 27) (.t 30) (.c (.bool false)),none⟩::⟨some 32,.mov (.t 31),none⟩::⟨some 33,.call 10 [],some (32,true)⟩::⟨some 34,.pick (.t 32) (.t 33) (.c (.bool false)),none⟩::⟨some 2,.mov (.t 34),none⟩::[]))
.ret)))))⟩
theorem c5_eq : compFn Try.prog 5 = some c5 := by kernel_rfl
/-- sodality/sodalitylaw22.DumpOnce -/
noncomputable def c6 : FnI := ⟨37, [.tmp 2],
(.seq (.reg (⟨some 2,.mov (.c (.bool false)),none⟩::[]))
(.seq (.reg (⟨some 8,.mov (.t 0),none⟩::⟨some 9,.call 12 [(.t 8)],none⟩::⟨some 7,.mov (.t 9),none⟩::⟨some 10,.extract (.t 7) 0,none⟩::⟨some 11,.extract (.t 7) 1,none⟩::⟨some 3,.alloc [(.int .u64 (.ofNat 0)), .nilsl, .nilsl, .nilsl, .nilsl, .nilsl, .nilsl, (.int .u64 (.ofNat 0)), (.int .u64 (.ofNat 0)), (.int .u64 (.ofNat 0)), (.int .u64 (.ofNat 0)), (.int .u64 (.ofNat 0)), (.int .u64 (.ofNat 0)), .nilsl],none⟩::⟨none,.store 14 (.t 3) (.t 10),none⟩::⟨some 4,.mov (.t 11),none⟩::[]))
(.seq (.seq (.reg (⟨some 12,.mov (.t 4),none⟩::⟨some 13,.bin .neq (.t 12) (.c (.int .i64 (.ofNat 0))),none⟩::[]))
(.cond (.t 13) (.seq (.reg (⟨some 14,.load true 14 (.t 3),none⟩::⟨some 15,.build [(.int .u64 (.ofNat 0)), .nilsl, .nilsl, .nilsl, .nilsl, .nilsl, .nilsl, (.int .u64 (.ofNat 0)), (.int .u64 (.ofNat 0)), (.int .u64 (.ofNat 0)), (.int .u64 (.ofNat 0)), (.int .u64 (.ofNat 0)), (.int .u64 (.ofNat 0)), .nilsl] [],none⟩::⟨some 16,.call 14 [(.t 14), (.t 15)],none⟩::⟨some 17,.mov (.t 16),none⟩::⟨some 18,.call 10 [],some (17,true)⟩::⟨some 19,.pick (.t 17) (.t 18) (.c (.bool false)),none⟩::⟨some 2,.mov (.t 19),none⟩::[]))
.ret) .skip))
(.seq (.reg (⟨some 21,.load true 14 (.t 3),none⟩::⟨some 22,.call 7 [(.t 21)],none⟩::⟨some 20,.mov (.t 22),none⟩::⟨some 23,.extract (.t 20) 0,none⟩::⟨some 24,.extract (.t 20) 1,none⟩::⟨some 5,.mov (.t 23),none⟩::⟨some 6,.mov (.t 24),none⟩::[]))
(.seq (.reg (⟨some 25,.mov (.t 6),none⟩::⟨some 26,.bin .eql (.t 25) (.c (.int .i64 (.ofNat 0))),none⟩::⟨some 27,.mov (.t 26),none⟩::⟨some 28,.mov (.t 0),some (27,true)⟩::⟨some 29,.cvStr (.t 28),some (27,true)⟩::⟨some 30,.mov (.t 5),some (27,true)⟩::⟨some 31,.cvStr (.t 30),some (27,true)⟩::⟨some 32,.bin .eql (.t 29) (.t 31),some (27,true)⟩::⟨some 33,.pick (.t 27) (.t 32) (.c (.bool false)),none⟩::⟨some 34,.mov (.t 33),none⟩::⟨some 35,.call 10 [],some (34,true)⟩::⟨some 36,.pick (.t 34) (.t 35) (.c (.bool false)),none⟩::⟨some 2,.mov (.t 36),none⟩::[]))
.ret)))))⟩
theorem c6_eq : compFn Try.prog 6 = some c6 := by kernel_rfl
/-- sodality/dump.Put -/
noncomputable def c7 : FnI := ⟨64, [.tmp 2, .tmp 3],
(.seq (.reg (⟨some 1,.box (.t 0),none⟩::⟨some 2,.mov (.c .nilsl),none⟩::⟨some 3,.mov (.c (.int .i64 (.ofNat 0))),none⟩::[]))
(.seq (.seq (.reg (⟨some 7,.load true 14 (.t 1),none⟩::⟨some 8,.call 8 [(.t 7)],none⟩::⟨some 9,.un .not (.t 8),none⟩::[]))
(.cond (.t 9) (.seq (.reg (⟨some 2,.mov (.c .nilsl),none⟩::⟨some 3,.mov (.c (.int .i64 (.ofNat 2))),none⟩::[]))
.ret) .skip))
(.seq (.reg (⟨some 10,.build [.nilsl] [],none⟩::⟨some 11,.box (.t 10),none⟩::⟨some 4,.mov (.t 11),none⟩::[]))
(.seq (.reg (⟨some 12,.mov (.t 4),none⟩::⟨some 13,.faddr 0 (.t 1),none⟩::⟨some 14,.load false 1 (.t 13),none⟩::⟨some 15,.call 15 [(.t 12), (.t 14)],none⟩::[]))
(.seq (.dreg (⟨⟨some 19,.call 17 [],none⟩,.loud,3,0⟩::⟨⟨some 16,.mov (.t 4),none⟩,.quiet,0,0⟩::⟨⟨some 17,.faddr 1 (.t 1),none⟩,.quiet,1,0⟩::⟨⟨some 18,.load false 1 (.t 17),none⟩,.load,2,2⟩::⟨⟨some 20,.call 16 [(.t 16), (.t 18), (.t 19)],none⟩,.loud,4,15⟩::[]))
(.seq (.dreg (⟨⟨some 24,.call 19 [],none⟩,.loud,3,0⟩::⟨⟨some 21,.mov (.t 4),none⟩,.quiet,0,0⟩::⟨⟨some 22,.faddr 2 (.t 1),none⟩,.quiet,1,0⟩::⟨⟨some 23,.load false 1 (.t 22),none⟩,.load,2,2⟩::⟨⟨some 25,.call 18 [(.t 21), (.t 23), (.t 24)],none⟩,.loud,4,15⟩::[]))
(.seq (.dreg (⟨⟨some 29,.call 21 [],none⟩,.loud,3,0⟩::⟨⟨some 26,.mov (.t 4),none⟩,.quiet,0,0⟩::⟨⟨some 27,.faddr 3 (.t 1),none⟩,.quiet,1,0⟩::⟨⟨some 28,.load false 1 (.t 27),none⟩,.load,2,2⟩::⟨⟨some 30,.call 20 [(.t 26), (.t 28), (.t 29)],none⟩,.loud,4,15⟩::[]))
(.seq (.dreg (⟨⟨some 34,.call 23 [],none⟩,.loud,3,0⟩::⟨⟨some 31,.mov (.t 4),none⟩,.quiet,0,0⟩::⟨⟨some 32,.faddr 4 (.t 1),none⟩,.quiet,1,0⟩::⟨⟨some 33,.load false 1 (.t 32),none⟩,.load,2,2⟩::⟨⟨some 35,.call 22 [(.t 31), (.t 33), (.t 34)],none⟩,.loud,4,15⟩::[]))
(.seq (.dreg (⟨⟨some 39,.call 25 [],none⟩,.loud,3,0⟩::⟨⟨some 36,.mov (.t 4),none⟩,.quiet,0,0⟩::⟨⟨some 37,.faddr 5 (.t 1),none⟩,.quiet,1,0⟩::⟨⟨some 38,.load false 1 (.t 37),none⟩,.load,2,2⟩::⟨⟨some 40,.call 24 [(.t 36), (.t 38), (.t 39)],none⟩,.loud,4,15⟩::[]))
(.seq (.dreg (⟨⟨some 44,.call 27 [],none⟩,.loud,3,0⟩::⟨⟨some 41,.mov (.t 4),none⟩,.quiet,0,0⟩::⟨⟨some 42,.faddr 6 (.t 1),none⟩,.quiet,1,0⟩::⟨⟨some 43,.load false 1 (.t 42),none⟩,.load,2,2⟩::⟨⟨some 45,.call 26 [(.t 41), (.t 43), (.t 44)],none⟩,.loud,4,15⟩::[]))
(.seq (.seq (.reg (⟨some 46,.faddr 7 (.t 1),none⟩::⟨some 47,.load true 6 (.t 46),none⟩::⟨some 48,.mov (.c (.int .i64 (.ofNat 0))),none⟩::[]))
(.block 0 (.loop (.seq (.reg (⟨some 49,.bin .lss (.t 48) (.c (.int .i64 (.ofNat 6))),none⟩::[]))
(.seq (.cond (.t 49) .skip (.exit 0))
(.seq (.block 1 (.seq (.reg (⟨some 50,.idxV 6 1 false (.t 47) (.t 48),none⟩::⟨some 6,.mov (.t 50),none⟩::[]))
(.reg (⟨some 51,.mov (.t 4),none⟩::⟨some 52,.mov (.t 6),none⟩::⟨some 53,.call 15 [(.t 51), (.t 52)],none⟩::[]))))
(.reg (⟨some 54,.bin .add (.t 48) (.c (.int .i64 (.ofNat 1))),none⟩::⟨some 48,.mov (.t 54),none⟩::[]))))))))
(.seq (.dreg (⟨⟨some 58,.call 29 [],none⟩,.loud,3,0⟩::⟨⟨some 55,.mov (.t 4),none⟩,.quiet,0,0⟩::⟨⟨some 56,.faddr 13 (.t 1),none⟩,.quiet,1,0⟩::⟨⟨some 57,.load false 1 (.t 56),none⟩,.load,2,2⟩::⟨⟨some 59,.call 28 [(.t 55), (.t 57), (.t 58)],none⟩,.loud,4,15⟩::[]))
(.seq (.reg (⟨some 60,.mov (.t 4),none⟩::⟨some 61,.nilchk (.t 60),none⟩::⟨some 62,.faddr 0 (.t 61),none⟩::⟨some 63,.load false 1 (.t 62),none⟩::⟨some 2,.mov (.t 63),none⟩::⟨some 3,.mov (.c (.int .i64 (.ofNat 0))),none⟩::[]))
.ret)))))))))))))⟩
theorem c7_eq : compFn Try.prog 7 = some c7 := by kernel_rfl
/-- sodality/dump.Right -/
noncomputable def c8 : FnI := ⟨184, [.tmp 2],
(.seq (.reg (⟨some 1,.box (.t 0),none⟩::⟨some 2,.mov (.c (.bool false)),none⟩::[]))
(.seq (.reg (⟨some 20,.build [(.bool false)] [],none⟩::⟨some 21,.box (.t 20),none⟩::⟨some 3,.mov (.t 21),none⟩::[]))
(.seq (.seq (.reg (⟨some 22,.faddr 1 (.t 1),none⟩::⟨some 23,.load false 1 (.t 22),none⟩::⟨some 24,.len false (.t 23),none⟩::⟨some 25,.faddr 2 (.t 1),none⟩::⟨some 26,.load false 1 (.t 25),none⟩::⟨some 27,.len false (.t 26),none⟩::⟨some 28,.faddr 3 (.t 1),none⟩::⟨some 29,.load false 1 (.t 28),none⟩::⟨some 30,.len false (.t 29),none⟩::⟨some 31,.faddr 4 (.t 1),none⟩::⟨some 32,.load false 1 (.t 31),none⟩::⟨some 33,.len false (.t 32),none⟩::⟨some 34,.faddr 5 (.t 1),none⟩::⟨some 35,.load false 1 (.t 34),none⟩::⟨some 36,.len false (.t 35),none⟩::⟨some 37,.faddr 6 (.t 1),none⟩::⟨some 38,.load false 1 (.t 37),none⟩::⟨some 39,.len false (.t 38),none⟩::⟨some 40,.faddr 13 (.t 1),none⟩::⟨some 41,.load false 1 (.t 40),none⟩::⟨some 42,.len false (.t 41),none⟩::⟨some 43,.build [(.int .i64 (.ofNat 0)), (.int .i64 (.ofNat 0)), (.int .i64 (.ofNat 0)), (.int .i64 (.ofNat 0)), (.int .i64 (.ofNat 0)), (.int .i64 (.ofNat 0)), (.int .i64 (.ofNat 0))] [(0, 1, (.t 24)), (1, 1, (.t 27)), (2, 1, (.t 30)), (3, 1, (.t 33)), (4, 1, (.t 36)), (5, 1, (.t 39)), (6, 1, (.t 42))],none⟩::⟨some 44,.mov (.c (.int .i64 (.ofNat 0))),none⟩::[]))
(.block 0 (.loop (.seq (.reg (⟨some 45,.bin .lss (.t 44) (.c (.int .i64 (.ofNat 7))),none⟩::[]))
(.seq (.cond (.t 45) .skip (.exit 0))
(.seq (.block 1 (.seq (.reg (⟨some 46,.idxV 7 1 false (.t 43) (.t 44),none⟩::⟨some 5,.mov (.t 46),none⟩::[]))
(.reg (⟨some 47,.mov (.t 3),none⟩::⟨some 48,.mov (.t 5),none⟩::⟨some 49,.call 30 [(.t 47), (.t 48)],none⟩::[]))))
(.reg (⟨some 50,.bin .add (.t 44) (.c (.int .i64 (.ofNat 1))),none⟩::⟨some 44,.mov (.t 50),none⟩::[]))))))))
(.seq (.seq (.reg (⟨some 51,.faddr 1 (.t 1),none⟩::⟨some 52,.load false 1 (.t 51),none⟩::⟨some 53,.len false (.t 52),none⟩::⟨some 54,.mov (.c (.int .i64 (.ofNat 0))),none⟩::[]))
(.block 2 (.loop (.seq (.reg (⟨some 55,.bin .lss (.t 54) (.t 53),none⟩::[]))
(.seq (.cond (.t 55) .skip (.exit 2))
(.seq (.block 3 (.seq (.reg (⟨some 56,.idxS 4 (.t 52) (.t 54),none⟩::⟨some 57,.load true 4 (.t 56),none⟩::⟨some 7,.alloc [(.int .i64 (.ofNat 0)), (.str []), (.int .u64 (.ofNat 0)), (.int .u64 (.ofNat 0))],none⟩::⟨none,.store 4 (.t 7) (.t 57),none⟩::[]))
(.seq (.reg (⟨some 58,.mov (.t 3),none⟩::⟨some 59,.faddr 0 (.t 7),none⟩::⟨some 60,.load false 1 (.t 59),none⟩::⟨some 61,.call 31 [(.t 58), (.t 60), (.c (.int .i64 (.ofNat 255)))],none⟩::[]))
(.reg (⟨some 62,.mov (.t 3),none⟩::⟨some 63,.faddr 1 (.t 7),none⟩::⟨some 64,.load false 1 (.t 63),none⟩::⟨some 65,.buildSl 1 1 [(.str [])] [(0, 1, (.t 64))],none⟩::⟨some 66,.call 32 [(.t 62), (.t 65)],none⟩::[])))))
(.reg (⟨some 67,.bin .add (.t 54) (.c (.int .i64 (.ofNat 1))),none⟩::⟨some 54,.mov (.t 67),none⟩::[]))))))))
(.seq (.seq (.reg (⟨some 68,.faddr 2 (.t 1),none⟩::⟨some 69,.load false 1 (.t 68),none⟩::⟨some 70,.len false (.t 69),none⟩::⟨some 71,.mov (.c (.int .i64 (.ofNat 0))),none⟩::[]))
(.block 4 (.loop (.seq (.reg (⟨some 72,.bin .lss (.t 71) (.t 70),none⟩::[]))
(.seq (.cond (.t 72) .skip (.exit 4))
(.seq (.block 5 (.seq (.reg (⟨some 73,.idxS 7 (.t 69) (.t 71),none⟩::⟨some 74,.load true 7 (.t 73),none⟩::⟨some 9,.alloc [(.int .i64 (.ofNat 0)), (.str []), (.str []), .nilsl, (.int .i64 (.ofNat 0)), (.int .u64 (.ofNat 0)), (.int .u64 (.ofNat 0))],none⟩::⟨none,.store 7 (.t 9) (.t 74),none⟩::[]))
(.seq (.reg (⟨some 75,.mov (.t 3),none⟩::⟨some 76,.faddr 0 (.t 9),none⟩::⟨some 77,.load false 1 (.t 76),none⟩::⟨some 78,.call 31 [(.t 75), (.t 77), (.c (.int .i64 (.ofNat 255)))],none⟩::[]))
(.seq (.reg (⟨some 79,.mov (.t 3),none⟩::⟨some 80,.faddr 4 (.t 9),none⟩::⟨some 81,.load false 1 (.t 80),none⟩::⟨some 82,.call 31 [(.t 79), (.t 81), (.c (.int .i64 (.ofNat 65535)))],none⟩::[]))
(.seq (.reg (⟨some 83,.mov (.t 3),none⟩::⟨some 84,.faddr 3 (.t 9),none⟩::⟨some 85,.load false 1 (.t 84),none⟩::⟨some 86,.len false (.t 85),none⟩::⟨some 87,.call 31 [(.t 83), (.t 86), (.c (.int .i64 (.ofNat 8)))],none⟩::[]))
(.seq (.reg (⟨some 88,.mov (.t 3),none⟩::⟨some 89,.faddr 1 (.t 9),none⟩::⟨some 90,.load false 1 (.t 89),none⟩::⟨some 91,.faddr 2 (.t 9),none⟩::⟨some 92,.load false 1 (.t 91),none⟩::⟨some 93,.buildSl 1 2 [(.str []), (.str [])] [(0, 1, (.t 90)), (1, 1, (.t 92))],none⟩::⟨some 94,.call 32 [(.t 88), (.t 93)],none⟩::[]))
(.reg (⟨some 95,.mov (.t 3),none⟩::⟨some 96,.faddr 3 (.t 9),none⟩::⟨some 97,.load false 1 (.t 96),none⟩::⟨some 98,.call 32 [(.t 95), (.t 97)],none⟩::[]))))))))
(.reg (⟨some 99,.bin .add (.t 71) (.c (.int .i64 (.ofNat 1))),none⟩::⟨some 71,.mov (.t 99),none⟩::[]))))))))
(.seq (.seq (.reg (⟨some 100,.faddr 3 (.t 1),none⟩::⟨some 101,.load false 1 (.t 100),none⟩::⟨some 102,.len false (.t 101),none⟩::⟨some 103,.mov (.c (.int .i64 (.ofNat 0))),none⟩::[]))
(.block 6 (.loop (.seq (.reg (⟨some 104,.bin .lss (.t 103) (.t 102),none⟩::[]))
(.seq (.cond (.t 104) .skip (.exit 6))
(.seq (.block 7 (.seq (.reg (⟨some 105,.idxS 7 (.t 101) (.t 103),none⟩::⟨some 106,.load true 7 (.t 105),none⟩::⟨some 11,.alloc [(.int .i64 (.ofNat 0)), (.str []), (.str []), (.str []), (.int .i64 (.ofNat 0)), (.int .u64 (.ofNat 0)), (.int .u64 (.ofNat 0))],none⟩::⟨none,.store 7 (.t 11) (.t 106),none⟩::[]))
(.seq (.reg (⟨some 107,.mov (.t 3),none⟩::⟨some 108,.faddr 0 (.t 11),none⟩::⟨some 109,.load false 1 (.t 108),none⟩::⟨some 110,.call 31 [(.t 107), (.t 109), (.c (.int .i64 (.ofNat 255)))],none⟩::[]))
(.seq (.reg (⟨some 111,.mov (.t 3),none⟩::⟨some 112,.faddr 4 (.t 11),none⟩::⟨some 113,.load false 1 (.t 112),none⟩::⟨some 114,.call 31 [(.t 111), (.t 113), (.c (.int .i64 (.ofNat 255)))],none⟩::[]))
(.reg (⟨some 115,.mov (.t 3),none⟩::⟨some 116,.faddr 1 (.t 11),none⟩::⟨some 117,.load false 1 (.t 116),none⟩::⟨some 118,.faddr 2 (.t 11),none⟩::⟨some 119,.load false 1 (.t 118),none⟩::⟨some 120,.faddr 3 (.t 11),none⟩::⟨some 121,.load false 1 (.t 120),none⟩::⟨some 122,.buildSl 1 3 [(.str []), (.str []), (.str [])] [(0, 1, (.t 117)), (1, 1, (.t 119)), (2, 1, (.t 121))],none⟩::⟨some 123,.call 32 [(.t 115), (.t 122)],none⟩::[]))))))
(.reg (⟨some 124,.bin .add (.t 103) (.c (.int .i64 (.ofNat 1))),none⟩::⟨some 103,.mov (.t 124),none⟩::[]))))))))
(.seq (.seq (.reg (⟨some 125,.faddr 4 (.t 1),none⟩::⟨some 126,.load false 1 (.t 125),none⟩::⟨some 127,.len false (.t 126),none⟩::⟨some 128,.mov (.c (.int .i64 (.ofNat 0))),none⟩::[]))
(.block 8 (.loop (.seq (.reg (⟨some 129,.bin .lss (.t 128) (.t 127),none⟩::[]))
(.seq (.cond (.t 129) .skip (.exit 8))
(.seq (.block 9 (.seq (.reg (⟨some 130,.idxS 5 (.t 126) (.t 128),none⟩::⟨some 131,.load true 5 (.t 130),none⟩::⟨some 13,.alloc [(.str []), (.str []), (.bool false), (.int .u64 (.ofNat 0)), (.int .u64 (.ofNat 0))],none⟩::⟨none,.store 5 (.t 13) (.t 131),none⟩::[]))
(.reg (⟨some 132,.mov (.t 3),none⟩::⟨some 133,.faddr 0 (.t 13),none⟩::⟨some 134,.load false 1 (.t 133),none⟩::⟨some 135,.faddr 1 (.t 13),none⟩::⟨some 136,.load false 1 (.t 135),none⟩::⟨some 137,.buildSl 1 2 [(.str []), (.str [])] [(0, 1, (.t 134)), (1, 1, (.t 136))],none⟩::⟨some 138,.call 32 [(.t 132), (.t 137)],none⟩::[]))))
(.reg (⟨some 139,.bin .add (.t 128) (.c (.int .i64 (.ofNat 1))),none⟩::⟨some 128,.mov (.t 139),none⟩::[]))))))))
(.seq (.seq (.reg (⟨some 140,.faddr 5 (.t 1),none⟩::⟨some 141,.load false 1 (.t 140),none⟩::⟨some 142,.len false (.t 141),none⟩::⟨some 143,.mov (.c (.int .i64 (.ofNat 0))),none⟩::[]))
(.block 10 (.loop (.seq (.reg (⟨some 144,.bin .lss (.t 143) (.t 142),none⟩::[]))
(.seq (.cond (.t 144) .skip (.exit 10))
(.seq (.block 11 (.seq (.reg (⟨some 145,.idxS 6 (.t 141) (.t 143),none⟩::⟨some 146,.load true 6 (.t 145),none⟩::⟨some 15,.alloc [(.str []), (.str []), (.int .u64 (.ofNat 0)), (.int .u64 (.ofNat 0)), (.int .u64 (.ofNat 0)), (.int .u64 (.ofNat 0))],none⟩::⟨none,.store 6 (.t 15) (.t 146),none⟩::[]))
(.reg (⟨some 147,.mov (.t 3),none⟩::⟨some 148,.faddr 0 (.t 15),none⟩::⟨some 149,.load false 1 (.t 148),none⟩::⟨some 150,.faddr 1 (.t 15),none⟩::⟨some 151,.load false 1 (.t 150),none⟩::⟨some 152,.buildSl 1 2 [(.str []), (.str [])] [(0, 1, (.t 149)), (1, 1, (.t 151))],none⟩::⟨some 153,.call 32 [(.t 147), (.t 152)],none⟩::[]))))
(.reg (⟨some 154,.bin .add (.t 143) (.c (.int .i64 (.ofNat 1))),none⟩::⟨some 143,.mov (.t 154),none⟩::[]))))))))
(.seq (.seq (.reg (⟨some 155,.faddr 6 (.t 1),none⟩::⟨some 156,.load false 1 (.t 155),none⟩::⟨some 157,.len false (.t 156),none⟩::⟨some 158,.mov (.c (.int .i64 (.ofNat 0))),none⟩::[]))
(.block 12 (.loop (.seq (.reg (⟨some 159,.bin .lss (.t 158) (.t 157),none⟩::[]))
(.seq (.cond (.t 159) .skip (.exit 12))
(.seq (.block 13 (.seq (.reg (⟨some 160,.idxS 4 (.t 156) (.t 158),none⟩::⟨some 161,.load true 4 (.t 160),none⟩::⟨some 17,.alloc [(.int .u64 (.ofNat 0)), (.int .i64 (.ofNat 0)), (.int .u64 (.ofNat 0)), (.int .u64 (.ofNat 0))],none⟩::⟨none,.store 4 (.t 17) (.t 161),none⟩::[]))
(.reg (⟨some 162,.mov (.t 3),none⟩::⟨some 163,.faddr 1 (.t 17),none⟩::⟨some 164,.load false 1 (.t 163),none⟩::⟨some 165,.call 31 [(.t 162), (.t 164), (.c (.int .i64 (.ofNat 255)))],none⟩::[]))))
(.reg (⟨some 166,.bin .add (.t 158) (.c (.int .i64 (.ofNat 1))),none⟩::⟨some 158,.mov (.t 166),none⟩::[]))))))))
(.seq (.seq (.reg (⟨some 167,.faddr 13 (.t 1),none⟩::⟨some 168,.load false 1 (.t 167),none⟩::⟨some 169,.len false (.t 168),none⟩::⟨some 170,.mov (.c (.int .i64 (.ofNat 0))),none⟩::[]))
(.block 14 (.loop (.seq (.reg (⟨some 171,.bin .lss (.t 170) (.t 169),none⟩::[]))
(.seq (.cond (.t 171) .skip (.exit 14))
(.seq (.block 15 (.seq (.reg (⟨some 172,.idxS 3 (.t 168) (.t 170),none⟩::⟨some 173,.load true 3 (.t 172),none⟩::⟨some 19,.alloc [(.int .i64 (.ofNat 0)), (.int .u32 (.ofNat 0)), (.int .u64 (.ofNat 0))],none⟩::⟨none,.store 3 (.t 19) (.t 173),none⟩::[]))
(.reg (⟨some 174,.mov (.t 3),none⟩::⟨some 175,.faddr 0 (.t 19),none⟩::⟨some 176,.load false 1 (.t 175),none⟩::⟨some 177,.call 31 [(.t 174), (.t 176), (.c (.int .i64 (.ofNat 255)))],none⟩::[]))))
(.reg (⟨some 178,.bin .add (.t 170) (.c (.int .i64 (.ofNat 1))),none⟩::⟨some 170,.mov (.t 178),none⟩::[]))))))))
(.seq (.reg (⟨some 179,.mov (.t 3),none⟩::⟨some 180,.nilchk (.t 179),none⟩::⟨some 181,.faddr 0 (.t 180),none⟩::⟨some 182,.load false 1 (.t 181),none⟩::⟨some 183,.un .not (.t 182),none⟩::⟨some 2,.mov (.t 183),none⟩::[]))
.ret)))))))))))⟩
theorem c8_eq : compFn Try.prog 8 = some c8 := by kernel_rfl
/-- sodality/sodalityref22.Right -/
noncomputable def c9 : FnI := ⟨215, [.tmp 2],
(.seq (.reg (⟨some 1,.box (.t 0),none⟩::⟨some 2,.mov (.c (.bool false)),none⟩::[]))
(.seq (.seq (.reg (⟨some 12,.faddr 1 (.t 1),none⟩::⟨some 13,.load false 1 (.t 12),none⟩::⟨some 14,.len false (.t 13),none⟩::⟨some 15,.bin .gtr (.t 14) (.c (.int .i64 (.ofNat 64))),none⟩::⟨some 16,.mov (.t 15),none⟩::⟨some 17,.faddr 2 (.t 1),some (16,false)⟩::⟨some 18,.load false 1 (.t 17),some (16,false)⟩::⟨some 19,.len false (.t 18),some (16,false)⟩::⟨some 20,.bin .gtr (.t 19) (.c (.int .i64 (.ofNat 64))),some (16,false)⟩::⟨some 21,.pick (.t 16) (.c (.bool true)) (.t 20),none⟩::⟨some 22,.mov (.t 21),none⟩::⟨some 23,.faddr 3 (.t 1),some (22,false)⟩::⟨some 24,.load false 1 (.t 23),some (22,false)⟩::⟨some 25,.len false (.t 24),some (22,false)⟩::⟨some 26,.bin .gtr (.t 25) (.c (.int .i64 (.ofNat 64))),some (22,false)⟩::⟨some 27,.pick (.t 22) (.c (.bool true)) (.t 26),none⟩::⟨some 28,.mov (.t 27),none⟩::⟨some 29,.faddr 4 (.t 1),some (28,false)⟩::⟨some 30,.load false 1 (.t 29),some (28,false)⟩::⟨some 31,.len false (.t 30),some (28,false)⟩::⟨some 32,.bin .gtr (.t 31) (.c (.int .i64 (.ofNat 64))),some (28,false)⟩::⟨some 33,.pick (.t 28) (.c (.bool true)) (.t 32),none⟩::⟨some 34,.mov (.t 33),none⟩::⟨some 35,.faddr 5 (.t 1),some (34,false)⟩::⟨some 36,.load false 1 (.t 35),some (34,false)⟩::⟨some 37,.len false (.t 36),some (34,false)⟩::⟨some 38,.bin .gtr (.t 37) (.c (.int .i64 (.ofNat 64))),some (34,false)⟩::⟨some 39,.pick (.t 34) (.c (.bool true)) (.t 38),none⟩::⟨some 40,.mov (.t 39),none⟩::⟨some 41,.faddr 6 (.t 1),some (40,false)⟩::⟨some 42,.load false 1 (.t 41),some (40,false)⟩::⟨some 43,.len false (.t 42),some (40,false)⟩::⟨some 44,.bin .gtr (.t 43) (.c (.int .i64 (.ofNat 64))),some (40,false)⟩::⟨some 45,.pick (.t 40) (.c (.bool true)) (.t 44),none⟩::⟨some 46,.mov (.t 45),none⟩::⟨some 47,.faddr 13 (.t 1),some (46,false)⟩::⟨some 48,.load false 1 (.t 47),some (46,false)⟩::⟨some 49,.len false (.t 48),some (46,false)⟩::⟨some 50,.bin .gtr (.t 49) (.c (.int .i64 (.ofNat 64))),some (46,false)⟩::⟨some 51,.pick (.t 46) (.c (.bool true)) (.t 50),none⟩::[]))
(.cond (.t 51) (.seq (.reg (⟨some 2,.mov (.c (.bool false)),none⟩::[]))
.ret) .skip))
(.seq (.seq (.reg (⟨some 3,.mov (.c (.int .i64 (.ofNat 0))),none⟩::[]))
(.block 0 (.loop (.seq (.seq (.reg (⟨some 52,.mov (.t 3),none⟩::⟨some 53,.faddr 1 (.t 1),none⟩::⟨some 54,.load false 1 (.t 53),none⟩::⟨some 55,.len false (.t 54),none⟩::⟨some 56,.bin .lss (.t 52) (.t 55),none⟩::[]))
(.cond (.t 56) .skip (.exit 0)))
(.seq (.block 1 (.seq (.reg (⟨some 59,.faddr 1 (.t 1),none⟩::⟨some 60,.load false 1 (.t 59),none⟩::⟨some 61,.mov (.t 3),none⟩::⟨some 62,.idxS 4 (.t 60) (.t 61),none⟩::⟨some 63,.faddr 0 (.t 62),none⟩::⟨some 64,.load false 1 (.t 63),none⟩::⟨some 65,.call 33 [(.t 64), (.c (.int .i64 (.ofNat 255)))],none⟩::⟨some 66,.mov (.t 65),none⟩::⟨some 67,.faddr 1 (.t 1),some (66,false)⟩::⟨some 68,.load false 1 (.t 67),some (66,false)⟩::⟨some 69,.mov (.t 3),some (66,false)⟩::⟨some 70,.idxS 4 (.t 68) (.t 69),some (66,false)⟩::⟨some 71,.faddr 1 (.t 70),some (66,false)⟩::⟨some 72,.load false 1 (.t 71),some (66,false)⟩::⟨some 73,.buildSl 1 1 [(.str [])] [(0, 1, (.t 72))],some (66,false)⟩::⟨some 74,.call 34 [(.t 73)],some (66,false)⟩::⟨some 75,.pick (.t 66) (.c (.bool true)) (.t 74),none⟩::[]))
(.cond (.t 75) (.seq (.reg (⟨some 2,.mov (.c (.bool false)),none⟩::[]))
.ret) .skip)))
(.reg (⟨some 57,.mov (.t 3),none⟩::⟨some 58,.bin .add (.t 57) (.c (.int .i64 (.ofNat 1))),none⟩::⟨some 3,.mov (.t 58),none⟩::[])))))))
(.seq (.seq (.reg (⟨some 4,.mov (.c (.int .i64 (.ofNat 0))),none⟩::[]))
(.block 2 (.loop (.seq (.seq (.reg (⟨some 76,.mov (.t 4),none⟩::⟨some 77,.faddr 2 (.t 1),none⟩::⟨some 78,.load false 1 (.t 77),none⟩::⟨some 79,.len false (.t 78),none⟩::⟨some 80,.bin .lss (.t 76) (.t 79),none⟩::[]))
(.cond (.t 80) .skip (.exit 2)))
(.seq (.block 3 (.seq (.reg (⟨some 83,.faddr 2 (.t 1),none⟩::⟨some 84,.load false 1 (.t 83),none⟩::⟨some 85,.mov (.t 4),none⟩::⟨some 86,.idxS 7 (.t 84) (.t 85),none⟩::⟨some 87,.load true 7 (.t 86),none⟩::⟨some 5,.alloc [(.int .i64 (.ofNat 0)), (.str []), (.str []), .nilsl, (.int .i64 (.ofNat 0)), (.int .u64 (.ofNat 0)), (.int .u64 (.ofNat 0))],none⟩::⟨none,.store 7 (.t 5) (.t 87),none⟩::[]))
(.seq (.reg (⟨some 88,.faddr 0 (.t 5),none⟩::⟨some 89,.load false 1 (.t 88),none⟩::⟨some 90,.call 33 [(.t 89), (.c (.int .i64 (.ofNat 255)))],none⟩::⟨some 91,.mov (.t 90),none⟩::⟨some 92,.faddr 4 (.t 5),some (91,false)⟩::⟨some 93,.load false 1 (.t 92),some (91,false)⟩::⟨some 94,.call 33 [(.t 93), (.c (.int .i64 (.ofNat 65535)))],some (91,false)⟩::⟨some 95,.pick (.t 91) (.c (.bool true)) (.t 94),none⟩::⟨some 96,.mov (.t 95),none⟩::⟨some 97,.faddr 3 (.t 5),some (96,false)⟩::⟨some 98,.load false 1 (.t 97),some (96,false)⟩::⟨some 99,.len false (.t 98),some (96,false)⟩::⟨some 100,.bin .gtr (.t 99) (.c (.int .i64 (.ofNat 8))),some (96,false)⟩::⟨some 101,.pick (.t 96) (.c (.bool true)) (.t 100),none⟩::⟨some 102,.mov (.t 101),none⟩::⟨some 103,.faddr 3 (.t 5),some (102,false)⟩::⟨some 104,.load false 1 (.t 103),some (102,false)⟩::⟨some 105,.call 34 [(.t 104)],some (102,false)⟩::⟨some 106,.pick (.t 102) (.c (.bool true)) (.t 105),none⟩::⟨some 107,.mov (.t 106),none⟩::⟨some 108,.faddr 1 (.t 5),some (107,false)⟩::⟨some 109,.load false 1 (.t 108),some (107,false)⟩::⟨some 110,.faddr 2 (.t 5),some (107,false)⟩::⟨some 111,.load false 1 (.t 110),some (107,false)⟩::⟨some 112,.buildSl 1 2 [(.str []), (.str [])] [(0, 1, (.t 109)), (1, 1, (.t 111))],some (107,false)⟩::⟨some 113,.call 34 [(.t 112)],some (107,false)⟩::⟨some 114,.pick (.t 107) (.c (.bool true)) (.t 113),none⟩::[]))
(.cond (.t 114) (.seq (.reg (⟨some 2,.mov (.c (.bool false)),none⟩::[]))
.ret) .skip))))
(.reg (⟨some 81,.mov (.t 4),none⟩::⟨some 82,.bin .add (.t 81) (.c (.int .i64 (.ofNat 1))),none⟩::⟨some 4,.mov (.t 82),none⟩::[])))))))
(.seq (.seq (.reg (⟨some 6,.mov (.c (.int .i64 (.ofNat 0))),none⟩::[]))
(.block 4 (.loop (.seq (.seq (.reg (⟨some 115,.mov (.t 6),none⟩::⟨some 116,.faddr 3 (.t 1),none⟩::⟨some 117,.load false 1 (.t 116),none⟩::⟨some 118,.len false (.t 117),none⟩::⟨some 119,.bin .lss (.t 115) (.t 118),none⟩::[]))
(.cond (.t 119) .skip (.exit 4)))
(.seq (.block 5 (.seq (.reg (⟨some 122,.faddr 3 (.t 1),none⟩::⟨some 123,.load false 1 (.t 122),none⟩::⟨some 124,.mov (.t 6),none⟩::⟨some 125,.idxS 7 (.t 123) (.t 124),none⟩::⟨some 126,.load true 7 (.t 125),none⟩::⟨some 7,.alloc [(.int .i64 (.ofNat 0)), (.str []), (.str []), (.str []), (.int .i64 (.ofNat 0)), (.int .u64 (.ofNat 0)), (.int .u64 (.ofNat 0))],none⟩::⟨none,.store 7 (.t 7) (.t 126),none⟩::[]))
(.seq (.reg (⟨some 127,.faddr 0 (.t 7),none⟩::⟨some 128,.load false 1 (.t 127),none⟩::⟨some 129,.call 33 [(.t 128), (.c (.int .i64 (.ofNat 255)))],none⟩::⟨some 130,.mov (.t 129),none⟩::⟨some 131,.faddr 4 (.t 7),some (130,false)⟩::⟨some 132,.load false 1 (.t 131),some (130,false)⟩::⟨some 133,.call 33 [(.t 132), (.c (.int .i64 (.ofNat 255)))],some (130,false)⟩::⟨some 134,.pick (.t 130) (.c (.bool true)) (.t 133),none⟩::⟨some 135,.mov (.t 134),none⟩::⟨some 136,.faddr 1 (.t 7),some (135,false)⟩::⟨some 137,.load false 1 (.t 136),some (135,false)⟩::⟨some 138,.faddr 2 (.t 7),some (135,false)⟩::⟨some 139,.load false 1 (.t 138),some (135,false)⟩::⟨some 140,.faddr 3 (.t 7),some (135,false)⟩::⟨some 141,.load false 1 (.t 140),some (135,false)⟩::⟨some 142,.buildSl 1 3 [(.str []), (.str []), (.str [])] [(0, 1, (.t 137)), (1, 1, (.t 139)), (2, 1, (.t 141))],some (135,false)⟩::⟨some 143,.call 34 [(.t 142)],some (135,false)⟩::⟨some 144,.pick (.t 135) (.c (.bool true)) (.t 143),none⟩::[]))
(.cond (.t 144) (.seq (.reg (⟨some 2,.mov (.c (.bool false)),none⟩::[]))
.ret) .skip))))
(.reg (⟨some 120,.mov (.t 6),none⟩::⟨some 121,.bin .add (.t 120) (.c (.int .i64 (.ofNat 1))),none⟩::⟨some 6,.mov (.t 121),none⟩::[])))))))
(.seq (.seq (.reg (⟨some 8,.mov (.c (.int .i64 (.ofNat 0))),none⟩::[]))
(.block 6 (.loop (.seq (.seq (.reg (⟨some 145,.mov (.t 8),none⟩::⟨some 146,.faddr 4 (.t 1),none⟩::⟨some 147,.load false 1 (.t 146),none⟩::⟨some 148,.len false (.t 147),none⟩::⟨some 149,.bin .lss (.t 145) (.t 148),none⟩::[]))
(.cond (.t 149) .skip (.exit 6)))
(.seq (.block 7 (.seq (.dreg (⟨⟨some 152,.faddr 4 (.t 1),none⟩,.quiet,0,0⟩::⟨⟨some 153,.load false 1 (.t 152),none⟩,.load,1,1⟩::⟨⟨some 154,.mov (.t 8),none⟩,.quiet,2,0⟩::⟨⟨some 155,.idxS 5 (.t 153) (.t 154),none⟩,.quiet,3,7⟩::⟨⟨some 156,.faddr 0 (.t 155),none⟩,.quiet,4,15⟩::⟨⟨some 157,.load false 1 (.t 156),none⟩,.load,5,31⟩::⟨⟨some 158,.faddr 4 (.t 1),none⟩,.quiet,6,0⟩::⟨⟨some 159,.load false 1 (.t 158),none⟩,.load,7,64⟩::⟨⟨some 160,.mov (.t 8),none⟩,.quiet,8,0⟩::⟨⟨some 161,.idxS 5 (.t 159) (.t 160),none⟩,.quiet,9,448⟩::⟨⟨some 162,.faddr 1 (.t 161),none⟩,.quiet,10,960⟩::⟨⟨some 163,.load false 1 (.t 162),none⟩,.load,11,1984⟩::⟨⟨some 164,.buildSl 1 2 [(.str []), (.str [])] [(0, 1, (.t 157)), (1, 1, (.t 163))],none⟩,.quiet,12,4095⟩::⟨⟨some 165,.call 34 [(.t 164)],none⟩,.loud,13,8191⟩::[]))
(.cond (.t 165) (.seq (.reg (⟨some 2,.mov (.c (.bool false)),none⟩::[]))
.ret) .skip)))
(.reg (⟨some 150,.mov (.t 8),none⟩::⟨some 151,.bin .add (.t 150) (.c (.int .i64 (.ofNat 1))),none⟩::⟨some 8,.mov (.t 151),none⟩::[])))))))
(.seq (.seq (.reg (⟨some 9,.mov (.c (.int .i64 (.ofNat 0))),none⟩::[]))
(.block 8 (.loop (.seq (.seq (.reg (⟨some 166,.mov (.t 9),none⟩::⟨some 167,.faddr 5 (.t 1),none⟩::⟨some 168,.load false 1 (.t 167),none⟩::⟨some 169,.len false (.t 168),none⟩::⟨some 170,.bin .lss (.t 166) (.t 169),none⟩::[]))
(.cond (.t 170) .skip (.exit 8)))
(.seq (.block 9 (.seq (.dreg (⟨⟨some 173,.faddr 5 (.t 1),none⟩,.quiet,0,0⟩::⟨⟨some 174,.load false 1 (.t 173),none⟩,.load,1,1⟩::⟨⟨some 175,.mov (.t 9),none⟩,.quiet,2,0⟩::⟨⟨some 176,.idxS 6 (.t 174) (.t 175),none⟩,.quiet,3,7⟩::⟨⟨some 177,.faddr 0 (.t 176),none⟩,.quiet,4,15⟩::⟨⟨some 178,.load false 1 (.t 177),none⟩,.load,5,31⟩::⟨⟨some 179,.faddr 5 (.t 1),none⟩,.quiet,6,0⟩::⟨⟨some 180,.load false 1 (.t 179),none⟩,.load,7,64⟩::⟨⟨some 181,.mov (.t 9),none⟩,.quiet,8,0⟩::⟨⟨some 182,.idxS 6 (.t 180) (.t 181),none⟩,.quiet,9,448⟩::⟨⟨some 183,.faddr 1 (.t 182),none⟩,.quiet,10,960⟩::⟨⟨some 184,.load false 1 (.t 183),none⟩,.load,11,1984⟩::⟨⟨some 185,.buildSl 1 2 [(.str []), (.str [])] [(0, 1, (.t 178)), (1, 1, (.t 184))],none⟩,.quiet,12,4095⟩::⟨⟨some 186,.call 34 [(.t 185)],none⟩,.loud,13,8191⟩::[]))
(.cond (.t 186) (.seq (.reg (⟨some 2,.mov (.c (.bool false)),none⟩::[]))
.ret) .skip)))
(.reg (⟨some 171,.mov (.t 9),none⟩::⟨some 172,.bin .add (.t 171) (.c (.int .i64 (.ofNat 1))),none⟩::⟨some 9,.mov (.t 172),none⟩::[])))))))
(.seq (.seq (.reg (⟨some 10,.mov (.c (.int .i64 (.ofNat 0))),none⟩::[]))
(.block 10 (.loop (.seq (.seq (.reg (⟨some 187,.mov (.t 10),none⟩::⟨some 188,.faddr 6 (.t 1),none⟩::⟨some 189,.load false 1 (.t 188),none⟩::⟨some 190,.len false (.t 189),none⟩::⟨some 191,.bin .lss (.t 187) (.t 190),none⟩::[]))
(.cond (.t 191) .skip (.exit 10)))
(.seq (.block 11 (.seq (.reg (⟨some 194,.faddr 6 (.t 1),none⟩::⟨some 195,.load false 1 (.t 194),none⟩::⟨some 196,.mov (.t 10),none⟩::⟨some 197,.idxS 4 (.t 195) (.t 196),none⟩::⟨some 198,.faddr 1 (.t 197),none⟩::⟨some 199,.load false 1 (.t 198),none⟩::⟨some 200,.call 33 [(.t 199), (.c (.int .i64 (.ofNat 255)))],none⟩::[]))
(.cond (.t 200) (.seq (.reg (⟨some 2,.mov (.c (.bool false)),none⟩::[]))
.ret) .skip)))
(.reg (⟨some 192,.mov (.t 10),none⟩::⟨some 193,.bin .add (.t 192) (.c (.int .i64 (.ofNat 1))),none⟩::⟨some 10,.mov (.t 193),none⟩::[])))))))
(.seq (.seq (.reg (⟨some 11,.mov (.c (.int .i64 (.ofNat 0))),none⟩::[]))
(.block 12 (.loop (.seq (.seq (.reg (⟨some 201,.mov (.t 11),none⟩::⟨some 202,.faddr 13 (.t 1),none⟩::⟨some 203,.load false 1 (.t 202),none⟩::⟨some 204,.len false (.t 203),none⟩::⟨some 205,.bin .lss (.t 201) (.t 204),none⟩::[]))
(.cond (.t 205) .skip (.exit 12)))
(.seq (.block 13 (.seq (.reg (⟨some 208,.faddr 13 (.t 1),none⟩::⟨some 209,.load false 1 (.t 208),none⟩::⟨some 210,.mov (.t 11),none⟩::⟨some 211,.idxS 3 (.t 209) (.t 210),none⟩::⟨some 212,.faddr 0 (.t 211),none⟩::⟨some 213,.load false 1 (.t 212),none⟩::⟨some 214,.call 33 [(.t 213), (.c (.int .i64 (.ofNat 255)))],none⟩::[]))
(.cond (.t 214) (.seq (.reg (⟨some 2,.mov (.c (.bool false)),none⟩::[]))
.ret) .skip)))
(.reg (⟨some 206,.mov (.t 11),none⟩::⟨some 207,.bin .add (.t 206) (.c (.int .i64 (.ofNat 1))),none⟩::⟨some 11,.mov (.t 207),none⟩::[])))))))
(.seq (.reg (⟨some 2,.mov (.c (.bool true)),none⟩::[]))
.ret))))))))))⟩
theorem c9_eq : compFn Try.prog 9 = some c9 := by kernel_rfl
/-- sodality/sodalitylaw22.works -/
noncomputable def c10 : FnI := ⟨17, [.tmp 0],
(.seq (.reg (⟨some 0,.mov (.c (.bool false)),none⟩::[]))
(.seq (.reg (⟨some 4,.build [(.int .i64 (.ofNat 0)), (.str []), (.int .u64 (.ofNat 0)), (.int .u64 (.ofNat 0))] [(0, 1, (.c (.int .i64 (.ofNat 1)))), (1, 1, (.c (.str [120]))), (2, 1, (.c (.int .u64 (.ofNat 3)))), (3, 1, (.c (.int .u64 (.ofNat 4))))],none⟩::⟨some 5,.buildSl 4 1 [(.int .i64 (.ofNat 0)), (.str []), (.int .u64 (.ofNat 0)), (.int .u64 (.ofNat 0))] [(0, 4, (.t 4))],none⟩::⟨some 6,.build [(.int .u64 (.ofNat 0)), .nilsl, .nilsl, .nilsl, .nilsl, .nilsl, .nilsl, (.int .u64 (.ofNat 0)), (.int .u64 (.ofNat 0)), (.int .u64 (.ofNat 0)), (.int .u64 (.ofNat 0)), (.int .u64 (.ofNat 0)), (.int .u64 (.ofNat 0)), .nilsl] [(0, 1, (.c (.int .u64 (.ofNat 5)))), (1, 1, (.t 5))],none⟩::⟨some 7,.call 7 [(.t 6)],none⟩::⟨some 3,.mov (.t 7),none⟩::⟨some 8,.extract (.t 3) 0,none⟩::⟨some 9,.extract (.t 3) 1,none⟩::⟨some 1,.mov (.t 8),none⟩::⟨some 2,.mov (.t 9),none⟩::[]))
(.seq (.reg (⟨some 10,.mov (.t 2),none⟩::⟨some 11,.bin .eql (.t 10) (.c (.int .i64 (.ofNat 0))),none⟩::⟨some 12,.mov (.t 11),none⟩::⟨some 13,.mov (.t 1),some (12,true)⟩::⟨some 14,.cvStr (.t 13),some (12,true)⟩::⟨some 15,.bin .eql (.t 14) (.c (.str [1, 5, 1, 1, 1, 1, 1, 1, 120, 1, 3, 1, 4, 0, 0, 0, 0, 0, 0, 0, 0, 0, 0, 0, 0])),some (12,true)⟩::⟨some 16,.pick (.t 12) (.t 15) (.c (.bool false)),none⟩::⟨some 0,.mov (.t 16),none⟩::[]))
.ret)))⟩
theorem c10_eq : compFn Try.prog 10 = some c10 := by kernel_rfl
/-- sodality/sodalityref22.Bytes -/
noncomputable def c11 : FnI := ⟨173, [.tmp 2],
(.seq (.reg (⟨some 1,.box (.t 0),none⟩::⟨some 2,.mov (.c .nilsl),none⟩::[]))
(.seq (.reg (⟨some 12,.faddr 0 (.t 1),none⟩::⟨some 13,.load false 1 (.t 12),none⟩::⟨some 14,.call 35 [(.c .nilsl), (.t 13)],none⟩::⟨some 3,.mov (.t 14),none⟩::[]))
(.seq (.reg (⟨some 15,.mov (.t 3),none⟩::⟨some 16,.faddr 1 (.t 1),none⟩::⟨some 17,.load false 1 (.t 16),none⟩::⟨some 18,.len false (.t 17),none⟩::⟨some 19,.cvInt .u64 (.t 18),none⟩::⟨some 20,.call 35 [(.t 15), (.t 19)],none⟩::⟨some 3,.mov (.t 20),none⟩::[]))
(.seq (.seq (.reg (⟨some 4,.mov (.c (.int .i64 (.ofNat 0))),none⟩::[]))
(.block 0 (.loop (.seq (.seq (.reg (⟨some 21,.mov (.t 4),none⟩::⟨some 22,.faddr 1 (.t 1),none⟩::⟨some 23,.load false 1 (.t 22),none⟩::⟨some 24,.len false (.t 23),none⟩::⟨some 25,.bin .lss (.t 21) (.t 24),none⟩::[]))
(.cond (.t 25) .skip (.exit 0)))
(.seq (.block 1 (.seq (.reg (⟨some 28,.faddr 1 (.t 1),none⟩::⟨some 29,.load false 1 (.t 28),none⟩::⟨some 30,.mov (.t 4),none⟩::⟨some 31,.idxS 4 (.t 29) (.t 30),none⟩::⟨some 32,.load true 4 (.t 31),none⟩::⟨some 5,.alloc [(.int .i64 (.ofNat 0)), (.str []), (.int .u64 (.ofNat 0)), (.int .u64 (.ofNat 0))],none⟩::⟨none,.store 4 (.t 5) (.t 32),none⟩::[]))
(.dreg (⟨⟨some 33,.mov (.t 3),none⟩,.quiet,0,0⟩::⟨⟨some 34,.faddr 0 (.t 5),none⟩,.quiet,1,0⟩::⟨⟨some 35,.load false 1 (.t 34),none⟩,.load,2,2⟩::⟨⟨some 36,.cvInt .u64 (.t 35),none⟩,.quiet,3,6⟩::⟨⟨some 37,.call 35 [(.t 33), (.t 36)],none⟩,.loud,4,15⟩::⟨⟨some 38,.faddr 1 (.t 5),none⟩,.quiet,5,0⟩::⟨⟨some 39,.load false 1 (.t 38),none⟩,.load,6,32⟩::⟨⟨some 40,.call 36 [(.t 37), (.t 39)],none⟩,.loud,7,127⟩::⟨⟨some 41,.faddr 2 (.t 5),none⟩,.quiet,8,0⟩::⟨⟨some 42,.load false 1 (.t 41),none⟩,.load,9,256⟩::⟨⟨some 43,.call 35 [(.t 40), (.t 42)],none⟩,.loud,10,1023⟩::⟨⟨some 44,.faddr 3 (.t 5),none⟩,.quiet,11,0⟩::⟨⟨some 45,.load false 1 (.t 44),none⟩,.load,12,2048⟩::⟨⟨some 46,.call 35 [(.t 43), (.t 45)],none⟩,.loud,13,8191⟩::⟨⟨some 3,.mov (.t 46),none⟩,.quiet,14,16383⟩::[]))))
(.reg (⟨some 26,.mov (.t 4),none⟩::⟨some 27,.bin .add (.t 26) (.c (.int .i64 (.ofNat 1))),none⟩::⟨some 4,.mov (.t 27),none⟩::[])))))))
(.seq (.reg (⟨some 47,.mov (.t 3),none⟩::⟨some 48,.faddr 2 (.t 1),none⟩::⟨some 49,.load false 1 (.t 48),none⟩::⟨some 50,.len false (.t 49),none⟩::⟨some 51,.cvInt .u64 (.t 50),none⟩::⟨some 52,.call 35 [(.t 47), (.t 51)],none⟩::⟨some 3,.mov (.t 52),none⟩::[]))
(.seq (.seq (.reg (⟨some 6,.mov (.c (.int .i64 (.ofNat 0))),none⟩::[]))
(.block 2 (.loop (.seq (.seq (.reg (⟨some 53,.mov (.t 6),none⟩::⟨some 54,.faddr 2 (.t 1),none⟩::⟨some 55,.load false 1 (.t 54),none⟩::⟨some 56,.len false (.t 55),none⟩::⟨some 57,.bin .lss (.t 53) (.t 56),none⟩::[]))
(.cond (.t 57) .skip (.exit 2)))
(.seq (.block 3 (.seq (.reg (⟨some 60,.faddr 2 (.t 1),none⟩::⟨some 61,.load false 1 (.t 60),none⟩::⟨some 62,.mov (.t 6),none⟩::⟨some 63,.idxS 7 (.t 61) (.t 62),none⟩::⟨some 64,.load true 7 (.t 63),none⟩::⟨some 7,.alloc [(.int .i64 (.ofNat 0)), (.str []), (.str []), .nilsl, (.int .i64 (.ofNat 0)), (.int .u64 (.ofNat 0)), (.int .u64 (.ofNat 0))],none⟩::⟨none,.store 7 (.t 7) (.t 64),none⟩::[]))
(.seq (.dreg (⟨⟨some 65,.mov (.t 3),none⟩,.quiet,0,0⟩::⟨⟨some 66,.faddr 0 (.t 7),none⟩,.quiet,1,0⟩::⟨⟨some 67,.load false 1 (.t 66),none⟩,.load,2,2⟩::⟨⟨some 68,.cvInt .u64 (.t 67),none⟩,.quiet,3,6⟩::⟨⟨some 69,.call 35 [(.t 65), (.t 68)],none⟩,.loud,4,15⟩::⟨⟨some 70,.faddr 1 (.t 7),none⟩,.quiet,5,0⟩::⟨⟨some 71,.load false 1 (.t 70),none⟩,.load,6,32⟩::⟨⟨some 72,.call 36 [(.t 69), (.t 71)],none⟩,.loud,7,127⟩::⟨⟨some 73,.faddr 2 (.t 7),none⟩,.quiet,8,0⟩::⟨⟨some 74,.load false 1 (.t 73),none⟩,.load,9,256⟩::⟨⟨some 75,.call 36 [(.t 72), (.t 74)],none⟩,.loud,10,1023⟩::⟨⟨some 76,.faddr 3 (.t 7),none⟩,.quiet,11,0⟩::⟨⟨some 77,.load false 1 (.t 76),none⟩,.load,12,2048⟩::⟨⟨some 78,.call 37 [(.t 77)],none⟩,.loud,13,8191⟩::⟨⟨some 79,.append 1 1 (.t 75) (.t 78),none⟩,.loud,14,16383⟩::⟨⟨some 3,.mov (.t 79),none⟩,.quiet,15,32767⟩::[]))
(.dreg (⟨⟨some 80,.mov (.t 3),none⟩,.quiet,0,0⟩::⟨⟨some 81,.faddr 4 (.t 7),none⟩,.quiet,1,0⟩::⟨⟨some 82,.load false 1 (.t 81),none⟩,.load,2,2⟩::⟨⟨some 83,.cvInt .u64 (.t 82),none⟩,.quiet,3,6⟩::⟨⟨some 84,.call 35 [(.t 80), (.t 83)],none⟩,.loud,4,15⟩::⟨⟨some 85,.faddr 5 (.t 7),none⟩,.quiet,5,0⟩::⟨⟨some 86,.load false 1 (.t 85),none⟩,.load,6,32⟩::⟨⟨some 87,.call 35 [(.t 84), (.t 86)],none⟩,.loud,7,127⟩::⟨⟨some 88,.faddr 6 (.t 7),none⟩,.quiet,8,0⟩::⟨⟨some 89,.load false 1 (.t 88),none⟩,.load,9,256⟩::⟨⟨some 90,.call 35 [(.t 87), (.t 89)],none⟩,.loud,10,1023⟩::⟨⟨some 3,.mov (.t 90),none⟩,.quiet,11,2047⟩::[])))))
(.reg (⟨some 58,.mov (.t 6),none⟩::⟨some 59,.bin .add (.t 58) (.c (.int .i64 (.ofNat 1))),none⟩::⟨some 6,.mov (.t 59),none⟩::[])))))))
(.seq (.reg (⟨some 91,.mov (.t 3),none⟩::⟨some 92,.faddr 3 (.t 1),none⟩::⟨some 93,.load false 1 (.t 92),none⟩::⟨some 94,.len false (.t 93),none⟩::⟨some 95,.cvInt .u64 (.t 94),none⟩::⟨some 96,.call 35 [(.t 91), (.t 95)],none⟩::⟨some 3,.mov (.t 96),none⟩::[]))
(.seq (.seq (.reg (⟨some 8,.mov (.c (.int .i64 (.ofNat 0))),none⟩::[]))
(.block 4 (.loop (.seq (.seq (.reg (⟨some 97,.mov (.t 8),none⟩::⟨some 98,.faddr 3 (.t 1),none⟩::⟨some 99,.load false 1 (.t 98),none⟩::⟨some 100,.len false (.t 99),none⟩::⟨some 101,.bin .lss (.t 97) (.t 100),none⟩::[]))
(.cond (.t 101) .skip (.exit 4)))
(.seq (.block 5 (.seq (.reg (⟨some 104,.faddr 3 (.t 1),none⟩::⟨some 105,.load false 1 (.t 104),none⟩::⟨some 106,.mov (.t 8),none⟩::⟨some 107,.idxS 7 (.t 105) (.t 106),none⟩::⟨some 108,.load true 7 (.t 107),none⟩::⟨some 9,.alloc [(.int .i64 (.ofNat 0)), (.str []), (.str []), (.str []), (.int .i64 (.ofNat 0)), (.int .u64 (.ofNat 0)), (.int .u64 (.ofNat 0))],none⟩::⟨none,.store 7 (.t 9) (.t 108),none⟩::[]))
(.seq (.dreg (⟨⟨some 109,.mov (.t 3),none⟩,.quiet,0,0⟩::⟨⟨some 110,.faddr 0 (.t 9),none⟩,.quiet,1,0⟩::⟨⟨some 111,.load false 1 (.t 110),none⟩,.load,2,2⟩::⟨⟨some 112,.cvInt .u64 (.t 111),none⟩,.quiet,3,6⟩::⟨⟨some 113,.call 35 [(.t 109), (.t 112)],none⟩,.loud,4,15⟩::⟨⟨some 114,.faddr 1 (.t 9),none⟩,.quiet,5,0⟩::⟨⟨some 115,.load false 1 (.t 114),none⟩,.load,6,32⟩::⟨⟨some 116,.call 36 [(.t 113), (.t 115)],none⟩,.loud,7,127⟩::⟨⟨some 117,.faddr 2 (.t 9),none⟩,.quiet,8,0⟩::⟨⟨some 118,.load false 1 (.t 117),none⟩,.load,9,256⟩::⟨⟨some 119,.call 36 [(.t 116), (.t 118)],none⟩,.loud,10,1023⟩::⟨⟨some 120,.faddr 3 (.t 9),none⟩,.quiet,11,0⟩::⟨⟨some 121,.load false 1 (.t 120),none⟩,.load,12,2048⟩::⟨⟨some 122,.call 36 [(.t 119), (.t 121)],none⟩,.loud,13,8191⟩::⟨⟨some 3,.mov (.t 122),none⟩,.quiet,14,16383⟩::[]))
(.dreg (⟨⟨some 123,.mov (.t 3),none⟩,.quiet,0,0⟩::⟨⟨some 124,.faddr 4 (.t 9),none⟩,.quiet,1,0⟩::⟨⟨some 125,.load false 1 (.t 124),none⟩,.load,2,2⟩::⟨⟨some 126,.cvInt .u64 (.t 125),none⟩,.quiet,3,6⟩::⟨⟨some 127,.call 35 [(.t 123), (.t 126)],none⟩,.loud,4,15⟩::⟨⟨some 128,.faddr 5 (.t 9),none⟩,.quiet,5,0⟩::⟨⟨some 129,.load false 1 (.t 128),none⟩,.load,6,32⟩::⟨⟨some 130,.call 35 [(.t 127), (.t 129)],none⟩,.loud,7,127⟩::⟨⟨some 131,.faddr 6 (.t 9),none⟩,.quiet,8,0⟩::⟨⟨some 132,.load false 1 (.t 131),none⟩,.load,9,256⟩::⟨⟨some 133,.call 35 [(.t 130), (.t 132)],none⟩,.loud,10,1023⟩::⟨⟨some 3,.mov (.t 133),none⟩,.quiet,11,2047⟩::[])))))
(.reg (⟨some 102,.mov (.t 8),none⟩::⟨some 103,.bin .add (.t 102) (.c (.int .i64 (.ofNat 1))),none⟩::⟨some 8,.mov (.t 103),none⟩::[])))))))
(.seq (.reg (⟨some 134,.mov (.t 3),none⟩::⟨some 135,.faddr 4 (.t 1),none⟩::⟨some 136,.load false 1 (.t 135),none⟩::⟨some 137,.len false (.t 136),none⟩::⟨some 138,.cvInt .u64 (.t 137),none⟩::⟨some 139,.call 35 [(.t 134), (.t 138)],none⟩::⟨some 3,.mov (.t 139),none⟩::[]))
(.seq (.seq (.reg (⟨some 10,.mov (.c (.int .i64 (.ofNat 0))),none⟩::[]))
(.block 6 (.loop (.seq (.seq (.reg (⟨some 140,.mov (.t 10),none⟩::⟨some 141,.faddr 4 (.t 1),none⟩::⟨some 142,.load false 1 (.t 141),none⟩::⟨some 143,.len false (.t 142),none⟩::⟨some 144,.bin .lss (.t 140) (.t 143),none⟩::[]))
(.cond (.t 144) .skip (.exit 6)))
(.seq (.block 7 (.seq (.reg (⟨some 147,.faddr 4 (.t 1),none⟩::⟨some 148,.load false 1 (.t 147),none⟩::⟨some 149,.mov (.t 10),none⟩::⟨some 150,.idxS 5 (.t 148) (.t 149),none⟩::⟨some 151,.load true 5 (.t 150),none⟩::⟨some 11,.alloc [(.str []), (.str []), (.bool false), (.int .u64 (.ofNat 0)), (.int .u64 (.ofNat 0))],none⟩::⟨none,.store 5 (.t 11) (.t 151),none⟩::[]))
(.seq (.dreg (⟨⟨some 152,.mov (.t 3),none⟩,.quiet,0,0⟩::⟨⟨some 153,.faddr 0 (.t 11),none⟩,.quiet,1,0⟩::⟨⟨some 154,.load false 1 (.t 153),none⟩,.load,2,2⟩::⟨⟨some 155,.call 36 [(.t 152), (.t 154)],none⟩,.loud,3,7⟩::⟨⟨some 156,.faddr 1 (.t 11),none⟩,.quiet,4,0⟩::⟨⟨some 157,.load false 1 (.t 156),none⟩,.load,5,16⟩::⟨⟨some 158,.call 36 [(.t 155), (.t 157)],none⟩,.loud,6,63⟩::⟨⟨some 159,.faddr 2 (.t 11),none⟩,.quiet,7,0⟩::⟨⟨some 160,.load false 1 (.t 159),none⟩,.load,8,128⟩::⟨⟨some 161,.call 38 [(.t 160)],none⟩,.loud,9,511⟩::⟨⟨some 162,.append 1 1 (.t 158) (.t 161),none⟩,.loud,10,1023⟩::⟨⟨some 3,.mov (.t 162),none⟩,.quiet,11,2047⟩::[]))
(.dreg (⟨⟨some 163,.mov (.t 3),none⟩,.quiet,0,0⟩::⟨⟨some 164,.faddr 3 (.t 11),none⟩,.quiet,1,0⟩::⟨⟨some 165,.load false 1 (.t 164),none⟩,.load,2,2⟩::⟨⟨some 166,.call 35 [(.t 163), (.t 165)],none⟩,.loud,3,7⟩::⟨⟨some 167,.faddr 4 (.t 11),none⟩,.quiet,4,0⟩::⟨⟨some 168,.load false 1 (.t 167),none⟩,.load,5,16⟩::⟨⟨some 169,.call 35 [(.t 166), (.t 168)],none⟩,.loud,6,63⟩::⟨⟨some 3,.mov (.t 169),none⟩,.quiet,7,127⟩::[])))))
(.reg (⟨some 145,.mov (.t 10),none⟩::⟨some 146,.bin .add (.t 145) (.c (.int .i64 (.ofNat 1))),none⟩::⟨some 10,.mov (.t 146),none⟩::[])))))))
(.seq (.reg (⟨some 170,.mov (.t 3),none⟩::⟨some 171,.load true 14 (.t 1),none⟩::⟨some 172,.call 39 [(.t 170), (.t 171)],none⟩::⟨some 2,.mov (.t 172),none⟩::[]))
.ret)))))))))))⟩
theorem c11_eq : compFn Try.prog 11 = some c11 := by kernel_rfl
/-- sodality/dump.Get -/
noncomputable def c12 : FnI := ⟨59, [.cell 2 true 14, .tmp 3],
(.seq (.reg (⟨some 2,.alloc [(.int .u64 (.ofNat 0)), .nilsl, .nilsl, .nilsl, .nilsl, .nilsl, .nilsl, (.int .u64 (.ofNat 0)), (.int .u64 (.ofNat 0)), (.int .u64 (.ofNat 0)), (.int .u64 (.ofNat 0)), (.int .u64 (.ofNat 0)), (.int .u64 (.ofNat 0)), .nilsl],none⟩::⟨some 3,.mov (.c (.int .i64 (.ofNat 0))),none⟩::[]))
(.seq (.reg (⟨some 8,.mov (.t 0),none⟩::⟨some 9,.call 40 [(.t 8)],none⟩::⟨some 10,.build [.nilp] [(0, 1, (.t 9))],none⟩::⟨some 4,.alloc [.nilp],none⟩::⟨none,.store 1 (.t 4) (.t 10),none⟩::[]))
(.seq (.reg (⟨some 5,.alloc [(.int .u64 (.ofNat 0)), .nilsl, .nilsl, .nilsl, .nilsl, .nilsl, .nilsl, (.int .u64 (.ofNat 0)), (.int .u64 (.ofNat 0)), (.int .u64 (.ofNat 0)), (.int .u64 (.ofNat 0)), (.int .u64 (.ofNat 0)), (.int .u64 (.ofNat 0)), .nilsl],none⟩::[]))
(.seq (.reg (⟨some 11,.load true 1 (.t 4),none⟩::⟨some 12,.call 41 [(.t 11)],none⟩::⟨some 13,.faddr 0 (.t 5),none⟩::⟨none,.store 1 (.t 13) (.t 12),none⟩::[]))
(.seq (.dreg (⟨⟨some 15,.call 17 [],none⟩,.loud,1,0⟩::⟨⟨some 14,.load true 1 (.t 4),none⟩,.load,0,0⟩::⟨⟨some 16,.call 42 [(.t 14), (.t 15)],none⟩,.loud,2,3⟩::⟨⟨some 17,.faddr 1 (.t 5),none⟩,.quiet,3,7⟩::⟨⟨none,.store 1 (.t 17) (.t 16),none⟩,.loud,4,15⟩::[]))
(.seq (.dreg (⟨⟨some 19,.call 19 [],none⟩,.loud,1,0⟩::⟨⟨some 18,.load true 1 (.t 4),none⟩,.load,0,0⟩::⟨⟨some 20,.call 43 [(.t 18), (.t 19)],none⟩,.loud,2,3⟩::⟨⟨some 21,.faddr 2 (.t 5),none⟩,.quiet,3,7⟩::⟨⟨none,.store 1 (.t 21) (.t 20),none⟩,.loud,4,15⟩::[]))
(.seq (.dreg (⟨⟨some 23,.call 21 [],none⟩,.loud,1,0⟩::⟨⟨some 22,.load true 1 (.t 4),none⟩,.load,0,0⟩::⟨⟨some 24,.call 44 [(.t 22), (.t 23)],none⟩,.loud,2,3⟩::⟨⟨some 25,.faddr 3 (.t 5),none⟩,.quiet,3,7⟩::⟨⟨none,.store 1 (.t 25) (.t 24),none⟩,.loud,4,15⟩::[]))
(.seq (.dreg (⟨⟨some 27,.call 23 [],none⟩,.loud,1,0⟩::⟨⟨some 26,.load true 1 (.t 4),none⟩,.load,0,0⟩::⟨⟨some 28,.call 45 [(.t 26), (.t 27)],none⟩,.loud,2,3⟩::⟨⟨some 29,.faddr 4 (.t 5),none⟩,.quiet,3,7⟩::⟨⟨none,.store 1 (.t 29) (.t 28),none⟩,.loud,4,15⟩::[]))
(.seq (.dreg (⟨⟨some 31,.call 25 [],none⟩,.loud,1,0⟩::⟨⟨some 30,.load true 1 (.t 4),none⟩,.load,0,0⟩::⟨⟨some 32,.call 46 [(.t 30), (.t 31)],none⟩,.loud,2,3⟩::⟨⟨some 33,.faddr 5 (.t 5),none⟩,.quiet,3,7⟩::⟨⟨none,.store 1 (.t 33) (.t 32),none⟩,.loud,4,15⟩::[]))
(.seq (.dreg (⟨⟨some 35,.call 27 [],none⟩,.loud,1,0⟩::⟨⟨some 34,.load true 1 (.t 4),none⟩,.load,0,0⟩::⟨⟨some 36,.call 47 [(.t 34), (.t 35)],none⟩,.loud,2,3⟩::⟨⟨some 37,.faddr 6 (.t 5),none⟩,.quiet,3,7⟩::⟨⟨none,.store 1 (.t 37) (.t 36),none⟩,.loud,4,15⟩::[]))
(.seq (.seq (.reg (⟨some 38,.mov (.c (.int .i64 (.ofNat 0))),none⟩::[]))
(.block 0 (.loop (.seq (.reg (⟨some 39,.bin .lss (.t 38) (.c (.int .i64 (.ofNat 6))),none⟩::[]))
(.seq (.cond (.t 39) .skip (.exit 0))
(.seq (.block 1 (.seq (.reg (⟨some 40,.mov (.t 38),none⟩::⟨some 6,.mov (.t 40),none⟩::[]))
(.reg (⟨some 41,.mov (.t 6),none⟩::⟨some 42,.load true 1 (.t 4),none⟩::⟨some 43,.call 41 [(.t 42)],none⟩::⟨some 44,.faddr 7 (.t 5),none⟩::⟨some 45,.idxA 6 1 (.t 44) (.t 41),none⟩::⟨none,.store 1 (.t 45) (.t 43),none⟩::[]))))
(.reg (⟨some 46,.bin .add (.t 38) (.c (.int .i64 (.ofNat 1))),none⟩::⟨some 38,.mov (.t 46),none⟩::[]))))))))
(.seq (.dreg (⟨⟨some 48,.call 29 [],none⟩,.loud,1,0⟩::⟨⟨some 47,.load true 1 (.t 4),none⟩,.load,0,0⟩::⟨⟨some 49,.call 48 [(.t 47), (.t 48)],none⟩,.loud,2,3⟩::⟨⟨some 50,.faddr 13 (.t 5),none⟩,.quiet,3,7⟩::⟨⟨none,.store 1 (.t 50) (.t 49),none⟩,.loud,4,15⟩::[]))
(.seq (.seq (.reg (⟨some 51,.faddr 0 (.t 4),none⟩::⟨some 52,.load false 1 (.t 51),none⟩::⟨some 53,.call 49 [(.t 52)],none⟩::⟨some 7,.mov (.t 53),none⟩::[]))
(.seq (.reg (⟨some 54,.mov (.t 7),none⟩::⟨some 55,.bin .neq (.t 54) (.c (.int .i64 (.ofNat 0))),none⟩::[]))
(.cond (.t 55) (.seq (.reg (⟨some 56,.build [(.int .u64 (.ofNat 0)), .nilsl, .nilsl, .nilsl, .nilsl, .nilsl, .nilsl, (.int .u64 (.ofNat 0)), (.int .u64 (.ofNat 0)), (.int .u64 (.ofNat 0)), (.int .u64 (.ofNat 0)), (.int .u64 (.ofNat 0)), (.int .u64 (.ofNat 0)), .nilsl] [],none⟩::⟨some 57,.mov (.t 7),none⟩::⟨none,.store 14 (.t 2) (.t 56),none⟩::⟨some 3,.mov (.t 57),none⟩::[]))
.ret) .skip)))
(.seq (.reg (⟨some 58,.load true 14 (.t 5),none⟩::⟨none,.store 14 (.t 2) (.t 58),none⟩::⟨some 3,.mov (.c (.int .i64 (.ofNat 0))),none⟩::[]))
.ret))))))))))))))⟩
theorem c12_eq : compFn Try.prog 12 = some c12 := by kernel_rfl
/-- sodality/sodalityref22.Get -/
noncomputable def c13 : FnI := ⟨184, [.cell 2 true 14, .tmp 3],
(.seq (.reg (⟨some 2,.alloc [(.int .u64 (.ofNat 0)), .nilsl, .nilsl, .nilsl, .nilsl, .nilsl, .nilsl, (.int .u64 (.ofNat 0)), (.int .u64 (.ofNat 0)), (.int .u64 (.ofNat 0)), (.int .u64 (.ofNat 0)), (.int .u64 (.ofNat 0)), (.int .u64 (.ofNat 0)), .nilsl],none⟩::⟨some 3,.mov (.c (.int .i64 (.ofNat 0))),none⟩::[]))
(.seq (.reg (⟨some 15,.mov (.t 0),none⟩::⟨some 16,.build [.nilsl, (.int .i64 (.ofNat 0))] [(0, 1, (.t 15))],none⟩::⟨some 17,.box (.t 16),none⟩::⟨some 4,.mov (.t 17),none⟩::[]))
(.seq (.reg (⟨some 5,.alloc [(.int .u64 (.ofNat 0)), .nilsl, .nilsl, .nilsl, .nilsl, .nilsl, .nilsl, (.int .u64 (.ofNat 0)), (.int .u64 (.ofNat 0)), (.int .u64 (.ofNat 0)), (.int .u64 (.ofNat 0)), (.int .u64 (.ofNat 0)), (.int .u64 (.ofNat 0)), .nilsl],none⟩::[]))
(.seq (.reg (⟨some 18,.mov (.t 4),none⟩::⟨some 19,.call 50 [(.t 18), (.c (.int .u64 (.ofNat 18446744073709551615)))],none⟩::⟨some 20,.faddr 0 (.t 5),none⟩::⟨none,.store 1 (.t 20) (.t 19),none⟩::[]))
(.seq (.reg (⟨some 21,.mov (.t 4),none⟩::⟨some 22,.call 50 [(.t 21), (.c (.int .u64 (.ofNat 64)))],none⟩::⟨some 23,.cvInt .i64 (.t 22),none⟩::⟨some 6,.mov (.t 23),none⟩::[]))
(.seq (.seq (.reg (⟨some 7,.mov (.c (.int .i64 (.ofNat 0))),none⟩::[]))
(.block 0 (.loop (.seq (.seq (.reg (⟨some 24,.mov (.t 7),none⟩::⟨some 25,.mov (.t 6),none⟩::⟨some 26,.bin .lss (.t 24) (.t 25),none⟩::⟨some 27,.mov (.t 26),none⟩::⟨some 28,.mov (.t 4),some (27,true)⟩::⟨some 29,.nilchk (.t 28),some (27,true)⟩::⟨some 30,.faddr 1 (.t 29),some (27,true)⟩::⟨some 31,.load false 1 (.t 30),some (27,true)⟩::⟨some 32,.bin .eql (.t 31) (.c (.int .i64 (.ofNat 0))),some (27,true)⟩::⟨some 33,.pick (.t 27) (.t 32) (.c (.bool false)),none⟩::[]))
(.cond (.t 33) .skip (.exit 0)))
(.seq (.block 1 (.seq (.reg (⟨some 8,.alloc [(.int .i64 (.ofNat 0)), (.str []), (.int .u64 (.ofNat 0)), (.int .u64 (.ofNat 0))],none⟩::[]))
(.seq (.reg (⟨some 36,.mov (.t 4),none⟩::⟨some 37,.call 50 [(.t 36), (.c (.int .u64 (.ofNat 255)))],none⟩::⟨some 38,.cvInt .i64 (.t 37),none⟩::⟨some 39,.faddr 0 (.t 8),none⟩::⟨none,.store 1 (.t 39) (.t 38),none⟩::[]))
(.seq (.reg (⟨some 40,.mov (.t 4),none⟩::⟨some 41,.call 51 [(.t 40), (.c (.int .i64 (.ofNat 80)))],none⟩::⟨some 42,.faddr 1 (.t 8),none⟩::⟨none,.store 1 (.t 42) (.t 41),none⟩::[]))
(.seq (.reg (⟨some 43,.mov (.t 4),none⟩::⟨some 44,.call 50 [(.t 43), (.c (.int .u64 (.ofNat 18446744073709551615)))],none⟩::⟨some 45,.faddr 2 (.t 8),none⟩::⟨none,.store 1 (.t 45) (.t 44),none⟩::[]))
(.seq (.reg (⟨some 46,.mov (.t 4),none⟩::⟨some 47,.call 50 [(.t 46), (.c (.int .u64 (.ofNat 18446744073709551615)))],none⟩::⟨some 48,.faddr 3 (.t 8),none⟩::⟨none,.store 1 (.t 48) (.t 47),none⟩::[]))
(.reg (⟨some 49,.faddr 1 (.t 5),none⟩::⟨some 50,.load false 1 (.t 49),none⟩::⟨some 51,.load true 4 (.t 8),none⟩::⟨some 52,.buildSl 4 1 [(.int .i64 (.ofNat 0)), (.str []), (.int .u64 (.ofNat 0)), (.int .u64 (.ofNat 0))] [(0, 4, (.t 51))],none⟩::⟨some 53,.append 4 40 (.t 50) (.t 52),none⟩::⟨some 54,.faddr 1 (.t 5),none⟩::⟨none,.store 1 (.t 54) (.t 53),none⟩::[]))))))))
(.reg (⟨some 34,.mov (.t 7),none⟩::⟨some 35,.bin .add (.t 34) (.c (.int .i64 (.ofNat 1))),none⟩::⟨some 7,.mov (.t 35),none⟩::[])))))))
(.seq (.reg (⟨some 55,.mov (.t 4),none⟩::⟨some 56,.call 50 [(.t 55), (.c (.int .u64 (.ofNat 64)))],none⟩::⟨some 57,.cvInt .i64 (.t 56),none⟩::⟨some 6,.mov (.t 57),none⟩::[]))
(.seq (.seq (.reg (⟨some 9,.mov (.c (.int .i64 (.ofNat 0))),none⟩::[]))
(.block 2 (.loop (.seq (.seq (.reg (⟨some 58,.mov (.t 9),none⟩::⟨some 59,.mov (.t 6),none⟩::⟨some 60,.bin .lss (.t 58) (.t 59),none⟩::⟨some 61,.mov (.t 60),none⟩::⟨some 62,.mov (.t 4),some (61,true)⟩::⟨some 63,.nilchk (.t 62),some (61,true)⟩::⟨some 64,.faddr 1 (.t 63),some (61,true)⟩::⟨some 65,.load false 1 (.t 64),some (61,true)⟩::⟨some 66,.bin .eql (.t 65) (.c (.int .i64 (.ofNat 0))),some (61,true)⟩::⟨some 67,.pick (.t 61) (.t 66) (.c (.bool false)),none⟩::[]))
(.cond (.t 67) .skip (.exit 2)))
(.seq (.block 3 (.seq (.reg (⟨some 10,.alloc [(.int .i64 (.ofNat 0)), (.str []), (.str []), .nilsl, (.int .i64 (.ofNat 0)), (.int .u64 (.ofNat 0)), (.int .u64 (.ofNat 0))],none⟩::[]))
(.seq (.reg (⟨some 70,.mov (.t 4),none⟩::⟨some 71,.call 50 [(.t 70), (.c (.int .u64 (.ofNat 255)))],none⟩::⟨some 72,.cvInt .i64 (.t 71),none⟩::⟨some 73,.faddr 0 (.t 10),none⟩::⟨none,.store 1 (.t 73) (.t 72),none⟩::[]))
(.seq (.reg (⟨some 74,.mov (.t 4),none⟩::⟨some 75,.call 51 [(.t 74), (.c (.int .i64 (.ofNat 80)))],none⟩::⟨some 76,.faddr 1 (.t 10),none⟩::⟨none,.store 1 (.t 76) (.t 75),none⟩::[]))
(.seq (.reg (⟨some 77,.mov (.t 4),none⟩::⟨some 78,.call 51 [(.t 77), (.c (.int .i64 (.ofNat 80)))],none⟩::⟨some 79,.faddr 2 (.t 10),none⟩::⟨none,.store 1 (.t 79) (.t 78),none⟩::[]))
(.seq (.reg (⟨some 80,.mov (.t 4),none⟩::⟨some 81,.call 52 [(.t 80), (.c (.int .i64 (.ofNat 8))), (.c (.int .i64 (.ofNat 80)))],none⟩::⟨some 82,.faddr 3 (.t 10),none⟩::⟨none,.store 1 (.t 82) (.t 81),none⟩::[]))
(.seq (.reg (⟨some 83,.mov (.t 4),none⟩::⟨some 84,.call 50 [(.t 83), (.c (.int .u64 (.ofNat 65535)))],none⟩::⟨some 85,.cvInt .i64 (.t 84),none⟩::⟨some 86,.faddr 4 (.t 10),none⟩::⟨none,.store 1 (.t 86) (.t 85),none⟩::[]))
(.seq (.reg (⟨some 87,.mov (.t 4),none⟩::⟨some 88,.call 50 [(.t 87), (.c (.int .u64 (.ofNat 18446744073709551615)))],none⟩::⟨some 89,.faddr 5 (.t 10),none⟩::⟨none,.store 1 (.t 89) (.t 88),none⟩::[]))
(.seq (.reg (⟨some 90,.mov (.t 4),none⟩::⟨some 91,.call 50 [(.t 90), (.c (.int .u64 (.ofNat 18446744073709551615)))],none⟩::⟨some 92,.faddr 6 (.t 10),none⟩::⟨none,.store 1 (.t 92) (.t 91),none⟩::[]))
(.reg (⟨some 93,.faddr 2 (.t 5),none⟩::⟨some 94,.load false 1 (.t 93),none⟩::⟨some 95,.load true 7 (.t 10),none⟩::⟨some 96,.buildSl 7 1 [(.int .i64 (.ofNat 0)), (.str []), (.str []), .nilsl, (.int .i64 (.ofNat 0)), (.int .u64 (.ofNat 0)), (.int .u64 (.ofNat 0))] [(0, 7, (.t 95))],none⟩::⟨some 97,.append 7 88 (.t 94) (.t 96),none⟩::⟨some 98,.faddr 2 (.t 5),none⟩::⟨none,.store 1 (.t 98) (.t 97),none⟩::[])))))))))))
(.reg (⟨some 68,.mov (.t 9),none⟩::⟨some 69,.bin .add (.t 68) (.c (.int .i64 (.ofNat 1))),none⟩::⟨some 9,.mov (.t 69),none⟩::[])))))))
(.seq (.reg (⟨some 99,.mov (.t 4),none⟩::⟨some 100,.call 50 [(.t 99), (.c (.int .u64 (.ofNat 64)))],none⟩::⟨some 101,.cvInt .i64 (.t 100),none⟩::⟨some 6,.mov (.t 101),none⟩::[]))
(.seq (.seq (.reg (⟨some 11,.mov (.c (.int .i64 (.ofNat 0))),none⟩::[]))
(.block 4 (.loop (.seq (.seq (.reg (⟨some 102,.mov (.t 11),none⟩::⟨some 103,.mov (.t 6),none⟩::⟨some 104,.bin .lss (.t 102) (.t 103),none⟩::⟨some 105,.mov (.t 104),none⟩::⟨some 106,.mov (.t 4),some (105,true)⟩::⟨some 107,.nilchk (.t 106),some (105,true)⟩::⟨some 108,.faddr 1 (.t 107),some (105,true)⟩::⟨some 109,.load false 1 (.t 108),some (105,true)⟩::⟨some 110,.bin .eql (.t 109) (.c (.int .i64 (.ofNat 0))),some (105,true)⟩::⟨some 111,.pick (.t 105) (.t 110) (.c (.bool false)),none⟩::[]))
(.cond (.t 111) .skip (.exit 4)))
(.seq (.block 5 (.seq (.reg (⟨some 12,.alloc [(.int .i64 (.ofNat 0)), (.str []), (.str []), (.str []), (.int .i64 (.ofNat 0)), (.int .u64 (.ofNat 0)), (.int .u64 (.ofNat 0))],none⟩::[]))
(.seq (.reg (⟨some 114,.mov (.t 4),none⟩::⟨some 115,.call 50 [(.t 114), (.c (.int .u64 (.ofNat 255)))],none⟩::⟨some 116,.cvInt .i64 (.t 115),none⟩::⟨some 117,.faddr 0 (.t 12),none⟩::⟨none,.store 1 (.t 117) (.t 116),none⟩::[]))
(.seq (.reg (⟨some 118,.mov (.t 4),none⟩::⟨some 119,.call 51 [(.t 118), (.c (.int .i64 (.ofNat 80)))],none⟩::⟨some 120,.faddr 1 (.t 12),none⟩::⟨none,.store 1 (.t 120) (.t 119),none⟩::[]))
(.seq (.reg (⟨some 121,.mov (.t 4),none⟩::⟨some 122,.call 51 [(.t 121), (.c (.int .i64 (.ofNat 80)))],none⟩::⟨some 123,.faddr 2 (.t 12),none⟩::⟨none,.store 1 (.t 123) (.t 122),none⟩::[]))
(.seq (.reg (⟨some 124,.mov (.t 4),none⟩::⟨some 125,.call 51 [(.t 124), (.c (.int .i64 (.ofNat 80)))],none⟩::⟨some 126,.faddr 3 (.t 12),none⟩::⟨none,.store 1 (.t 126) (.t 125),none⟩::[]))
(.seq (.reg (⟨some 127,.mov (.t 4),none⟩::⟨some 128,.call 50 [(.t 127), (.c (.int .u64 (.ofNat 255)))],none⟩::⟨some 129,.cvInt .i64 (.t 128),none⟩::⟨some 130,.faddr 4 (.t 12),none⟩::⟨none,.store 1 (.t 130) (.t 129),none⟩::[]))
(.seq (.reg (⟨some 131,.mov (.t 4),none⟩::⟨some 132,.call 50 [(.t 131), (.c (.int .u64 (.ofNat 18446744073709551615)))],none⟩::⟨some 133,.faddr 5 (.t 12),none⟩::⟨none,.store 1 (.t 133) (.t 132),none⟩::[]))
(.seq (.reg (⟨some 134,.mov (.t 4),none⟩::⟨some 135,.call 50 [(.t 134), (.c (.int .u64 (.ofNat 18446744073709551615)))],none⟩::⟨some 136,.faddr 6 (.t 12),none⟩::⟨none,.store 1 (.t 136) (.t 135),none⟩::[]))
(.reg (⟨some 137,.faddr 3 (.t 5),none⟩::⟨some 138,.load false 1 (.t 137),none⟩::⟨some 139,.load true 7 (.t 12),none⟩::⟨some 140,.buildSl 7 1 [(.int .i64 (.ofNat 0)), (.str []), (.str []), (.str []), (.int .i64 (.ofNat 0)), (.int .u64 (.ofNat 0)), (.int .u64 (.ofNat 0))] [(0, 7, (.t 139))],none⟩::⟨some 141,.append 7 80 (.t 138) (.t 140),none⟩::⟨some 142,.faddr 3 (.t 5),none⟩::⟨none,.store 1 (.t 142) (.t 141),none⟩::[])))))))))))
(.reg (⟨some 112,.mov (.t 11),none⟩::⟨some 113,.bin .add (.t 112) (.c (.int .i64 (.ofNat 1))),none⟩::⟨some 11,.mov (.t 113),none⟩::[])))))))
(.seq (.reg (⟨some 143,.mov (.t 4),none⟩::⟨some 144,.call 50 [(.t 143), (.c (.int .u64 (.ofNat 64)))],none⟩::⟨some 145,.cvInt .i64 (.t 144),none⟩::⟨some 6,.mov (.t 145),none⟩::[]))
(.seq (.seq (.reg (⟨some 13,.mov (.c (.int .i64 (.ofNat 0))),none⟩::[]))
(.block 6 (.loop (.seq (.seq (.reg (⟨some 146,.mov (.t 13),none⟩::⟨some 147,.mov (.t 6),none⟩::⟨some 148,.bin .lss (.t 146) (.t 147),none⟩::⟨some 149,.mov (.t 148),none⟩::⟨some 150,.mov (.t 4),some (149,true)⟩::⟨some 151,.nilchk (.t 150),some (149,true)⟩::⟨some 152,.faddr 1 (.t 151),some (149,true)⟩::⟨some 153,.load false 1 (.t 152),some (149,true)⟩::⟨some 154,.bin .eql (.t 153) (.c (.int .i64 (.ofNat 0))),some (149,true)⟩::⟨some 155,.pick (.t 149) (.t 154) (.c (.bool false)),none⟩::[]))
(.cond (.t 155) .skip (.exit 6)))
(.seq (.block 7 (.seq (.reg (⟨some 14,.alloc [(.str []), (.str []), (.bool false), (.int .u64 (.ofNat 0)), (.int .u64 (.ofNat 0))],none⟩::[]))
(.seq (.reg (⟨some 158,.mov (.t 4),none⟩::⟨some 159,.call 51 [(.t 158), (.c (.int .i64 (.ofNat 80)))],none⟩::⟨some 160,.faddr 0 (.t 14),none⟩::⟨none,.store 1 (.t 160) (.t 159),none⟩::[]))
(.seq (.reg (⟨some 161,.mov (.t 4),none⟩::⟨some 162,.call 51 [(.t 161), (.c (.int .i64 (.ofNat 80)))],none⟩::⟨some 163,.faddr 1 (.t 14),none⟩::⟨none,.store 1 (.t 163) (.t 162),none⟩::[]))
(.seq (.reg (⟨some 164,.mov (.t 4),none⟩::⟨some 165,.call 53 [(.t 164)],none⟩::⟨some 166,.faddr 2 (.t 14),none⟩::⟨none,.store 1 (.t 166) (.t 165),none⟩::[]))
(.seq (.reg (⟨some 167,.mov (.t 4),none⟩::⟨some 168,.call 50 [(.t 167), (.c (.int .u64 (.ofNat 18446744073709551615)))],none⟩::⟨some 169,.faddr 3 (.t 14),none⟩::⟨none,.store 1 (.t 169) (.t 168),none⟩::[]))
(.seq (.reg (⟨some 170,.mov (.t 4),none⟩::⟨some 171,.call 50 [(.t 170), (.c (.int .u64 (.ofNat 18446744073709551615)))],none⟩::⟨some 172,.faddr 4 (.t 14),none⟩::⟨none,.store 1 (.t 172) (.t 171),none⟩::[]))
(.reg (⟨some 173,.faddr 4 (.t 5),none⟩::⟨some 174,.load false 1 (.t 173),none⟩::⟨some 175,.load true 5 (.t 14),none⟩::⟨some 176,.buildSl 5 1 [(.str []), (.str []), (.bool false), (.int .u64 (.ofNat 0)), (.int .u64 (.ofNat 0))] [(0, 5, (.t 175))],none⟩::⟨some 177,.append 5 56 (.t 174) (.t 176),none⟩::⟨some 178,.faddr 4 (.t 5),none⟩::⟨none,.store 1 (.t 178) (.t 177),none⟩::[])))))))))
(.reg (⟨some 156,.mov (.t 13),none⟩::⟨some 157,.bin .add (.t 156) (.c (.int .i64 (.ofNat 1))),none⟩::⟨some 13,.mov (.t 157),none⟩::[])))))))
(.seq (.reg (⟨some 179,.mov (.t 4),none⟩::⟨some 180,.load true 14 (.t 5),none⟩::⟨some 181,.call 54 [(.t 179), (.t 180)],none⟩::⟨some 182,.extract (.t 181) 0,none⟩::⟨some 183,.extract (.t 181) 1,none⟩::⟨none,.store 14 (.t 2) (.t 182),none⟩::⟨some 3,.mov (.t 183),none⟩::[]))
.ret)))))))))))))⟩
theorem c13_eq : compFn Try.prog 13 = some c13 := by kernel_rfl
/-- sodality/sodalityref21.Same -/
noncomputable def c14 : FnI := ⟨86, [.tmp 4],
(.seq (.reg (⟨some 2,.box (.t 0),none⟩::⟨some 3,.box (.t 1),none⟩::⟨some 4,.mov (.c (.bool false)),none⟩::[]))
(.seq (.seq (.reg (⟨some 6,.faddr 0 (.t 2),none⟩::⟨some 7,.load false 1 (.t 6),none⟩::⟨some 8,.faddr 0 (.t 3),none⟩::⟨some 9,.load false 1 (.t 8),none⟩::⟨some 10,.bin .neq (.t 7) (.t 9),none⟩::⟨some 11,.mov (.t 10),none⟩::⟨some 12,.faddr 7 (.t 2),some (11,false)⟩::⟨some 13,.load true 6 (.t 12),some (11,false)⟩::⟨some 14,.faddr 7 (.t 3),some (11,false)⟩::⟨some 15,.load true 6 (.t 14),some (11,false)⟩::⟨some 16,.eq true (.arr 6 1 false .int) (.t 13) (.t 15),some (11,false)⟩::⟨some 17,.pick (.t 11) (.c (.bool true)) (.t 16),none⟩::⟨some 18,.mov (.t 17),none⟩::⟨some 19,.faddr 13 (.t 2),some (18,false)⟩::⟨some 20,.load false 1 (.t 19),some (18,false)⟩::⟨some 21,.len false (.t 20),some (18,false)⟩::⟨some 22,.faddr 13 (.t 3),some (18,false)⟩::⟨some 23,.load false 1 (.t 22),some (18,false)⟩::⟨some 24,.len false (.t 23),some (18,false)⟩::⟨some 25,.bin .neq (.t 21) (.t 24),some (18,false)⟩::⟨some 26,.pick (.t 18) (.c (.bool true)) (.t 25),none⟩::[]))
(.cond (.t 26) (.seq (.reg (⟨some 4,.mov (.c (.bool false)),none⟩::[]))
.ret) .skip))
(.seq (.seq (.reg (⟨some 5,.mov (.c (.int .i64 (.ofNat 0))),none⟩::[]))
(.block 0 (.loop (.seq (.seq (.reg (⟨some 27,.mov (.t 5),none⟩::⟨some 28,.faddr 13 (.t 2),none⟩::⟨some 29,.load false 1 (.t 28),none⟩::⟨some 30,.len false (.t 29),none⟩::⟨some 31,.bin .lss (.t 27) (.t 30),none⟩::[]))
(.cond (.t 31) .skip (.exit 0)))
(.seq (.block 1 (.seq (.dreg (⟨⟨some 34,.faddr 13 (.t 2),none⟩,.quiet,0,0⟩::⟨⟨some 35,.load false 1 (.t 34),none⟩,.load,1,1⟩::⟨⟨some 36,.mov (.t 5),none⟩,.quiet,2,0⟩::⟨⟨some 37,.idxS 3 (.t 35) (.t 36),none⟩,.quiet,3,7⟩::⟨⟨some 38,.load true 3 (.t 37),none⟩,.load,4,15⟩::⟨⟨some 39,.faddr 13 (.t 3),none⟩,.quiet,5,0⟩::⟨⟨some 40,.load false 1 (.t 39),none⟩,.load,6,32⟩::⟨⟨some 41,.mov (.t 5),none⟩,.quiet,7,0⟩::⟨⟨some 42,.idxS 3 (.t 40) (.t 41),none⟩,.quiet,8,224⟩::⟨⟨some 43,.load true 3 (.t 42),none⟩,.load,9,480⟩::⟨⟨some 44,.eq true (.str0 [(0, 1, false), (1, 1, false), (2, 1, false)] [.int, .int, .int]) (.t 38) (.t 43),none⟩,.quiet,10,1023⟩::[]))
(.cond (.t 44) (.seq (.reg (⟨some 4,.mov (.c (.bool false)),none⟩::[]))
.ret) .skip)))
(.reg (⟨some 32,.mov (.t 5),none⟩::⟨some 33,.bin .add (.t 32) (.c (.int .i64 (.ofNat 1))),none⟩::⟨some 5,.mov (.t 33),none⟩::[])))))))
(.seq (.seq (.reg (⟨some 45,.faddr 1 (.t 2),none⟩::⟨some 46,.load false 1 (.t 45),none⟩::⟨some 47,.faddr 1 (.t 3),none⟩::⟨some 48,.load false 1 (.t 47),none⟩::⟨some 49,.call 55 [(.t 46), (.t 48)],none⟩::⟨some 50,.un .not (.t 49),none⟩::⟨some 51,.mov (.t 50),none⟩::⟨some 52,.faddr 2 (.t 2),some (51,false)⟩::⟨some 53,.load false 1 (.t 52),some (51,false)⟩::⟨some 54,.faddr 2 (.t 3),some (51,false)⟩::⟨some 55,.load false 1 (.t 54),some (51,false)⟩::⟨some 56,.call 56 [(.t 53), (.t 55)],some (51,false)⟩::⟨some 57,.un .not (.t 56),some (51,false)⟩::⟨some 58,.pick (.t 51) (.c (.bool true)) (.t 57),none⟩::⟨some 59,.mov (.t 58),none⟩::⟨some 60,.faddr 3 (.t 2),some (59,false)⟩::⟨some 61,.load false 1 (.t 60),some (59,false)⟩::⟨some 62,.faddr 3 (.t 3),some (59,false)⟩::⟨some 63,.load false 1 (.t 62),some (59,false)⟩::⟨some 64,.call 57 [(.t 61), (.t 63)],some (59,false)⟩::⟨some 65,.un .not (.t 64),some (59,false)⟩::⟨some 66,.pick (.t 59) (.c (.bool true)) (.t 65),none⟩::[]))
(.cond (.t 66) (.seq (.reg (⟨some 4,.mov (.c (.bool false)),none⟩::[]))
.ret) .skip))
(.seq (.reg (⟨some 67,.faddr 4 (.t 2),none⟩::⟨some 68,.load false 1 (.t 67),none⟩::⟨some 69,.faddr 4 (.t 3),none⟩::⟨some 70,.load false 1 (.t 69),none⟩::⟨some 71,.call 58 [(.t 68), (.t 70)],none⟩::⟨some 72,.mov (.t 71),none⟩::⟨some 73,.faddr 5 (.t 2),some (72,true)⟩::⟨some 74,.load false 1 (.t 73),some (72,true)⟩::⟨some 75,.faddr 5 (.t 3),some (72,true)⟩::⟨some 76,.load false 1 (.t 75),some (72,true)⟩::⟨some 77,.call 59 [(.t 74), (.t 76)],some (72,true)⟩::⟨some 78,.pick (.t 72) (.t 77) (.c (.bool false)),none⟩::⟨some 79,.mov (.t 78),none⟩::⟨some 80,.faddr 6 (.t 2),some (79,true)⟩::⟨some 81,.load false 1 (.t 80),some (79,true)⟩::⟨some 82,.faddr 6 (.t 3),some (79,true)⟩::⟨some 83,.load false 1 (.t 82),some (79,true)⟩::⟨some 84,.call 60 [(.t 81), (.t 83)],some (79,true)⟩::⟨some 85,.pick (.t 79) (.t 84) (.c (.bool false)),none⟩::⟨some 4,.mov (.t 85),none⟩::[]))
.ret)))))⟩
theorem c14_eq : compFn Try.prog 14 = some c14 := by kernel_rfl
/-- (*sodality/dump.writer).num -/
noncomputable def c15 : FnI := ⟨14, [],
(.dreg (⟨⟨some 9,.mov (.t 1),none⟩,.quiet,5,0⟩::⟨⟨some 10,.call 61 [(.c .nilsl), (.t 9)],none⟩,.loud,6,32⟩::⟨⟨some 5,.mov (.t 0),none⟩,.quiet,1,0⟩::⟨⟨some 6,.nilchk (.t 5),none⟩,.quiet,2,2⟩::⟨⟨some 7,.faddr 0 (.t 6),none⟩,.quiet,3,6⟩::⟨⟨some 8,.load false 1 (.t 7),none⟩,.load,4,14⟩::⟨⟨some 11,.append 1 1 (.t 8) (.t 10),none⟩,.loud,7,126⟩::⟨⟨some 4,.mov (.t 0),none⟩,.quiet,0,0⟩::⟨⟨some 12,.nilchk (.t 4),none⟩,.quiet,8,255⟩::⟨⟨some 13,.faddr 0 (.t 12),none⟩,.quiet,9,511⟩::⟨⟨none,.store 1 (.t 13) (.t 11),none⟩,.loud,10,1023⟩::[]))⟩
theorem c15_eq : compFn Try.prog 15 = some c15 := by kernel_rfl
/-- sodality/dump.put[sodality/api.Node] -/
noncomputable def c16 : FnI := ⟨24, [],
(.seq (.reg (⟨some 5,.box (.t 2),none⟩::[]))
(.seq (.reg (⟨some 8,.mov (.t 0),none⟩::⟨some 9,.mov (.t 1),none⟩::⟨some 10,.len false (.t 9),none⟩::⟨some 11,.call 62 [(.t 8), (.t 10)],none⟩::[]))
(.seq (.reg (⟨some 12,.mov (.t 1),none⟩::⟨some 13,.len false (.t 12),none⟩::⟨some 14,.mov (.c (.int .i64 (.ofNat 0))),none⟩::[]))
(.block 0 (.loop (.seq (.reg (⟨some 15,.bin .lss (.t 14) (.t 13),none⟩::[]))
(.seq (.cond (.t 15) .skip (.exit 0))
(.seq (.block 1 (.seq (.reg (⟨some 16,.idxS 4 (.t 12) (.t 14),none⟩::⟨some 17,.load true 4 (.t 16),none⟩::⟨some 7,.alloc [(.int .i64 (.ofNat 0)), (.str []), (.int .u64 (.ofNat 0)), (.int .u64 (.ofNat 0))],none⟩::⟨none,.store 4 (.t 7) (.t 17),none⟩::[]))
(.reg (⟨some 18,.faddr 0 (.t 5),none⟩::⟨some 19,.load false 1 (.t 18),none⟩::⟨some 20,.mov (.t 0),none⟩::⟨some 21,.load true 4 (.t 7),none⟩::⟨some 22,.callv (.t 19) [(.t 20), (.t 21)],none⟩::[]))))
(.reg (⟨some 23,.bin .add (.t 14) (.c (.int .i64 (.ofNat 1))),none⟩::⟨some 14,.mov (.t 23),none⟩::[]))))))))))⟩
theorem c16_eq : compFn Try.prog 16 = some c16 := by kernel_rfl
/-- sodality/dump.nodes -/
noncomputable def c17 : FnI := ⟨2, [.cell 0 true 2],
(.seq (.reg (⟨some 0,.alloc [.nilfn, .nilfn],none⟩::[]))
(.seq (.reg (⟨some 1,.build [.nilfn, .nilfn] [(0, 1, (.c (.fn (.func 63) [] []))), (1, 1, (.c (.fn (.func 66) [] [])))],none⟩::⟨none,.store 2 (.t 0) (.t 1),none⟩::[]))
.ret))⟩
theorem c17_eq : compFn Try.prog 17 = some c17 := by kernel_rfl
/-- sodality/dump.put[sodality/api.Service] -/
noncomputable def c18 : FnI := ⟨24, [],
(.seq (.reg (⟨some 5,.box (.t 2),none⟩::[]))
(.seq (.reg (⟨some 8,.mov (.t 0),none⟩::⟨some 9,.mov (.t 1),none⟩::⟨some 10,.len false (.t 9),none⟩::⟨some 11,.call 62 [(.t 8), (.t 10)],none⟩::[]))
(.seq (.reg (⟨some 12,.mov (.t 1),none⟩::⟨some 13,.len false (.t 12),none⟩::⟨some 14,.mov (.c (.int .i64 (.ofNat 0))),none⟩::[]))
(.block 0 (.loop (.seq (.reg (⟨some 15,.bin .lss (.t 14) (.t 13),none⟩::[]))
(.seq (.cond (.t 15) .skip (.exit 0))
(.seq (.block 1 (.seq (.reg (⟨some 16,.idxS 7 (.t 12) (.t 14),none⟩::⟨some 17,.load true 7 (.t 16),none⟩::⟨some 7,.alloc [(.int .i64 (.ofNat 0)), (.str []), (.str []), .nilsl, (.int .i64 (.ofNat 0)), (.int .u64 (.ofNat 0)), (.int .u64 (.ofNat 0))],none⟩::⟨none,.store 7 (.t 7) (.t 17),none⟩::[]))
(.reg (⟨some 18,.faddr 0 (.t 5),none⟩::⟨some 19,.load false 1 (.t 18),none⟩::⟨some 20,.mov (.t 0),none⟩::⟨some 21,.load true 7 (.t 7),none⟩::⟨some 22,.callv (.t 19) [(.t 20), (.t 21)],none⟩::[]))))
(.reg (⟨some 23,.bin .add (.t 14) (.c (.int .i64 (.ofNat 1))),none⟩::⟨some 14,.mov (.t 23),none⟩::[]))))))))))⟩
theorem c18_eq : compFn Try.prog 18 = some c18 := by kernel_rfl
/-- sodality/dump.services -/
noncomputable def c19 : FnI := ⟨2, [.cell 0 true 2],
(.seq (.reg (⟨some 0,.alloc [.nilfn, .nilfn],none⟩::[]))
(.seq (.reg (⟨some 1,.build [.nilfn, .nilfn] [(0, 1, (.c (.fn (.func 70) [] []))), (1, 1, (.c (.fn (.func 72) [] [])))],none⟩::⟨none,.store 2 (.t 0) (.t 1),none⟩::[]))
.ret))⟩
theorem c19_eq : compFn Try.prog 19 = some c19 := by kernel_rfl
/-- sodality/dump.put[sodality/api.Check] -/
noncomputable def c20 : FnI := ⟨24, [],
(.seq (.reg (⟨some 5,.box (.t 2),none⟩::[]))
(.seq (.reg (⟨some 8,.mov (.t 0),none⟩::⟨some 9,.mov (.t 1),none⟩::⟨some 10,.len false (.t 9),none⟩::⟨some 11,.call 62 [(.t 8), (.t 10)],none⟩::[]))
(.seq (.reg (⟨some 12,.mov (.t 1),none⟩::⟨some 13,.len false (.t 12),none⟩::⟨some 14,.mov (.c (.int .i64 (.ofNat 0))),none⟩::[]))
(.block 0 (.loop (.seq (.reg (⟨some 15,.bin .lss (.t 14) (.t 13),none⟩::[]))
(.seq (.cond (.t 15) .skip (.exit 0))
(.seq (.block 1 (.seq (.reg (⟨some 16,.idxS 7 (.t 12) (.t 14),none⟩::⟨some 17,.load true 7 (.t 16),none⟩::⟨some 7,.alloc [(.int .i64 (.ofNat 0)), (.str []), (.str []), (.str []), (.int .i64 (.ofNat 0)), (.int .u64 (.ofNat 0)), (.int .u64 (.ofNat 0))],none⟩::⟨none,.store 7 (.t 7) (.t 17),none⟩::[]))
(.reg (⟨some 18,.faddr 0 (.t 5),none⟩::⟨some 19,.load false 1 (.t 18),none⟩::⟨some 20,.mov (.t 0),none⟩::⟨some 21,.load true 7 (.t 7),none⟩::⟨some 22,.callv (.t 19) [(.t 20), (.t 21)],none⟩::[]))))
(.reg (⟨some 23,.bin .add (.t 14) (.c (.int .i64 (.ofNat 1))),none⟩::⟨some 14,.mov (.t 23),none⟩::[]))))))))))⟩
theorem c20_eq : compFn Try.prog 20 = some c20 := by kernel_rfl
/-- sodality/dump.checks -/
noncomputable def c21 : FnI := ⟨2, [.cell 0 true 2],
(.seq (.reg (⟨some 0,.alloc [.nilfn, .nilfn],none⟩::[]))
(.seq (.reg (⟨some 1,.build [.nilfn, .nilfn] [(0, 1, (.c (.fn (.func 75) [] []))), (1, 1, (.c (.fn (.func 76) [] [])))],none⟩::⟨none,.store 2 (.t 0) (.t 1),none⟩::[]))
.ret))⟩
theorem c21_eq : compFn Try.prog 21 = some c21 := by kernel_rfl
/-- sodality/dump.put[sodality/api.Intention] -/
noncomputable def c22 : FnI := ⟨24, [],
(.seq (.reg (⟨some 5,.box (.t 2),none⟩::[]))
(.seq (.reg (⟨some 8,.mov (.t 0),none⟩::⟨some 9,.mov (.t 1),none⟩::⟨some 10,.len false (.t 9),none⟩::⟨some 11,.call 62 [(.t 8), (.t 10)],none⟩::[]))
(.seq (.reg (⟨some 12,.mov (.t 1),none⟩::⟨some 13,.len false (.t 12),none⟩::⟨some 14,.mov (.c (.int .i64 (.ofNat 0))),none⟩::[]))
(.block 0 (.loop (.seq (.reg (⟨some 15,.bin .lss (.t 14) (.t 13),none⟩::[]))
(.seq (.cond (.t 15) .skip (.exit 0))
(.seq (.block 1 (.seq (.reg (⟨some 16,.idxS 5 (.t 12) (.t 14),none⟩::⟨some 17,.load true 5 (.t 16),none⟩::⟨some 7,.alloc [(.str []), (.str []), (.bool false), (.int .u64 (.ofNat 0)), (.int .u64 (.ofNat 0))],none⟩::⟨none,.store 5 (.t 7) (.t 17),none⟩::[]))
(.reg (⟨some 18,.faddr 0 (.t 5),none⟩::⟨some 19,.load false 1 (.t 18),none⟩::⟨some 20,.mov (.t 0),none⟩::⟨some 21,.load true 5 (.t 7),none⟩::⟨some 22,.callv (.t 19) [(.t 20), (.t 21)],none⟩::[]))))
(.reg (⟨some 23,.bin .add (.t 14) (.c (.int .i64 (.ofNat 1))),none⟩::⟨some 14,.mov (.t 23),none⟩::[]))))))))))⟩
theorem c22_eq : compFn Try.prog 22 = some c22 := by kernel_rfl
/-- sodality/dump.intentions -/
noncomputable def c23 : FnI := ⟨2, [.cell 0 true 2],
(.seq (.reg (⟨some 0,.alloc [.nilfn, .nilfn],none⟩::[]))
(.seq (.reg (⟨some 1,.build [.nilfn, .nilfn] [(0, 1, (.c (.fn (.func 77) [] []))), (1, 1, (.c (.fn (.func 79) [] [])))],none⟩::⟨none,.store 2 (.t 0) (.t 1),none⟩::[]))
.ret))⟩
theorem c23_eq : compFn Try.prog 23 = some c23 := by kernel_rfl
/-- sodality/dump.put[sodality/api.Entry] -/
noncomputable def c24 : FnI := ⟨24, [],
(.seq (.reg (⟨some 5,.box (.t 2),none⟩::[]))
(.seq (.reg (⟨some 8,.mov (.t 0),none⟩::⟨some 9,.mov (.t 1),none⟩::⟨some 10,.len false (.t 9),none⟩::⟨some 11,.call 62 [(.t 8), (.t 10)],none⟩::[]))
(.seq (.reg (⟨some 12,.mov (.t 1),none⟩::⟨some 13,.len false (.t 12),none⟩::⟨some 14,.mov (.c (.int .i64 (.ofNat 0))),none⟩::[]))
(.block 0 (.loop (.seq (.reg (⟨some 15,.bin .lss (.t 14) (.t 13),none⟩::[]))
(.seq (.cond (.t 15) .skip (.exit 0))
(.seq (.block 1 (.seq (.reg (⟨some 16,.idxS 6 (.t 12) (.t 14),none⟩::⟨some 17,.load true 6 (.t 16),none⟩::⟨some 7,.alloc [(.str []), (.str []), (.int .u64 (.ofNat 0)), (.int .u64 (.ofNat 0)), (.int .u64 (.ofNat 0)), (.int .u64 (.ofNat 0))],none⟩::⟨none,.store 6 (.t 7) (.t 17),none⟩::[]))
(.reg (⟨some 18,.faddr 0 (.t 5),none⟩::⟨some 19,.load false 1 (.t 18),none⟩::⟨some 20,.mov (.t 0),none⟩::⟨some 21,.load true 6 (.t 7),none⟩::⟨some 22,.callv (.t 19) [(.t 20), (.t 21)],none⟩::[]))))
(.reg (⟨some 23,.bin .add (.t 14) (.c (.int .i64 (.ofNat 1))),none⟩::⟨some 14,.mov (.t 23),none⟩::[]))))))))))⟩
theorem c24_eq : compFn Try.prog 24 = some c24 := by kernel_rfl
/-- sodality/dump.entries -/
noncomputable def c25 : FnI := ⟨2, [.cell 0 true 2],
(.seq (.reg (⟨some 0,.alloc [.nilfn, .nilfn],none⟩::[]))
(.seq (.reg (⟨some 1,.build [.nilfn, .nilfn] [(0, 1, (.c (.fn (.func 81) [] []))), (1, 1, (.c (.fn (.func 82) [] [])))],none⟩::⟨none,.store 2 (.t 0) (.t 1),none⟩::[]))
.ret))⟩
theorem c25_eq : compFn Try.prog 25 = some c25 := by kernel_rfl
/-- sodality/dump.put[sodality/api.Session] -/
noncomputable def c26 : FnI := ⟨24, [],
(.seq (.reg (⟨some 5,.box (.t 2),none⟩::[]))
(.seq (.reg (⟨some 8,.mov (.t 0),none⟩::⟨some 9,.mov (.t 1),none⟩::⟨some 10,.len false (.t 9),none⟩::⟨some 11,.call 62 [(.t 8), (.t 10)],none⟩::[]))
(.seq (.reg (⟨some 12,.mov (.t 1),none⟩::⟨some 13,.len false (.t 12),none⟩::⟨some 14,.mov (.c (.int .i64 (.ofNat 0))),none⟩::[]))
(.block 0 (.loop (.seq (.reg (⟨some 15,.bin .lss (.t 14) (.t 13),none⟩::[]))
(.seq (.cond (.t 15) .skip (.exit 0))
(.seq (.block 1 (.seq (.reg (⟨some 16,.idxS 4 (.t 12) (.t 14),none⟩::⟨some 17,.load true 4 (.t 16),none⟩::⟨some 7,.alloc [(.int .u64 (.ofNat 0)), (.int .i64 (.ofNat 0)), (.int .u64 (.ofNat 0)), (.int .u64 (.ofNat 0))],none⟩::⟨none,.store 4 (.t 7) (.t 17),none⟩::[]))
(.reg (⟨some 18,.faddr 0 (.t 5),none⟩::⟨some 19,.load false 1 (.t 18),none⟩::⟨some 20,.mov (.t 0),none⟩::⟨some 21,.load true 4 (.t 7),none⟩::⟨some 22,.callv (.t 19) [(.t 20), (.t 21)],none⟩::[]))))
(.reg (⟨some 23,.bin .add (.t 14) (.c (.int .i64 (.ofNat 1))),none⟩::⟨some 14,.mov (.t 23),none⟩::[]))))))))))⟩
theorem c26_eq : compFn Try.prog 26 = some c26 := by kernel_rfl
/-- sodality/dump.sessions -/
noncomputable def c27 : FnI := ⟨2, [.cell 0 true 2],
(.seq (.reg (⟨some 0,.alloc [.nilfn, .nilfn],none⟩::[]))
(.seq (.reg (⟨some 1,.build [.nilfn, .nilfn] [(0, 1, (.c (.fn (.func 83) [] []))), (1, 1, (.c (.fn (.func 84) [] [])))],none⟩::⟨none,.store 2 (.t 0) (.t 1),none⟩::[]))
.ret))⟩
theorem c27_eq : compFn Try.prog 27 = some c27 := by kernel_rfl
/-- sodality/dump.put[sodality/api.Seen] -/
noncomputable def c28 : FnI := ⟨24, [],
(.seq (.reg (⟨some 5,.box (.t 2),none⟩::[]))
(.seq (.reg (⟨some 8,.mov (.t 0),none⟩::⟨some 9,.mov (.t 1),none⟩::⟨some 10,.len false (.t 9),none⟩::⟨some 11,.call 62 [(.t 8), (.t 10)],none⟩::[]))
(.seq (.reg (⟨some 12,.mov (.t 1),none⟩::⟨some 13,.len false (.t 12),none⟩::⟨some 14,.mov (.c (.int .i64 (.ofNat 0))),none⟩::[]))
(.block 0 (.loop (.seq (.reg (⟨some 15,.bin .lss (.t 14) (.t 13),none⟩::[]))
(.seq (.cond (.t 15) .skip (.exit 0))
(.seq (.block 1 (.seq (.reg (⟨some 16,.idxS 3 (.t 12) (.t 14),none⟩::⟨some 17,.load true 3 (.t 16),none⟩::⟨some 7,.alloc [(.int .i64 (.ofNat 0)), (.int .u32 (.ofNat 0)), (.int .u64 (.ofNat 0))],none⟩::⟨none,.store 3 (.t 7) (.t 17),none⟩::[]))
(.reg (⟨some 18,.faddr 0 (.t 5),none⟩::⟨some 19,.load false 1 (.t 18),none⟩::⟨some 20,.mov (.t 0),none⟩::⟨some 21,.load true 3 (.t 7),none⟩::⟨some 22,.callv (.t 19) [(.t 20), (.t 21)],none⟩::[]))))
(.reg (⟨some 23,.bin .add (.t 14) (.c (.int .i64 (.ofNat 1))),none⟩::⟨some 14,.mov (.t 23),none⟩::[]))))))))))⟩
theorem c28_eq : compFn Try.prog 28 = some c28 := by kernel_rfl
/-- sodality/dump.seen -/
noncomputable def c29 : FnI := ⟨2, [.cell 0 true 2],
(.seq (.reg (⟨some 0,.alloc [.nilfn, .nilfn],none⟩::[]))
(.seq (.reg (⟨some 1,.build [.nilfn, .nilfn] [(0, 1, (.c (.fn (.func 85) [] []))), (1, 1, (.c (.fn (.func 86) [] [])))],none⟩::⟨none,.store 2 (.t 0) (.t 1),none⟩::[]))
.ret))⟩
theorem c29_eq : compFn Try.prog 29 = some c29 := by kernel_rfl
/-- (*sodality/dump.asker).many -/
noncomputable def c30 : FnI := ⟨15, [],
(.reg (⟨some 4,.mov (.t 0),none⟩::⟨some 5,.mov (.t 0),none⟩::⟨some 6,.nilchk (.t 5),none⟩::⟨some 7,.faddr 0 (.t 6),none⟩::⟨some 8,.load false 1 (.t 7),none⟩::⟨some 9,.mov (.t 8),none⟩::⟨some 10,.mov (.t 1),some (9,false)⟩::⟨some 11,.bin .gtr (.t 10) (.c (.int .i64 (.ofNat 64))),some (9,false)⟩::⟨some 12,.pick (.t 9) (.c (.bool true)) (.t 11),none⟩::⟨some 13,.nilchk (.t 4),none⟩::⟨some 14,.faddr 0 (.t 13),none⟩::⟨none,.store 1 (.t 14) (.t 12),none⟩::[]))⟩
theorem c30_eq : compFn Try.prog 30 = some c30 := by kernel_rfl
/-- (*sodality/dump.asker).within -/
noncomputable def c31 : FnI := ⟨22, [],
(.reg (⟨some 6,.mov (.t 0),none⟩::⟨some 7,.mov (.t 0),none⟩::⟨some 8,.nilchk (.t 7),none⟩::⟨some 9,.faddr 0 (.t 8),none⟩::⟨some 10,.load false 1 (.t 9),none⟩::⟨some 11,.mov (.t 10),none⟩::⟨some 12,.mov (.t 1),some (11,false)⟩::⟨some 13,.bin .lss (.t 12) (.c (.int .i64 (.ofNat 0))),some (11,false)⟩::⟨some 14,.pick (.t 11) (.c (.bool true)) (.t 13),none⟩::⟨some 15,.mov (.t 14),none⟩::⟨some 16,.mov (.t 1),some (15,false)⟩::⟨some 17,.mov (.t 2),some (15,false)⟩::⟨some 18,.bin .gtr (.t 16) (.t 17),some (15,false)⟩::⟨some 19,.pick (.t 15) (.c (.bool true)) (.t 18),none⟩::⟨some 20,.nilchk (.t 6),none⟩::⟨some 21,.faddr 0 (.t 20),none⟩::⟨none,.store 1 (.t 21) (.t 19),none⟩::[]))⟩
theorem c31_eq : compFn Try.prog 31 = some c31 := by kernel_rfl
/-- (*sodality/dump.asker).texts -/
noncomputable def c32 : FnI := ⟨25, [],
(.seq (.reg (⟨some 6,.mov (.t 1),none⟩::⟨some 7,.len false (.t 6),none⟩::⟨some 8,.mov (.c (.int .i64 (.ofNat 0))),none⟩::[]))
(.block 0 (.loop (.seq (.reg (⟨some 9,.bin .lss (.t 8) (.t 7),none⟩::[]))
(.seq (.cond (.t 9) .skip (.exit 0))
(.seq (.block 1 (.seq (.reg (⟨some 10,.idxS 1 (.t 6) (.t 8),none⟩::⟨some 11,.load false 1 (.t 10),none⟩::⟨some 5,.mov (.t 11),none⟩::[]))
(.reg (⟨some 12,.mov (.t 0),none⟩::⟨some 13,.mov (.t 0),none⟩::⟨some 14,.nilchk (.t 13),none⟩::⟨some 15,.faddr 0 (.t 14),none⟩::⟨some 16,.load false 1 (.t 15),none⟩::⟨some 17,.mov (.t 16),none⟩::⟨some 18,.mov (.t 5),some (17,false)⟩::⟨some 19,.len true (.t 18),some (17,false)⟩::⟨some 20,.bin .gtr (.t 19) (.c (.int .i64 (.ofNat 80))),some (17,false)⟩::⟨some 21,.pick (.t 17) (.c (.bool true)) (.t 20),none⟩::⟨some 22,.nilchk (.t 12),none⟩::⟨some 23,.faddr 0 (.t 22),none⟩::⟨none,.store 1 (.t 23) (.t 21),none⟩::[]))))
(.reg (⟨some 24,.bin .add (.t 8) (.c (.int .i64 (.ofNat 1))),none⟩::⟨some 8,.mov (.t 24),none⟩::[]))))))))⟩
theorem c32_eq : compFn Try.prog 32 = some c32 := by kernel_rfl
/-- sodality/sodalityref22.out -/
noncomputable def c33 : FnI := ⟨12, [.tmp 4],
(.seq (.reg (⟨some 4,.mov (.c (.bool false)),none⟩::[]))
(.seq (.reg (⟨some 5,.mov (.t 0),none⟩::⟨some 6,.bin .lss (.t 5) (.c (.int .i64 (.ofNat 0))),none⟩::⟨some 7,.mov (.t 6),none⟩::⟨some 8,.mov (.t 0),some (7,false)⟩::⟨some 9,.mov (.t 1),some (7,false)⟩::⟨some 10,.bin .gtr (.t 8) (.t 9),some (7,false)⟩::⟨some 11,.pick (.t 7) (.c (.bool true)) (.t 10),none⟩::⟨some 4,.mov (.t 11),none⟩::[]))
.ret))⟩
theorem c33_eq : compFn Try.prog 33 = some c33 := by kernel_rfl
/-- sodality/sodalityref22.long -/
noncomputable def c34 : FnI := ⟨16, [.tmp 2],
(.seq (.reg (⟨some 2,.mov (.c (.bool false)),none⟩::[]))
(.seq (.seq (.reg (⟨some 3,.mov (.c (.int .i64 (.ofNat 0))),none⟩::[]))
(.block 0 (.loop (.seq (.seq (.reg (⟨some 4,.mov (.t 3),none⟩::⟨some 5,.mov (.t 0),none⟩::⟨some 6,.len false (.t 5),none⟩::⟨some 7,.bin .lss (.t 4) (.t 6),none⟩::[]))
(.cond (.t 7) .skip (.exit 0)))
(.seq (.block 1 (.seq (.reg (⟨some 10,.mov (.t 0),none⟩::⟨some 11,.mov (.t 3),none⟩::⟨some 12,.idxS 1 (.t 10) (.t 11),none⟩::⟨some 13,.load false 1 (.t 12),none⟩::⟨some 14,.len true (.t 13),none⟩::⟨some 15,.bin .gtr (.t 14) (.c (.int .i64 (.ofNat 80))),none⟩::[]))
(.cond (.t 15) (.seq (.reg (⟨some 2,.mov (.c (.bool true)),none⟩::[]))
.ret) .skip)))
(.reg (⟨some 8,.mov (.t 3),none⟩::⟨some 9,.bin .add (.t 8) (.c (.int .i64 (.ofNat 1))),none⟩::⟨some 3,.mov (.t 9),none⟩::[])))))))
(.seq (.reg (⟨some 2,.mov (.c (.bool false)),none⟩::[]))
.ret)))⟩
theorem c34_eq : compFn Try.prog 34 = some c34 := by kernel_rfl
/-- sodality/sodalityref22.num -/
noncomputable def c35 : FnI := ⟨9, [.tmp 4],
(.seq (.reg (⟨some 4,.mov (.c .nilsl),none⟩::[]))
(.seq (.reg (⟨some 5,.mov (.t 0),none⟩::⟨some 6,.mov (.t 1),none⟩::⟨some 7,.call 87 [(.t 6)],none⟩::⟨some 8,.append 1 1 (.t 5) (.t 7),none⟩::⟨some 4,.mov (.t 8),none⟩::[]))
.ret))⟩
theorem c35_eq : compFn Try.prog 35 = some c35 := by kernel_rfl
/-- sodality/sodalityref22.text -/
noncomputable def c36 : FnI := ⟨9, [.tmp 4],
(.seq (.reg (⟨some 4,.mov (.c .nilsl),none⟩::[]))
(.seq (.reg (⟨some 5,.mov (.t 0),none⟩::⟨some 6,.mov (.t 1),none⟩::⟨some 7,.call 88 [(.t 6)],none⟩::⟨some 8,.append 1 1 (.t 5) (.t 7),none⟩::⟨some 4,.mov (.t 8),none⟩::[]))
.ret))⟩
theorem c36_eq : compFn Try.prog 36 = some c36 := by kernel_rfl
/-- sodality/sodalityref04.Texts -/
noncomputable def c37 : FnI := ⟨23, [.tmp 2],
(.seq (.reg (⟨some 2,.mov (.c .nilsl),none⟩::[]))
(.seq (.reg (⟨some 5,.mov (.t 0),none⟩::⟨some 6,.len false (.t 5),none⟩::⟨some 7,.cvInt .u64 (.t 6),none⟩::⟨some 8,.call 87 [(.t 7)],none⟩::⟨some 3,.mov (.t 8),none⟩::[]))
(.seq (.seq (.reg (⟨some 4,.mov (.c (.int .i64 (.ofNat 0))),none⟩::[]))
(.block 0 (.loop (.seq (.seq (.reg (⟨some 9,.mov (.t 4),none⟩::⟨some 10,.mov (.t 0),none⟩::⟨some 11,.len false (.t 10),none⟩::⟨some 12,.bin .lss (.t 9) (.t 11),none⟩::[]))
(.cond (.t 12) .skip (.exit 0)))
(.seq (.block 1 (.reg (⟨some 15,.mov (.t 3),none⟩::⟨some 16,.mov (.t 0),none⟩::⟨some 17,.mov (.t 4),none⟩::⟨some 18,.idxS 1 (.t 16) (.t 17),none⟩::⟨some 19,.load false 1 (.t 18),none⟩::⟨some 20,.call 88 [(.t 19)],none⟩::⟨some 21,.append 1 1 (.t 15) (.t 20),none⟩::⟨some 3,.mov (.t 21),none⟩::[])))
(.reg (⟨some 13,.mov (.t 4),none⟩::⟨some 14,.bin .add (.t 13) (.c (.int .i64 (.ofNat 1))),none⟩::⟨some 4,.mov (.t 14),none⟩::[])))))))
(.seq (.reg (⟨some 22,.mov (.t 3),none⟩::⟨some 2,.mov (.t 22),none⟩::[]))
.ret))))⟩
theorem c37_eq : compFn Try.prog 37 = some c37 := by kernel_rfl
/-- sodality/sodalityref04.Flag -/
noncomputable def c38 : FnI := ⟨6, [.tmp 2],
(.seq (.reg (⟨some 2,.mov (.c .nilsl),none⟩::[]))
(.seq (.seq (.reg (⟨some 3,.mov (.t 0),none⟩::[]))
(.cond (.t 3) (.seq (.reg (⟨some 4,.buildSl 1 2 [(.int .u8 (.ofNat 0)), (.int .u8 (.ofNat 0))] [(0, 1, (.c (.int .u8 (.ofNat 1)))), (1, 1, (.c (.int .u8 (.ofNat 1))))],none⟩::⟨some 2,.mov (.t 4),none⟩::[]))
.ret) .skip))
(.seq (.reg (⟨some 5,.buildSl 1 1 [(.int .u8 (.ofNat 0))] [(0, 1, (.c (.int .u8 (.ofNat 0))))],none⟩::⟨some 2,.mov (.t 5),none⟩::[]))
.ret)))⟩
theorem c38_eq : compFn Try.prog 38 = some c38 := by kernel_rfl
/-- sodality/sodalityref22.rest -/
noncomputable def c39 : FnI := ⟨122, [.tmp 4],
(.seq (.reg (⟨some 3,.box (.t 1),none⟩::⟨some 4,.mov (.c .nilsl),none⟩::[]))
(.seq (.reg (⟨some 12,.mov (.t 0),none⟩::⟨some 13,.faddr 5 (.t 3),none⟩::⟨some 14,.load false 1 (.t 13),none⟩::⟨some 15,.len false (.t 14),none⟩::⟨some 16,.cvInt .u64 (.t 15),none⟩::⟨some 17,.call 35 [(.t 12), (.t 16)],none⟩::⟨some 0,.mov (.t 17),none⟩::[]))
(.seq (.seq (.reg (⟨some 5,.mov (.c (.int .i64 (.ofNat 0))),none⟩::[]))
(.block 0 (.loop (.seq (.seq (.reg (⟨some 18,.mov (.t 5),none⟩::⟨some 19,.faddr 5 (.t 3),none⟩::⟨some 20,.load false 1 (.t 19),none⟩::⟨some 21,.len false (.t 20),none⟩::⟨some 22,.bin .lss (.t 18) (.t 21),none⟩::[]))
(.cond (.t 22) .skip (.exit 0)))
(.seq (.block 1 (.seq (.reg (⟨some 25,.faddr 5 (.t 3),none⟩::⟨some 26,.load false 1 (.t 25),none⟩::⟨some 27,.mov (.t 5),none⟩::⟨some 28,.idxS 6 (.t 26) (.t 27),none⟩::⟨some 29,.load true 6 (.t 28),none⟩::⟨some 6,.alloc [(.str []), (.str []), (.int .u64 (.ofNat 0)), (.int .u64 (.ofNat 0)), (.int .u64 (.ofNat 0)), (.int .u64 (.ofNat 0))],none⟩::⟨none,.store 6 (.t 6) (.t 29),none⟩::[]))
(.dreg (⟨⟨some 30,.mov (.t 0),none⟩,.quiet,0,0⟩::⟨⟨some 31,.faddr 0 (.t 6),none⟩,.quiet,1,0⟩::⟨⟨some 32,.load false 1 (.t 31),none⟩,.load,2,2⟩::⟨⟨some 33,.call 36 [(.t 30), (.t 32)],none⟩,.loud,3,7⟩::⟨⟨some 34,.faddr 1 (.t 6),none⟩,.quiet,4,0⟩::⟨⟨some 35,.load false 1 (.t 34),none⟩,.load,5,16⟩::⟨⟨some 36,.call 36 [(.t 33), (.t 35)],none⟩,.loud,6,63⟩::⟨⟨some 37,.faddr 2 (.t 6),none⟩,.quiet,7,0⟩::⟨⟨some 38,.load false 1 (.t 37),none⟩,.load,8,128⟩::⟨⟨some 39,.call 35 [(.t 36), (.t 38)],none⟩,.loud,9,511⟩::⟨⟨some 40,.faddr 3 (.t 6),none⟩,.quiet,10,0⟩::⟨⟨some 41,.load false 1 (.t 40),none⟩,.load,11,1024⟩::⟨⟨some 42,.call 35 [(.t 39), (.t 41)],none⟩,.loud,12,4095⟩::⟨⟨some 43,.faddr 4 (.t 6),none⟩,.quiet,13,0⟩::⟨⟨some 44,.load false 1 (.t 43),none⟩,.load,14,8192⟩::⟨⟨some 45,.call 35 [(.t 42), (.t 44)],none⟩,.loud,15,32767⟩::⟨⟨some 46,.faddr 5 (.t 6),none⟩,.quiet,16,0⟩::⟨⟨some 47,.load false 1 (.t 46),none⟩,.load,17,65536⟩::⟨⟨some 48,.call 35 [(.t 45), (.t 47)],none⟩,.loud,18,262143⟩::⟨⟨some 0,.mov (.t 48),none⟩,.quiet,19,524287⟩::[]))))
(.reg (⟨some 23,.mov (.t 5),none⟩::⟨some 24,.bin .add (.t 23) (.c (.int .i64 (.ofNat 1))),none⟩::⟨some 5,.mov (.t 24),none⟩::[])))))))
(.seq (.reg (⟨some 49,.mov (.t 0),none⟩::⟨some 50,.faddr 6 (.t 3),none⟩::⟨some 51,.load false 1 (.t 50),none⟩::⟨some 52,.len false (.t 51),none⟩::⟨some 53,.cvInt .u64 (.t 52),none⟩::⟨some 54,.call 35 [(.t 49), (.t 53)],none⟩::⟨some 0,.mov (.t 54),none⟩::[]))
(.seq (.seq (.reg (⟨some 7,.mov (.c (.int .i64 (.ofNat 0))),none⟩::[]))
(.block 2 (.loop (.seq (.seq (.reg (⟨some 55,.mov (.t 7),none⟩::⟨some 56,.faddr 6 (.t 3),none⟩::⟨some 57,.load false 1 (.t 56),none⟩::⟨some 58,.len false (.t 57),none⟩::⟨some 59,.bin .lss (.t 55) (.t 58),none⟩::[]))
(.cond (.t 59) .skip (.exit 2)))
(.seq (.block 3 (.seq (.reg (⟨some 62,.faddr 6 (.t 3),none⟩::⟨some 63,.load false 1 (.t 62),none⟩::⟨some 64,.mov (.t 7),none⟩::⟨some 65,.idxS 4 (.t 63) (.t 64),none⟩::⟨some 66,.load true 4 (.t 65),none⟩::⟨some 8,.alloc [(.int .u64 (.ofNat 0)), (.int .i64 (.ofNat 0)), (.int .u64 (.ofNat 0)), (.int .u64 (.ofNat 0))],none⟩::⟨none,.store 4 (.t 8) (.t 66),none⟩::[]))
(.dreg (⟨⟨some 67,.mov (.t 0),none⟩,.quiet,0,0⟩::⟨⟨some 68,.faddr 0 (.t 8),none⟩,.quiet,1,0⟩::⟨⟨some 69,.load false 1 (.t 68),none⟩,.load,2,2⟩::⟨⟨some 70,.call 35 [(.t 67), (.t 69)],none⟩,.loud,3,7⟩::⟨⟨some 71,.faddr 1 (.t 8),none⟩,.quiet,4,0⟩::⟨⟨some 72,.load false 1 (.t 71),none⟩,.load,5,16⟩::⟨⟨some 73,.cvInt .u64 (.t 72),none⟩,.quiet,6,48⟩::⟨⟨some 74,.call 35 [(.t 70), (.t 73)],none⟩,.loud,7,127⟩::⟨⟨some 75,.faddr 2 (.t 8),none⟩,.quiet,8,0⟩::⟨⟨some 76,.load false 1 (.t 75),none⟩,.load,9,256⟩::⟨⟨some 77,.call 35 [(.t 74), (.t 76)],none⟩,.loud,10,1023⟩::⟨⟨some 78,.faddr 3 (.t 8),none⟩,.quiet,11,0⟩::⟨⟨some 79,.load false 1 (.t 78),none⟩,.load,12,2048⟩::⟨⟨some 80,.call 35 [(.t 77), (.t 79)],none⟩,.loud,13,8191⟩::⟨⟨some 0,.mov (.t 80),none⟩,.quiet,14,16383⟩::[]))))
(.reg (⟨some 60,.mov (.t 7),none⟩::⟨some 61,.bin .add (.t 60) (.c (.int .i64 (.ofNat 1))),none⟩::⟨some 7,.mov (.t 61),none⟩::[])))))))
(.seq (.seq (.reg (⟨some 9,.mov (.c (.int .i64 (.ofNat 0))),none⟩::[]))
(.block 4 (.loop (.seq (.seq (.reg (⟨some 81,.mov (.t 9),none⟩::⟨some 82,.bin .lss (.t 81) (.c (.int .i64 (.ofNat 6))),none⟩::[]))
(.cond (.t 82) .skip (.exit 4)))
(.seq (.block 5 (.reg (⟨some 85,.mov (.t 0),none⟩::⟨some 86,.mov (.t 9),none⟩::⟨some 87,.faddr 7 (.t 3),none⟩::⟨some 88,.idxA 6 1 (.t 87) (.t 86),none⟩::⟨some 89,.load false 1 (.t 88),none⟩::⟨some 90,.call 35 [(.t 85), (.t 89)],none⟩::⟨some 0,.mov (.t 90),none⟩::[])))
(.reg (⟨some 83,.mov (.t 9),none⟩::⟨some 84,.bin .add (.t 83) (.c (.int .i64 (.ofNat 1))),none⟩::⟨some 9,.mov (.t 84),none⟩::[])))))))
(.seq (.reg (⟨some 91,.mov (.t 0),none⟩::⟨some 92,.faddr 13 (.t 3),none⟩::⟨some 93,.load false 1 (.t 92),none⟩::⟨some 94,.len false (.t 93),none⟩::⟨some 95,.cvInt .u64 (.t 94),none⟩::⟨some 96,.call 35 [(.t 91), (.t 95)],none⟩::⟨some 0,.mov (.t 96),none⟩::[]))
(.seq (.seq (.reg (⟨some 10,.mov (.c (.int .i64 (.ofNat 0))),none⟩::[]))
(.block 6 (.loop (.seq (.seq (.reg (⟨some 97,.mov (.t 10),none⟩::⟨some 98,.faddr 13 (.t 3),none⟩::⟨some 99,.load false 1 (.t 98),none⟩::⟨some 100,.len false (.t 99),none⟩::⟨some 101,.bin .lss (.t 97) (.t 100),none⟩::[]))
(.cond (.t 101) .skip (.exit 6)))
(.seq (.block 7 (.seq (.reg (⟨some 104,.faddr 13 (.t 3),none⟩::⟨some 105,.load false 1 (.t 104),none⟩::⟨some 106,.mov (.t 10),none⟩::⟨some 107,.idxS 3 (.t 105) (.t 106),none⟩::⟨some 108,.load true 3 (.t 107),none⟩::⟨some 11,.alloc [(.int .i64 (.ofNat 0)), (.int .u32 (.ofNat 0)), (.int .u64 (.ofNat 0))],none⟩::⟨none,.store 3 (.t 11) (.t 108),none⟩::[]))
(.dreg (⟨⟨some 109,.mov (.t 0),none⟩,.quiet,0,0⟩::⟨⟨some 110,.faddr 0 (.t 11),none⟩,.quiet,1,0⟩::⟨⟨some 111,.load false 1 (.t 110),none⟩,.load,2,2⟩::⟨⟨some 112,.cvInt .u64 (.t 111),none⟩,.quiet,3,6⟩::⟨⟨some 113,.call 35 [(.t 109), (.t 112)],none⟩,.loud,4,15⟩::⟨⟨some 114,.faddr 1 (.t 11),none⟩,.quiet,5,0⟩::⟨⟨some 115,.load false 1 (.t 114),none⟩,.load,6,32⟩::⟨⟨some 116,.cvInt .u64 (.t 115),none⟩,.quiet,7,96⟩::⟨⟨some 117,.call 35 [(.t 113), (.t 116)],none⟩,.loud,8,255⟩::⟨⟨some 118,.faddr 2 (.t 11),none⟩,.quiet,9,0⟩::⟨⟨some 119,.load false 1 (.t 118),none⟩,.load,10,512⟩::⟨⟨some 120,.call 35 [(.t 117), (.t 119)],none⟩,.loud,11,2047⟩::⟨⟨some 0,.mov (.t 120),none⟩,.quiet,12,4095⟩::[]))))
(.reg (⟨some 102,.mov (.t 10),none⟩::⟨some 103,.bin .add (.t 102) (.c (.int .i64 (.ofNat 1))),none⟩::⟨some 10,.mov (.t 103),none⟩::[])))))))
(.seq (.reg (⟨some 121,.mov (.t 0),none⟩::⟨some 4,.mov (.t 121),none⟩::[]))
.ret)))))))))⟩
theorem c39_eq : compFn Try.prog 39 = some c39 := by kernel_rfl
/-- sodality/field.Read -/
noncomputable def c40 : FnI := ⟨8, [.tmp 2],
(.seq (.reg (⟨some 2,.mov (.c .nilp),none⟩::[]))
(.seq (.reg (⟨some 3,.buildSl 1 0 [] [],none⟩::⟨some 4,.mov (.t 0),none⟩::⟨some 5,.append 1 1 (.t 3) (.t 4),none⟩::⟨some 6,.build [(.bool false), .nilsl, (.int .i64 (.ofNat 0))] [(0, 1, (.c (.bool true))), (1, 1, (.t 5))],none⟩::⟨some 7,.box (.t 6),none⟩::⟨some 2,.mov (.t 7),none⟩::[]))
.ret))⟩
theorem c40_eq : compFn Try.prog 40 = some c40 := by kernel_rfl
/-- (sodality/dump.reader).long -/
noncomputable def c41 : FnI := ⟨6, [.tmp 2],
(.seq (.reg (⟨some 1,.box (.t 0),none⟩::⟨some 2,.mov (.c (.int .u64 (.ofNat 0))),none⟩::[]))
(.seq (.reg (⟨some 3,.faddr 0 (.t 1),none⟩::⟨some 4,.load false 1 (.t 3),none⟩::⟨some 5,.call 74 [(.t 4), (.c (.int .u64 (.ofNat 18446744073709551615)))],none⟩::⟨some 2,.mov (.t 5),none⟩::[]))
.ret))⟩
theorem c41_eq : compFn Try.prog 41 = some c41 := by kernel_rfl
/-- sodality/dump.get[sodality/api.Node] -/
noncomputable def c42 : FnI := ⟨30, [.tmp 4],
(.seq (.reg (⟨some 2,.box (.t 0),none⟩::⟨some 3,.box (.t 1),none⟩::⟨some 4,.mov (.c .nilsl),none⟩::[]))
(.seq (.reg (⟨some 8,.faddr 0 (.t 2),none⟩::⟨some 9,.load false 1 (.t 8),none⟩::⟨some 10,.call 74 [(.t 9), (.c (.int .u64 (.ofNat 64)))],none⟩::⟨some 5,.mov (.t 10),none⟩::[]))
(.seq (.reg (⟨some 6,.mov (.c .nilsl),none⟩::[]))
(.seq (.seq (.reg (⟨some 7,.mov (.c (.int .u64 (.ofNat 0))),none⟩::[]))
(.block 0 (.loop (.seq (.seq (.reg (⟨some 11,.mov (.t 7),none⟩::⟨some 12,.mov (.t 5),none⟩::⟨some 13,.bin .lss (.t 11) (.t 12),none⟩::⟨some 14,.mov (.t 13),none⟩::⟨some 15,.faddr 0 (.t 2),some (14,true)⟩::⟨some 16,.load false 1 (.t 15),some (14,true)⟩::⟨some 17,.call 89 [(.t 16)],some (14,true)⟩::⟨some 18,.bin .eql (.t 17) (.c (.int .i64 (.ofNat 0))),some (14,true)⟩::⟨some 19,.pick (.t 14) (.t 18) (.c (.bool false)),none⟩::[]))
(.cond (.t 19) .skip (.exit 0)))
(.seq (.block 1 (.reg (⟨some 22,.mov (.t 6),none⟩::⟨some 23,.faddr 1 (.t 3),none⟩::⟨some 24,.load false 1 (.t 23),none⟩::⟨some 25,.load true 1 (.t 2),none⟩::⟨some 26,.callv (.t 24) [(.t 25)],none⟩::⟨some 27,.buildSl 4 1 [(.int .i64 (.ofNat 0)), (.str []), (.int .u64 (.ofNat 0)), (.int .u64 (.ofNat 0))] [(0, 4, (.t 26))],none⟩::⟨some 28,.append 4 40 (.t 22) (.t 27),none⟩::⟨some 6,.mov (.t 28),none⟩::[])))
(.reg (⟨some 20,.mov (.t 7),none⟩::⟨some 21,.bin .add (.t 20) (.c (.int .u64 (.ofNat 1))),none⟩::⟨some 7,.mov (.t 21),none⟩::[])))))))
(.seq (.reg (⟨some 29,.mov (.t 6),none⟩::⟨some 4,.mov (.t 29),none⟩::[]))
.ret)))))⟩
theorem c42_eq : compFn Try.prog 42 = some c42 := by kernel_rfl
/-- sodality/dump.get[sodality/api.Service] -/
noncomputable def c43 : FnI := ⟨30, [.tmp 4],
(.seq (.reg (⟨some 2,.box (.t 0),none⟩::⟨some 3,.box (.t 1),none⟩::⟨some 4,.mov (.c .nilsl),none⟩::[]))
(.seq (.reg (⟨some 8,.faddr 0 (.t 2),none⟩::⟨some 9,.load false 1 (.t 8),none⟩::⟨some 10,.call 74 [(.t 9), (.c (.int .u64 (.ofNat 64)))],none⟩::⟨some 5,.mov (.t 10),none⟩::[]))
(.seq (.reg (⟨some 6,.mov (.c .nilsl),none⟩::[]))
(.seq (.seq (.reg (⟨some 7,.mov (.c (.int .u64 (.ofNat 0))),none⟩::[]))
(.block 0 (.loop (.seq (.seq (.reg (⟨some 11,.mov (.t 7),none⟩::⟨some 12,.mov (.t 5),none⟩::⟨some 13,.bin .lss (.t 11) (.t 12),none⟩::⟨some 14,.mov (.t 13),none⟩::⟨some 15,.faddr 0 (.t 2),some (14,true)⟩::⟨some 16,.load false 1 (.t 15),some (14,true)⟩::⟨some 17,.call 89 [(.t 16)],some (14,true)⟩::⟨some 18,.bin .eql (.t 17) (.c (.int .i64 (.ofNat 0))),some (14,true)⟩::⟨some 19,.pick (.t 14) (.t 18) (.c (.bool false)),none⟩::[]))
(.cond (.t 19) .skip (.exit 0)))
(.seq (.block 1 (.reg (⟨some 22,.mov (.t 6),none⟩::⟨some 23,.faddr 1 (.t 3),none⟩::⟨some 24,.load false 1 (.t 23),none⟩::⟨some 25,.load true 1 (.t 2),none⟩::⟨some 26,.callv (.t 24) [(.t 25)],none⟩::⟨some 27,.buildSl 7 1 [(.int .i64 (.ofNat 0)), (.str []), (.str []), .nilsl, (.int .i64 (.ofNat 0)), (.int .u64 (.ofNat 0)), (.int .u64 (.ofNat 0))] [(0, 7, (.t 26))],none⟩::⟨some 28,.append 7 88 (.t 22) (.t 27),none⟩::⟨some 6,.mov (.t 28),none⟩::[])))
(.reg (⟨some 20,.mov (.t 7),none⟩::⟨some 21,.bin .add (.t 20) (.c (.int .u64 (.ofNat 1))),none⟩::⟨some 7,.mov (.t 21),none⟩::[])))))))
(.seq (.reg (⟨some 29,.mov (.t 6),none⟩::⟨some 4,.mov (.t 29),none⟩::[]))
.ret)))))⟩
theorem c43_eq : compFn Try.prog 43 = some c43 := by kernel_rfl
/-- sodality/dump.get[sodality/api.Check] -/
noncomputable def c44 : FnI := ⟨30, [.tmp 4],
(.seq (.reg (⟨some 2,.box (.t 0),none⟩::⟨some 3,.box (.t 1),none⟩::⟨some 4,.mov (.c .nilsl),none⟩::[]))
(.seq (.reg (⟨some 8,.faddr 0 (.t 2),none⟩::⟨some 9,.load false 1 (.t 8),none⟩::⟨some 10,.call 74 [(.t 9), (.c (.int .u64 (.ofNat 64)))],none⟩::⟨some 5,.mov (.t 10),none⟩::[]))
(.seq (.reg (⟨some 6,.mov (.c .nilsl),none⟩::[]))
(.seq (.seq (.reg (⟨some 7,.mov (.c (.int .u64 (.ofNat 0))),none⟩::[]))
(.block 0 (.loop (.seq (.seq (.reg (⟨some 11,.mov (.t 7),none⟩::⟨some 12,.mov (.t 5),none⟩::⟨some 13,.bin .lss (.t 11) (.t 12),none⟩::⟨some 14,.mov (.t 13),none⟩::⟨some 15,.faddr 0 (.t 2),some (14,true)⟩::⟨some 16,.load false 1 (.t 15),some (14,true)⟩::⟨some 17,.call 89 [(.t 16)],some (14,true)⟩::⟨some 18,.bin .eql (.t 17) (.c (.int .i64 (.ofNat 0))),some (14,true)⟩::⟨some 19,.pick (.t 14) (.t 18) (.c (.bool false)),none⟩::[]))
(.cond (.t 19) .skip (.exit 0)))
(.seq (.block 1 (.reg (⟨some 22,.mov (.t 6),none⟩::⟨some 23,.faddr 1 (.t 3),none⟩::⟨some 24,.load false 1 (.t 23),none⟩::⟨some 25,.load true 1 (.t 2),none⟩::⟨some 26,.callv (.t 24) [(.t 25)],none⟩::⟨some 27,.buildSl 7 1 [(.int .i64 (.ofNat 0)), (.str []), (.str []), (.str []), (.int .i64 (.ofNat 0)), (.int .u64 (.ofNat 0)), (.int .u64 (.ofNat 0))] [(0, 7, (.t 26))],none⟩::⟨some 28,.append 7 80 (.t 22) (.t 27),none⟩::⟨some 6,.mov (.t 28),none⟩::[])))
(.reg (⟨some 20,.mov (.t 7),none⟩::⟨some 21,.bin .add (.t 20) (.c (.int .u64 (.ofNat 1))),none⟩::⟨some 7,.mov (.t 21),none⟩::[])))))))
(.seq (.reg (⟨some 29,.mov (.t 6),none⟩::⟨some 4,.mov (.t 29),none⟩::[]))
.ret)))))⟩
theorem c44_eq : compFn Try.prog 44 = some c44 := by kernel_rfl
/-- sodality/dump.get[sodality/api.Intention] -/
noncomputable def c45 : FnI := ⟨30, [.tmp 4],
(.seq (.reg (⟨some 2,.box (.t 0),none⟩::⟨some 3,.box (.t 1),none⟩::⟨some 4,.mov (.c .nilsl),none⟩::[]))
(.seq (.reg (⟨some 8,.faddr 0 (.t 2),none⟩::⟨some 9,.load false 1 (.t 8),none⟩::⟨some 10,.call 74 [(.t 9), (.c (.int .u64 (.ofNat 64)))],none⟩::⟨some 5,.mov (.t 10),none⟩::[]))
(.seq (.reg (⟨some 6,.mov (.c .nilsl),none⟩::[]))
(.seq (.seq (.reg (⟨some 7,.mov (.c (.int .u64 (.ofNat 0))),none⟩::[]))
(.block 0 (.loop (.seq (.seq (.reg (⟨some 11,.mov (.t 7),none⟩::⟨some 12,.mov (.t 5),none⟩::⟨some 13,.bin .lss (.t 11) (.t 12),none⟩::⟨some 14,.mov (.t 13),none⟩::⟨some 15,.faddr 0 (.t 2),some (14,true)⟩::⟨some 16,.load false 1 (.t 15),some (14,true)⟩::⟨some 17,.call 89 [(.t 16)],some (14,true)⟩::⟨some 18,.bin .eql (.t 17) (.c (.int .i64 (.ofNat 0))),some (14,true)⟩::⟨some 19,.pick (.t 14) (.t 18) (.c (.bool false)),none⟩::[]))
(.cond (.t 19) .skip (.exit 0)))
(.seq (.block 1 (.reg (⟨some 22,.mov (.t 6),none⟩::⟨some 23,.faddr 1 (.t 3),none⟩::⟨some 24,.load false 1 (.t 23),none⟩::⟨some 25,.load true 1 (.t 2),none⟩::⟨some 26,.callv (.t 24) [(.t 25)],none⟩::⟨some 27,.buildSl 5 1 [(.str []), (.str []), (.bool false), (.int .u64 (.ofNat 0)), (.int .u64 (.ofNat 0))] [(0, 5, (.t 26))],none⟩::⟨some 28,.append 5 56 (.t 22) (.t 27),none⟩::⟨some 6,.mov (.t 28),none⟩::[])))
(.reg (⟨some 20,.mov (.t 7),none⟩::⟨some 21,.bin .add (.t 20) (.c (.int .u64 (.ofNat 1))),none⟩::⟨some 7,.mov (.t 21),none⟩::[])))))))
(.seq (.reg (⟨some 29,.mov (.t 6),none⟩::⟨some 4,.mov (.t 29),none⟩::[]))
.ret)))))⟩
theorem c45_eq : compFn Try.prog 45 = some c45 := by kernel_rfl
/-- sodality/dump.get[sodality/api.Entry] -/
noncomputable def c46 : FnI := ⟨30, [.tmp 4],
(.seq (.reg (⟨some 2,.box (.t 0),none⟩::⟨some 3,.box (.t 1),none⟩::⟨some 4,.mov (.c .nilsl),none⟩::[]))
(.seq (.reg (⟨some 8,.faddr 0 (.t 2),none⟩::⟨some 9,.load false 1 (.t 8),none⟩::⟨some 10,.call 74 [(.t 9), (.c (.int .u64 (.ofNat 64)))],none⟩::⟨some 5,.mov (.t 10),none⟩::[]))
(.seq (.reg (⟨some 6,.mov (.c .nilsl),none⟩::[]))
(.seq (.seq (.reg (⟨some 7,.mov (.c (.int .u64 (.ofNat 0))),none⟩::[]))
(.block 0 (.loop (.seq (.seq (.reg (⟨some 11,.mov (.t 7),none⟩::⟨some 12,.mov (.t 5),none⟩::⟨some 13,.bin .lss (.t 11) (.t 12),none⟩::⟨some 14,.mov (.t 13),none⟩::⟨some 15,.faddr 0 (.t 2),some (14,true)⟩::⟨some 16,.load false 1 (.t 15),some (14,true)⟩::⟨some 17,.call 89 [(.t 16)],some (14,true)⟩::⟨some 18,.bin .eql (.t 17) (.c (.int .i64 (.ofNat 0))),some (14,true)⟩::⟨some 19,.pick (.t 14) (.t 18) (.c (.bool false)),none⟩::[]))
(.cond (.t 19) .skip (.exit 0)))
(.seq (.block 1 (.reg (⟨some 22,.mov (.t 6),none⟩::⟨some 23,.faddr 1 (.t 3),none⟩::⟨some 24,.load false 1 (.t 23),none⟩::⟨some 25,.load true 1 (.t 2),none⟩::⟨some 26,.callv (.t 24) [(.t 25)],none⟩::⟨some 27,.buildSl 6 1 [(.str []), (.str []), (.int .u64 (.ofNat 0)), (.int .u64 (.ofNat 0)), (.int .u64 (.ofNat 0)), (.int .u64 (.ofNat 0))] [(0, 6, (.t 26))],none⟩::⟨some 28,.append 6 64 (.t 22) (.t 27),none⟩::⟨some 6,.mov (.t 28),none⟩::[])))
(.reg (⟨some 20,.mov (.t 7),none⟩::⟨some 21,.bin .add (.t 20) (.c (.int .u64 (.ofNat 1))),none⟩::⟨some 7,.mov (.t 21),none⟩::[])))))))
(.seq (.reg (⟨some 29,.mov (.t 6),none⟩::⟨some 4,.mov (.t 29),none⟩::[]))
.ret)))))⟩
theorem c46_eq : compFn Try.prog 46 = some c46 := by kernel_rfl
/-- sodality/dump.get[sodality/api.Session] -/
noncomputable def c47 : FnI := ⟨30, [.tmp 4],
(.seq (.reg (⟨some 2,.box (.t 0),none⟩::⟨some 3,.box (.t 1),none⟩::⟨some 4,.mov (.c .nilsl),none⟩::[]))
(.seq (.reg (⟨some 8,.faddr 0 (.t 2),none⟩::⟨some 9,.load false 1 (.t 8),none⟩::⟨some 10,.call 74 [(.t 9), (.c (.int .u64 (.ofNat 64)))],none⟩::⟨some 5,.mov (.t 10),none⟩::[]))
(.seq (.reg (⟨some 6,.mov (.c .nilsl),none⟩::[]))
(.seq (.seq (.reg (⟨some 7,.mov (.c (.int .u64 (.ofNat 0))),none⟩::[]))
(.block 0 (.loop (.seq (.seq (.reg (⟨some 11,.mov (.t 7),none⟩::⟨some 12,.mov (.t 5),none⟩::⟨some 13,.bin .lss (.t 11) (.t 12),none⟩::⟨some 14,.mov (.t 13),none⟩::⟨some 15,.faddr 0 (.t 2),some (14,true)⟩::⟨some 16,.load false 1 (.t 15),some (14,true)⟩::⟨some 17,.call 89 [(.t 16)],some (14,true)⟩::⟨some 18,.bin .eql (.t 17) (.c (.int .i64 (.ofNat 0))),some (14,true)⟩::⟨some 19,.pick (.t 14) (.t 18) (.c (.bool false)),none⟩::[]))
(.cond (.t 19) .skip (.exit 0)))
(.seq (.block 1 (.reg (⟨some 22,.mov (.t 6),none⟩::⟨some 23,.faddr 1 (.t 3),none⟩::⟨some 24,.load false 1 (.t 23),none⟩::⟨some 25,.load true 1 (.t 2),none⟩::⟨some 26,.callv (.t 24) [(.t 25)],none⟩::⟨some 27,.buildSl 4 1 [(.int .u64 (.ofNat 0)), (.int .i64 (.ofNat 0)), (.int .u64 (.ofNat 0)), (.int .u64 (.ofNat 0))] [(0, 4, (.t 26))],none⟩::⟨some 28,.append 4 32 (.t 22) (.t 27),none⟩::⟨some 6,.mov (.t 28),none⟩::[])))
(.reg (⟨some 20,.mov (.t 7),none⟩::⟨some 21,.bin .add (.t 20) (.c (.int .u64 (.ofNat 1))),none⟩::⟨some 7,.mov (.t 21),none⟩::[])))))))
(.seq (.reg (⟨some 29,.mov (.t 6),none⟩::⟨some 4,.mov (.t 29),none⟩::[]))
.ret)))))⟩
theorem c47_eq : compFn Try.prog 47 = some c47 := by kernel_rfl
/-- sodality/dump.get[sodality/api.Seen] -/
noncomputable def c48 : FnI := ⟨30, [.tmp 4],
(.seq (.reg (⟨some 2,.box (.t 0),none⟩::⟨some 3,.box (.t 1),none⟩::⟨some 4,.mov (.c .nilsl),none⟩::[]))
(.seq (.reg (⟨some 8,.faddr 0 (.t 2),none⟩::⟨some 9,.load false 1 (.t 8),none⟩::⟨some 10,.call 74 [(.t 9), (.c (.int .u64 (.ofNat 64)))],none⟩::⟨some 5,.mov (.t 10),none⟩::[]))
(.seq (.reg (⟨some 6,.mov (.c .nilsl),none⟩::[]))
(.seq (.seq (.reg (⟨some 7,.mov (.c (.int .u64 (.ofNat 0))),none⟩::[]))
(.block 0 (.loop (.seq (.seq (.reg (⟨some 11,.mov (.t 7),none⟩::⟨some 12,.mov (.t 5),none⟩::⟨some 13,.bin .lss (.t 11) (.t 12),none⟩::⟨some 14,.mov (.t 13),none⟩::⟨some 15,.faddr 0 (.t 2),some (14,true)⟩::⟨some 16,.load false 1 (.t 15),some (14,true)⟩::⟨some 17,.call 89 [(.t 16)],some (14,true)⟩::⟨some 18,.bin .eql (.t 17) (.c (.int .i64 (.ofNat 0))),some (14,true)⟩::⟨some 19,.pick (.t 14) (.t 18) (.c (.bool false)),none⟩::[]))
(.cond (.t 19) .skip (.exit 0)))
(.seq (.block 1 (.reg (⟨some 22,.mov (.t 6),none⟩::⟨some 23,.faddr 1 (.t 3),none⟩::⟨some 24,.load false 1 (.t 23),none⟩::⟨some 25,.load true 1 (.t 2),none⟩::⟨some 26,.callv (.t 24) [(.t 25)],none⟩::⟨some 27,.buildSl 3 1 [(.int .i64 (.ofNat 0)), (.int .u32 (.ofNat 0)), (.int .u64 (.ofNat 0))] [(0, 3, (.t 26))],none⟩::⟨some 28,.append 3 24 (.t 22) (.t 27),none⟩::⟨some 6,.mov (.t 28),none⟩::[])))
(.reg (⟨some 20,.mov (.t 7),none⟩::⟨some 21,.bin .add (.t 20) (.c (.int .u64 (.ofNat 1))),none⟩::⟨some 7,.mov (.t 21),none⟩::[])))))))
(.seq (.reg (⟨some 29,.mov (.t 6),none⟩::⟨some 4,.mov (.t 29),none⟩::[]))
.ret)))))⟩
theorem c48_eq : compFn Try.prog 48 = some c48 := by kernel_rfl
/-- (*sodality/field.Reader).Done -/
noncomputable def c49 : FnI := ⟨18, [.tmp 2],
(.seq (.reg (⟨some 2,.mov (.c (.int .i64 (.ofNat 0))),none⟩::[]))
(.seq (.reg (⟨some 6,.mov (.t 0),none⟩::⟨some 7,.mkfn 90 [(.t 6)] [],none⟩::⟨some 8,.mov (.t 0),none⟩::⟨some 9,.mkfn 89 [(.t 8)] [],none⟩::⟨some 3,.mov (.t 7),none⟩::⟨some 4,.mov (.t 9),none⟩::[]))
(.seq (.seq (.reg (⟨some 10,.mov (.t 4),none⟩::⟨some 11,.callv (.t 10) [],none⟩::⟨some 5,.mov (.t 11),none⟩::[]))
(.seq (.reg (⟨some 12,.mov (.t 5),none⟩::⟨some 13,.bin .neq (.t 12) (.c (.int .i64 (.ofNat 0))),none⟩::[]))
(.cond (.t 13) (.seq (.reg (⟨some 14,.mov (.t 5),none⟩::⟨some 2,.mov (.t 14),none⟩::[]))
.ret) .skip)))
(.seq (.seq (.reg (⟨some 15,.mov (.t 3),none⟩::⟨some 16,.callv (.t 15) [],none⟩::⟨some 17,.bin .gtr (.t 16) (.c (.int .i64 (.ofNat 0))),none⟩::[]))
(.cond (.t 17) (.seq (.reg (⟨some 2,.mov (.c (.int .i64 (.ofNat 41))),none⟩::[]))
.ret) .skip))
(.seq (.reg (⟨some 2,.mov (.c (.int .i64 (.ofNat 0))),none⟩::[]))
.ret)))))⟩
theorem c49_eq : compFn Try.prog 49 = some c49 := by kernel_rfl
/-- (*sodality/sodalityref04.Reader).Num -/
noncomputable def c50 : FnI := ⟨45, [.tmp 4],
(.seq (.reg (⟨some 4,.mov (.c (.int .u64 (.ofNat 0))),none⟩::[]))
(.seq (.seq (.reg (⟨some 8,.mov (.t 0),none⟩::⟨some 9,.nilchk (.t 8),none⟩::⟨some 10,.faddr 1 (.t 9),none⟩::⟨some 11,.load false 1 (.t 10),none⟩::⟨some 12,.bin .neq (.t 11) (.c (.int .i64 (.ofNat 0))),none⟩::[]))
(.cond (.t 12) (.seq (.reg (⟨some 4,.mov (.c (.int .u64 (.ofNat 0))),none⟩::[]))
.ret) .skip))
(.seq (.reg (⟨some 14,.mov (.t 0),none⟩::⟨some 15,.nilchk (.t 14),none⟩::⟨some 16,.faddr 0 (.t 15),none⟩::⟨some 17,.load false 1 (.t 16),none⟩::⟨some 18,.call 91 [(.t 17)],none⟩::⟨some 13,.mov (.t 18),none⟩::⟨some 19,.extract (.t 13) 0,none⟩::⟨some 20,.extract (.t 13) 1,none⟩::⟨some 21,.extract (.t 13) 2,none⟩::⟨some 5,.mov (.t 19),none⟩::⟨some 6,.mov (.t 20),none⟩::⟨some 7,.mov (.t 21),none⟩::[]))
(.seq (.seq (.reg (⟨some 22,.mov (.t 7),none⟩::⟨some 23,.bin .eql (.t 22) (.c (.int .i64 (.ofNat 0))),none⟩::⟨some 24,.mov (.t 23),none⟩::⟨some 25,.mov (.t 5),some (24,true)⟩::⟨some 26,.mov (.t 1),some (24,true)⟩::⟨some 27,.bin .gtr (.t 25) (.t 26),some (24,true)⟩::⟨some 28,.pick (.t 24) (.t 27) (.c (.bool false)),none⟩::[]))
(.cond (.t 28) (.reg (⟨some 7,.mov (.c (.int .i64 (.ofNat 3))),none⟩::[])) .skip))
(.seq (.seq (.reg (⟨some 29,.mov (.t 7),none⟩::⟨some 30,.bin .neq (.t 29) (.c (.int .i64 (.ofNat 0))),none⟩::[]))
(.cond (.t 30) (.seq (.reg (⟨some 31,.mov (.t 0),none⟩::⟨some 32,.mov (.t 7),none⟩::⟨some 33,.nilchk (.t 31),none⟩::⟨some 34,.faddr 1 (.t 33),none⟩::⟨none,.store 1 (.t 34) (.t 32),none⟩::[]))
(.seq (.reg (⟨some 4,.mov (.c (.int .u64 (.ofNat 0))),none⟩::[]))
.ret)) .skip))
(.seq (.reg (⟨some 35,.mov (.t 0),none⟩::⟨some 36,.mov (.t 0),none⟩::⟨some 37,.nilchk (.t 36),none⟩::⟨some 38,.faddr 0 (.t 37),none⟩::⟨some 39,.load false 1 (.t 38),none⟩::⟨some 40,.mov (.t 6),none⟩::⟨some 41,.slS 1 (.t 39) (some (.t 40)) none none,none⟩::⟨some 42,.nilchk (.t 35),none⟩::⟨some 43,.faddr 0 (.t 42),none⟩::⟨none,.store 1 (.t 43) (.t 41),none⟩::[]))
(.seq (.reg (⟨some 44,.mov (.t 5),none⟩::⟨some 4,.mov (.t 44),none⟩::[]))
.ret)))))))⟩
theorem c50_eq : compFn Try.prog 50 = some c50 := by kernel_rfl
/-- (*sodality/sodalityref04.Reader).Text -/
noncomputable def c51 : FnI := ⟨77, [.tmp 4],
(.seq (.reg (⟨some 4,.mov (.c (.str [])),none⟩::[]))
(.seq (.seq (.reg (⟨some 9,.mov (.t 0),none⟩::⟨some 10,.nilchk (.t 9),none⟩::⟨some 11,.faddr 1 (.t 10),none⟩::⟨some 12,.load false 1 (.t 11),none⟩::⟨some 13,.bin .neq (.t 12) (.c (.int .i64 (.ofNat 0))),none⟩::[]))
(.cond (.t 13) (.seq (.reg (⟨some 4,.mov (.c (.str [])),none⟩::[]))
.ret) .skip))
(.seq (.seq (.reg (⟨some 14,.mov (.t 1),none⟩::⟨some 15,.bin .lss (.t 14) (.c (.int .i64 (.ofNat 0))),none⟩::[]))
(.cond (.t 15) (.reg (⟨some 1,.mov (.c (.int .i64 (.ofNat 0))),none⟩::[])) .skip))
(.seq (.reg (⟨some 17,.mov (.t 0),none⟩::⟨some 18,.nilchk (.t 17),none⟩::⟨some 19,.faddr 0 (.t 18),none⟩::⟨some 20,.load false 1 (.t 19),none⟩::⟨some 21,.call 91 [(.t 20)],none⟩::⟨some 16,.mov (.t 21),none⟩::⟨some 22,.extract (.t 16) 0,none⟩::⟨some 23,.extract (.t 16) 1,none⟩::⟨some 24,.extract (.t 16) 2,none⟩::⟨some 5,.mov (.t 22),none⟩::⟨some 6,.mov (.t 23),none⟩::⟨some 7,.mov (.t 24),none⟩::[]))
(.seq (.seq (.reg (⟨some 25,.mov (.t 7),none⟩::⟨some 26,.bin .eql (.t 25) (.c (.int .i64 (.ofNat 0))),none⟩::⟨some 27,.mov (.t 26),none⟩::⟨some 28,.mov (.t 5),some (27,true)⟩::⟨some 29,.mov (.t 1),some (27,true)⟩::⟨some 30,.cvInt .u64 (.t 29),some (27,true)⟩::⟨some 31,.bin .gtr (.t 28) (.t 30),some (27,true)⟩::⟨some 32,.pick (.t 27) (.t 31) (.c (.bool false)),none⟩::[]))
(.cond (.t 32) (.reg (⟨some 7,.mov (.c (.int .i64 (.ofNat 3))),none⟩::[])) .skip))
(.seq (.seq (.reg (⟨some 33,.mov (.t 7),none⟩::⟨some 34,.bin .eql (.t 33) (.c (.int .i64 (.ofNat 0))),none⟩::⟨some 35,.mov (.t 34),none⟩::⟨some 36,.mov (.t 5),some (35,true)⟩::⟨some 37,.mov (.t 0),some (35,true)⟩::⟨some 38,.nilchk (.t 37),some (35,true)⟩::⟨some 39,.faddr 0 (.t 38),some (35,true)⟩::⟨some 40,.load false 1 (.t 39),some (35,true)⟩::⟨some 41,.len false (.t 40),some (35,true)⟩::⟨some 42,.mov (.t 6),some (35,true)⟩::⟨some 43,.bin .sub (.t 41) (.t 42),some (35,true)⟩::⟨some 44,.cvInt .u64 (.t 43),some (35,true)⟩::⟨some 45,.bin .gtr (.t 36) (.t 44),some (35,true)⟩::⟨some 46,.pick (.t 35) (.t 45) (.c (.bool false)),none⟩::[]))
(.cond (.t 46) (.reg (⟨some 7,.mov (.c (.int .i64 (.ofNat 30))),none⟩::[])) .skip))
(.seq (.seq (.reg (⟨some 47,.mov (.t 7),none⟩::⟨some 48,.bin .neq (.t 47) (.c (.int .i64 (.ofNat 0))),none⟩::[]))
(.cond (.t 48) (.seq (.reg (⟨some 49,.mov (.t 0),none⟩::⟨some 50,.mov (.t 7),none⟩::⟨some 51,.nilchk (.t 49),none⟩::⟨some 52,.faddr 1 (.t 51),none⟩::⟨none,.store 1 (.t 52) (.t 50),none⟩::[]))
(.seq (.reg (⟨some 4,.mov (.c (.str [])),none⟩::[]))
.ret)) .skip))
(.seq (.reg (⟨some 53,.mov (.t 0),none⟩::⟨some 54,.nilchk (.t 53),none⟩::⟨some 55,.faddr 0 (.t 54),none⟩::⟨some 56,.load false 1 (.t 55),none⟩::⟨some 57,.mov (.t 6),none⟩::⟨some 58,.mov (.t 6),none⟩::⟨some 59,.mov (.t 5),none⟩::⟨some 60,.cvInt .i64 (.t 59),none⟩::⟨some 61,.bin .add (.t 58) (.t 60),none⟩::⟨some 62,.slS 1 (.t 56) (some (.t 57)) (some (.t 61)) none,none⟩::⟨some 63,.cvStr (.t 62),none⟩::⟨some 8,.mov (.t 63),none⟩::[]))
(.seq (.reg (⟨some 64,.mov (.t 0),none⟩::⟨some 65,.mov (.t 0),none⟩::⟨some 66,.nilchk (.t 65),none⟩::⟨some 67,.faddr 0 (.t 66),none⟩::⟨some 68,.load false 1 (.t 67),none⟩::⟨some 69,.mov (.t 6),none⟩::⟨some 70,.mov (.t 5),none⟩::⟨some 71,.cvInt .i64 (.t 70),none⟩::⟨some 72,.bin .add (.t 69) (.t 71),none⟩::⟨some 73,.slS 1 (.t 68) (some (.t 72)) none none,none⟩::⟨some 74,.nilchk (.t 64),none⟩::⟨some 75,.faddr 0 (.t 74),none⟩::⟨none,.store 1 (.t 75) (.t 73),none⟩::[]))
(.seq (.reg (⟨some 76,.mov (.t 8),none⟩::⟨some 4,.mov (.t 76),none⟩::[]))
.ret))))))))))⟩
theorem c51_eq : compFn Try.prog 51 = some c51 := by kernel_rfl
/-- (*sodality/sodalityref04.Reader).Texts -/
noncomputable def c52 : FnI := ⟨40, [.tmp 6],
(.seq (.reg (⟨some 6,.mov (.c .nilsl),none⟩::[]))
(.seq (.seq (.reg (⟨some 10,.mov (.t 1),none⟩::⟨some 11,.bin .lss (.t 10) (.c (.int .i64 (.ofNat 0))),none⟩::[]))
(.cond (.t 11) (.reg (⟨some 1,.mov (.c (.int .i64 (.ofNat 0))),none⟩::[])) .skip))
(.seq (.reg (⟨some 12,.mov (.t 0),none⟩::⟨some 13,.mov (.t 1),none⟩::⟨some 14,.cvInt .u64 (.t 13),none⟩::⟨some 15,.call 50 [(.t 12), (.t 14)],none⟩::⟨some 7,.mov (.t 15),none⟩::[]))
(.seq (.reg (⟨some 8,.mov (.c .nilsl),none⟩::[]))
(.seq (.seq (.reg (⟨some 9,.mov (.c (.int .u64 (.ofNat 0))),none⟩::[]))
(.block 0 (.loop (.seq (.seq (.reg (⟨some 16,.mov (.t 9),none⟩::⟨some 17,.mov (.t 7),none⟩::⟨some 18,.bin .lss (.t 16) (.t 17),none⟩::⟨some 19,.mov (.t 18),none⟩::⟨some 20,.mov (.t 0),some (19,true)⟩::⟨some 21,.nilchk (.t 20),some (19,true)⟩::⟨some 22,.faddr 1 (.t 21),some (19,true)⟩::⟨some 23,.load false 1 (.t 22),some (19,true)⟩::⟨some 24,.bin .eql (.t 23) (.c (.int .i64 (.ofNat 0))),some (19,true)⟩::⟨some 25,.pick (.t 19) (.t 24) (.c (.bool false)),none⟩::[]))
(.cond (.t 25) .skip (.exit 0)))
(.seq (.block 1 (.reg (⟨some 28,.mov (.t 8),none⟩::⟨some 29,.mov (.t 0),none⟩::⟨some 30,.mov (.t 2),none⟩::⟨some 31,.call 51 [(.t 29), (.t 30)],none⟩::⟨some 32,.buildSl 1 1 [(.str [])] [(0, 1, (.t 31))],none⟩::⟨some 33,.append 1 16 (.t 28) (.t 32),none⟩::⟨some 8,.mov (.t 33),none⟩::[])))
(.reg (⟨some 26,.mov (.t 9),none⟩::⟨some 27,.bin .add (.t 26) (.c (.int .u64 (.ofNat 1))),none⟩::⟨some 9,.mov (.t 27),none⟩::[])))))))
(.seq (.seq (.reg (⟨some 34,.mov (.t 0),none⟩::⟨some 35,.nilchk (.t 34),none⟩::⟨some 36,.faddr 1 (.t 35),none⟩::⟨some 37,.load false 1 (.t 36),none⟩::⟨some 38,.bin .neq (.t 37) (.c (.int .i64 (.ofNat 0))),none⟩::[]))
(.cond (.t 38) (.seq (.reg (⟨some 6,.mov (.c .nilsl),none⟩::[]))
.ret) .skip))
(.seq (.reg (⟨some 39,.mov (.t 8),none⟩::⟨some 6,.mov (.t 39),none⟩::[]))
.ret)))))))⟩
theorem c52_eq : compFn Try.prog 52 = some c52 := by kernel_rfl
/-- (*sodality/sodalityref04.Reader).Flag -/
noncomputable def c53 : FnI := ⟨43, [.tmp 2],
(.seq (.reg (⟨some 2,.mov (.c (.bool false)),none⟩::[]))
(.seq (.seq (.reg (⟨some 6,.mov (.t 0),none⟩::⟨some 7,.nilchk (.t 6),none⟩::⟨some 8,.faddr 1 (.t 7),none⟩::⟨some 9,.load false 1 (.t 8),none⟩::⟨some 10,.bin .neq (.t 9) (.c (.int .i64 (.ofNat 0))),none⟩::[]))
(.cond (.t 10) (.seq (.reg (⟨some 2,.mov (.c (.bool false)),none⟩::[]))
.ret) .skip))
(.seq (.reg (⟨some 12,.mov (.t 0),none⟩::⟨some 13,.nilchk (.t 12),none⟩::⟨some 14,.faddr 0 (.t 13),none⟩::⟨some 15,.load false 1 (.t 14),none⟩::⟨some 16,.call 91 [(.t 15)],none⟩::⟨some 11,.mov (.t 16),none⟩::⟨some 17,.extract (.t 11) 0,none⟩::⟨some 18,.extract (.t 11) 1,none⟩::⟨some 19,.extract (.t 11) 2,none⟩::⟨some 3,.mov (.t 17),none⟩::⟨some 4,.mov (.t 18),none⟩::⟨some 5,.mov (.t 19),none⟩::[]))
(.seq (.seq (.reg (⟨some 20,.mov (.t 5),none⟩::⟨some 21,.bin .eql (.t 20) (.c (.int .i64 (.ofNat 0))),none⟩::⟨some 22,.mov (.t 21),none⟩::⟨some 23,.mov (.t 3),some (22,true)⟩::⟨some 24,.bin .gtr (.t 23) (.c (.int .u64 (.ofNat 1))),some (22,true)⟩::⟨some 25,.pick (.t 22) (.t 24) (.c (.bool false)),none⟩::[]))
(.cond (.t 25) (.reg (⟨some 5,.mov (.c (.int .i64 (.ofNat 40))),none⟩::[])) .skip))
(.seq (.seq (.reg (⟨some 26,.mov (.t 5),none⟩::⟨some 27,.bin .neq (.t 26) (.c (.int .i64 (.ofNat 0))),none⟩::[]))
(.cond (.t 27) (.seq (.reg (⟨some 28,.mov (.t 0),none⟩::⟨some 29,.mov (.t 5),none⟩::⟨some 30,.nilchk (.t 28),none⟩::⟨some 31,.faddr 1 (.t 30),none⟩::⟨none,.store 1 (.t 31) (.t 29),none⟩::[]))
(.seq (.reg (⟨some 2,.mov (.c (.bool false)),none⟩::[]))
.ret)) .skip))
(.seq (.reg (⟨some 32,.mov (.t 0),none⟩::⟨some 33,.mov (.t 0),none⟩::⟨some 34,.nilchk (.t 33),none⟩::⟨some 35,.faddr 0 (.t 34),none⟩::⟨some 36,.load false 1 (.t 35),none⟩::⟨some 37,.mov (.t 4),none⟩::⟨some 38,.slS 1 (.t 36) (some (.t 37)) none none,none⟩::⟨some 39,.nilchk (.t 32),none⟩::⟨some 40,.faddr 0 (.t 39),none⟩::⟨none,.store 1 (.t 40) (.t 38),none⟩::[]))
(.seq (.reg (⟨some 41,.mov (.t 3),none⟩::⟨some 42,.bin .eql (.t 41) (.c (.int .u64 (.ofNat 1))),none⟩::⟨some 2,.mov (.t 42),none⟩::[]))
.ret)))))))⟩
theorem c53_eq : compFn Try.prog 53 = some c53 := by kernel_rfl
/-- sodality/sodalityref22.more -/
noncomputable def c54 : FnI := ⟨136, [.cell 4 true 14, .tmp 5],
(.seq (.reg (⟨some 3,.box (.t 1),none⟩::⟨some 4,.alloc [(.int .u64 (.ofNat 0)), .nilsl, .nilsl, .nilsl, .nilsl, .nilsl, .nilsl, (.int .u64 (.ofNat 0)), (.int .u64 (.ofNat 0)), (.int .u64 (.ofNat 0)), (.int .u64 (.ofNat 0)), (.int .u64 (.ofNat 0)), (.int .u64 (.ofNat 0)), .nilsl],none⟩::⟨some 5,.mov (.c (.int .i64 (.ofNat 0))),none⟩::[]))
(.seq (.reg (⟨some 15,.mov (.t 0),none⟩::⟨some 16,.call 50 [(.t 15), (.c (.int .u64 (.ofNat 64)))],none⟩::⟨some 17,.cvInt .i64 (.t 16),none⟩::⟨some 6,.mov (.t 17),none⟩::[]))
(.seq (.seq (.reg (⟨some 7,.mov (.c (.int .i64 (.ofNat 0))),none⟩::[]))
(.block 0 (.loop (.seq (.seq (.reg (⟨some 18,.mov (.t 7),none⟩::⟨some 19,.mov (.t 6),none⟩::⟨some 20,.bin .lss (.t 18) (.t 19),none⟩::⟨some 21,.mov (.t 20),none⟩::⟨some 22,.mov (.t 0),some (21,true)⟩::⟨some 23,.nilchk (.t 22),some (21,true)⟩::⟨some 24,.faddr 1 (.t 23),some (21,true)⟩::⟨some 25,.load false 1 (.t 24),some (21,true)⟩::⟨some 26,.bin .eql (.t 25) (.c (.int .i64 (.ofNat 0))),some (21,true)⟩::⟨some 27,.pick (.t 21) (.t 26) (.c (.bool false)),none⟩::[]))
(.cond (.t 27) .skip (.exit 0)))
(.seq (.block 1 (.seq (.reg (⟨some 8,.alloc [(.str []), (.str []), (.int .u64 (.ofNat 0)), (.int .u64 (.ofNat 0)), (.int .u64 (.ofNat 0)), (.int .u64 (.ofNat 0))],none⟩::[]))
(.seq (.reg (⟨some 30,.mov (.t 0),none⟩::⟨some 31,.call 51 [(.t 30), (.c (.int .i64 (.ofNat 80)))],none⟩::⟨some 32,.faddr 0 (.t 8),none⟩::⟨none,.store 1 (.t 32) (.t 31),none⟩::[]))
(.seq (.reg (⟨some 33,.mov (.t 0),none⟩::⟨some 34,.call 51 [(.t 33), (.c (.int .i64 (.ofNat 80)))],none⟩::⟨some 35,.faddr 1 (.t 8),none⟩::⟨none,.store 1 (.t 35) (.t 34),none⟩::[]))
(.seq (.reg (⟨some 36,.mov (.t 0),none⟩::⟨some 37,.call 50 [(.t 36), (.c (.int .u64 (.ofNat 18446744073709551615)))],none⟩::⟨some 38,.faddr 2 (.t 8),none⟩::⟨none,.store 1 (.t 38) (.t 37),none⟩::[]))
(.seq (.reg (⟨some 39,.mov (.t 0),none⟩::⟨some 40,.call 50 [(.t 39), (.c (.int .u64 (.ofNat 18446744073709551615)))],none⟩::⟨some 41,.faddr 3 (.t 8),none⟩::⟨none,.store 1 (.t 41) (.t 40),none⟩::[]))
(.seq (.reg (⟨some 42,.mov (.t 0),none⟩::⟨some 43,.call 50 [(.t 42), (.c (.int .u64 (.ofNat 18446744073709551615)))],none⟩::⟨some 44,.faddr 4 (.t 8),none⟩::⟨none,.store 1 (.t 44) (.t 43),none⟩::[]))
(.seq (.reg (⟨some 45,.mov (.t 0),none⟩::⟨some 46,.call 50 [(.t 45), (.c (.int .u64 (.ofNat 18446744073709551615)))],none⟩::⟨some 47,.faddr 5 (.t 8),none⟩::⟨none,.store 1 (.t 47) (.t 46),none⟩::[]))
(.reg (⟨some 48,.faddr 5 (.t 3),none⟩::⟨some 49,.load false 1 (.t 48),none⟩::⟨some 50,.load true 6 (.t 8),none⟩::⟨some 51,.buildSl 6 1 [(.str []), (.str []), (.int .u64 (.ofNat 0)), (.int .u64 (.ofNat 0)), (.int .u64 (.ofNat 0)), (.int .u64 (.ofNat 0))] [(0, 6, (.t 50))],none⟩::⟨some 52,.append 6 64 (.t 49) (.t 51),none⟩::⟨some 53,.faddr 5 (.t 3),none⟩::⟨none,.store 1 (.t 53) (.t 52),none⟩::[]))))))))))
(.reg (⟨some 28,.mov (.t 7),none⟩::⟨some 29,.bin .add (.t 28) (.c (.int .i64 (.ofNat 1))),none⟩::⟨some 7,.mov (.t 29),none⟩::[])))))))
(.seq (.reg (⟨some 54,.mov (.t 0),none⟩::⟨some 55,.call 50 [(.t 54), (.c (.int .u64 (.ofNat 64)))],none⟩::⟨some 56,.cvInt .i64 (.t 55),none⟩::⟨some 6,.mov (.t 56),none⟩::[]))
(.seq (.seq (.reg (⟨some 9,.mov (.c (.int .i64 (.ofNat 0))),none⟩::[]))
(.block 2 (.loop (.seq (.seq (.reg (⟨some 57,.mov (.t 9),none⟩::⟨some 58,.mov (.t 6),none⟩::⟨some 59,.bin .lss (.t 57) (.t 58),none⟩::⟨some 60,.mov (.t 59),none⟩::⟨some 61,.mov (.t 0),some (60,true)⟩::⟨some 62,.nilchk (.t 61),some (60,true)⟩::⟨some 63,.faddr 1 (.t 62),some (60,true)⟩::⟨some 64,.load false 1 (.t 63),some (60,true)⟩::⟨some 65,.bin .eql (.t 64) (.c (.int .i64 (.ofNat 0))),some (60,true)⟩::⟨some 66,.pick (.t 60) (.t 65) (.c (.bool false)),none⟩::[]))
(.cond (.t 66) .skip (.exit 2)))
(.seq (.block 3 (.seq (.reg (⟨some 10,.alloc [(.int .u64 (.ofNat 0)), (.int .i64 (.ofNat 0)), (.int .u64 (.ofNat 0)), (.int .u64 (.ofNat 0))],none⟩::[]))
(.seq (.reg (⟨some 69,.mov (.t 0),none⟩::⟨some 70,.call 50 [(.t 69), (.c (.int .u64 (.ofNat 18446744073709551615)))],none⟩::⟨some 71,.faddr 0 (.t 10),none⟩::⟨none,.store 1 (.t 71) (.t 70),none⟩::[]))
(.seq (.reg (⟨some 72,.mov (.t 0),none⟩::⟨some 73,.call 50 [(.t 72), (.c (.int .u64 (.ofNat 255)))],none⟩::⟨some 74,.cvInt .i64 (.t 73),none⟩::⟨some 75,.faddr 1 (.t 10),none⟩::⟨none,.store 1 (.t 75) (.t 74),none⟩::[]))
(.seq (.reg (⟨some 76,.mov (.t 0),none⟩::⟨some 77,.call 50 [(.t 76), (.c (.int .u64 (.ofNat 18446744073709551615)))],none⟩::⟨some 78,.faddr 2 (.t 10),none⟩::⟨none,.store 1 (.t 78) (.t 77),none⟩::[]))
(.seq (.reg (⟨some 79,.mov (.t 0),none⟩::⟨some 80,.call 50 [(.t 79), (.c (.int .u64 (.ofNat 18446744073709551615)))],none⟩::⟨some 81,.faddr 3 (.t 10),none⟩::⟨none,.store 1 (.t 81) (.t 80),none⟩::[]))
(.reg (⟨some 82,.faddr 6 (.t 3),none⟩::⟨some 83,.load false 1 (.t 82),none⟩::⟨some 84,.load true 4 (.t 10),none⟩::⟨some 85,.buildSl 4 1 [(.int .u64 (.ofNat 0)), (.int .i64 (.ofNat 0)), (.int .u64 (.ofNat 0)), (.int .u64 (.ofNat 0))] [(0, 4, (.t 84))],none⟩::⟨some 86,.append 4 32 (.t 83) (.t 85),none⟩::⟨some 87,.faddr 6 (.t 3),none⟩::⟨none,.store 1 (.t 87) (.t 86),none⟩::[]))))))))
(.reg (⟨some 67,.mov (.t 9),none⟩::⟨some 68,.bin .add (.t 67) (.c (.int .i64 (.ofNat 1))),none⟩::⟨some 9,.mov (.t 68),none⟩::[])))))))
(.seq (.seq (.reg (⟨some 11,.mov (.c (.int .i64 (.ofNat 0))),none⟩::[]))
(.block 4 (.loop (.seq (.seq (.reg (⟨some 88,.mov (.t 11),none⟩::⟨some 89,.bin .lss (.t 88) (.c (.int .i64 (.ofNat 6))),none⟩::[]))
(.cond (.t 89) .skip (.exit 4)))
(.seq (.block 5 (.reg (⟨some 92,.mov (.t 11),none⟩::⟨some 93,.mov (.t 0),none⟩::⟨some 94,.call 50 [(.t 93), (.c (.int .u64 (.ofNat 18446744073709551615)))],none⟩::⟨some 95,.faddr 7 (.t 3),none⟩::⟨some 96,.idxA 6 1 (.t 95) (.t 92),none⟩::⟨none,.store 1 (.t 96) (.t 94),none⟩::[])))
(.reg (⟨some 90,.mov (.t 11),none⟩::⟨some 91,.bin .add (.t 90) (.c (.int .i64 (.ofNat 1))),none⟩::⟨some 11,.mov (.t 91),none⟩::[])))))))
(.seq (.reg (⟨some 97,.mov (.t 0),none⟩::⟨some 98,.call 50 [(.t 97), (.c (.int .u64 (.ofNat 64)))],none⟩::⟨some 99,.cvInt .i64 (.t 98),none⟩::⟨some 6,.mov (.t 99),none⟩::[]))
(.seq (.seq (.reg (⟨some 12,.mov (.c (.int .i64 (.ofNat 0))),none⟩::[]))
(.block 6 (.loop (.seq (.seq (.reg (⟨some 100,.mov (.t 12),none⟩::⟨some 101,.mov (.t 6),none⟩::⟨some 102,.bin .lss (.t 100) (.t 101),none⟩::⟨some 103,.mov (.t 102),none⟩::⟨some 104,.mov (.t 0),some (103,true)⟩::⟨some 105,.nilchk (.t 104),some (103,true)⟩::⟨some 106,.faddr 1 (.t 105),some (103,true)⟩::⟨some 107,.load false 1 (.t 106),some (103,true)⟩::⟨some 108,.bin .eql (.t 107) (.c (.int .i64 (.ofNat 0))),some (103,true)⟩::⟨some 109,.pick (.t 103) (.t 108) (.c (.bool false)),none⟩::[]))
(.cond (.t 109) .skip (.exit 6)))
(.seq (.block 7 (.seq (.reg (⟨some 13,.alloc [(.int .i64 (.ofNat 0)), (.int .u32 (.ofNat 0)), (.int .u64 (.ofNat 0))],none⟩::[]))
(.seq (.reg (⟨some 112,.mov (.t 0),none⟩::⟨some 113,.call 50 [(.t 112), (.c (.int .u64 (.ofNat 255)))],none⟩::⟨some 114,.cvInt .i64 (.t 113),none⟩::⟨some 115,.faddr 0 (.t 13),none⟩::⟨none,.store 1 (.t 115) (.t 114),none⟩::[]))
(.seq (.reg (⟨some 116,.mov (.t 0),none⟩::⟨some 117,.call 50 [(.t 116), (.c (.int .u64 (.ofNat 4294967295)))],none⟩::⟨some 118,.cvInt .u32 (.t 117),none⟩::⟨some 119,.faddr 1 (.t 13),none⟩::⟨none,.store 1 (.t 119) (.t 118),none⟩::[]))
(.seq (.reg (⟨some 120,.mov (.t 0),none⟩::⟨some 121,.call 50 [(.t 120), (.c (.int .u64 (.ofNat 18446744073709551615)))],none⟩::⟨some 122,.faddr 2 (.t 13),none⟩::⟨none,.store 1 (.t 122) (.t 121),none⟩::[]))
(.reg (⟨some 123,.faddr 13 (.t 3),none⟩::⟨some 124,.load false 1 (.t 123),none⟩::⟨some 125,.load true 3 (.t 13),none⟩::⟨some 126,.buildSl 3 1 [(.int .i64 (.ofNat 0)), (.int .u32 (.ofNat 0)), (.int .u64 (.ofNat 0))] [(0, 3, (.t 125))],none⟩::⟨some 127,.append 3 24 (.t 124) (.t 126),none⟩::⟨some 128,.faddr 13 (.t 3),none⟩::⟨none,.store 1 (.t 128) (.t 127),none⟩::[])))))))
(.reg (⟨some 110,.mov (.t 12),none⟩::⟨some 111,.bin .add (.t 110) (.c (.int .i64 (.ofNat 1))),none⟩::⟨some 12,.mov (.t 111),none⟩::[])))))))
(.seq (.reg (⟨some 129,.mov (.t 0),none⟩::⟨some 130,.call 92 [(.t 129)],none⟩::⟨some 14,.mov (.t 130),none⟩::[]))
(.seq (.seq (.reg (⟨some 131,.mov (.t 14),none⟩::⟨some 132,.bin .neq (.t 131) (.c (.int .i64 (.ofNat 0))),none⟩::[]))
(.cond (.t 132) (.seq (.reg (⟨some 133,.build [(.int .u64 (.ofNat 0)), .nilsl, .nilsl, .nilsl, .nilsl, .nilsl, .nilsl, (.int .u64 (.ofNat 0)), (.int .u64 (.ofNat 0)), (.int .u64 (.ofNat 0)), (.int .u64 (.ofNat 0)), (.int .u64 (.ofNat 0)), (.int .u64 (.ofNat 0)), .nilsl] [],none⟩::⟨some 134,.mov (.t 14),none⟩::⟨none,.store 14 (.t 4) (.t 133),none⟩::⟨some 5,.mov (.t 134),none⟩::[]))
.ret) .skip))
(.seq (.reg (⟨some 135,.load true 14 (.t 3),none⟩::⟨none,.store 14 (.t 4) (.t 135),none⟩::⟨some 5,.mov (.c (.int .i64 (.ofNat 0))),none⟩::[]))
.ret)))))))))))⟩
theorem c54_eq : compFn Try.prog 54 = some c54 := by kernel_rfl
/-- sodality/sodalityref19.SameNodes -/
noncomputable def c55 : FnI := ⟨26, [.tmp 4],
(.seq (.reg (⟨some 4,.mov (.c (.bool false)),none⟩::[]))
(.seq (.seq (.reg (⟨some 6,.mov (.t 0),none⟩::⟨some 7,.len false (.t 6),none⟩::⟨some 8,.mov (.t 1),none⟩::⟨some 9,.len false (.t 8),none⟩::⟨some 10,.bin .neq (.t 7) (.t 9),none⟩::[]))
(.cond (.t 10) (.seq (.reg (⟨some 4,.mov (.c (.bool false)),none⟩::[]))
.ret) .skip))
(.seq (.seq (.reg (⟨some 5,.mov (.c (.int .i64 (.ofNat 0))),none⟩::[]))
(.block 0 (.loop (.seq (.seq (.reg (⟨some 11,.mov (.t 5),none⟩::⟨some 12,.mov (.t 0),none⟩::⟨some 13,.len false (.t 12),none⟩::⟨some 14,.bin .lss (.t 11) (.t 13),none⟩::[]))
(.cond (.t 14) .skip (.exit 0)))
(.seq (.block 1 (.seq (.dreg (⟨⟨some 17,.mov (.t 0),none⟩,.quiet,0,0⟩::⟨⟨some 18,.mov (.t 5),none⟩,.quiet,1,0⟩::⟨⟨some 19,.idxS 4 (.t 17) (.t 18),none⟩,.quiet,2,3⟩::⟨⟨some 20,.load true 4 (.t 19),none⟩,.load,3,7⟩::⟨⟨some 21,.mov (.t 1),none⟩,.quiet,4,0⟩::⟨⟨some 22,.mov (.t 5),none⟩,.quiet,5,0⟩::⟨⟨some 23,.idxS 4 (.t 21) (.t 22),none⟩,.quiet,6,48⟩::⟨⟨some 24,.load true 4 (.t 23),none⟩,.load,7,112⟩::⟨⟨some 25,.eq true (.str0 [(0, 1, false), (1, 1, false), (2, 1, false), (3, 1, false)] [.int, .str, .int, .int]) (.t 20) (.t 24),none⟩,.quiet,8,255⟩::[]))
(.cond (.t 25) (.seq (.reg (⟨some 4,.mov (.c (.bool false)),none⟩::[]))
.ret) .skip)))
(.reg (⟨some 15,.mov (.t 5),none⟩::⟨some 16,.bin .add (.t 15) (.c (.int .i64 (.ofNat 1))),none⟩::⟨some 5,.mov (.t 16),none⟩::[])))))))
(.seq (.reg (⟨some 4,.mov (.c (.bool true)),none⟩::[]))
.ret))))⟩
theorem c55_eq : compFn Try.prog 55 = some c55 := by kernel_rfl
/-- sodality/sodalityref19.SameServices -/
noncomputable def c56 : FnI := ⟨75, [.tmp 4],
(.seq (.reg (⟨some 4,.mov (.c (.bool false)),none⟩::[]))
(.seq (.seq (.reg (⟨some 8,.mov (.t 0),none⟩::⟨some 9,.len false (.t 8),none⟩::⟨some 10,.mov (.t 1),none⟩::⟨some 11,.len false (.t 10),none⟩::⟨some 12,.bin .neq (.t 9) (.t 11),none⟩::[]))
(.cond (.t 12) (.seq (.reg (⟨some 4,.mov (.c (.bool false)),none⟩::[]))
.ret) .skip))
(.seq (.seq (.reg (⟨some 5,.mov (.c (.int .i64 (.ofNat 0))),none⟩::[]))
(.block 0 (.loop (.seq (.seq (.reg (⟨some 13,.mov (.t 5),none⟩::⟨some 14,.mov (.t 0),none⟩::⟨some 15,.len false (.t 14),none⟩::⟨some 16,.bin .lss (.t 13) (.t 15),none⟩::[]))
(.cond (.t 16) .skip (.exit 0)))
(.seq (.block 1 (.seq (.dreg (⟨⟨some 19,.mov (.t 0),none⟩,.quiet,0,0⟩::⟨⟨some 20,.mov (.t 5),none⟩,.quiet,1,0⟩::⟨⟨some 21,.idxS 7 (.t 19) (.t 20),none⟩,.quiet,2,3⟩::⟨⟨some 22,.load true 7 (.t 21),none⟩,.load,3,7⟩::⟨⟨some 6,.alloc [(.int .i64 (.ofNat 0)), (.str []), (.str []), .nilsl, (.int .i64 (.ofNat 0)), (.int .u64 (.ofNat 0)), (.int .u64 (.ofNat 0))],none⟩,.quiet,8,0⟩::⟨⟨some 7,.alloc [(.int .i64 (.ofNat 0)), (.str []), (.str []), .nilsl, (.int .i64 (.ofNat 0)), (.int .u64 (.ofNat 0)), (.int .u64 (.ofNat 0))],none⟩,.quiet,9,0⟩::⟨⟨none,.store 7 (.t 6) (.t 22),none⟩,.loud,10,783⟩::⟨⟨some 23,.mov (.t 1),none⟩,.quiet,4,0⟩::⟨⟨some 24,.mov (.t 5),none⟩,.quiet,5,0⟩::⟨⟨some 25,.idxS 7 (.t 23) (.t 24),none⟩,.quiet,6,48⟩::⟨⟨some 26,.load true 7 (.t 25),none⟩,.load,7,112⟩::⟨⟨none,.store 7 (.t 7) (.t 26),none⟩,.loud,11,2047⟩::[]))
(.seq (.reg (⟨some 27,.faddr 0 (.t 6),none⟩::⟨some 28,.load false 1 (.t 27),none⟩::⟨some 29,.faddr 0 (.t 7),none⟩::⟨some 30,.load false 1 (.t 29),none⟩::⟨some 31,.bin .neq (.t 28) (.t 30),none⟩::⟨some 32,.mov (.t 31),none⟩::⟨some 33,.faddr 1 (.t 6),some (32,false)⟩::⟨some 34,.load false 1 (.t 33),some (32,false)⟩::⟨some 35,.faddr 1 (.t 7),some (32,false)⟩::⟨some 36,.load false 1 (.t 35),some (32,false)⟩::⟨some 37,.bin .neq (.t 34) (.t 36),some (32,false)⟩::⟨some 38,.pick (.t 32) (.c (.bool true)) (.t 37),none⟩::⟨some 39,.mov (.t 38),none⟩::⟨some 40,.faddr 2 (.t 6),some (39,false)⟩::⟨some 41,.load false 1 (.t 40),some (39,false)⟩::⟨some 42,.faddr 2 (.t 7),some (39,false)⟩::⟨some 43,.load false 1 (.t 42),some (39,false)⟩::⟨some 44,.bin .neq (.t 41) (.t 43),some (39,false)⟩::⟨some 45,.pick (.t 39) (.c (.bool true)) (.t 44),none⟩::⟨some 46,.mov (.t 45),none⟩::⟨some 47,.faddr 3 (.t 6),some (46,false)⟩::⟨some 48,.load false 1 (.t 47),some (46,false)⟩::⟨some 49,.faddr 3 (.t 7),some (46,false)⟩::⟨some 50,.load false 1 (.t 49),some (46,false)⟩::⟨some 51,.call 93 [(.t 48), (.t 50)],some (46,false)⟩::⟨some 52,.un .not (.t 51),some (46,false)⟩::⟨some 53,.pick (.t 46) (.c (.bool true)) (.t 52),none⟩::⟨some 54,.mov (.t 53),none⟩::⟨some 55,.faddr 4 (.t 6),some (54,false)⟩::⟨some 56,.load false 1 (.t 55),some (54,false)⟩::⟨some 57,.faddr 4 (.t 7),some (54,false)⟩::⟨some 58,.load false 1 (.t 57),some (54,false)⟩::⟨some 59,.bin .neq (.t 56) (.t 58),some (54,false)⟩::⟨some 60,.pick (.t 54) (.c (.bool true)) (.t 59),none⟩::⟨some 61,.mov (.t 60),none⟩::⟨some 62,.faddr 5 (.t 6),some (61,false)⟩::⟨some 63,.load false 1 (.t 62),some (61,false)⟩::⟨some 64,.faddr 5 (.t 7),some (61,false)⟩::⟨some 65,.load false 1 (.t 64),some (61,false)⟩::⟨some 66,.bin .neq (.t 63) (.t 65),some (61,false)⟩::⟨some 67,.pick (.t 61) (.c (.bool true)) (.t 66),none⟩::⟨some 68,.mov (.t 67),none⟩::⟨some 69,.faddr 6 (.t 6),some (68,false)⟩::⟨some 70,.load false 1 (.t 69),some (68,false)⟩::⟨some 71,.faddr 6 (.t 7),some (68,false)⟩::⟨some 72,.load false 1 (.t 71),some (68,false)⟩::⟨some 73,.bin .neq (.t 70) (.t 72),some (68,false)⟩::⟨some 74,.pick (.t 68) (.c (.bool true)) (.t 73),none⟩::[]))
(.cond (.t 74) (.seq (.reg (⟨some 4,.mov (.c (.bool false)),none⟩::[]))
.ret) .skip))))
(.reg (⟨some 17,.mov (.t 5),none⟩::⟨some 18,.bin .add (.t 17) (.c (.int .i64 (.ofNat 1))),none⟩::⟨some 5,.mov (.t 18),none⟩::[])))))))
(.seq (.reg (⟨some 4,.mov (.c (.bool true)),none⟩::[]))
.ret))))⟩
theorem c56_eq : compFn Try.prog 56 = some c56 := by kernel_rfl
/-- sodality/sodalityref19.SameChecks -/
noncomputable def c57 : FnI := ⟨26, [.tmp 4],
(.seq (.reg (⟨some 4,.mov (.c (.bool false)),none⟩::[]))
(.seq (.seq (.reg (⟨some 6,.mov (.t 0),none⟩::⟨some 7,.len false (.t 6),none⟩::⟨some 8,.mov (.t 1),none⟩::⟨some 9,.len false (.t 8),none⟩::⟨some 10,.bin .neq (.t 7) (.t 9),none⟩::[]))
(.cond (.t 10) (.seq (.reg (⟨some 4,.mov (.c (.bool false)),none⟩::[]))
.ret) .skip))
(.seq (.seq (.reg (⟨some 5,.mov (.c (.int .i64 (.ofNat 0))),none⟩::[]))
(.block 0 (.loop (.seq (.seq (.reg (⟨some 11,.mov (.t 5),none⟩::⟨some 12,.mov (.t 0),none⟩::⟨some 13,.len false (.t 12),none⟩::⟨some 14,.bin .lss (.t 11) (.t 13),none⟩::[]))
(.cond (.t 14) .skip (.exit 0)))
(.seq (.block 1 (.seq (.dreg (⟨⟨some 17,.mov (.t 0),none⟩,.quiet,0,0⟩::⟨⟨some 18,.mov (.t 5),none⟩,.quiet,1,0⟩::⟨⟨some 19,.idxS 7 (.t 17) (.t 18),none⟩,.quiet,2,3⟩::⟨⟨some 20,.load true 7 (.t 19),none⟩,.load,3,7⟩::⟨⟨some 21,.mov (.t 1),none⟩,.quiet,4,0⟩::⟨⟨some 22,.mov (.t 5),none⟩,.quiet,5,0⟩::⟨⟨some 23,.idxS 7 (.t 21) (.t 22),none⟩,.quiet,6,48⟩::⟨⟨some 24,.load true 7 (.t 23),none⟩,.load,7,112⟩::⟨⟨some 25,.eq true (.str0 [(0, 1, false), (1, 1, false), (2, 1, false), (3, 1, false), (4, 1, false), (5, 1, false), (6, 1, false)] [.int, .str, .str, .str, .int, .int, .int]) (.t 20) (.t 24),none⟩,.quiet,8,255⟩::[]))
(.cond (.t 25) (.seq (.reg (⟨some 4,.mov (.c (.bool false)),none⟩::[]))
.ret) .skip)))
(.reg (⟨some 15,.mov (.t 5),none⟩::⟨some 16,.bin .add (.t 15) (.c (.int .i64 (.ofNat 1))),none⟩::⟨some 5,.mov (.t 16),none⟩::[])))))))
(.seq (.reg (⟨some 4,.mov (.c (.bool true)),none⟩::[]))
.ret))))⟩
theorem c57_eq : compFn Try.prog 57 = some c57 := by kernel_rfl
/-- sodality/sodalityref17.Same -/
noncomputable def c58 : FnI := ⟨26, [.tmp 4],
(.seq (.reg (⟨some 4,.mov (.c (.bool false)),none⟩::[]))
(.seq (.seq (.reg (⟨some 6,.mov (.t 0),none⟩::⟨some 7,.len false (.t 6),none⟩::⟨some 8,.mov (.t 1),none⟩::⟨some 9,.len false (.t 8),none⟩::⟨some 10,.bin .neq (.t 7) (.t 9),none⟩::[]))
(.cond (.t 10) (.seq (.reg (⟨some 4,.mov (.c (.bool false)),none⟩::[]))
.ret) .skip))
(.seq (.seq (.reg (⟨some 5,.mov (.c (.int .i64 (.ofNat 0))),none⟩::[]))
(.block 0 (.loop (.seq (.seq (.reg (⟨some 11,.mov (.t 5),none⟩::⟨some 12,.mov (.t 0),none⟩::⟨some 13,.len false (.t 12),none⟩::⟨some 14,.bin .lss (.t 11) (.t 13),none⟩::[]))
(.cond (.t 14) .skip (.exit 0)))
(.seq (.block 1 (.seq (.dreg (⟨⟨some 17,.mov (.t 0),none⟩,.quiet,0,0⟩::⟨⟨some 18,.mov (.t 5),none⟩,.quiet,1,0⟩::⟨⟨some 19,.idxS 5 (.t 17) (.t 18),none⟩,.quiet,2,3⟩::⟨⟨some 20,.load true 5 (.t 19),none⟩,.load,3,7⟩::⟨⟨some 21,.mov (.t 1),none⟩,.quiet,4,0⟩::⟨⟨some 22,.mov (.t 5),none⟩,.quiet,5,0⟩::⟨⟨some 23,.idxS 5 (.t 21) (.t 22),none⟩,.quiet,6,48⟩::⟨⟨some 24,.load true 5 (.t 23),none⟩,.load,7,112⟩::⟨⟨some 25,.eq true (.str0 [(0, 1, false), (1, 1, false), (2, 1, false), (3, 1, false), (4, 1, false)] [.str, .str, .bool, .int, .int]) (.t 20) (.t 24),none⟩,.quiet,8,255⟩::[]))
(.cond (.t 25) (.seq (.reg (⟨some 4,.mov (.c (.bool false)),none⟩::[]))
.ret) .skip)))
(.reg (⟨some 15,.mov (.t 5),none⟩::⟨some 16,.bin .add (.t 15) (.c (.int .i64 (.ofNat 1))),none⟩::⟨some 5,.mov (.t 16),none⟩::[])))))))
(.seq (.reg (⟨some 4,.mov (.c (.bool true)),none⟩::[]))
.ret))))⟩
theorem c58_eq : compFn Try.prog 58 = some c58 := by kernel_rfl
/-- sodality/sodalityref16.Same -/
noncomputable def c59 : FnI := ⟨26, [.tmp 4],
(.seq (.reg (⟨some 4,.mov (.c (.bool false)),none⟩::[]))
(.seq (.seq (.reg (⟨some 6,.mov (.t 0),none⟩::⟨some 7,.len false (.t 6),none⟩::⟨some 8,.mov (.t 1),none⟩::⟨some 9,.len false (.t 8),none⟩::⟨some 10,.bin .neq (.t 7) (.t 9),none⟩::[]))
(.cond (.t 10) (.seq (.reg (⟨some 4,.mov (.c (.bool false)),none⟩::[]))
.ret) .skip))
(.seq (.seq (.reg (⟨some 5,.mov (.c (.int .i64 (.ofNat 0))),none⟩::[]))
(.block 0 (.loop (.seq (.seq (.reg (⟨some 11,.mov (.t 5),none⟩::⟨some 12,.mov (.t 0),none⟩::⟨some 13,.len false (.t 12),none⟩::⟨some 14,.bin .lss (.t 11) (.t 13),none⟩::[]))
(.cond (.t 14) .skip (.exit 0)))
(.seq (.block 1 (.seq (.dreg (⟨⟨some 17,.mov (.t 0),none⟩,.quiet,0,0⟩::⟨⟨some 18,.mov (.t 5),none⟩,.quiet,1,0⟩::⟨⟨some 19,.idxS 6 (.t 17) (.t 18),none⟩,.quiet,2,3⟩::⟨⟨some 20,.load true 6 (.t 19),none⟩,.load,3,7⟩::⟨⟨some 21,.mov (.t 1),none⟩,.quiet,4,0⟩::⟨⟨some 22,.mov (.t 5),none⟩,.quiet,5,0⟩::⟨⟨some 23,.idxS 6 (.t 21) (.t 22),none⟩,.quiet,6,48⟩::⟨⟨some 24,.load true 6 (.t 23),none⟩,.load,7,112⟩::⟨⟨some 25,.eq true (.str0 [(0, 1, false), (1, 1, false), (2, 1, false), (3, 1, false), (4, 1, false), (5, 1, false)] [.str, .str, .int, .int, .int, .int]) (.t 20) (.t 24),none⟩,.quiet,8,255⟩::[]))
(.cond (.t 25) (.seq (.reg (⟨some 4,.mov (.c (.bool false)),none⟩::[]))
.ret) .skip)))
(.reg (⟨some 15,.mov (.t 5),none⟩::⟨some 16,.bin .add (.t 15) (.c (.int .i64 (.ofNat 1))),none⟩::⟨some 5,.mov (.t 16),none⟩::[])))))))
(.seq (.reg (⟨some 4,.mov (.c (.bool true)),none⟩::[]))
.ret))))⟩
theorem c59_eq : compFn Try.prog 59 = some c59 := by kernel_rfl
/-- sodality/sodalityref18.Same -/
noncomputable def c60 : FnI := ⟨26, [.tmp 4],
(.seq (.reg (⟨some 4,.mov (.c (.bool false)),none⟩::[]))
(.seq (.seq (.reg (⟨some 6,.mov (.t 0),none⟩::⟨some 7,.len false (.t 6),none⟩::⟨some 8,.mov (.t 1),none⟩::⟨some 9,.len false (.t 8),none⟩::⟨some 10,.bin .neq (.t 7) (.t 9),none⟩::[]))
(.cond (.t 10) (.seq (.reg (⟨some 4,.mov (.c (.bool false)),none⟩::[]))
.ret) .skip))
(.seq (.seq (.reg (⟨some 5,.mov (.c (.int .i64 (.ofNat 0))),none⟩::[]))
(.block 0 (.loop (.seq (.seq (.reg (⟨some 11,.mov (.t 5),none⟩::⟨some 12,.mov (.t 0),none⟩::⟨some 13,.len false (.t 12),none⟩::⟨some 14,.bin .lss (.t 11) (.t 13),none⟩::[]))
(.cond (.t 14) .skip (.exit 0)))
(.seq (.block 1 (.seq (.dreg (⟨⟨some 17,.mov (.t 0),none⟩,.quiet,0,0⟩::⟨⟨some 18,.mov (.t 5),none⟩,.quiet,1,0⟩::⟨⟨some 19,.idxS 4 (.t 17) (.t 18),none⟩,.quiet,2,3⟩::⟨⟨some 20,.load true 4 (.t 19),none⟩,.load,3,7⟩::⟨⟨some 21,.mov (.t 1),none⟩,.quiet,4,0⟩::⟨⟨some 22,.mov (.t 5),none⟩,.quiet,5,0⟩::⟨⟨some 23,.idxS 4 (.t 21) (.t 22),none⟩,.quiet,6,48⟩::⟨⟨some 24,.load true 4 (.t 23),none⟩,.load,7,112⟩::⟨⟨some 25,.eq true (.str0 [(0, 1, false), (1, 1, false), (2, 1, false), (3, 1, false)] [.int, .int, .int, .int]) (.t 20) (.t 24),none⟩,.quiet,8,255⟩::[]))
(.cond (.t 25) (.seq (.reg (⟨some 4,.mov (.c (.bool false)),none⟩::[]))
.ret) .skip)))
(.reg (⟨some 15,.mov (.t 5),none⟩::⟨some 16,.bin .add (.t 15) (.c (.int .i64 (.ofNat 1))),none⟩::⟨some 5,.mov (.t 16),none⟩::[])))))))
(.seq (.reg (⟨some 4,.mov (.c (.bool true)),none⟩::[]))
.ret))))⟩
theorem c60_eq : compFn Try.prog 60 = some c60 := by kernel_rfl
/-- sodality/field.Num -/
noncomputable def c61 : FnI := ⟨33, [.tmp 4],
(.seq (.reg (⟨some 4,.mov (.c .nilsl),none⟩::[]))
(.seq (.reg (⟨some 5,.alloc [(.int .u8 (.ofNat 0)), (.int .u8 (.ofNat 0)), (.int .u8 (.ofNat 0)), (.int .u8 (.ofNat 0)), (.int .u8 (.ofNat 0)), (.int .u8 (.ofNat 0)), (.int .u8 (.ofNat 0)), (.int .u8 (.ofNat 0))],none⟩::[]))
(.seq (.reg (⟨some 6,.mov (.c (.int .i64 (.ofNat 0))),none⟩::[]))
(.seq (.seq (.reg (⟨some 9,.mov (.t 1),none⟩::⟨some 7,.mov (.t 9),none⟩::[]))
(.block 0 (.loop (.seq (.seq (.reg (⟨some 10,.mov (.t 7),none⟩::⟨some 11,.bin .gtr (.t 10) (.c (.int .u64 (.ofNat 0))),none⟩::[]))
(.cond (.t 11) .skip (.exit 0)))
(.seq (.block 1 (.seq (.reg (⟨some 14,.mov (.t 6),none⟩::⟨some 15,.bin .add (.t 14) (.c (.int .i64 (.ofNat 1))),none⟩::⟨some 6,.mov (.t 15),none⟩::[]))
(.reg (⟨some 16,.mov (.t 6),none⟩::⟨some 17,.bin .sub (.c (.int .i64 (.ofNat 8))) (.t 16),none⟩::⟨some 18,.mov (.t 7),none⟩::⟨some 19,.cvInt .u8 (.t 18),none⟩::⟨some 20,.idxA 8 1 (.t 5) (.t 17),none⟩::⟨none,.store 1 (.t 20) (.t 19),none⟩::[]))))
(.reg (⟨some 12,.mov (.t 7),none⟩::⟨some 13,.bin .shr (.t 12) (.c (.int .u64 (.ofNat 8))),none⟩::⟨some 7,.mov (.t 13),none⟩::[])))))))
(.seq (.reg (⟨some 21,.buildSl 1 0 [] [],none⟩::⟨some 22,.mov (.t 0),none⟩::⟨some 23,.append 1 1 (.t 21) (.t 22),none⟩::⟨some 24,.mov (.t 6),none⟩::⟨some 25,.cvInt .u8 (.t 24),none⟩::⟨some 26,.buildSl 1 1 [(.int .u8 (.ofNat 0))] [(0, 1, (.t 25))],none⟩::⟨some 27,.append 1 1 (.t 23) (.t 26),none⟩::⟨some 8,.mov (.t 27),none⟩::[]))
(.seq (.reg (⟨some 28,.mov (.t 8),none⟩::⟨some 29,.mov (.t 6),none⟩::⟨some 30,.bin .sub (.c (.int .i64 (.ofNat 8))) (.t 29),none⟩::⟨some 31,.slA 8 1 (.t 5) (some (.t 30)) none none,none⟩::⟨some 32,.append 1 1 (.t 28) (.t 31),none⟩::⟨some 4,.mov (.t 32),none⟩::[]))
.ret))))))⟩
theorem c61_eq : compFn Try.prog 61 = some c61 := by kernel_rfl
/-- (*sodality/dump.writer).int -/
noncomputable def c62 : FnI := ⟨8, [],
(.reg (⟨some 4,.mov (.t 0),none⟩::⟨some 5,.mov (.t 1),none⟩::⟨some 6,.cvInt .u64 (.t 5),none⟩::⟨some 7,.call 15 [(.t 4), (.t 6)],none⟩::[]))⟩
theorem c62_eq : compFn Try.prog 62 = some c62 := by kernel_rfl
/-- sodality/dump.nodes$1 -/
noncomputable def c63 : FnI := ⟨18, [],
(.seq (.reg (⟨some 3,.box (.t 1),none⟩::[]))
(.seq (.reg (⟨some 4,.mov (.t 0),none⟩::⟨some 5,.faddr 0 (.t 3),none⟩::⟨some 6,.load false 1 (.t 5),none⟩::⟨some 7,.call 62 [(.t 4), (.t 6)],none⟩::[]))
(.seq (.reg (⟨some 8,.mov (.t 0),none⟩::⟨some 9,.faddr 1 (.t 3),none⟩::⟨some 10,.load false 1 (.t 9),none⟩::⟨some 11,.call 64 [(.t 8), (.t 10)],none⟩::[]))
(.reg (⟨some 12,.mov (.t 0),none⟩::⟨some 13,.faddr 2 (.t 3),none⟩::⟨some 14,.load false 1 (.t 13),none⟩::⟨some 15,.faddr 3 (.t 3),none⟩::⟨some 16,.load false 1 (.t 15),none⟩::⟨some 17,.call 65 [(.t 12), (.t 14), (.t 16)],none⟩::[])))))⟩
theorem c63_eq : compFn Try.prog 63 = some c63 := by kernel_rfl
/-- (*sodality/dump.writer).text -/
noncomputable def c64 : FnI := ⟨14, [],
(.dreg (⟨⟨some 9,.mov (.t 1),none⟩,.quiet,5,0⟩::⟨⟨some 10,.call 94 [(.c .nilsl), (.t 9)],none⟩,.loud,6,32⟩::⟨⟨some 5,.mov (.t 0),none⟩,.quiet,1,0⟩::⟨⟨some 6,.nilchk (.t 5),none⟩,.quiet,2,2⟩::⟨⟨some 7,.faddr 0 (.t 6),none⟩,.quiet,3,6⟩::⟨⟨some 8,.load false 1 (.t 7),none⟩,.load,4,14⟩::⟨⟨some 11,.append 1 1 (.t 8) (.t 10),none⟩,.loud,7,126⟩::⟨⟨some 4,.mov (.t 0),none⟩,.quiet,0,0⟩::⟨⟨some 12,.nilchk (.t 4),none⟩,.quiet,8,255⟩::⟨⟨some 13,.faddr 0 (.t 12),none⟩,.quiet,9,511⟩::⟨⟨none,.store 1 (.t 13) (.t 11),none⟩,.loud,10,1023⟩::[]))⟩
theorem c64_eq : compFn Try.prog 64 = some c64 := by kernel_rfl
/-- (*sodality/dump.writer).ends -/
noncomputable def c65 : FnI := ⟨12, [],
(.seq (.reg (⟨some 6,.mov (.t 0),none⟩::⟨some 7,.mov (.t 1),none⟩::⟨some 8,.call 15 [(.t 6), (.t 7)],none⟩::[]))
(.reg (⟨some 9,.mov (.t 0),none⟩::⟨some 10,.mov (.t 2),none⟩::⟨some 11,.call 15 [(.t 9), (.t 10)],none⟩::[])))⟩
theorem c65_eq : compFn Try.prog 65 = some c65 := by kernel_rfl
/-- sodality/dump.nodes$2 -/
noncomputable def c66 : FnI := ⟨15, [.cell 2 true 4],
(.seq (.reg (⟨some 1,.box (.t 0),none⟩::⟨some 2,.alloc [(.int .i64 (.ofNat 0)), (.str []), (.int .u64 (.ofNat 0)), (.int .u64 (.ofNat 0))],none⟩::[]))
(.seq (.reg (⟨some 4,.load true 1 (.t 1),none⟩::⟨some 5,.call 67 [(.t 4)],none⟩::⟨some 6,.build [(.int .i64 (.ofNat 0)), (.str []), (.int .u64 (.ofNat 0)), (.int .u64 (.ofNat 0))] [(0, 1, (.t 5))],none⟩::⟨some 3,.alloc [(.int .i64 (.ofNat 0)), (.str []), (.int .u64 (.ofNat 0)), (.int .u64 (.ofNat 0))],none⟩::⟨none,.store 4 (.t 3) (.t 6),none⟩::[]))
(.seq (.reg (⟨some 7,.load true 1 (.t 1),none⟩::⟨some 8,.call 68 [(.t 7)],none⟩::⟨some 9,.faddr 1 (.t 3),none⟩::⟨none,.store 1 (.t 9) (.t 8),none⟩::[]))
(.seq (.reg (⟨some 10,.load true 1 (.t 1),none⟩::⟨some 11,.faddr 2 (.t 3),none⟩::⟨some 12,.faddr 3 (.t 3),none⟩::⟨some 13,.call 69 [(.t 10), (.t 11), (.t 12)],none⟩::[]))
(.seq (.reg (⟨some 14,.load true 4 (.t 3),none⟩::⟨none,.store 4 (.t 2) (.t 14),none⟩::[]))
.ret)))))⟩
theorem c66_eq : compFn Try.prog 66 = some c66 := by kernel_rfl
/-- (sodality/dump.reader).small -/
noncomputable def c67 : FnI := ⟨7, [.tmp 2],
(.seq (.reg (⟨some 1,.box (.t 0),none⟩::⟨some 2,.mov (.c (.int .i64 (.ofNat 0))),none⟩::[]))
(.seq (.reg (⟨some 3,.faddr 0 (.t 1),none⟩::⟨some 4,.load false 1 (.t 3),none⟩::⟨some 5,.call 74 [(.t 4), (.c (.int .u64 (.ofNat 255)))],none⟩::⟨some 6,.cvInt .i64 (.t 5),none⟩::⟨some 2,.mov (.t 6),none⟩::[]))
.ret))⟩
theorem c67_eq : compFn Try.prog 67 = some c67 := by kernel_rfl
/-- (sodality/dump.reader).short -/
noncomputable def c68 : FnI := ⟨6, [.tmp 2],
(.seq (.reg (⟨some 1,.box (.t 0),none⟩::⟨some 2,.mov (.c (.str [])),none⟩::[]))
(.seq (.reg (⟨some 3,.faddr 0 (.t 1),none⟩::⟨some 4,.load false 1 (.t 3),none⟩::⟨some 5,.call 95 [(.t 4), (.c (.int .i64 (.ofNat 80)))],none⟩::⟨some 2,.mov (.t 5),none⟩::[]))
.ret))⟩
theorem c68_eq : compFn Try.prog 68 = some c68 := by kernel_rfl
/-- (sodality/dump.reader).ends -/
noncomputable def c69 : FnI := ⟨14, [],
(.seq (.reg (⟨some 3,.box (.t 0),none⟩::[]))
(.seq (.reg (⟨some 6,.mov (.t 1),none⟩::⟨some 7,.load true 1 (.t 3),none⟩::⟨some 8,.call 41 [(.t 7)],none⟩::⟨some 9,.nilchk (.t 6),none⟩::⟨none,.store 1 (.t 9) (.t 8),none⟩::[]))
(.reg (⟨some 10,.mov (.t 2),none⟩::⟨some 11,.load true 1 (.t 3),none⟩::⟨some 12,.call 41 [(.t 11)],none⟩::⟨some 13,.nilchk (.t 10),none⟩::⟨none,.store 1 (.t 13) (.t 12),none⟩::[]))))⟩
theorem c69_eq : compFn Try.prog 69 = some c69 := by kernel_rfl
/-- sodality/dump.services$1 -/
noncomputable def c70 : FnI := ⟨30, [],
(.seq (.reg (⟨some 3,.box (.t 1),none⟩::[]))
(.seq (.reg (⟨some 4,.mov (.t 0),none⟩::⟨some 5,.faddr 0 (.t 3),none⟩::⟨some 6,.load false 1 (.t 5),none⟩::⟨some 7,.call 62 [(.t 4), (.t 6)],none⟩::[]))
(.seq (.reg (⟨some 8,.mov (.t 0),none⟩::⟨some 9,.faddr 1 (.t 3),none⟩::⟨some 10,.load false 1 (.t 9),none⟩::⟨some 11,.call 64 [(.t 8), (.t 10)],none⟩::[]))
(.seq (.reg (⟨some 12,.mov (.t 0),none⟩::⟨some 13,.faddr 2 (.t 3),none⟩::⟨some 14,.load false 1 (.t 13),none⟩::⟨some 15,.call 64 [(.t 12), (.t 14)],none⟩::[]))
(.seq (.reg (⟨some 16,.mov (.t 0),none⟩::⟨some 17,.faddr 3 (.t 3),none⟩::⟨some 18,.load false 1 (.t 17),none⟩::⟨some 19,.call 71 [(.t 16), (.t 18)],none⟩::[]))
(.seq (.reg (⟨some 20,.mov (.t 0),none⟩::⟨some 21,.faddr 4 (.t 3),none⟩::⟨some 22,.load false 1 (.t 21),none⟩::⟨some 23,.call 62 [(.t 20), (.t 22)],none⟩::[]))
(.reg (⟨some 24,.mov (.t 0),none⟩::⟨some 25,.faddr 5 (.t 3),none⟩::⟨some 26,.load false 1 (.t 25),none⟩::⟨some 27,.faddr 6 (.t 3),none⟩::⟨some 28,.load false 1 (.t 27),none⟩::⟨some 29,.call 65 [(.t 24), (.t 26), (.t 28)],none⟩::[]))))))))⟩
theorem c70_eq : compFn Try.prog 70 = some c70 := by kernel_rfl
/-- (*sodality/dump.writer).texts -/
noncomputable def c71 : FnI := ⟨14, [],
(.dreg (⟨⟨some 9,.mov (.t 1),none⟩,.quiet,5,0⟩::⟨⟨some 10,.call 96 [(.c .nilsl), (.t 9)],none⟩,.loud,6,32⟩::⟨⟨some 5,.mov (.t 0),none⟩,.quiet,1,0⟩::⟨⟨some 6,.nilchk (.t 5),none⟩,.quiet,2,2⟩::⟨⟨some 7,.faddr 0 (.t 6),none⟩,.quiet,3,6⟩::⟨⟨some 8,.load false 1 (.t 7),none⟩,.load,4,14⟩::⟨⟨some 11,.append 1 1 (.t 8) (.t 10),none⟩,.loud,7,126⟩::⟨⟨some 4,.mov (.t 0),none⟩,.quiet,0,0⟩::⟨⟨some 12,.nilchk (.t 4),none⟩,.quiet,8,255⟩::⟨⟨some 13,.faddr 0 (.t 12),none⟩,.quiet,9,511⟩::⟨⟨none,.store 1 (.t 13) (.t 11),none⟩,.loud,10,1023⟩::[]))⟩
theorem c71_eq : compFn Try.prog 71 = some c71 := by kernel_rfl
/-- sodality/dump.services$2 -/
noncomputable def c72 : FnI := ⟨27, [.cell 2 true 7],
(.seq (.reg (⟨some 1,.box (.t 0),none⟩::⟨some 2,.alloc [(.int .i64 (.ofNat 0)), (.str []), (.str []), .nilsl, (.int .i64 (.ofNat 0)), (.int .u64 (.ofNat 0)), (.int .u64 (.ofNat 0))],none⟩::[]))
(.seq (.reg (⟨some 4,.load true 1 (.t 1),none⟩::⟨some 5,.call 67 [(.t 4)],none⟩::⟨some 6,.build [(.int .i64 (.ofNat 0)), (.str []), (.str []), .nilsl, (.int .i64 (.ofNat 0)), (.int .u64 (.ofNat 0)), (.int .u64 (.ofNat 0))] [(0, 1, (.t 5))],none⟩::⟨some 3,.alloc [(.int .i64 (.ofNat 0)), (.str []), (.str []), .nilsl, (.int .i64 (.ofNat 0)), (.int .u64 (.ofNat 0)), (.int .u64 (.ofNat 0))],none⟩::⟨none,.store 7 (.t 3) (.t 6),none⟩::[]))
(.seq (.reg (⟨some 7,.load true 1 (.t 1),none⟩::⟨some 8,.call 68 [(.t 7)],none⟩::⟨some 9,.faddr 1 (.t 3),none⟩::⟨none,.store 1 (.t 9) (.t 8),none⟩::[]))
(.seq (.reg (⟨some 10,.load true 1 (.t 1),none⟩::⟨some 11,.call 68 [(.t 10)],none⟩::⟨some 12,.faddr 2 (.t 3),none⟩::⟨none,.store 1 (.t 12) (.t 11),none⟩::[]))
(.seq (.reg (⟨some 13,.faddr 0 (.t 1),none⟩::⟨some 14,.load false 1 (.t 13),none⟩::⟨some 15,.call 73 [(.t 14), (.c (.int .i64 (.ofNat 8))), (.c (.int .i64 (.ofNat 80)))],none⟩::⟨some 16,.faddr 3 (.t 3),none⟩::⟨none,.store 1 (.t 16) (.t 15),none⟩::[]))
(.seq (.reg (⟨some 17,.faddr 0 (.t 1),none⟩::⟨some 18,.load false 1 (.t 17),none⟩::⟨some 19,.call 74 [(.t 18), (.c (.int .u64 (.ofNat 65535)))],none⟩::⟨some 20,.cvInt .i64 (.t 19),none⟩::⟨some 21,.faddr 4 (.t 3),none⟩::⟨none,.store 1 (.t 21) (.t 20),none⟩::[]))
(.seq (.reg (⟨some 22,.load true 1 (.t 1),none⟩::⟨some 23,.faddr 5 (.t 3),none⟩::⟨some 24,.faddr 6 (.t 3),none⟩::⟨some 25,.call 69 [(.t 22), (.t 23), (.t 24)],none⟩::[]))
(.seq (.reg (⟨some 26,.load true 7 (.t 3),none⟩::⟨none,.store 7 (.t 2) (.t 26),none⟩::[]))
.ret))))))))⟩
theorem c72_eq : compFn Try.prog 72 = some c72 := by kernel_rfl
/-- (*sodality/field.Reader).Texts -/
noncomputable def c73 : FnI := ⟨14, [.tmp 6],
(.seq (.reg (⟨some 3,.box (.t 0),none⟩::⟨some 5,.box (.t 2),none⟩::⟨some 6,.mov (.c .nilsl),none⟩::[]))
(.seq (.seq (.reg (⟨some 7,.load false 1 (.t 3),none⟩::⟨some 8,.call 97 [(.t 7)],none⟩::⟨some 9,.un .not (.t 8),none⟩::[]))
(.cond (.t 9) (.seq (.reg (⟨some 6,.mov (.c .nilsl),none⟩::[]))
.ret) .skip))
(.seq (.reg (⟨some 10,.load false 1 (.t 3),none⟩::⟨some 11,.mov (.t 1),none⟩::⟨some 12,.mkfn 99 [] [(.t 3), (.t 5)],none⟩::⟨some 13,.call 98 [(.t 10), (.t 11), (.t 12)],none⟩::⟨some 6,.mov (.t 13),none⟩::[]))
.ret)))⟩
theorem c73_eq : compFn Try.prog 73 = some c73 := by kernel_rfl
/-- (*sodality/field.Reader).Num -/
noncomputable def c74 : FnI := ⟨42, [.tmp 4],
(.seq (.reg (⟨some 4,.mov (.c (.int .u64 (.ofNat 0))),none⟩::[]))
(.seq (.seq (.reg (⟨some 8,.mov (.t 0),none⟩::⟨some 9,.call 97 [(.t 8)],none⟩::⟨some 10,.un .not (.t 9),none⟩::[]))
(.cond (.t 10) (.seq (.reg (⟨some 4,.mov (.c (.int .u64 (.ofNat 0))),none⟩::[]))
.ret) .skip))
(.seq (.reg (⟨some 12,.mov (.t 0),none⟩::⟨some 13,.nilchk (.t 12),none⟩::⟨some 14,.faddr 1 (.t 13),none⟩::⟨some 15,.load false 1 (.t 14),none⟩::⟨some 16,.call 100 [(.t 15)],none⟩::⟨some 11,.mov (.t 16),none⟩::⟨some 17,.extract (.t 11) 0,none⟩::⟨some 18,.extract (.t 11) 1,none⟩::⟨some 19,.extract (.t 11) 2,none⟩::⟨some 5,.mov (.t 17),none⟩::⟨some 6,.mov (.t 18),none⟩::⟨some 7,.mov (.t 19),none⟩::[]))
(.seq (.seq (.reg (⟨some 20,.mov (.t 7),none⟩::⟨some 21,.bin .eql (.t 20) (.c (.int .i64 (.ofNat 0))),none⟩::⟨some 22,.mov (.t 21),none⟩::⟨some 23,.mov (.t 5),some (22,true)⟩::⟨some 24,.mov (.t 1),some (22,true)⟩::⟨some 25,.bin .gtr (.t 23) (.t 24),some (22,true)⟩::⟨some 26,.pick (.t 22) (.t 25) (.c (.bool false)),none⟩::[]))
(.cond (.t 26) (.reg (⟨some 7,.mov (.c (.int .i64 (.ofNat 3))),none⟩::[])) .skip))
(.seq (.seq (.reg (⟨some 27,.mov (.t 7),none⟩::⟨some 28,.bin .neq (.t 27) (.c (.int .i64 (.ofNat 0))),none⟩::[]))
(.cond (.t 28) (.seq (.reg (⟨some 29,.mov (.t 0),none⟩::⟨some 30,.mov (.t 7),none⟩::⟨some 31,.call 101 [(.t 29), (.t 30)],none⟩::[]))
(.seq (.reg (⟨some 4,.mov (.c (.int .u64 (.ofNat 0))),none⟩::[]))
.ret)) .skip))
(.seq (.reg (⟨some 32,.mov (.t 0),none⟩::⟨some 33,.mov (.t 0),none⟩::⟨some 34,.nilchk (.t 33),none⟩::⟨some 35,.faddr 1 (.t 34),none⟩::⟨some 36,.load false 1 (.t 35),none⟩::⟨some 37,.mov (.t 6),none⟩::⟨some 38,.slS 1 (.t 36) (some (.t 37)) none none,none⟩::⟨some 39,.nilchk (.t 32),none⟩::⟨some 40,.faddr 1 (.t 39),none⟩::⟨none,.store 1 (.t 40) (.t 38),none⟩::[]))
(.seq (.reg (⟨some 41,.mov (.t 5),none⟩::⟨some 4,.mov (.t 41),none⟩::[]))
.ret)))))))⟩
theorem c74_eq : compFn Try.prog 74 = some c74 := by kernel_rfl
/-- sodality/dump.checks$1 -/
noncomputable def c75 : FnI := ⟨30, [],
(.seq (.reg (⟨some 3,.box (.t 1),none⟩::[]))
(.seq (.reg (⟨some 4,.mov (.t 0),none⟩::⟨some 5,.faddr 0 (.t 3),none⟩::⟨some 6,.load false 1 (.t 5),none⟩::⟨some 7,.call 62 [(.t 4), (.t 6)],none⟩::[]))
(.seq (.reg (⟨some 8,.mov (.t 0),none⟩::⟨some 9,.faddr 1 (.t 3),none⟩::⟨some 10,.load false 1 (.t 9),none⟩::⟨some 11,.call 64 [(.t 8), (.t 10)],none⟩::[]))
(.seq (.reg (⟨some 12,.mov (.t 0),none⟩::⟨some 13,.faddr 2 (.t 3),none⟩::⟨some 14,.load false 1 (.t 13),none⟩::⟨some 15,.call 64 [(.t 12), (.t 14)],none⟩::[]))
(.seq (.reg (⟨some 16,.mov (.t 0),none⟩::⟨some 17,.faddr 3 (.t 3),none⟩::⟨some 18,.load false 1 (.t 17),none⟩::⟨some 19,.call 64 [(.t 16), (.t 18)],none⟩::[]))
(.seq (.reg (⟨some 20,.mov (.t 0),none⟩::⟨some 21,.faddr 4 (.t 3),none⟩::⟨some 22,.load false 1 (.t 21),none⟩::⟨some 23,.call 62 [(.t 20), (.t 22)],none⟩::[]))
(.reg (⟨some 24,.mov (.t 0),none⟩::⟨some 25,.faddr 5 (.t 3),none⟩::⟨some 26,.load false 1 (.t 25),none⟩::⟨some 27,.faddr 6 (.t 3),none⟩::⟨some 28,.load false 1 (.t 27),none⟩::⟨some 29,.call 65 [(.t 24), (.t 26), (.t 28)],none⟩::[]))))))))⟩
theorem c75_eq : compFn Try.prog 75 = some c75 := by kernel_rfl
/-- sodality/dump.checks$2 -/
noncomputable def c76 : FnI := ⟨24, [.cell 2 true 7],
(.seq (.reg (⟨some 1,.box (.t 0),none⟩::⟨some 2,.alloc [(.int .i64 (.ofNat 0)), (.str []), (.str []), (.str []), (.int .i64 (.ofNat 0)), (.int .u64 (.ofNat 0)), (.int .u64 (.ofNat 0))],none⟩::[]))
(.seq (.reg (⟨some 4,.load true 1 (.t 1),none⟩::⟨some 5,.call 67 [(.t 4)],none⟩::⟨some 6,.build [(.int .i64 (.ofNat 0)), (.str []), (.str []), (.str []), (.int .i64 (.ofNat 0)), (.int .u64 (.ofNat 0)), (.int .u64 (.ofNat 0))] [(0, 1, (.t 5))],none⟩::⟨some 3,.alloc [(.int .i64 (.ofNat 0)), (.str []), (.str []), (.str []), (.int .i64 (.ofNat 0)), (.int .u64 (.ofNat 0)), (.int .u64 (.ofNat 0))],none⟩::⟨none,.store 7 (.t 3) (.t 6),none⟩::[]))
(.seq (.reg (⟨some 7,.load true 1 (.t 1),none⟩::⟨some 8,.call 68 [(.t 7)],none⟩::⟨some 9,.faddr 1 (.t 3),none⟩::⟨none,.store 1 (.t 9) (.t 8),none⟩::[]))
(.seq (.reg (⟨some 10,.load true 1 (.t 1),none⟩::⟨some 11,.call 68 [(.t 10)],none⟩::⟨some 12,.faddr 2 (.t 3),none⟩::⟨none,.store 1 (.t 12) (.t 11),none⟩::[]))
(.seq (.reg (⟨some 13,.load true 1 (.t 1),none⟩::⟨some 14,.call 68 [(.t 13)],none⟩::⟨some 15,.faddr 3 (.t 3),none⟩::⟨none,.store 1 (.t 15) (.t 14),none⟩::[]))
(.seq (.reg (⟨some 16,.load true 1 (.t 1),none⟩::⟨some 17,.call 67 [(.t 16)],none⟩::⟨some 18,.faddr 4 (.t 3),none⟩::⟨none,.store 1 (.t 18) (.t 17),none⟩::[]))
(.seq (.reg (⟨some 19,.load true 1 (.t 1),none⟩::⟨some 20,.faddr 5 (.t 3),none⟩::⟨some 21,.faddr 6 (.t 3),none⟩::⟨some 22,.call 69 [(.t 19), (.t 20), (.t 21)],none⟩::[]))
(.seq (.reg (⟨some 23,.load true 7 (.t 3),none⟩::⟨none,.store 7 (.t 2) (.t 23),none⟩::[]))
.ret))))))))⟩
theorem c76_eq : compFn Try.prog 76 = some c76 := by kernel_rfl
/-- sodality/dump.intentions$1 -/
noncomputable def c77 : FnI := ⟨22, [],
(.seq (.reg (⟨some 3,.box (.t 1),none⟩::[]))
(.seq (.reg (⟨some 4,.mov (.t 0),none⟩::⟨some 5,.faddr 0 (.t 3),none⟩::⟨some 6,.load false 1 (.t 5),none⟩::⟨some 7,.call 64 [(.t 4), (.t 6)],none⟩::[]))
(.seq (.reg (⟨some 8,.mov (.t 0),none⟩::⟨some 9,.faddr 1 (.t 3),none⟩::⟨some 10,.load false 1 (.t 9),none⟩::⟨some 11,.call 64 [(.t 8), (.t 10)],none⟩::[]))
(.seq (.reg (⟨some 12,.mov (.t 0),none⟩::⟨some 13,.faddr 2 (.t 3),none⟩::⟨some 14,.load false 1 (.t 13),none⟩::⟨some 15,.call 78 [(.t 12), (.t 14)],none⟩::[]))
(.reg (⟨some 16,.mov (.t 0),none⟩::⟨some 17,.faddr 3 (.t 3),none⟩::⟨some 18,.load false 1 (.t 17),none⟩::⟨some 19,.faddr 4 (.t 3),none⟩::⟨some 20,.load false 1 (.t 19),none⟩::⟨some 21,.call 65 [(.t 16), (.t 18), (.t 20)],none⟩::[]))))))⟩
theorem c77_eq : compFn Try.prog 77 = some c77 := by kernel_rfl
/-- (*sodality/dump.writer).flag -/
noncomputable def c78 : FnI := ⟨14, [],
(.dreg (⟨⟨some 9,.mov (.t 1),none⟩,.quiet,5,0⟩::⟨⟨some 10,.call 102 [(.c .nilsl), (.t 9)],none⟩,.loud,6,32⟩::⟨⟨some 5,.mov (.t 0),none⟩,.quiet,1,0⟩::⟨⟨some 6,.nilchk (.t 5),none⟩,.quiet,2,2⟩::⟨⟨some 7,.faddr 0 (.t 6),none⟩,.quiet,3,6⟩::⟨⟨some 8,.load false 1 (.t 7),none⟩,.load,4,14⟩::⟨⟨some 11,.append 1 1 (.t 8) (.t 10),none⟩,.loud,7,126⟩::⟨⟨some 4,.mov (.t 0),none⟩,.quiet,0,0⟩::⟨⟨some 12,.nilchk (.t 4),none⟩,.quiet,8,255⟩::⟨⟨some 13,.faddr 0 (.t 12),none⟩,.quiet,9,511⟩::⟨⟨none,.store 1 (.t 13) (.t 11),none⟩,.loud,10,1023⟩::[]))⟩
theorem c78_eq : compFn Try.prog 78 = some c78 := by kernel_rfl
/-- sodality/dump.intentions$2 -/
noncomputable def c79 : FnI := ⟨19, [.cell 2 true 5],
(.seq (.reg (⟨some 1,.box (.t 0),none⟩::⟨some 2,.alloc [(.str []), (.str []), (.bool false), (.int .u64 (.ofNat 0)), (.int .u64 (.ofNat 0))],none⟩::[]))
(.seq (.reg (⟨some 4,.load true 1 (.t 1),none⟩::⟨some 5,.call 68 [(.t 4)],none⟩::⟨some 6,.build [(.str []), (.str []), (.bool false), (.int .u64 (.ofNat 0)), (.int .u64 (.ofNat 0))] [(0, 1, (.t 5))],none⟩::⟨some 3,.alloc [(.str []), (.str []), (.bool false), (.int .u64 (.ofNat 0)), (.int .u64 (.ofNat 0))],none⟩::⟨none,.store 5 (.t 3) (.t 6),none⟩::[]))
(.seq (.reg (⟨some 7,.load true 1 (.t 1),none⟩::⟨some 8,.call 68 [(.t 7)],none⟩::⟨some 9,.faddr 1 (.t 3),none⟩::⟨none,.store 1 (.t 9) (.t 8),none⟩::[]))
(.seq (.reg (⟨some 10,.faddr 0 (.t 1),none⟩::⟨some 11,.load false 1 (.t 10),none⟩::⟨some 12,.call 80 [(.t 11)],none⟩::⟨some 13,.faddr 2 (.t 3),none⟩::⟨none,.store 1 (.t 13) (.t 12),none⟩::[]))
(.seq (.reg (⟨some 14,.load true 1 (.t 1),none⟩::⟨some 15,.faddr 3 (.t 3),none⟩::⟨some 16,.faddr 4 (.t 3),none⟩::⟨some 17,.call 69 [(.t 14), (.t 15), (.t 16)],none⟩::[]))
(.seq (.reg (⟨some 18,.load true 5 (.t 3),none⟩::⟨none,.store 5 (.t 2) (.t 18),none⟩::[]))
.ret))))))⟩
theorem c79_eq : compFn Try.prog 79 = some c79 := by kernel_rfl
/-- (*sodality/field.Reader).Flag -/
noncomputable def c80 : FnI := ⟨31, [.tmp 2],
(.seq (.reg (⟨some 2,.mov (.c (.bool false)),none⟩::[]))
(.seq (.seq (.reg (⟨some 5,.mov (.t 0),none⟩::⟨some 6,.call 97 [(.t 5)],none⟩::⟨some 7,.un .not (.t 6),none⟩::[]))
(.cond (.t 7) (.seq (.reg (⟨some 2,.mov (.c (.bool false)),none⟩::[]))
.ret) .skip))
(.seq (.reg (⟨some 8,.mov (.t 0),none⟩::⟨some 9,.nilchk (.t 8),none⟩::⟨some 10,.faddr 1 (.t 9),none⟩::⟨some 11,.load false 1 (.t 10),none⟩::⟨some 3,.mov (.t 11),none⟩::[]))
(.seq (.reg (⟨some 12,.mov (.t 0),none⟩::⟨some 13,.call 74 [(.t 12), (.c (.int .u64 (.ofNat 18446744073709551615)))],none⟩::⟨some 4,.mov (.t 13),none⟩::[]))
(.seq (.seq (.reg (⟨some 14,.mov (.t 0),none⟩::⟨some 15,.nilchk (.t 14),none⟩::⟨some 16,.faddr 2 (.t 15),none⟩::⟨some 17,.load false 1 (.t 16),none⟩::⟨some 18,.bin .eql (.t 17) (.c (.int .i64 (.ofNat 0))),none⟩::⟨some 19,.mov (.t 18),none⟩::⟨some 20,.mov (.t 4),some (19,true)⟩::⟨some 21,.bin .gtr (.t 20) (.c (.int .u64 (.ofNat 1))),some (19,true)⟩::⟨some 22,.pick (.t 19) (.t 21) (.c (.bool false)),none⟩::[]))
(.cond (.t 22) (.seq (.reg (⟨some 23,.mov (.t 0),none⟩::⟨some 24,.mov (.t 3),none⟩::⟨some 25,.nilchk (.t 23),none⟩::⟨some 26,.faddr 1 (.t 25),none⟩::⟨none,.store 1 (.t 26) (.t 24),none⟩::[]))
(.seq (.reg (⟨some 27,.mov (.t 0),none⟩::⟨some 28,.call 101 [(.t 27), (.c (.int .i64 (.ofNat 40)))],none⟩::[]))
(.seq (.reg (⟨some 2,.mov (.c (.bool false)),none⟩::[]))
.ret))) .skip))
(.seq (.reg (⟨some 29,.mov (.t 4),none⟩::⟨some 30,.bin .eql (.t 29) (.c (.int .u64 (.ofNat 1))),none⟩::⟨some 2,.mov (.t 30),none⟩::[]))
.ret))))))⟩
theorem c80_eq : compFn Try.prog 80 = some c80 := by kernel_rfl
/-- sodality/dump.entries$1 -/
noncomputable def c81 : FnI := ⟨26, [],
(.seq (.reg (⟨some 3,.box (.t 1),none⟩::[]))
(.seq (.reg (⟨some 4,.mov (.t 0),none⟩::⟨some 5,.faddr 0 (.t 3),none⟩::⟨some 6,.load false 1 (.t 5),none⟩::⟨some 7,.call 64 [(.t 4), (.t 6)],none⟩::[]))
(.seq (.reg (⟨some 8,.mov (.t 0),none⟩::⟨some 9,.faddr 1 (.t 3),none⟩::⟨some 10,.load false 1 (.t 9),none⟩::⟨some 11,.call 64 [(.t 8), (.t 10)],none⟩::[]))
(.seq (.reg (⟨some 12,.mov (.t 0),none⟩::⟨some 13,.faddr 2 (.t 3),none⟩::⟨some 14,.load false 1 (.t 13),none⟩::⟨some 15,.call 15 [(.t 12), (.t 14)],none⟩::[]))
(.seq (.reg (⟨some 16,.mov (.t 0),none⟩::⟨some 17,.faddr 3 (.t 3),none⟩::⟨some 18,.load false 1 (.t 17),none⟩::⟨some 19,.call 15 [(.t 16), (.t 18)],none⟩::[]))
(.reg (⟨some 20,.mov (.t 0),none⟩::⟨some 21,.faddr 4 (.t 3),none⟩::⟨some 22,.load false 1 (.t 21),none⟩::⟨some 23,.faddr 5 (.t 3),none⟩::⟨some 24,.load false 1 (.t 23),none⟩::⟨some 25,.call 65 [(.t 20), (.t 22), (.t 24)],none⟩::[])))))))⟩
theorem c81_eq : compFn Try.prog 81 = some c81 := by kernel_rfl
/-- sodality/dump.entries$2 -/
noncomputable def c82 : FnI := ⟨21, [.cell 2 true 6],
(.seq (.reg (⟨some 1,.box (.t 0),none⟩::⟨some 2,.alloc [(.str []), (.str []), (.int .u64 (.ofNat 0)), (.int .u64 (.ofNat 0)), (.int .u64 (.ofNat 0)), (.int .u64 (.ofNat 0))],none⟩::[]))
(.seq (.reg (⟨some 4,.load true 1 (.t 1),none⟩::⟨some 5,.call 68 [(.t 4)],none⟩::⟨some 6,.build [(.str []), (.str []), (.int .u64 (.ofNat 0)), (.int .u64 (.ofNat 0)), (.int .u64 (.ofNat 0)), (.int .u64 (.ofNat 0))] [(0, 1, (.t 5))],none⟩::⟨some 3,.alloc [(.str []), (.str []), (.int .u64 (.ofNat 0)), (.int .u64 (.ofNat 0)), (.int .u64 (.ofNat 0)), (.int .u64 (.ofNat 0))],none⟩::⟨none,.store 6 (.t 3) (.t 6),none⟩::[]))
(.seq (.reg (⟨some 7,.load true 1 (.t 1),none⟩::⟨some 8,.call 68 [(.t 7)],none⟩::⟨some 9,.faddr 1 (.t 3),none⟩::⟨none,.store 1 (.t 9) (.t 8),none⟩::[]))
(.seq (.reg (⟨some 10,.load true 1 (.t 1),none⟩::⟨some 11,.call 41 [(.t 10)],none⟩::⟨some 12,.faddr 2 (.t 3),none⟩::⟨none,.store 1 (.t 12) (.t 11),none⟩::[]))
(.seq (.reg (⟨some 13,.load true 1 (.t 1),none⟩::⟨some 14,.call 41 [(.t 13)],none⟩::⟨some 15,.faddr 3 (.t 3),none⟩::⟨none,.store 1 (.t 15) (.t 14),none⟩::[]))
(.seq (.reg (⟨some 16,.load true 1 (.t 1),none⟩::⟨some 17,.faddr 4 (.t 3),none⟩::⟨some 18,.faddr 5 (.t 3),none⟩::⟨some 19,.call 69 [(.t 16), (.t 17), (.t 18)],none⟩::[]))
(.seq (.reg (⟨some 20,.load true 6 (.t 3),none⟩::⟨none,.store 6 (.t 2) (.t 20),none⟩::[]))
.ret)))))))⟩
theorem c82_eq : compFn Try.prog 82 = some c82 := by kernel_rfl
/-- sodality/dump.sessions$1 -/
noncomputable def c83 : FnI := ⟨18, [],
(.seq (.reg (⟨some 3,.box (.t 1),none⟩::[]))
(.seq (.reg (⟨some 4,.mov (.t 0),none⟩::⟨some 5,.faddr 0 (.t 3),none⟩::⟨some 6,.load false 1 (.t 5),none⟩::⟨some 7,.call 15 [(.t 4), (.t 6)],none⟩::[]))
(.seq (.reg (⟨some 8,.mov (.t 0),none⟩::⟨some 9,.faddr 1 (.t 3),none⟩::⟨some 10,.load false 1 (.t 9),none⟩::⟨some 11,.call 62 [(.t 8), (.t 10)],none⟩::[]))
(.reg (⟨some 12,.mov (.t 0),none⟩::⟨some 13,.faddr 2 (.t 3),none⟩::⟨some 14,.load false 1 (.t 13),none⟩::⟨some 15,.faddr 3 (.t 3),none⟩::⟨some 16,.load false 1 (.t 15),none⟩::⟨some 17,.call 65 [(.t 12), (.t 14), (.t 16)],none⟩::[])))))⟩
theorem c83_eq : compFn Try.prog 83 = some c83 := by kernel_rfl
/-- sodality/dump.sessions$2 -/
noncomputable def c84 : FnI := ⟨15, [.cell 2 true 4],
(.seq (.reg (⟨some 1,.box (.t 0),none⟩::⟨some 2,.alloc [(.int .u64 (.ofNat 0)), (.int .i64 (.ofNat 0)), (.int .u64 (.ofNat 0)), (.int .u64 (.ofNat 0))],none⟩::[]))
(.seq (.reg (⟨some 4,.load true 1 (.t 1),none⟩::⟨some 5,.call 41 [(.t 4)],none⟩::⟨some 6,.build [(.int .u64 (.ofNat 0)), (.int .i64 (.ofNat 0)), (.int .u64 (.ofNat 0)), (.int .u64 (.ofNat 0))] [(0, 1, (.t 5))],none⟩::⟨some 3,.alloc [(.int .u64 (.ofNat 0)), (.int .i64 (.ofNat 0)), (.int .u64 (.ofNat 0)), (.int .u64 (.ofNat 0))],none⟩::⟨none,.store 4 (.t 3) (.t 6),none⟩::[]))
(.seq (.reg (⟨some 7,.load true 1 (.t 1),none⟩::⟨some 8,.call 67 [(.t 7)],none⟩::⟨some 9,.faddr 1 (.t 3),none⟩::⟨none,.store 1 (.t 9) (.t 8),none⟩::[]))
(.seq (.reg (⟨some 10,.load true 1 (.t 1),none⟩::⟨some 11,.faddr 2 (.t 3),none⟩::⟨some 12,.faddr 3 (.t 3),none⟩::⟨some 13,.call 69 [(.t 10), (.t 11), (.t 12)],none⟩::[]))
(.seq (.reg (⟨some 14,.load true 4 (.t 3),none⟩::⟨none,.store 4 (.t 2) (.t 14),none⟩::[]))
.ret)))))⟩
theorem c84_eq : compFn Try.prog 84 = some c84 := by kernel_rfl
/-- sodality/dump.seen$1 -/
noncomputable def c85 : FnI := ⟨17, [],
(.seq (.reg (⟨some 3,.box (.t 1),none⟩::[]))
(.seq (.reg (⟨some 4,.mov (.t 0),none⟩::⟨some 5,.faddr 0 (.t 3),none⟩::⟨some 6,.load false 1 (.t 5),none⟩::⟨some 7,.call 62 [(.t 4), (.t 6)],none⟩::[]))
(.seq (.reg (⟨some 8,.mov (.t 0),none⟩::⟨some 9,.faddr 1 (.t 3),none⟩::⟨some 10,.load false 1 (.t 9),none⟩::⟨some 11,.cvInt .u64 (.t 10),none⟩::⟨some 12,.call 15 [(.t 8), (.t 11)],none⟩::[]))
(.reg (⟨some 13,.mov (.t 0),none⟩::⟨some 14,.faddr 2 (.t 3),none⟩::⟨some 15,.load false 1 (.t 14),none⟩::⟨some 16,.call 15 [(.t 13), (.t 15)],none⟩::[])))))⟩
theorem c85_eq : compFn Try.prog 85 = some c85 := by kernel_rfl
/-- sodality/dump.seen$2 -/
noncomputable def c86 : FnI := ⟨19, [.cell 2 true 3],
(.seq (.reg (⟨some 1,.box (.t 0),none⟩::⟨some 2,.alloc [(.int .i64 (.ofNat 0)), (.int .u32 (.ofNat 0)), (.int .u64 (.ofNat 0))],none⟩::[]))
(.seq (.reg (⟨some 5,.faddr 0 (.t 1),none⟩::⟨some 6,.load false 1 (.t 5),none⟩::⟨some 7,.mkfn 74 [(.t 6)] [],none⟩::⟨some 3,.mov (.t 7),none⟩::[]))
(.seq (.reg (⟨some 8,.load true 1 (.t 1),none⟩::⟨some 9,.call 67 [(.t 8)],none⟩::⟨some 10,.build [(.int .i64 (.ofNat 0)), (.int .u32 (.ofNat 0)), (.int .u64 (.ofNat 0))] [(0, 1, (.t 9))],none⟩::⟨some 4,.alloc [(.int .i64 (.ofNat 0)), (.int .u32 (.ofNat 0)), (.int .u64 (.ofNat 0))],none⟩::⟨none,.store 3 (.t 4) (.t 10),none⟩::[]))
(.seq (.reg (⟨some 11,.mov (.t 3),none⟩::⟨some 12,.callv (.t 11) [(.c (.int .u64 (.ofNat 4294967295)))],none⟩::⟨some 13,.cvInt .u32 (.t 12),none⟩::⟨some 14,.faddr 1 (.t 4),none⟩::⟨none,.store 1 (.t 14) (.t 13),none⟩::[]))
(.seq (.reg (⟨some 15,.load true 1 (.t 1),none⟩::⟨some 16,.call 41 [(.t 15)],none⟩::⟨some 17,.faddr 2 (.t 4),none⟩::⟨none,.store 1 (.t 17) (.t 16),none⟩::[]))
(.seq (.reg (⟨some 18,.load true 3 (.t 4),none⟩::⟨none,.store 3 (.t 2) (.t 18),none⟩::[]))
.ret))))))⟩
theorem c86_eq : compFn Try.prog 86 = some c86 := by kernel_rfl
/-- sodality/sodalityref04.Num -/
noncomputable def c87 : FnI := ⟨35, [.tmp 2],
(.seq (.reg (⟨some 2,.mov (.c .nilsl),none⟩::[]))
(.seq (.reg (⟨some 3,.mov (.c .nilsl),none⟩::[]))
(.seq (.block 0 (.loop (.seq (.seq (.reg (⟨some 6,.mov (.t 0),none⟩::⟨some 7,.bin .gtr (.t 6) (.c (.int .u64 (.ofNat 0))),none⟩::[]))
(.cond (.t 7) .skip (.exit 0)))
(.block 1 (.seq (.reg (⟨some 8,.mov (.t 3),none⟩::⟨some 9,.mov (.t 0),none⟩::⟨some 10,.bin .rem (.t 9) (.c (.int .u64 (.ofNat 256))),none⟩::⟨some 11,.cvInt .u8 (.t 10),none⟩::⟨some 12,.buildSl 1 1 [(.int .u8 (.ofNat 0))] [(0, 1, (.t 11))],none⟩::⟨some 13,.append 1 1 (.t 8) (.t 12),none⟩::⟨some 3,.mov (.t 13),none⟩::[]))
(.reg (⟨some 14,.mov (.t 0),none⟩::⟨some 15,.bin .quo (.t 14) (.c (.int .u64 (.ofNat 256))),none⟩::⟨some 0,.mov (.t 15),none⟩::[])))))))
(.seq (.reg (⟨some 16,.mov (.t 3),none⟩::⟨some 17,.len false (.t 16),none⟩::⟨some 18,.cvInt .u8 (.t 17),none⟩::⟨some 19,.buildSl 1 1 [(.int .u8 (.ofNat 0))] [(0, 1, (.t 18))],none⟩::⟨some 4,.mov (.t 19),none⟩::[]))
(.seq (.seq (.reg (⟨some 20,.mov (.t 3),none⟩::⟨some 21,.len false (.t 20),none⟩::⟨some 22,.bin .sub (.t 21) (.c (.int .i64 (.ofNat 1))),none⟩::⟨some 5,.mov (.t 22),none⟩::[]))
(.block 2 (.loop (.seq (.seq (.reg (⟨some 23,.mov (.t 5),none⟩::⟨some 24,.bin .geq (.t 23) (.c (.int .i64 (.ofNat 0))),none⟩::[]))
(.cond (.t 24) .skip (.exit 2)))
(.seq (.block 3 (.reg (⟨some 27,.mov (.t 4),none⟩::⟨some 28,.mov (.t 3),none⟩::⟨some 29,.mov (.t 5),none⟩::⟨some 30,.idxS 1 (.t 28) (.t 29),none⟩::⟨some 31,.load false 1 (.t 30),none⟩::⟨some 32,.buildSl 1 1 [(.int .u8 (.ofNat 0))] [(0, 1, (.t 31))],none⟩::⟨some 33,.append 1 1 (.t 27) (.t 32),none⟩::⟨some 4,.mov (.t 33),none⟩::[])))
(.reg (⟨some 25,.mov (.t 5),none⟩::⟨some 26,.bin .sub (.t 25) (.c (.int .i64 (.ofNat 1))),none⟩::⟨some 5,.mov (.t 26),none⟩::[])))))))
(.seq (.reg (⟨some 34,.mov (.t 4),none⟩::⟨some 2,.mov (.t 34),none⟩::[]))
.ret))))))⟩
theorem c87_eq : compFn Try.prog 87 = some c87 := by kernel_rfl
/-- sodality/sodalityref04.Text -/
noncomputable def c88 : FnI := ⟨22, [.tmp 2],
(.seq (.reg (⟨some 2,.mov (.c .nilsl),none⟩::[]))
(.seq (.reg (⟨some 5,.mov (.t 0),none⟩::⟨some 6,.len true (.t 5),none⟩::⟨some 7,.cvInt .u64 (.t 6),none⟩::⟨some 8,.call 87 [(.t 7)],none⟩::⟨some 3,.mov (.t 8),none⟩::[]))
(.seq (.seq (.reg (⟨some 4,.mov (.c (.int .i64 (.ofNat 0))),none⟩::[]))
(.block 0 (.loop (.seq (.seq (.reg (⟨some 9,.mov (.t 4),none⟩::⟨some 10,.mov (.t 0),none⟩::⟨some 11,.len true (.t 10),none⟩::⟨some 12,.bin .lss (.t 9) (.t 11),none⟩::[]))
(.cond (.t 12) .skip (.exit 0)))
(.seq (.block 1 (.reg (⟨some 15,.mov (.t 3),none⟩::⟨some 16,.mov (.t 0),none⟩::⟨some 17,.mov (.t 4),none⟩::⟨some 18,.idxStr (.t 16) (.t 17),none⟩::⟨some 19,.buildSl 1 1 [(.int .u8 (.ofNat 0))] [(0, 1, (.t 18))],none⟩::⟨some 20,.append 1 1 (.t 15) (.t 19),none⟩::⟨some 3,.mov (.t 20),none⟩::[])))
(.reg (⟨some 13,.mov (.t 4),none⟩::⟨some 14,.bin .add (.t 13) (.c (.int .i64 (.ofNat 1))),none⟩::⟨some 4,.mov (.t 14),none⟩::[])))))))
(.seq (.reg (⟨some 21,.mov (.t 3),none⟩::⟨some 2,.mov (.t 21),none⟩::[]))
.ret))))⟩
theorem c88_eq : compFn Try.prog 88 = some c88 := by kernel_rfl
/-- (*sodality/field.Reader).Wrong -/
noncomputable def c89 : FnI := ⟨9, [.tmp 2],
(.seq (.reg (⟨some 2,.mov (.c (.int .i64 (.ofNat 0))),none⟩::[]))
(.seq (.seq (.reg (⟨some 3,.mov (.t 0),none⟩::⟨some 4,.eq false .ptr (.t 3) (.c .nilp),none⟩::[]))
(.cond (.t 4) (.seq (.reg (⟨some 2,.mov (.c (.int .i64 (.ofNat 0))),none⟩::[]))
.ret) .skip))
(.seq (.reg (⟨some 5,.mov (.t 0),none⟩::⟨some 6,.nilchk (.t 5),none⟩::⟨some 7,.faddr 2 (.t 6),none⟩::⟨some 8,.load false 1 (.t 7),none⟩::⟨some 2,.mov (.t 8),none⟩::[]))
.ret)))⟩
theorem c89_eq : compFn Try.prog 89 = some c89 := by kernel_rfl
/-- (*sodality/field.Reader).Left -/
noncomputable def c90 : FnI := ⟨10, [.tmp 2],
(.seq (.reg (⟨some 2,.mov (.c (.int .i64 (.ofNat 0))),none⟩::[]))
(.seq (.seq (.reg (⟨some 3,.mov (.t 0),none⟩::⟨some 4,.eq false .ptr (.t 3) (.c .nilp),none⟩::[]))
(.cond (.t 4) (.seq (.reg (⟨some 2,.mov (.c (.int .i64 (.ofNat 0))),none⟩::[]))
.ret) .skip))
(.seq (.reg (⟨some 5,.mov (.t 0),none⟩::⟨some 6,.nilchk (.t 5),none⟩::⟨some 7,.faddr 1 (.t 6),none⟩::⟨some 8,.load false 1 (.t 7),none⟩::⟨some 9,.len false (.t 8),none⟩::⟨some 2,.mov (.t 9),none⟩::[]))
.ret)))⟩
theorem c90_eq : compFn Try.prog 90 = some c90 := by kernel_rfl
/-- sodality/sodalityref04.number -/
noncomputable def c91 : FnI := ⟨51, [.tmp 2, .tmp 3, .tmp 4],
(.seq (.reg (⟨some 2,.mov (.c (.int .u64 (.ofNat 0))),none⟩::⟨some 3,.mov (.c (.int .i64 (.ofNat 0))),none⟩::⟨some 4,.mov (.c (.int .i64 (.ofNat 0))),none⟩::[]))
(.seq (.seq (.reg (⟨some 8,.mov (.t 0),none⟩::⟨some 9,.len false (.t 8),none⟩::⟨some 10,.bin .lss (.t 9) (.c (.int .i64 (.ofNat 1))),none⟩::[]))
(.cond (.t 10) (.seq (.reg (⟨some 2,.mov (.c (.int .u64 (.ofNat 0))),none⟩::⟨some 3,.mov (.c (.int .i64 (.ofNat 0))),none⟩::⟨some 4,.mov (.c (.int .i64 (.ofNat 30))),none⟩::[]))
.ret) .skip))
(.seq (.reg (⟨some 11,.mov (.t 0),none⟩::⟨some 12,.idxS 1 (.t 11) (.c (.int .i64 (.ofNat 0))),none⟩::⟨some 13,.load false 1 (.t 12),none⟩::⟨some 14,.cvInt .i64 (.t 13),none⟩::⟨some 5,.mov (.t 14),none⟩::[]))
(.seq (.seq (.reg (⟨some 15,.mov (.t 5),none⟩::⟨some 16,.bin .gtr (.t 15) (.c (.int .i64 (.ofNat 8))),none⟩::[]))
(.cond (.t 16) (.seq (.reg (⟨some 2,.mov (.c (.int .u64 (.ofNat 0))),none⟩::⟨some 3,.mov (.c (.int .i64 (.ofNat 0))),none⟩::⟨some 4,.mov (.c (.int .i64 (.ofNat 40))),none⟩::[]))
.ret) .skip))
(.seq (.seq (.reg (⟨some 17,.mov (.t 5),none⟩::⟨some 18,.bin .gtr (.t 17) (.c (.int .i64 (.ofNat 0))),none⟩::⟨some 19,.mov (.t 18),none⟩::⟨some 20,.mov (.t 0),some (19,true)⟩::⟨some 21,.len false (.t 20),some (19,true)⟩::⟨some 22,.bin .gtr (.t 21) (.c (.int .i64 (.ofNat 1))),some (19,true)⟩::⟨some 23,.pick (.t 19) (.t 22) (.c (.bool false)),none⟩::⟨some 24,.mov (.t 23),none⟩::⟨some 25,.mov (.t 0),some (24,true)⟩::⟨some 26,.idxS 1 (.t 25) (.c (.int .i64 (.ofNat 1))),some (24,true)⟩::⟨some 27,.load false 1 (.t 26),some (24,true)⟩::⟨some 28,.bin .eql (.t 27) (.c (.int .u8 (.ofNat 0))),some (24,true)⟩::⟨some 29,.pick (.t 24) (.t 28) (.c (.bool false)),none⟩::[]))
(.cond (.t 29) (.seq (.reg (⟨some 2,.mov (.c (.int .u64 (.ofNat 0))),none⟩::⟨some 3,.mov (.c (.int .i64 (.ofNat 0))),none⟩::⟨some 4,.mov (.c (.int .i64 (.ofNat 40))),none⟩::[]))
.ret) .skip))
(.seq (.seq (.reg (⟨some 30,.mov (.t 0),none⟩::⟨some 31,.len false (.t 30),none⟩::⟨some 32,.mov (.t 5),none⟩::⟨some 33,.bin .add (.c (.int .i64 (.ofNat 1))) (.t 32),none⟩::⟨some 34,.bin .lss (.t 31) (.t 33),none⟩::[]))
(.cond (.t 34) (.seq (.reg (⟨some 2,.mov (.c (.int .u64 (.ofNat 0))),none⟩::⟨some 3,.mov (.c (.int .i64 (.ofNat 0))),none⟩::⟨some 4,.mov (.c (.int .i64 (.ofNat 30))),none⟩::[]))
.ret) .skip))
(.seq (.reg (⟨some 6,.mov (.c (.int .u64 (.ofNat 0))),none⟩::[]))
(.seq (.seq (.reg (⟨some 7,.mov (.c (.int .i64 (.ofNat 1))),none⟩::[]))
(.block 0 (.loop (.seq (.seq (.reg (⟨some 35,.mov (.t 7),none⟩::⟨some 36,.mov (.t 5),none⟩::⟨some 37,.bin .leq (.t 35) (.t 36),none⟩::[]))
(.cond (.t 37) .skip (.exit 0)))
(.seq (.block 1 (.reg (⟨some 40,.mov (.t 6),none⟩::⟨some 41,.bin .mul (.t 40) (.c (.int .u64 (.ofNat 256))),none⟩::⟨some 42,.mov (.t 0),none⟩::⟨some 43,.mov (.t 7),none⟩::⟨some 44,.idxS 1 (.t 42) (.t 43),none⟩::⟨some 45,.load false 1 (.t 44),none⟩::⟨some 46,.cvInt .u64 (.t 45),none⟩::⟨some 47,.bin .add (.t 41) (.t 46),none⟩::⟨some 6,.mov (.t 47),none⟩::[])))
(.reg (⟨some 38,.mov (.t 7),none⟩::⟨some 39,.bin .add (.t 38) (.c (.int .i64 (.ofNat 1))),none⟩::⟨some 7,.mov (.t 39),none⟩::[])))))))
(.seq (.reg (⟨some 48,.mov (.t 6),none⟩::⟨some 49,.mov (.t 5),none⟩::⟨some 50,.bin .add (.c (.int .i64 (.ofNat 1))) (.t 49),none⟩::⟨some 2,.mov (.t 48),none⟩::⟨some 3,.mov (.t 50),none⟩::⟨some 4,.mov (.c (.int .i64 (.ofNat 0))),none⟩::[]))
.ret)))))))))⟩
theorem c91_eq : compFn Try.prog 91 = some c91 := by kernel_rfl
/-- (*sodality/sodalityref04.Reader).Done -/
noncomputable def c92 : FnI := ⟨20, [.tmp 2],
(.seq (.reg (⟨some 2,.mov (.c (.int .i64 (.ofNat 0))),none⟩::[]))
(.seq (.seq (.reg (⟨some 3,.mov (.t 0),none⟩::⟨some 4,.nilchk (.t 3),none⟩::⟨some 5,.faddr 1 (.t 4),none⟩::⟨some 6,.load false 1 (.t 5),none⟩::⟨some 7,.bin .eql (.t 6) (.c (.int .i64 (.ofNat 0))),none⟩::⟨some 8,.mov (.t 7),none⟩::⟨some 9,.mov (.t 0),some (8,true)⟩::⟨some 10,.nilchk (.t 9),some (8,true)⟩::⟨some 11,.faddr 0 (.t 10),some (8,true)⟩::⟨some 12,.load false 1 (.t 11),some (8,true)⟩::⟨some 13,.len false (.t 12),some (8,true)⟩::⟨some 14,.bin .gtr (.t 13) (.c (.int .i64 (.ofNat 0))),some (8,true)⟩::⟨some 15,.pick (.t 8) (.t 14) (.c (.bool false)),none⟩::[]))
(.cond (.t 15) (.seq (.reg (⟨some 2,.mov (.c (.int .i64 (.ofNat 41))),none⟩::[]))
.ret) .skip))
(.seq (.reg (⟨some 16,.mov (.t 0),none⟩::⟨some 17,.nilchk (.t 16),none⟩::⟨some 18,.faddr 1 (.t 17),none⟩::⟨some 19,.load false 1 (.t 18),none⟩::⟨some 2,.mov (.t 19),none⟩::[]))
.ret)))⟩
theorem c92_eq : compFn Try.prog 92 = some c92 := by kernel_rfl
/-- sodality/sodalityref01.Same -/
noncomputable def c93 : FnI := ⟨26, [.tmp 4],
(.seq (.reg (⟨some 4,.mov (.c (.bool false)),none⟩::[]))
(.seq (.seq (.reg (⟨some 6,.mov (.t 0),none⟩::⟨some 7,.len false (.t 6),none⟩::⟨some 8,.mov (.t 1),none⟩::⟨some 9,.len false (.t 8),none⟩::⟨some 10,.bin .neq (.t 7) (.t 9),none⟩::[]))
(.cond (.t 10) (.seq (.reg (⟨some 4,.mov (.c (.bool false)),none⟩::[]))
.ret) .skip))
(.seq (.seq (.reg (⟨some 5,.mov (.c (.int .i64 (.ofNat 0))),none⟩::[]))
(.block 0 (.loop (.seq (.seq (.reg (⟨some 11,.mov (.t 5),none⟩::⟨some 12,.mov (.t 0),none⟩::⟨some 13,.len false (.t 12),none⟩::⟨some 14,.bin .lss (.t 11) (.t 13),none⟩::[]))
(.cond (.t 14) .skip (.exit 0)))
(.seq (.block 1 (.seq (.dreg (⟨⟨some 17,.mov (.t 0),none⟩,.quiet,0,0⟩::⟨⟨some 18,.mov (.t 5),none⟩,.quiet,1,0⟩::⟨⟨some 19,.idxS 1 (.t 17) (.t 18),none⟩,.quiet,2,3⟩::⟨⟨some 20,.load false 1 (.t 19),none⟩,.load,3,7⟩::⟨⟨some 21,.mov (.t 1),none⟩,.quiet,4,0⟩::⟨⟨some 22,.mov (.t 5),none⟩,.quiet,5,0⟩::⟨⟨some 23,.idxS 1 (.t 21) (.t 22),none⟩,.quiet,6,48⟩::⟨⟨some 24,.load false 1 (.t 23),none⟩,.load,7,112⟩::⟨⟨some 25,.bin .neq (.t 20) (.t 24),none⟩,.quiet,8,255⟩::[]))
(.cond (.t 25) (.seq (.reg (⟨some 4,.mov (.c (.bool false)),none⟩::[]))
.ret) .skip)))
(.reg (⟨some 15,.mov (.t 5),none⟩::⟨some 16,.bin .add (.t 15) (.c (.int .i64 (.ofNat 1))),none⟩::⟨some 5,.mov (.t 16),none⟩::[])))))))
(.seq (.reg (⟨some 4,.mov (.c (.bool true)),none⟩::[]))
.ret))))⟩
theorem c93_eq : compFn Try.prog 93 = some c93 := by kernel_rfl
/-- sodality/field.Text -/
noncomputable def c94 : FnI := ⟨12, [.tmp 4],
(.seq (.reg (⟨some 4,.mov (.c .nilsl),none⟩::[]))
(.seq (.reg (⟨some 5,.mov (.t 0),none⟩::⟨some 6,.mov (.t 1),none⟩::⟨some 7,.len true (.t 6),none⟩::⟨some 8,.cvInt .u64 (.t 7),none⟩::⟨some 9,.call 61 [(.t 5), (.t 8)],none⟩::⟨some 10,.mov (.t 1),none⟩::⟨some 11,.append 1 1 (.t 9) (.t 10),none⟩::⟨some 4,.mov (.t 11),none⟩::[]))
.ret))⟩
theorem c94_eq : compFn Try.prog 94 = some c94 := by kernel_rfl
/-- (*sodality/field.Reader).Text -/
noncomputable def c95 : FnI := ⟨70, [.tmp 4],
(.seq (.reg (⟨some 4,.mov (.c (.str [])),none⟩::[]))
(.seq (.seq (.reg (⟨some 9,.mov (.t 0),none⟩::⟨some 10,.call 97 [(.t 9)],none⟩::⟨some 11,.un .not (.t 10),none⟩::[]))
(.cond (.t 11) (.seq (.reg (⟨some 4,.mov (.c (.str [])),none⟩::[]))
.ret) .skip))
(.seq (.reg (⟨some 13,.mov (.t 0),none⟩::⟨some 14,.nilchk (.t 13),none⟩::⟨some 15,.faddr 1 (.t 14),none⟩::⟨some 16,.load false 1 (.t 15),none⟩::⟨some 17,.call 100 [(.t 16)],none⟩::⟨some 12,.mov (.t 17),none⟩::⟨some 18,.extract (.t 12) 0,none⟩::⟨some 19,.extract (.t 12) 1,none⟩::⟨some 20,.extract (.t 12) 2,none⟩::⟨some 5,.mov (.t 18),none⟩::⟨some 6,.mov (.t 19),none⟩::⟨some 7,.mov (.t 20),none⟩::[]))
(.seq (.block 0 (.seq (.reg (⟨some 22,.mov (.t 7),none⟩::⟨some 23,.bin .neq (.t 22) (.c (.int .i64 (.ofNat 0))),none⟩::⟨some 21,.mov (.t 23),none⟩::[]))
(.cond (.t 21) .skip (.seq (.reg (⟨some 25,.mov (.t 5),none⟩::⟨some 26,.mov (.t 1),none⟩::⟨some 27,.mm true (.t 26) [(.c (.int .i64 (.ofNat 0)))],none⟩::⟨some 28,.cvInt .u64 (.t 27),none⟩::⟨some 29,.bin .gtr (.t 25) (.t 28),none⟩::⟨some 24,.mov (.t 29),none⟩::[]))
(.cond (.t 24) (.reg (⟨some 7,.mov (.c (.int .i64 (.ofNat 3))),none⟩::[])) (.seq (.reg (⟨some 31,.mov (.t 5),none⟩::⟨some 32,.mov (.t 0),none⟩::⟨some 33,.nilchk (.t 32),none⟩::⟨some 34,.faddr 1 (.t 33),none⟩::⟨some 35,.load false 1 (.t 34),none⟩::⟨some 36,.len false (.t 35),none⟩::⟨some 37,.mov (.t 6),none⟩::⟨some 38,.bin .sub (.t 36) (.t 37),none⟩::⟨some 39,.cvInt .u64 (.t 38),none⟩::⟨some 40,.bin .gtr (.t 31) (.t 39),none⟩::⟨some 30,.mov (.t 40),none⟩::[]))
(.cond (.t 30) (.reg (⟨some 7,.mov (.c (.int .i64 (.ofNat 30))),none⟩::[])) .skip)))))))
(.seq (.seq (.reg (⟨some 41,.mov (.t 7),none⟩::⟨some 42,.bin .neq (.t 41) (.c (.int .i64 (.ofNat 0))),none⟩::[]))
(.cond (.t 42) (.seq (.reg (⟨some 43,.mov (.t 0),none⟩::⟨some 44,.mov (.t 7),none⟩::⟨some 45,.call 101 [(.t 43), (.t 44)],none⟩::[]))
(.seq (.reg (⟨some 4,.mov (.c (.str [])),none⟩::[]))
.ret)) .skip))
(.seq (.reg (⟨some 46,.mov (.t 0),none⟩::⟨some 47,.nilchk (.t 46),none⟩::⟨some 48,.faddr 1 (.t 47),none⟩::⟨some 49,.load false 1 (.t 48),none⟩::⟨some 50,.mov (.t 6),none⟩::⟨some 51,.mov (.t 6),none⟩::⟨some 52,.mov (.t 5),none⟩::⟨some 53,.cvInt .i64 (.t 52),none⟩::⟨some 54,.bin .add (.t 51) (.t 53),none⟩::⟨some 55,.slS 1 (.t 49) (some (.t 50)) (some (.t 54)) none,none⟩::⟨some 56,.cvStr (.t 55),none⟩::⟨some 8,.mov (.t 56),none⟩::[]))
(.seq (.reg (⟨some 57,.mov (.t 0),none⟩::⟨some 58,.mov (.t 0),none⟩::⟨some 59,.nilchk (.t 58),none⟩::⟨some 60,.faddr 1 (.t 59),none⟩::⟨some 61,.load false 1 (.t 60),none⟩::⟨some 62,.mov (.t 6),none⟩::⟨some 63,.mov (.t 5),none⟩::⟨some 64,.cvInt .i64 (.t 63),none⟩::⟨some 65,.bin .add (.t 62) (.t 64),none⟩::⟨some 66,.slS 1 (.t 61) (some (.t 65)) none none,none⟩::⟨some 67,.nilchk (.t 57),none⟩::⟨some 68,.faddr 1 (.t 67),none⟩::⟨none,.store 1 (.t 68) (.t 66),none⟩::[]))
(.seq (.reg (⟨some 69,.mov (.t 8),none⟩::⟨some 4,.mov (.t 69),none⟩::[]))
.ret))))))))⟩
theorem c95_eq : compFn Try.prog 95 = some c95 := by kernel_rfl
/-- sodality/field.Texts -/
noncomputable def c96 : FnI := ⟨8, [.tmp 4],
(.seq (.reg (⟨some 4,.mov (.c .nilsl),none⟩::[]))
(.seq (.reg (⟨some 5,.mov (.t 0),none⟩::⟨some 6,.mov (.t 1),none⟩::⟨some 7,.call 103 [(.t 5), (.t 6), (.c (.fn (.func 94) [] []))],none⟩::⟨some 4,.mov (.t 7),none⟩::[]))
.ret))⟩
theorem c96_eq : compFn Try.prog 96 = some c96 := by kernel_rfl
/-- (*sodality/field.Reader).stands -/
noncomputable def c97 : FnI := ⟨18, [.tmp 2],
(.seq (.reg (⟨some 2,.mov (.c (.bool false)),none⟩::[]))
(.seq (.reg (⟨some 3,.mov (.t 0),none⟩::⟨some 4,.eq true .ptr (.t 3) (.c .nilp),none⟩::⟨some 5,.mov (.t 4),none⟩::⟨some 6,.mov (.t 0),some (5,true)⟩::⟨some 7,.nilchk (.t 6),some (5,true)⟩::⟨some 8,.faddr 0 (.t 7),some (5,true)⟩::⟨some 9,.load false 1 (.t 8),some (5,true)⟩::⟨some 10,.pick (.t 5) (.t 9) (.c (.bool false)),none⟩::⟨some 11,.mov (.t 10),none⟩::⟨some 12,.mov (.t 0),some (11,true)⟩::⟨some 13,.nilchk (.t 12),some (11,true)⟩::⟨some 14,.faddr 2 (.t 13),some (11,true)⟩::⟨some 15,.load false 1 (.t 14),some (11,true)⟩::⟨some 16,.bin .eql (.t 15) (.c (.int .i64 (.ofNat 0))),some (11,true)⟩::⟨some 17,.pick (.t 11) (.t 16) (.c (.bool false)),none⟩::⟨some 2,.mov (.t 17),none⟩::[]))
.ret))⟩
theorem c97_eq : compFn Try.prog 97 = some c97 := by kernel_rfl
/-- sodality/field.items[string] -/
noncomputable def c98 : FnI := ⟨38, [.tmp 6],
(.seq (.reg (⟨some 6,.mov (.c .nilsl),none⟩::[]))
(.seq (.reg (⟨some 10,.mov (.t 0),none⟩::⟨some 11,.mov (.t 1),none⟩::⟨some 12,.mm true (.t 11) [(.c (.int .i64 (.ofNat 0)))],none⟩::⟨some 13,.cvInt .u64 (.t 12),none⟩::⟨some 14,.call 74 [(.t 10), (.t 13)],none⟩::⟨some 7,.mov (.t 14),none⟩::[]))
(.seq (.reg (⟨some 8,.mov (.c .nilsl),none⟩::[]))
(.seq (.seq (.reg (⟨some 9,.mov (.c (.int .u64 (.ofNat 0))),none⟩::[]))
(.block 0 (.loop (.seq (.seq (.reg (⟨some 15,.mov (.t 9),none⟩::⟨some 16,.mov (.t 7),none⟩::⟨some 17,.bin .lss (.t 15) (.t 16),none⟩::⟨some 18,.mov (.t 17),none⟩::⟨some 19,.mov (.t 0),some (18,true)⟩::⟨some 20,.nilchk (.t 19),some (18,true)⟩::⟨some 21,.faddr 2 (.t 20),some (18,true)⟩::⟨some 22,.load false 1 (.t 21),some (18,true)⟩::⟨some 23,.bin .eql (.t 22) (.c (.int .i64 (.ofNat 0))),some (18,true)⟩::⟨some 24,.pick (.t 18) (.t 23) (.c (.bool false)),none⟩::[]))
(.cond (.t 24) .skip (.exit 0)))
(.seq (.block 1 (.reg (⟨some 27,.mov (.t 8),none⟩::⟨some 28,.mov (.t 2),none⟩::⟨some 29,.callv (.t 28) [],none⟩::⟨some 30,.buildSl 1 1 [(.str [])] [(0, 1, (.t 29))],none⟩::⟨some 31,.append 1 16 (.t 27) (.t 30),none⟩::⟨some 8,.mov (.t 31),none⟩::[])))
(.reg (⟨some 25,.mov (.t 9),none⟩::⟨some 26,.bin .add (.t 25) (.c (.int .u64 (.ofNat 1))),none⟩::⟨some 9,.mov (.t 26),none⟩::[])))))))
(.seq (.seq (.reg (⟨some 32,.mov (.t 0),none⟩::⟨some 33,.nilchk (.t 32),none⟩::⟨some 34,.faddr 2 (.t 33),none⟩::⟨some 35,.load false 1 (.t 34),none⟩::⟨some 36,.bin .neq (.t 35) (.c (.int .i64 (.ofNat 0))),none⟩::[]))
(.cond (.t 36) (.seq (.reg (⟨some 6,.mov (.c .nilsl),none⟩::[]))
.ret) .skip))
(.seq (.reg (⟨some 37,.mov (.t 8),none⟩::⟨some 6,.mov (.t 37),none⟩::[]))
.ret))))))⟩
theorem c98_eq : compFn Try.prog 98 = some c98 := by kernel_rfl
/-- (*sodality/field.Reader).Texts$1 -/
noncomputable def c99 : FnI := ⟨6, [.tmp 2],
(.seq (.reg (⟨some 2,.mov (.c (.str [])),none⟩::[]))
(.seq (.reg (⟨some 3,.load false 1 (.t 0),none⟩::⟨some 4,.load false 1 (.t 1),none⟩::⟨some 5,.call 95 [(.t 3), (.t 4)],none⟩::⟨some 2,.mov (.t 5),none⟩::[]))
.ret))⟩
theorem c99_eq : compFn Try.prog 99 = some c99 := by kernel_rfl
/-- sodality/field.number -/
noncomputable def c100 : FnI := ⟨58, [.tmp 2, .tmp 3, .tmp 4],
(.seq (.reg (⟨some 2,.mov (.c (.int .u64 (.ofNat 0))),none⟩::⟨some 3,.mov (.c (.int .i64 (.ofNat 0))),none⟩::⟨some 4,.mov (.c (.int .i64 (.ofNat 0))),none⟩::[]))
(.seq (.seq (.reg (⟨some 9,.mov (.t 0),none⟩::⟨some 10,.len false (.t 9),none⟩::⟨some 11,.bin .eql (.t 10) (.c (.int .i64 (.ofNat 0))),none⟩::[]))
(.cond (.t 11) (.seq (.reg (⟨some 2,.mov (.c (.int .u64 (.ofNat 0))),none⟩::⟨some 3,.mov (.c (.int .i64 (.ofNat 0))),none⟩::⟨some 4,.mov (.c (.int .i64 (.ofNat 30))),none⟩::[]))
.ret) .skip))
(.seq (.reg (⟨some 12,.mov (.t 0),none⟩::⟨some 13,.idxS 1 (.t 12) (.c (.int .i64 (.ofNat 0))),none⟩::⟨some 14,.load false 1 (.t 13),none⟩::⟨some 15,.cvInt .i64 (.t 14),none⟩::⟨some 5,.mov (.t 15),none⟩::[]))
(.seq (.block 0 (.seq (.reg (⟨some 17,.mov (.t 5),none⟩::⟨some 18,.bin .gtr (.t 17) (.c (.int .i64 (.ofNat 8))),none⟩::⟨some 19,.mov (.t 18),none⟩::⟨some 20,.mov (.t 5),some (19,false)⟩::⟨some 21,.bin .gtr (.t 20) (.c (.int .i64 (.ofNat 0))),some (19,false)⟩::⟨some 22,.mov (.t 21),some (19,false)⟩::⟨some 23,.mov (.t 0),some (22,true)⟩::⟨some 24,.len false (.t 23),some (22,true)⟩::⟨some 25,.bin .gtr (.t 24) (.c (.int .i64 (.ofNat 1))),some (22,true)⟩::⟨some 26,.pick (.t 22) (.t 25) (.c (.bool false)),some (19,false)⟩::⟨some 27,.mov (.t 26),some (19,false)⟩::⟨some 28,.mov (.t 0),some (27,true)⟩::⟨some 29,.idxS 1 (.t 28) (.c (.int .i64 (.ofNat 1))),some (27,true)⟩::⟨some 30,.load false 1 (.t 29),some (27,true)⟩::⟨some 31,.bin .eql (.t 30) (.c (.int .u8 (.ofNat 0))),some (27,true)⟩::⟨some 32,.pick (.t 27) (.t 31) (.c (.bool false)),some (19,false)⟩::⟨some 33,.pick (.t 19) (.c (.bool true)) (.t 32),none⟩::⟨some 16,.mov (.t 33),none⟩::[]))
(.cond (.t 16) (.seq (.reg (⟨some 2,.mov (.c (.int .u64 (.ofNat 0))),none⟩::⟨some 3,.mov (.c (.int .i64 (.ofNat 0))),none⟩::⟨some 4,.mov (.c (.int .i64 (.ofNat 40))),none⟩::[]))
.ret) (.seq (.reg (⟨some 35,.mov (.t 0),none⟩::⟨some 36,.len false (.t 35),none⟩::⟨some 37,.mov (.t 5),none⟩::⟨some 38,.bin .add (.t 37) (.c (.int .i64 (.ofNat 1))),none⟩::⟨some 39,.bin .lss (.t 36) (.t 38),none⟩::⟨some 34,.mov (.t 39),none⟩::[]))
(.cond (.t 34) (.seq (.reg (⟨some 2,.mov (.c (.int .u64 (.ofNat 0))),none⟩::⟨some 3,.mov (.c (.int .i64 (.ofNat 0))),none⟩::⟨some 4,.mov (.c (.int .i64 (.ofNat 30))),none⟩::[]))
.ret) .skip)))))
(.seq (.reg (⟨some 6,.mov (.c (.int .u64 (.ofNat 0))),none⟩::[]))
(.seq (.seq (.reg (⟨some 40,.mov (.t 0),none⟩::⟨some 41,.mov (.t 5),none⟩::⟨some 42,.bin .add (.t 41) (.c (.int .i64 (.ofNat 1))),none⟩::⟨some 43,.slS 1 (.t 40) (some (.c (.int .i64 (.ofNat 1)))) (some (.t 42)) none,none⟩::⟨some 44,.len false (.t 43),none⟩::⟨some 45,.mov (.c (.int .i64 (.ofNat 0))),none⟩::[]))
(.block 1 (.loop (.seq (.reg (⟨some 46,.bin .lss (.t 45) (.t 44),none⟩::[]))
(.seq (.cond (.t 46) .skip (.exit 1))
(.seq (.block 2 (.seq (.reg (⟨some 47,.idxS 1 (.t 43) (.t 45),none⟩::⟨some 48,.load false 1 (.t 47),none⟩::⟨some 8,.mov (.t 48),none⟩::[]))
(.reg (⟨some 49,.mov (.t 6),none⟩::⟨some 50,.bin .shl (.t 49) (.c (.int .u64 (.ofNat 8))),none⟩::⟨some 51,.mov (.t 8),none⟩::⟨some 52,.cvInt .u64 (.t 51),none⟩::⟨some 53,.bin .or (.t 50) (.t 52),none⟩::⟨some 6,.mov (.t 53),none⟩::[]))))
(.reg (⟨some 54,.bin .add (.t 45) (.c (.int .i64 (.ofNat 1))),none⟩::⟨some 45,.mov (.t 54),none⟩::[]))))))))
(.seq (.reg (⟨some 55,.mov (.t 6),none⟩::⟨some 56,.mov (.t 5),none⟩::⟨some 57,.bin .add (.t 56) (.c (.int .i64 (.ofNat 1))),none⟩::⟨some 2,.mov (.t 55),none⟩::⟨some 3,.mov (.t 57),none⟩::⟨some 4,.mov (.c (.int .i64 (.ofNat 0))),none⟩::[]))
.ret)))))))⟩
theorem c100_eq : compFn Try.prog 100 = some c100 := by kernel_rfl
/-- (*sodality/field.Reader).fail -/
noncomputable def c101 : FnI := ⟨8, [],
(.reg (⟨some 4,.mov (.t 0),none⟩::⟨some 5,.mov (.t 1),none⟩::⟨some 6,.nilchk (.t 4),none⟩::⟨some 7,.faddr 2 (.t 6),none⟩::⟨none,.store 1 (.t 7) (.t 5),none⟩::[]))⟩
theorem c101_eq : compFn Try.prog 101 = some c101 := by kernel_rfl
/-- sodality/field.Flag -/
noncomputable def c102 : FnI := ⟨10, [.tmp 4],
(.seq (.reg (⟨some 4,.mov (.c .nilsl),none⟩::[]))
(.seq (.seq (.reg (⟨some 5,.mov (.t 1),none⟩::[]))
(.cond (.t 5) (.seq (.reg (⟨some 6,.mov (.t 0),none⟩::⟨some 7,.call 61 [(.t 6), (.c (.int .u64 (.ofNat 1)))],none⟩::⟨some 4,.mov (.t 7),none⟩::[]))
.ret) .skip))
(.seq (.reg (⟨some 8,.mov (.t 0),none⟩::⟨some 9,.call 61 [(.t 8), (.c (.int .u64 (.ofNat 0)))],none⟩::⟨some 4,.mov (.t 9),none⟩::[]))
.ret)))⟩
theorem c102_eq : compFn Try.prog 102 = some c102 := by kernel_rfl
/-- sodality/field.list[string] -/
noncomputable def c103 : FnI := ⟨27, [.tmp 6],
(.seq (.reg (⟨some 6,.mov (.c .nilsl),none⟩::[]))
(.seq (.reg (⟨some 10,.mov (.t 0),none⟩::⟨some 11,.mov (.t 1),none⟩::⟨some 12,.len false (.t 11),none⟩::⟨some 13,.cvInt .u64 (.t 12),none⟩::⟨some 14,.call 61 [(.t 10), (.t 13)],none⟩::⟨some 7,.mov (.t 14),none⟩::[]))
(.seq (.seq (.reg (⟨some 15,.mov (.t 1),none⟩::⟨some 16,.len false (.t 15),none⟩::⟨some 17,.mov (.c (.int .i64 (.ofNat 0))),none⟩::[]))
(.block 0 (.loop (.seq (.reg (⟨some 18,.bin .lss (.t 17) (.t 16),none⟩::[]))
(.seq (.cond (.t 18) .skip (.exit 0))
(.seq (.block 1 (.seq (.reg (⟨some 19,.idxS 1 (.t 15) (.t 17),none⟩::⟨some 20,.load false 1 (.t 19),none⟩::⟨some 9,.mov (.t 20),none⟩::[]))
(.reg (⟨some 21,.mov (.t 2),none⟩::⟨some 22,.mov (.t 7),none⟩::⟨some 23,.mov (.t 9),none⟩::⟨some 24,.callv (.t 21) [(.t 22), (.t 23)],none⟩::⟨some 7,.mov (.t 24),none⟩::[]))))
(.reg (⟨some 25,.bin .add (.t 17) (.c (.int .i64 (.ofNat 1))),none⟩::⟨some 17,.mov (.t 25),none⟩::[]))))))))
(.seq (.reg (⟨some 26,.mov (.t 7),none⟩::⟨some 6,.mov (.t 26),none⟩::[]))
.ret))))⟩
theorem c103_eq : compFn Try.prog 103 = some c103 := by kernel_rfl
end Go.Proofs.Ytdcbglljljfleaa.DU
