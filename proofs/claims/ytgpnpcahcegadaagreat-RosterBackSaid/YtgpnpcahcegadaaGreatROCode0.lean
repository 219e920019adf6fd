/- The functions' code, as the evaluator takes it (part 0), and that it is what the evaluator's compiler makes of the program. -/
import Derived.Test.YtgpnpcahcegadaaGreatAbsJ
import Derived.Test.YtgpnpcahcegadaaGreatRows
set_option maxRecDepth 100000
namespace Go.Proofs.YtgpnpcahcegadaaGreat.RO
open Go.Proofs.YtgpnpcahcegadaaGreat.Abs
/-- sodality/sodalitylaw19.RosterPlays -/
noncomputable def c3 : FnI := ⟨100, [.tmp 4],
(.seq (.reg (⟨some 4,.mov (.c (.bool false)),none⟩::[]))
(.seq (.reg (⟨some 8,.mov (.t 0),none⟩::⟨some 9,.call 7 [(.t 8)],none⟩::⟨some 5,.mov (.t 9),none⟩::[]))
(.seq (.reg (⟨some 10,.mov (.t 0),none⟩::⟨some 11,.call 8 [(.t 10)],none⟩::⟨some 6,.mov (.t 11),none⟩::[]))
(.seq (.seq (.reg (⟨some 7,.mov (.c (.int .i64 (.ofNat 0))),none⟩::[]))
(.block 0 (.loop (.seq (.seq (.reg (⟨some 12,.mov (.t 7),none⟩::⟨some 13,.mov (.t 1),none⟩::⟨some 14,.len false (.t 13),none⟩::⟨some 15,.bin .lss (.t 12) (.t 14),none⟩::⟨some 16,.mov (.t 15),none⟩::⟨some 17,.mov (.t 7),some (16,true)⟩::⟨some 18,.bin .lss (.t 17) (.c (.int .i64 (.ofNat 60))),some (16,true)⟩::⟨some 19,.pick (.t 16) (.t 18) (.c (.bool false)),none⟩::[]))
(.cond (.t 19) .skip (.exit 0)))
(.seq (.block 1 (.seq (.dreg (⟨⟨some 22,.mov (.t 5),none⟩,.quiet,0,0⟩::⟨⟨some 23,.mov (.t 6),none⟩,.quiet,1,0⟩::⟨⟨some 24,.mov (.t 1),none⟩,.quiet,2,0⟩::⟨⟨some 25,.mov (.t 7),none⟩,.quiet,3,0⟩::⟨⟨some 26,.idxS 18 (.t 24) (.t 25),none⟩,.quiet,4,12⟩::⟨⟨some 27,.load true 18 (.t 26),none⟩,.load,5,28⟩::⟨⟨some 28,.call 9 [(.t 22), (.t 23), (.t 27)],none⟩,.loud,6,63⟩::⟨⟨some 29,.un .not (.t 28),none⟩,.quiet,7,127⟩::⟨⟨some 30,.mov (.t 29),none⟩,.quiet,8,255⟩::⟨⟨some 31,.mov (.t 5),some (30,false)⟩,.quiet,9,511⟩::⟨⟨some 32,.mov (.t 6),some (30,false)⟩,.quiet,10,511⟩::⟨⟨some 33,.call 10 [(.t 31), (.t 32)],some (30,false)⟩,.loud,11,2047⟩::⟨⟨some 34,.un .not (.t 33),some (30,false)⟩,.quiet,12,4095⟩::⟨⟨some 35,.pick (.t 30) (.c (.bool true)) (.t 34),none⟩,.quiet,13,8191⟩::⟨⟨some 36,.mov (.t 35),none⟩,.quiet,14,16383⟩::⟨⟨some 37,.mov (.t 5),some (36,false)⟩,.quiet,15,32767⟩::⟨⟨some 38,.mov (.t 1),some (36,false)⟩,.quiet,16,32767⟩::⟨⟨some 39,.mov (.t 7),some (36,false)⟩,.quiet,17,32767⟩::⟨⟨some 40,.idxS 18 (.t 38) (.t 39),some (36,false)⟩,.quiet,18,229375⟩::⟨⟨some 41,.faddr 1 (.t 40),some (36,false)⟩,.quiet,19,491519⟩::⟨⟨some 42,.load false 1 (.t 41),some (36,false)⟩,.load,20,1015807⟩::⟨⟨some 43,.mov (.t 1),some (36,false)⟩,.quiet,21,32767⟩::⟨⟨some 44,.mov (.t 7),some (36,false)⟩,.quiet,22,32767⟩::⟨⟨some 45,.idxS 18 (.t 43) (.t 44),some (36,false)⟩,.quiet,23,6324223⟩::⟨⟨some 46,.faddr 2 (.t 45),some (36,false)⟩,.quiet,24,14712831⟩::⟨⟨some 47,.load false 1 (.t 46),some (36,false)⟩,.load,25,31490047⟩::⟨⟨some 48,.call 11 [(.t 37), (.t 42), (.t 47)],some (36,false)⟩,.loud,26,67108863⟩::⟨⟨some 49,.mov (.t 6),some (36,false)⟩,.quiet,27,32767⟩::⟨⟨some 50,.mov (.t 1),some (36,false)⟩,.quiet,28,32767⟩::⟨⟨some 51,.mov (.t 7),some (36,false)⟩,.quiet,29,32767⟩::⟨⟨some 52,.idxS 18 (.t 50) (.t 51),some (36,false)⟩,.quiet,30,805339135⟩::⟨⟨some 53,.faddr 1 (.t 52),some (36,false)⟩,.quiet,31,1879080959⟩::⟨⟨some 54,.load false 1 (.t 53),some (36,false)⟩,.load,32,4026564607⟩::⟨⟨some 55,.mov (.t 1),some (36,false)⟩,.quiet,33,32767⟩::⟨⟨some 56,.mov (.t 7),some (36,false)⟩,.quiet,34,32767⟩::⟨⟨some 57,.idxS 18 (.t 55) (.t 56),some (36,false)⟩,.quiet,35,25769836543⟩::⟨⟨some 58,.faddr 2 (.t 57),some (36,false)⟩,.quiet,36,60129574911⟩::⟨⟨some 59,.load false 1 (.t 58),some (36,false)⟩,.load,37,128849051647⟩::⟨⟨some 60,.call 12 [(.t 49), (.t 54), (.t 59)],some (36,false)⟩,.loud,38,274877906943⟩::⟨⟨some 61,.bin .neq (.t 48) (.t 60),some (36,false)⟩,.quiet,39,549755813887⟩::⟨⟨some 62,.pick (.t 36) (.c (.bool true)) (.t 61),none⟩,.quiet,40,1099511627775⟩::⟨⟨some 63,.mov (.t 62),none⟩,.quiet,41,2199023255551⟩::⟨⟨some 64,.mov (.t 5),some (63,false)⟩,.quiet,42,4398046511103⟩::⟨⟨some 65,.mov (.t 1),some (63,false)⟩,.quiet,43,4398046511103⟩::⟨⟨some 66,.mov (.t 7),some (63,false)⟩,.quiet,44,4398046511103⟩::⟨⟨some 67,.idxS 18 (.t 65) (.t 66),some (63,false)⟩,.quiet,45,30786325577727⟩::⟨⟨some 68,.faddr 3 (.t 67),some (63,false)⟩,.quiet,46,65970697666559⟩::⟨⟨some 69,.faddr 0 (.t 68),some (63,false)⟩,.quiet,47,136339441844223⟩::⟨⟨some 70,.load false 1 (.t 69),some (63,false)⟩,.load,48,277076930199551⟩::⟨⟨some 71,.mov (.t 1),some (63,false)⟩,.quiet,49,4398046511103⟩::⟨⟨some 72,.mov (.t 7),some (63,false)⟩,.quiet,50,4398046511103⟩::⟨⟨some 73,.idxS 18 (.t 71) (.t 72),some (63,false)⟩,.quiet,51,1693247906775039⟩::⟨⟨some 74,.faddr 3 (.t 73),some (63,false)⟩,.quiet,52,3945047720460287⟩::⟨⟨some 75,.faddr 1 (.t 74),some (63,false)⟩,.quiet,53,8448647347830783⟩::⟨⟨some 76,.load false 1 (.t 75),some (63,false)⟩,.load,54,17455846602571775⟩::⟨⟨some 77,.call 11 [(.t 64), (.t 70), (.t 76)],some (63,false)⟩,.loud,55,36028797018963967⟩::⟨⟨some 78,.mov (.t 6),some (63,false)⟩,.quiet,56,4398046511103⟩::⟨⟨some 79,.mov (.t 1),some (63,false)⟩,.quiet,57,4398046511103⟩::⟨⟨some 80,.mov (.t 7),some (63,false)⟩,.quiet,58,4398046511103⟩::⟨⟨some 81,.idxS 18 (.t 79) (.t 80),some (63,false)⟩,.quiet,59,432349962274078719⟩::⟨⟨some 82,.faddr 3 (.t 81),some (63,false)⟩,.quiet,60,1008810714577502207⟩::⟨⟨some 83,.faddr 0 (.t 82),some (63,false)⟩,.quiet,61,2161732219184349183⟩::⟨⟨some 84,.load false 1 (.t 83),some (63,false)⟩,.load,62,4467575228398043135⟩::⟨⟨some 85,.mov (.t 1),some (63,false)⟩,.quiet,63,4398046511103⟩::⟨⟨some 86,.mov (.t 7),some (63,false)⟩,.quiet,64,4398046511103⟩::⟨⟨some 87,.idxS 18 (.t 85) (.t 86),some (63,false)⟩,.quiet,65,27670120508610838527⟩::⟨⟨some 88,.faddr 3 (.t 87),some (63,false)⟩,.quiet,66,64563608656029941759⟩::⟨⟨some 89,.faddr 1 (.t 88),some (63,false)⟩,.quiet,67,138350584950868148223⟩::⟨⟨some 90,.load false 1 (.t 89),some (63,false)⟩,.load,68,285924537540544561151⟩::⟨⟨some 91,.call 12 [(.t 78), (.t 84), (.t 90)],some (63,false)⟩,.loud,69,590295810358705651711⟩::⟨⟨some 92,.bin .neq (.t 77) (.t 91),some (63,false)⟩,.quiet,70,1180591620717411303423⟩::⟨⟨some 93,.pick (.t 63) (.c (.bool true)) (.t 92),none⟩,.quiet,71,2361183241434822606847⟩::[]))
(.cond (.t 93) (.seq (.reg (⟨some 4,.mov (.c (.bool false)),none⟩::[]))
.ret) .skip)))
(.reg (⟨some 20,.mov (.t 7),none⟩::⟨some 21,.bin .add (.t 20) (.c (.int .i64 (.ofNat 1))),none⟩::⟨some 7,.mov (.t 21),none⟩::[])))))))
(.seq (.reg (⟨some 94,.mov (.t 5),none⟩::⟨some 95,.mov (.t 6),none⟩::⟨some 96,.call 10 [(.t 94), (.t 95)],none⟩::⟨some 97,.mov (.t 96),none⟩::⟨some 98,.call 13 [],some (97,true)⟩::⟨some 99,.pick (.t 97) (.t 98) (.c (.bool false)),none⟩::⟨some 4,.mov (.t 99),none⟩::[]))
.ret)))))⟩
theorem c3_eq : compFn Tryz.prog 3 = some c3 := by kernel_rfl
/-- sodality/sodalitylaw19.RosterWhole -/
noncomputable def c4 : FnI := ⟨124, [.tmp 2],
(.seq (.reg (⟨some 2,.mov (.c (.bool false)),none⟩::[]))
(.seq (.reg (⟨some 16,.call 7 [(.c (.int .i64 (.ofNat 64)))],none⟩::⟨some 3,.mov (.t 16),none⟩::[]))
(.seq (.seq (.reg (⟨some 4,.mov (.c (.int .i64 (.ofNat 0))),none⟩::[]))
(.block 0 (.loop (.seq (.seq (.reg (⟨some 17,.mov (.t 4),none⟩::⟨some 18,.mov (.t 0),none⟩::⟨some 19,.len false (.t 18),none⟩::⟨some 20,.bin .lss (.t 17) (.t 19),none⟩::⟨some 21,.mov (.t 20),none⟩::⟨some 22,.mov (.t 4),some (21,true)⟩::⟨some 23,.bin .lss (.t 22) (.c (.int .i64 (.ofNat 60))),some (21,true)⟩::⟨some 24,.pick (.t 21) (.t 23) (.c (.bool false)),none⟩::[]))
(.cond (.t 24) .skip (.exit 0)))
(.seq (.block 1 (.dreg (⟨⟨some 28,.call 8 [(.c (.int .i64 (.ofNat 1)))],none⟩,.loud,1,0⟩::⟨⟨some 27,.mov (.t 3),none⟩,.quiet,0,0⟩::⟨⟨some 29,.mov (.t 0),none⟩,.quiet,2,0⟩::⟨⟨some 30,.mov (.t 4),none⟩,.quiet,3,0⟩::⟨⟨some 31,.idxS 18 (.t 29) (.t 30),none⟩,.quiet,4,12⟩::⟨⟨some 32,.load true 18 (.t 31),none⟩,.load,5,28⟩::⟨⟨some 33,.call 9 [(.t 27), (.t 28), (.t 32)],none⟩,.loud,6,63⟩::[])))
(.reg (⟨some 25,.mov (.t 4),none⟩::⟨some 26,.bin .add (.t 25) (.c (.int .i64 (.ofNat 1))),none⟩::⟨some 4,.mov (.t 26),none⟩::[])))))))
(.seq (.reg (⟨some 34,.mov (.t 3),none⟩::⟨some 35,.call 14 [(.t 34)],none⟩::⟨some 36,.mov (.t 3),none⟩::⟨some 37,.call 15 [(.t 36)],none⟩::⟨some 38,.mov (.t 3),none⟩::⟨some 39,.call 16 [(.t 38)],none⟩::⟨some 5,.mov (.t 35),none⟩::⟨some 6,.mov (.t 37),none⟩::⟨some 7,.mov (.t 39),none⟩::[]))
(.seq (.reg (⟨some 8,.mov (.c (.int .i64 (.ofNat 0))),none⟩::⟨some 9,.mov (.c (.int .i64 (.ofNat 0))),none⟩::[]))
(.seq (.seq (.reg (⟨some 10,.mov (.c (.int .i64 (.ofNat 0))),none⟩::[]))
(.block 2 (.loop (.seq (.seq (.reg (⟨some 40,.mov (.t 10),none⟩::⟨some 41,.mov (.t 5),none⟩::⟨some 42,.len false (.t 41),none⟩::⟨some 43,.bin .lss (.t 40) (.t 42),none⟩::[]))
(.cond (.t 43) .skip (.exit 2)))
(.seq (.block 3 (.seq (.reg (⟨some 47,.mov (.t 3),none⟩::⟨some 48,.mov (.t 5),none⟩::⟨some 49,.mov (.t 10),none⟩::⟨some 50,.idxS 4 (.t 48) (.t 49),none⟩::⟨some 51,.faddr 0 (.t 50),none⟩::⟨some 52,.load false 1 (.t 51),none⟩::⟨some 53,.call 17 [(.t 47), (.t 52)],none⟩::⟨some 46,.mov (.t 53),none⟩::⟨some 54,.extract (.t 46) 0,none⟩::⟨some 55,.extract (.t 46) 1,none⟩::⟨some 11,.mov (.t 54),none⟩::⟨some 12,.mov (.t 55),none⟩::[]))
(.seq (.reg (⟨some 56,.mov (.t 8),none⟩::⟨some 57,.mov (.t 11),none⟩::⟨some 58,.len false (.t 57),none⟩::⟨some 59,.bin .add (.t 56) (.t 58),none⟩::⟨some 8,.mov (.t 59),none⟩::[]))
(.seq (.reg (⟨some 60,.mov (.t 9),none⟩::⟨some 61,.mov (.t 12),none⟩::⟨some 62,.len false (.t 61),none⟩::⟨some 63,.bin .add (.t 60) (.t 62),none⟩::⟨some 9,.mov (.t 63),none⟩::[]))
(.seq (.reg (⟨some 13,.mov (.c (.int .i64 (.ofNat 0))),none⟩::[]))
(.block 4 (.loop (.seq (.seq (.reg (⟨some 64,.mov (.t 13),none⟩::⟨some 65,.mov (.t 12),none⟩::⟨some 66,.len false (.t 65),none⟩::⟨some 67,.bin .lss (.t 64) (.t 66),none⟩::[]))
(.cond (.t 67) .skip (.exit 4)))
(.seq (.block 5 (.seq (.reg (⟨some 70,.mov (.t 12),none⟩::⟨some 71,.mov (.t 13),none⟩::⟨some 72,.idxS 7 (.t 70) (.t 71),none⟩::⟨some 73,.faddr 2 (.t 72),none⟩::⟨some 74,.load false 1 (.t 73),none⟩::⟨some 75,.bin .eql (.t 74) (.c (.str [])),none⟩::⟨some 14,.mov (.t 75),none⟩::[]))
(.seq (.seq (.reg (⟨some 15,.mov (.c (.int .i64 (.ofNat 0))),none⟩::[]))
(.block 6 (.loop (.seq (.seq (.reg (⟨some 76,.mov (.t 15),none⟩::⟨some 77,.mov (.t 11),none⟩::⟨some 78,.len false (.t 77),none⟩::⟨some 79,.bin .lss (.t 76) (.t 78),none⟩::[]))
(.cond (.t 79) .skip (.exit 6)))
(.seq (.block 7 (.dreg (⟨⟨some 82,.mov (.t 14),none⟩,.quiet,0,0⟩::⟨⟨some 83,.mov (.t 82),none⟩,.quiet,1,1⟩::⟨⟨some 84,.mov (.t 11),some (83,false)⟩,.quiet,2,3⟩::⟨⟨some 85,.mov (.t 15),some (83,false)⟩,.quiet,3,3⟩::⟨⟨some 86,.idxS 7 (.t 84) (.t 85),some (83,false)⟩,.quiet,4,15⟩::⟨⟨some 87,.faddr 1 (.t 86),some (83,false)⟩,.quiet,5,31⟩::⟨⟨some 88,.load false 1 (.t 87),some (83,false)⟩,.load,6,63⟩::⟨⟨some 89,.mov (.t 12),some (83,false)⟩,.quiet,7,3⟩::⟨⟨some 90,.mov (.t 13),some (83,false)⟩,.quiet,8,3⟩::⟨⟨some 91,.idxS 7 (.t 89) (.t 90),some (83,false)⟩,.quiet,9,387⟩::⟨⟨some 92,.faddr 2 (.t 91),some (83,false)⟩,.quiet,10,899⟩::⟨⟨some 93,.load false 1 (.t 92),some (83,false)⟩,.load,11,1923⟩::⟨⟨some 94,.bin .eql (.t 88) (.t 93),some (83,false)⟩,.quiet,12,4095⟩::⟨⟨some 95,.pick (.t 83) (.c (.bool true)) (.t 94),none⟩,.quiet,13,8191⟩::⟨⟨some 14,.mov (.t 95),none⟩,.quiet,14,16383⟩::[])))
(.reg (⟨some 80,.mov (.t 15),none⟩::⟨some 81,.bin .add (.t 80) (.c (.int .i64 (.ofNat 1))),none⟩::⟨some 15,.mov (.t 81),none⟩::[])))))))
(.seq (.dreg (⟨⟨some 96,.mov (.t 14),none⟩,.quiet,0,0⟩::⟨⟨some 97,.un .not (.t 96),none⟩,.quiet,1,1⟩::⟨⟨some 98,.mov (.t 97),none⟩,.quiet,2,3⟩::⟨⟨some 99,.mov (.t 12),some (98,false)⟩,.quiet,3,7⟩::⟨⟨some 100,.mov (.t 13),some (98,false)⟩,.quiet,4,7⟩::⟨⟨some 101,.idxS 7 (.t 99) (.t 100),some (98,false)⟩,.quiet,5,31⟩::⟨⟨some 102,.faddr 0 (.t 101),some (98,false)⟩,.quiet,6,63⟩::⟨⟨some 103,.load false 1 (.t 102),some (98,false)⟩,.load,7,127⟩::⟨⟨some 104,.mov (.t 5),some (98,false)⟩,.quiet,8,7⟩::⟨⟨some 105,.mov (.t 10),some (98,false)⟩,.quiet,9,7⟩::⟨⟨some 106,.idxS 4 (.t 104) (.t 105),some (98,false)⟩,.quiet,10,775⟩::⟨⟨some 107,.faddr 0 (.t 106),some (98,false)⟩,.quiet,11,1799⟩::⟨⟨some 108,.load false 1 (.t 107),some (98,false)⟩,.load,12,3847⟩::⟨⟨some 109,.bin .neq (.t 103) (.t 108),some (98,false)⟩,.quiet,13,8191⟩::⟨⟨some 110,.pick (.t 98) (.c (.bool true)) (.t 109),none⟩,.quiet,14,16383⟩::[]))
(.cond (.t 110) (.seq (.reg (⟨some 2,.mov (.c (.bool false)),none⟩::[]))
.ret) .skip)))))
(.reg (⟨some 68,.mov (.t 13),none⟩::⟨some 69,.bin .add (.t 68) (.c (.int .i64 (.ofNat 1))),none⟩::⟨some 13,.mov (.t 69),none⟩::[])))))))))))
(.reg (⟨some 44,.mov (.t 10),none⟩::⟨some 45,.bin .add (.t 44) (.c (.int .i64 (.ofNat 1))),none⟩::⟨some 10,.mov (.t 45),none⟩::[])))))))
(.seq (.reg (⟨some 111,.mov (.t 8),none⟩::⟨some 112,.mov (.t 6),none⟩::⟨some 113,.len false (.t 112),none⟩::⟨some 114,.bin .eql (.t 111) (.t 113),none⟩::⟨some 115,.mov (.t 114),none⟩::⟨some 116,.mov (.t 9),some (115,true)⟩::⟨some 117,.mov (.t 7),some (115,true)⟩::⟨some 118,.len false (.t 117),some (115,true)⟩::⟨some 119,.bin .eql (.t 116) (.t 118),some (115,true)⟩::⟨some 120,.pick (.t 115) (.t 119) (.c (.bool false)),none⟩::⟨some 121,.mov (.t 120),none⟩::⟨some 122,.call 13 [],some (121,true)⟩::⟨some 123,.pick (.t 121) (.t 122) (.c (.bool false)),none⟩::⟨some 2,.mov (.t 123),none⟩::[]))
.ret)))))))⟩
theorem c4_eq : compFn Tryz.prog 4 = some c4 := by kernel_rfl
/-- sodality/sodalitylaw19.RosterHealth -/
noncomputable def c5 : FnI := ⟨121, [.tmp 6],
(.seq (.reg (⟨some 4,.box (.t 1),none⟩::⟨some 6,.mov (.c (.bool false)),none⟩::[]))
(.seq (.reg (⟨some 16,.call 7 [(.c (.int .i64 (.ofNat 64)))],none⟩::⟨some 7,.mov (.t 16),none⟩::[]))
(.seq (.reg (⟨some 17,.call 8 [(.c (.int .i64 (.ofNat 64)))],none⟩::⟨some 8,.mov (.t 17),none⟩::[]))
(.seq (.seq (.reg (⟨some 9,.mov (.c (.int .i64 (.ofNat 0))),none⟩::[]))
(.block 0 (.loop (.seq (.seq (.reg (⟨some 18,.mov (.t 9),none⟩::⟨some 19,.mov (.t 0),none⟩::⟨some 20,.len false (.t 19),none⟩::⟨some 21,.bin .lss (.t 18) (.t 20),none⟩::⟨some 22,.mov (.t 21),none⟩::⟨some 23,.mov (.t 9),some (22,true)⟩::⟨some 24,.bin .lss (.t 23) (.c (.int .i64 (.ofNat 40))),some (22,true)⟩::⟨some 25,.pick (.t 22) (.t 24) (.c (.bool false)),none⟩::[]))
(.cond (.t 25) .skip (.exit 0)))
(.seq (.block 1 (.reg (⟨some 28,.mov (.t 7),none⟩::⟨some 29,.mov (.t 8),none⟩::⟨some 30,.mov (.t 0),none⟩::⟨some 31,.mov (.t 9),none⟩::⟨some 32,.idxS 18 (.t 30) (.t 31),none⟩::⟨some 33,.load true 18 (.t 32),none⟩::⟨some 34,.call 9 [(.t 28), (.t 29), (.t 33)],none⟩::[])))
(.reg (⟨some 26,.mov (.t 9),none⟩::⟨some 27,.bin .add (.t 26) (.c (.int .i64 (.ofNat 1))),none⟩::⟨some 9,.mov (.t 27),none⟩::[])))))))
(.seq (.reg (⟨some 10,.mov (.c (.bool false)),none⟩::[]))
(.seq (.reg (⟨some 35,.mov (.t 7),none⟩::⟨some 36,.call 16 [(.t 35)],none⟩::⟨some 11,.mov (.t 36),none⟩::[]))
(.seq (.seq (.reg (⟨some 12,.mov (.c (.int .i64 (.ofNat 0))),none⟩::[]))
(.block 2 (.loop (.seq (.seq (.reg (⟨some 37,.mov (.t 12),none⟩::⟨some 38,.mov (.t 11),none⟩::⟨some 39,.len false (.t 38),none⟩::⟨some 40,.bin .lss (.t 37) (.t 39),none⟩::[]))
(.cond (.t 40) .skip (.exit 2)))
(.seq (.block 3 (.dreg (⟨⟨some 43,.mov (.t 10),none⟩,.quiet,0,0⟩::⟨⟨some 44,.mov (.t 43),none⟩,.quiet,1,1⟩::⟨⟨some 45,.mov (.t 11),some (44,false)⟩,.quiet,2,3⟩::⟨⟨some 46,.mov (.t 12),some (44,false)⟩,.quiet,3,3⟩::⟨⟨some 47,.idxS 7 (.t 45) (.t 46),some (44,false)⟩,.quiet,4,15⟩::⟨⟨some 48,.faddr 0 (.t 47),some (44,false)⟩,.quiet,5,31⟩::⟨⟨some 49,.load false 1 (.t 48),some (44,false)⟩,.load,6,63⟩::⟨⟨some 50,.faddr 0 (.t 4),some (44,false)⟩,.quiet,7,3⟩::⟨⟨some 51,.load false 1 (.t 50),some (44,false)⟩,.load,8,131⟩::⟨⟨some 52,.bin .eql (.t 49) (.t 51),some (44,false)⟩,.quiet,9,511⟩::⟨⟨some 53,.mov (.t 52),some (44,false)⟩,.quiet,10,1023⟩::⟨⟨some 54,.mov (.t 11),some (53,true)⟩,.quiet,11,2047⟩::⟨⟨some 55,.mov (.t 12),some (53,true)⟩,.quiet,12,2047⟩::⟨⟨some 56,.idxS 7 (.t 54) (.t 55),some (53,true)⟩,.quiet,13,8191⟩::⟨⟨some 57,.faddr 1 (.t 56),some (53,true)⟩,.quiet,14,16383⟩::⟨⟨some 58,.load false 1 (.t 57),some (53,true)⟩,.load,15,32767⟩::⟨⟨some 59,.faddr 1 (.t 4),some (53,true)⟩,.quiet,16,2047⟩::⟨⟨some 60,.load false 1 (.t 59),some (53,true)⟩,.load,17,67583⟩::⟨⟨some 61,.bin .eql (.t 58) (.t 60),some (53,true)⟩,.quiet,18,262143⟩::⟨⟨some 62,.pick (.t 53) (.t 61) (.c (.bool false)),some (44,false)⟩,.quiet,19,524287⟩::⟨⟨some 63,.pick (.t 44) (.c (.bool true)) (.t 62),none⟩,.quiet,20,1048575⟩::⟨⟨some 10,.mov (.t 63),none⟩,.quiet,21,2097151⟩::[])))
(.reg (⟨some 41,.mov (.t 12),none⟩::⟨some 42,.bin .add (.t 41) (.c (.int .i64 (.ofNat 1))),none⟩::⟨some 12,.mov (.t 42),none⟩::[])))))))
(.seq (.reg (⟨some 64,.mov (.t 7),none⟩::⟨some 65,.faddr 0 (.t 4),none⟩::⟨some 66,.load false 1 (.t 65),none⟩::⟨some 67,.mov (.t 2),none⟩::⟨some 68,.call 11 [(.t 64), (.t 66), (.t 67)],none⟩::⟨some 13,.mov (.t 68),none⟩::[]))
(.seq (.reg (⟨some 69,.mov (.t 7),none⟩::⟨some 70,.load true 7 (.t 4),none⟩::⟨some 71,.call 18 [(.t 69), (.t 70), (.c (.int .u64 (.ofNat 99)))],none⟩::⟨some 14,.mov (.t 71),none⟩::[]))
(.seq (.reg (⟨some 72,.mov (.t 7),none⟩::⟨some 73,.faddr 0 (.t 4),none⟩::⟨some 74,.load false 1 (.t 73),none⟩::⟨some 75,.mov (.t 2),none⟩::⟨some 76,.call 11 [(.t 72), (.t 74), (.t 75)],none⟩::⟨some 15,.mov (.t 76),none⟩::[]))
(.seq (.seq (.reg (⟨some 77,.mov (.t 14),none⟩::⟨some 78,.bin .neq (.t 77) (.c (.int .i64 (.ofNat 0))),none⟩::[]))
(.cond (.t 78) (.seq (.reg (⟨some 79,.mov (.t 13),none⟩::⟨some 80,.mov (.t 15),none⟩::⟨some 81,.bin .eql (.t 79) (.t 80),none⟩::⟨some 82,.mov (.t 81),none⟩::⟨some 83,.call 13 [],some (82,true)⟩::⟨some 84,.pick (.t 82) (.t 83) (.c (.bool false)),none⟩::⟨some 6,.mov (.t 84),none⟩::[]))
.ret) .skip))
(.seq (.seq (.reg (⟨some 85,.mov (.t 10),none⟩::⟨some 86,.un .not (.t 85),none⟩::⟨some 87,.mov (.t 86),none⟩::⟨some 88,.mov (.t 15),some (87,true)⟩::⟨some 89,.mov (.t 13),some (87,true)⟩::⟨some 90,.bin .lss (.t 88) (.t 89),some (87,true)⟩::⟨some 91,.pick (.t 87) (.t 90) (.c (.bool false)),none⟩::[]))
(.cond (.t 91) (.seq (.reg (⟨some 6,.mov (.c (.bool false)),none⟩::[]))
.ret) .skip))
(.seq (.seq (.reg (⟨some 92,.mov (.t 7),none⟩::⟨some 93,.faddr 0 (.t 4),none⟩::⟨some 94,.load false 1 (.t 93),none⟩::⟨some 95,.faddr 1 (.t 4),none⟩::⟨some 96,.load false 1 (.t 95),none⟩::⟨some 97,.call 19 [(.t 92), (.t 94), (.t 96), (.c (.int .u64 (.ofNat 100)))],none⟩::⟨some 98,.bin .neq (.t 97) (.c (.int .i64 (.ofNat 0))),none⟩::⟨some 99,.mov (.t 98),none⟩::⟨some 100,.mov (.t 7),some (99,false)⟩::⟨some 101,.faddr 0 (.t 4),some (99,false)⟩::⟨some 102,.load false 1 (.t 101),some (99,false)⟩::⟨some 103,.mov (.t 2),some (99,false)⟩::⟨some 104,.call 11 [(.t 100), (.t 102), (.t 103)],some (99,false)⟩::⟨some 105,.mov (.t 15),some (99,false)⟩::⟨some 106,.bin .gtr (.t 104) (.t 105),some (99,false)⟩::⟨some 107,.pick (.t 99) (.c (.bool true)) (.t 106),none⟩::[]))
(.cond (.t 107) (.seq (.reg (⟨some 6,.mov (.c (.bool false)),none⟩::[]))
.ret) .skip))
(.seq (.reg (⟨some 108,.mov (.t 10),none⟩::⟨some 109,.mov (.t 108),none⟩::⟨some 110,.mov (.t 7),some (109,false)⟩::⟨some 111,.faddr 0 (.t 4),some (109,false)⟩::⟨some 112,.load false 1 (.t 111),some (109,false)⟩::⟨some 113,.mov (.t 2),some (109,false)⟩::⟨some 114,.call 11 [(.t 110), (.t 112), (.t 113)],some (109,false)⟩::⟨some 115,.mov (.t 13),some (109,false)⟩::⟨some 116,.bin .eql (.t 114) (.t 115),some (109,false)⟩::⟨some 117,.pick (.t 109) (.c (.bool true)) (.t 116),none⟩::⟨some 118,.mov (.t 117),none⟩::⟨some 119,.call 13 [],some (118,true)⟩::⟨some 120,.pick (.t 118) (.t 119) (.c (.bool false)),none⟩::⟨some 6,.mov (.t 120),none⟩::[]))
.ret))))))))))))))⟩
theorem c5_eq : compFn Tryz.prog 5 = some c5 := by kernel_rfl
/-- sodality/sodalitylaw19.RosterBack -/
noncomputable def c6 : FnI := ⟨56, [.tmp 2],
(.seq (.reg (⟨some 2,.mov (.c (.bool false)),none⟩::[]))
(.seq (.reg (⟨some 9,.call 7 [(.c (.int .i64 (.ofNat 64)))],none⟩::⟨some 3,.mov (.t 9),none⟩::[]))
(.seq (.reg (⟨some 10,.call 8 [(.c (.int .i64 (.ofNat 64)))],none⟩::⟨some 4,.mov (.t 10),none⟩::[]))
(.seq (.seq (.reg (⟨some 5,.mov (.c (.int .i64 (.ofNat 0))),none⟩::[]))
(.block 0 (.loop (.seq (.seq (.reg (⟨some 11,.mov (.t 5),none⟩::⟨some 12,.mov (.t 0),none⟩::⟨some 13,.len false (.t 12),none⟩::⟨some 14,.bin .lss (.t 11) (.t 13),none⟩::⟨some 15,.mov (.t 14),none⟩::⟨some 16,.mov (.t 5),some (15,true)⟩::⟨some 17,.bin .lss (.t 16) (.c (.int .i64 (.ofNat 60))),some (15,true)⟩::⟨some 18,.pick (.t 15) (.t 17) (.c (.bool false)),none⟩::[]))
(.cond (.t 18) .skip (.exit 0)))
(.seq (.block 1 (.seq (.reg (⟨some 21,.mov (.t 0),none⟩::⟨some 22,.mov (.t 5),none⟩::⟨some 23,.idxS 18 (.t 21) (.t 22),none⟩::⟨some 24,.load true 18 (.t 23),none⟩::⟨some 6,.alloc [(.int .i64 (.ofNat 0)), (.int .i64 (.ofNat 0)), (.str []), (.int .i64 (.ofNat 0)), (.str []), (.str []), .nilsl, (.int .i64 (.ofNat 0)), (.int .u64 (.ofNat 0)), (.int .u64 (.ofNat 0)), (.int .i64 (.ofNat 0)), (.str []), (.str []), (.str []), (.int .i64 (.ofNat 0)), (.int .u64 (.ofNat 0)), (.int .u64 (.ofNat 0)), (.int .u64 (.ofNat 0))],none⟩::⟨none,.store 18 (.t 6) (.t 24),none⟩::[]))
(.seq (.reg (⟨some 25,.mov (.t 5),none⟩::⟨some 26,.bin .add (.t 25) (.c (.int .i64 (.ofNat 1))),none⟩::⟨some 27,.cvInt .u64 (.t 26),none⟩::⟨some 28,.faddr 17 (.t 6),none⟩::⟨none,.store 1 (.t 28) (.t 27),none⟩::[]))
(.seq (.reg (⟨some 29,.mov (.t 3),none⟩::⟨some 30,.mov (.t 4),none⟩::⟨some 31,.load true 18 (.t 6),none⟩::⟨some 32,.call 9 [(.t 29), (.t 30), (.t 31)],none⟩::⟨some 33,.un .not (.t 32),none⟩::[]))
(.cond (.t 33) (.seq (.reg (⟨some 2,.mov (.c (.bool false)),none⟩::[]))
.ret) .skip)))))
(.reg (⟨some 19,.mov (.t 5),none⟩::⟨some 20,.bin .add (.t 19) (.c (.int .i64 (.ofNat 1))),none⟩::⟨some 5,.mov (.t 20),none⟩::[])))))))
(.seq (.reg (⟨some 35,.mov (.t 3),none⟩::⟨some 36,.call 14 [(.t 35)],none⟩::⟨some 37,.mov (.t 3),none⟩::⟨some 38,.call 15 [(.t 37)],none⟩::⟨some 39,.mov (.t 3),none⟩::⟨some 40,.call 16 [(.t 39)],none⟩::⟨some 41,.mov (.t 3),none⟩::⟨some 42,.call 21 [(.t 41)],none⟩::⟨some 43,.call 20 [(.c (.int .i64 (.ofNat 64))), (.t 36), (.t 38), (.t 40), (.t 42)],none⟩::⟨some 34,.mov (.t 43),none⟩::⟨some 44,.extract (.t 34) 0,none⟩::⟨some 45,.extract (.t 34) 1,none⟩::⟨some 7,.mov (.t 44),none⟩::⟨some 8,.mov (.t 45),none⟩::[]))
(.seq (.reg (⟨some 46,.mov (.t 8),none⟩::⟨some 47,.bin .eql (.t 46) (.c (.int .i64 (.ofNat 0))),none⟩::⟨some 48,.mov (.t 47),none⟩::⟨some 49,.mov (.t 7),some (48,true)⟩::⟨some 50,.mov (.t 4),some (48,true)⟩::⟨some 51,.call 10 [(.t 49), (.t 50)],some (48,true)⟩::⟨some 52,.pick (.t 48) (.t 51) (.c (.bool false)),none⟩::⟨some 53,.mov (.t 52),none⟩::⟨some 54,.call 13 [],some (53,true)⟩::⟨some 55,.pick (.t 53) (.t 54) (.c (.bool false)),none⟩::⟨some 2,.mov (.t 55),none⟩::[]))
.ret))))))⟩
theorem c6_eq : compFn Tryz.prog 6 = some c6 := by kernel_rfl
/-- sodality/roster.New -/
noncomputable def c7 : FnI := ⟨11, [.tmp 2],
(.seq (.reg (⟨some 2,.mov (.c .nilp),none⟩::[]))
(.seq (.reg (⟨some 3,.mov (.t 0),none⟩::⟨some 4,.call 22 [(.t 3)],none⟩::⟨some 5,.mov (.t 0),none⟩::⟨some 6,.call 23 [(.t 5)],none⟩::⟨some 7,.mov (.t 0),none⟩::⟨some 8,.call 24 [(.t 7)],none⟩::⟨some 9,.build [.nilp, .nilp, .nilp] [(0, 1, (.t 4)), (1, 1, (.t 6)), (2, 1, (.t 8))],none⟩::⟨some 10,.box (.t 9),none⟩::⟨some 2,.mov (.t 10),none⟩::[]))
.ret))⟩
theorem c7_eq : compFn Tryz.prog 7 = some c7 := by kernel_rfl
/-- sodality/sodalityref19.New -/
noncomputable def c8 : FnI := ⟨10, [.tmp 2],
(.seq (.reg (⟨some 2,.mov (.c .nilp),none⟩::[]))
(.seq (.seq (.reg (⟨some 3,.mov (.t 0),none⟩::⟨some 4,.bin .lss (.t 3) (.c (.int .i64 (.ofNat 1))),none⟩::[]))
(.cond (.t 4) (.reg (⟨some 0,.mov (.c (.int .i64 (.ofNat 1))),none⟩::[])) .skip))
(.seq (.seq (.reg (⟨some 5,.mov (.t 0),none⟩::⟨some 6,.bin .gtr (.t 5) (.c (.int .i64 (.ofNat 64))),none⟩::[]))
(.cond (.t 6) (.reg (⟨some 0,.mov (.c (.int .i64 (.ofNat 64))),none⟩::[])) .skip))
(.seq (.reg (⟨some 7,.mov (.t 0),none⟩::⟨some 8,.build [(.int .i64 (.ofNat 0)), .nilsl, .nilsl, .nilsl, (.int .u64 (.ofNat 0)), (.int .u64 (.ofNat 0)), (.int .u64 (.ofNat 0))] [(0, 1, (.t 7))],none⟩::⟨some 9,.box (.t 8),none⟩::⟨some 2,.mov (.t 9),none⟩::[]))
.ret))))⟩
theorem c8_eq : compFn Tryz.prog 8 = some c8 := by kernel_rfl
/-- sodality/sodalitylaw19.step -/
noncomputable def c9 : FnI := ⟨130, [.tmp 6],
(.seq (.reg (⟨some 5,.box (.t 2),none⟩::⟨some 6,.mov (.c (.bool false)),none⟩::[]))
(.seq (.seq (.reg (⟨some 8,.faddr 0 (.t 5),none⟩::⟨some 9,.load false 1 (.t 8),none⟩::[]))
(.block 0 (.seq (.reg (⟨some 11,.bin .eql (.t 9) (.c (.int .i64 (.ofNat 0))),none⟩::⟨some 10,.mov (.t 11),none⟩::[]))
(.cond (.t 10) (.seq (.dreg (⟨⟨some 12,.mov (.t 0),none⟩,.quiet,0,0⟩::⟨⟨some 13,.faddr 1 (.t 5),none⟩,.quiet,1,0⟩::⟨⟨some 14,.load false 1 (.t 13),none⟩,.load,2,2⟩::⟨⟨some 15,.faddr 2 (.t 5),none⟩,.quiet,3,0⟩::⟨⟨some 16,.load false 1 (.t 15),none⟩,.load,4,8⟩::⟨⟨some 17,.faddr 17 (.t 5),none⟩,.quiet,5,0⟩::⟨⟨some 18,.load false 1 (.t 17),none⟩,.load,6,32⟩::⟨⟨some 19,.call 25 [(.t 12), (.t 14), (.t 16), (.t 18)],none⟩,.loud,7,127⟩::⟨⟨some 20,.mov (.t 1),none⟩,.quiet,8,0⟩::⟨⟨some 21,.faddr 1 (.t 5),none⟩,.quiet,9,0⟩::⟨⟨some 22,.load false 1 (.t 21),none⟩,.load,10,512⟩::⟨⟨some 23,.faddr 2 (.t 5),none⟩,.quiet,11,0⟩::⟨⟨some 24,.load false 1 (.t 23),none⟩,.load,12,2048⟩::⟨⟨some 25,.faddr 17 (.t 5),none⟩,.quiet,13,0⟩::⟨⟨some 26,.load false 1 (.t 25),none⟩,.load,14,8192⟩::⟨⟨some 27,.call 26 [(.t 20), (.t 22), (.t 24), (.t 26)],none⟩,.loud,15,32767⟩::⟨⟨some 28,.bin .eql (.t 19) (.t 27),none⟩,.quiet,16,65535⟩::⟨⟨some 6,.mov (.t 28),none⟩,.quiet,17,131071⟩::[]))
.ret) (.seq (.reg (⟨some 30,.bin .eql (.t 9) (.c (.int .i64 (.ofNat 1))),none⟩::⟨some 29,.mov (.t 30),none⟩::[]))
(.cond (.t 29) (.seq (.dreg (⟨⟨some 31,.mov (.t 0),none⟩,.quiet,0,0⟩::⟨⟨some 32,.faddr 1 (.t 5),none⟩,.quiet,1,0⟩::⟨⟨some 33,.load false 1 (.t 32),none⟩,.load,2,2⟩::⟨⟨some 34,.faddr 17 (.t 5),none⟩,.quiet,3,0⟩::⟨⟨some 35,.load false 1 (.t 34),none⟩,.load,4,8⟩::⟨⟨some 36,.call 27 [(.t 31), (.t 33), (.t 35)],none⟩,.loud,5,31⟩::⟨⟨some 37,.mov (.t 1),none⟩,.quiet,6,0⟩::⟨⟨some 38,.faddr 1 (.t 5),none⟩,.quiet,7,0⟩::⟨⟨some 39,.load false 1 (.t 38),none⟩,.load,8,128⟩::⟨⟨some 40,.faddr 17 (.t 5),none⟩,.quiet,9,0⟩::⟨⟨some 41,.load false 1 (.t 40),none⟩,.load,10,512⟩::⟨⟨some 42,.call 28 [(.t 37), (.t 39), (.t 41)],none⟩,.loud,11,2047⟩::⟨⟨some 43,.bin .eql (.t 36) (.t 42),none⟩,.quiet,12,4095⟩::⟨⟨some 6,.mov (.t 43),none⟩,.quiet,13,8191⟩::[]))
.ret) (.seq (.reg (⟨some 45,.bin .eql (.t 9) (.c (.int .i64 (.ofNat 2))),none⟩::⟨some 44,.mov (.t 45),none⟩::[]))
(.cond (.t 44) (.seq (.dreg (⟨⟨some 46,.mov (.t 0),none⟩,.quiet,0,0⟩::⟨⟨some 47,.faddr 3 (.t 5),none⟩,.quiet,1,0⟩::⟨⟨some 48,.load true 7 (.t 47),none⟩,.load,2,2⟩::⟨⟨some 49,.faddr 17 (.t 5),none⟩,.quiet,3,0⟩::⟨⟨some 50,.load false 1 (.t 49),none⟩,.load,4,8⟩::⟨⟨some 51,.call 29 [(.t 46), (.t 48), (.t 50)],none⟩,.loud,5,31⟩::⟨⟨some 52,.mov (.t 1),none⟩,.quiet,6,0⟩::⟨⟨some 53,.faddr 3 (.t 5),none⟩,.quiet,7,0⟩::⟨⟨some 54,.load true 7 (.t 53),none⟩,.load,8,128⟩::⟨⟨some 55,.faddr 17 (.t 5),none⟩,.quiet,9,0⟩::⟨⟨some 56,.load false 1 (.t 55),none⟩,.load,10,512⟩::⟨⟨some 57,.call 30 [(.t 52), (.t 54), (.t 56)],none⟩,.loud,11,2047⟩::⟨⟨some 58,.bin .eql (.t 51) (.t 57),none⟩,.quiet,12,4095⟩::⟨⟨some 6,.mov (.t 58),none⟩,.quiet,13,8191⟩::[]))
.ret) (.seq (.reg (⟨some 60,.bin .eql (.t 9) (.c (.int .i64 (.ofNat 3))),none⟩::⟨some 59,.mov (.t 60),none⟩::[]))
(.cond (.t 59) (.seq (.dreg (⟨⟨some 61,.mov (.t 0),none⟩,.quiet,0,0⟩::⟨⟨some 62,.faddr 1 (.t 5),none⟩,.quiet,1,0⟩::⟨⟨some 63,.load false 1 (.t 62),none⟩,.load,2,2⟩::⟨⟨some 64,.faddr 2 (.t 5),none⟩,.quiet,3,0⟩::⟨⟨some 65,.load false 1 (.t 64),none⟩,.load,4,8⟩::⟨⟨some 66,.faddr 17 (.t 5),none⟩,.quiet,5,0⟩::⟨⟨some 67,.load false 1 (.t 66),none⟩,.load,6,32⟩::⟨⟨some 68,.call 31 [(.t 61), (.t 63), (.t 65), (.t 67)],none⟩,.loud,7,127⟩::⟨⟨some 69,.mov (.t 1),none⟩,.quiet,8,0⟩::⟨⟨some 70,.faddr 1 (.t 5),none⟩,.quiet,9,0⟩::⟨⟨some 71,.load false 1 (.t 70),none⟩,.load,10,512⟩::⟨⟨some 72,.faddr 2 (.t 5),none⟩,.quiet,11,0⟩::⟨⟨some 73,.load false 1 (.t 72),none⟩,.load,12,2048⟩::⟨⟨some 74,.faddr 17 (.t 5),none⟩,.quiet,13,0⟩::⟨⟨some 75,.load false 1 (.t 74),none⟩,.load,14,8192⟩::⟨⟨some 76,.call 32 [(.t 69), (.t 71), (.t 73), (.t 75)],none⟩,.loud,15,32767⟩::⟨⟨some 77,.bin .eql (.t 68) (.t 76),none⟩,.quiet,16,65535⟩::⟨⟨some 6,.mov (.t 77),none⟩,.quiet,17,131071⟩::[]))
.ret) (.seq (.reg (⟨some 79,.bin .eql (.t 9) (.c (.int .i64 (.ofNat 4))),none⟩::⟨some 78,.mov (.t 79),none⟩::[]))
(.cond (.t 78) (.seq (.dreg (⟨⟨some 80,.mov (.t 0),none⟩,.quiet,0,0⟩::⟨⟨some 81,.faddr 10 (.t 5),none⟩,.quiet,1,0⟩::⟨⟨some 82,.load true 7 (.t 81),none⟩,.load,2,2⟩::⟨⟨some 83,.faddr 17 (.t 5),none⟩,.quiet,3,0⟩::⟨⟨some 84,.load false 1 (.t 83),none⟩,.load,4,8⟩::⟨⟨some 85,.call 18 [(.t 80), (.t 82), (.t 84)],none⟩,.loud,5,31⟩::⟨⟨some 86,.mov (.t 1),none⟩,.quiet,6,0⟩::⟨⟨some 87,.faddr 10 (.t 5),none⟩,.quiet,7,0⟩::⟨⟨some 88,.load true 7 (.t 87),none⟩,.load,8,128⟩::⟨⟨some 89,.faddr 17 (.t 5),none⟩,.quiet,9,0⟩::⟨⟨some 90,.load false 1 (.t 89),none⟩,.load,10,512⟩::⟨⟨some 91,.call 33 [(.t 86), (.t 88), (.t 90)],none⟩,.loud,11,2047⟩::⟨⟨some 92,.bin .eql (.t 85) (.t 91),none⟩,.quiet,12,4095⟩::⟨⟨some 6,.mov (.t 92),none⟩,.quiet,13,8191⟩::[]))
.ret) (.seq (.reg (⟨some 94,.bin .eql (.t 9) (.c (.int .i64 (.ofNat 5))),none⟩::⟨some 93,.mov (.t 94),none⟩::[]))
(.cond (.t 93) (.seq (.dreg (⟨⟨some 95,.mov (.t 0),none⟩,.quiet,0,0⟩::⟨⟨some 96,.faddr 1 (.t 5),none⟩,.quiet,1,0⟩::⟨⟨some 97,.load false 1 (.t 96),none⟩,.load,2,2⟩::⟨⟨some 98,.faddr 2 (.t 5),none⟩,.quiet,3,0⟩::⟨⟨some 99,.load false 1 (.t 98),none⟩,.load,4,8⟩::⟨⟨some 100,.faddr 17 (.t 5),none⟩,.quiet,5,0⟩::⟨⟨some 101,.load false 1 (.t 100),none⟩,.load,6,32⟩::⟨⟨some 102,.call 19 [(.t 95), (.t 97), (.t 99), (.t 101)],none⟩,.loud,7,127⟩::⟨⟨some 103,.mov (.t 1),none⟩,.quiet,8,0⟩::⟨⟨some 104,.faddr 1 (.t 5),none⟩,.quiet,9,0⟩::⟨⟨some 105,.load false 1 (.t 104),none⟩,.load,10,512⟩::⟨⟨some 106,.faddr 2 (.t 5),none⟩,.quiet,11,0⟩::⟨⟨some 107,.load false 1 (.t 106),none⟩,.load,12,2048⟩::⟨⟨some 108,.faddr 17 (.t 5),none⟩,.quiet,13,0⟩::⟨⟨some 109,.load false 1 (.t 108),none⟩,.load,14,8192⟩::⟨⟨some 110,.call 34 [(.t 103), (.t 105), (.t 107), (.t 109)],none⟩,.loud,15,32767⟩::⟨⟨some 111,.bin .eql (.t 102) (.t 110),none⟩,.quiet,16,65535⟩::⟨⟨some 6,.mov (.t 111),none⟩,.quiet,17,131071⟩::[]))
.ret) (.seq (.reg (⟨some 113,.bin .eql (.t 9) (.c (.int .i64 (.ofNat 6))),none⟩::⟨some 112,.mov (.t 113),none⟩::[]))
(.cond (.t 112) (.seq (.reg (⟨some 114,.mov (.t 0),none⟩::⟨some 115,.call 35 [(.t 114)],none⟩::⟨some 7,.mov (.t 115),none⟩::[]))
(.seq (.seq (.reg (⟨some 116,.mov (.t 7),none⟩::⟨some 117,.mov (.t 1),none⟩::⟨some 118,.call 10 [(.t 116), (.t 117)],none⟩::⟨some 119,.un .not (.t 118),none⟩::[]))
(.cond (.t 119) (.seq (.reg (⟨some 6,.mov (.c (.bool false)),none⟩::[]))
.ret) .skip))
(.seq (.reg (⟨some 120,.mov (.t 7),none⟩::⟨some 121,.faddr 1 (.t 5),none⟩::⟨some 122,.load false 1 (.t 121),none⟩::⟨some 123,.call 27 [(.t 120), (.t 122), (.c (.int .u64 (.ofNat 18446744073709551615)))],none⟩::[]))
(.reg (⟨some 124,.mov (.t 7),none⟩::⟨some 125,.faddr 1 (.t 5),none⟩::⟨some 126,.load false 1 (.t 125),none⟩::⟨some 127,.faddr 17 (.t 5),none⟩::⟨some 128,.load false 1 (.t 127),none⟩::⟨some 129,.call 25 [(.t 124), (.t 126), (.c (.str [111, 116, 104, 101, 114])), (.t 128)],none⟩::[]))))) .skip))))))))))))))))
(.seq (.reg (⟨some 6,.mov (.c (.bool true)),none⟩::[]))
.ret)))⟩
theorem c9_eq : compFn Tryz.prog 9 = some c9 := by kernel_rfl
/-- sodality/sodalitylaw19.same -/
noncomputable def c10 : FnI := ⟨39, [.tmp 4],
(.seq (.reg (⟨some 4,.mov (.c (.bool false)),none⟩::[]))
(.seq (.dreg (⟨⟨some 5,.mov (.t 0),none⟩,.quiet,0,0⟩::⟨⟨some 6,.call 14 [(.t 5)],none⟩,.loud,1,1⟩::⟨⟨some 7,.mov (.t 1),none⟩,.quiet,2,0⟩::⟨⟨some 8,.nilchk (.t 7),none⟩,.quiet,3,4⟩::⟨⟨some 9,.faddr 1 (.t 8),none⟩,.quiet,4,12⟩::⟨⟨some 10,.load false 1 (.t 9),none⟩,.load,5,28⟩::⟨⟨some 11,.call 36 [(.t 6), (.t 10)],none⟩,.loud,6,63⟩::⟨⟨some 12,.mov (.t 11),none⟩,.quiet,7,127⟩::⟨⟨some 13,.mov (.t 0),some (12,true)⟩,.quiet,8,255⟩::⟨⟨some 14,.call 15 [(.t 13)],some (12,true)⟩,.loud,9,511⟩::⟨⟨some 15,.mov (.t 1),some (12,true)⟩,.quiet,10,255⟩::⟨⟨some 16,.nilchk (.t 15),some (12,true)⟩,.quiet,11,1279⟩::⟨⟨some 17,.faddr 2 (.t 16),some (12,true)⟩,.quiet,12,3327⟩::⟨⟨some 18,.load false 1 (.t 17),some (12,true)⟩,.load,13,7423⟩::⟨⟨some 19,.call 37 [(.t 14), (.t 18)],some (12,true)⟩,.loud,14,16383⟩::⟨⟨some 20,.pick (.t 12) (.t 19) (.c (.bool false)),none⟩,.quiet,15,32767⟩::⟨⟨some 21,.mov (.t 20),none⟩,.quiet,16,65535⟩::⟨⟨some 22,.mov (.t 0),some (21,true)⟩,.quiet,17,131071⟩::⟨⟨some 23,.call 16 [(.t 22)],some (21,true)⟩,.loud,18,262143⟩::⟨⟨some 24,.mov (.t 1),some (21,true)⟩,.quiet,19,131071⟩::⟨⟨some 25,.nilchk (.t 24),some (21,true)⟩,.quiet,20,655359⟩::⟨⟨some 26,.faddr 3 (.t 25),some (21,true)⟩,.quiet,21,1703935⟩::⟨⟨some 27,.load false 1 (.t 26),some (21,true)⟩,.load,22,3801087⟩::⟨⟨some 28,.call 38 [(.t 23), (.t 27)],some (21,true)⟩,.loud,23,8388607⟩::⟨⟨some 29,.pick (.t 21) (.t 28) (.c (.bool false)),none⟩,.quiet,24,16777215⟩::⟨⟨some 30,.mov (.t 29),none⟩,.quiet,25,33554431⟩::⟨⟨some 31,.mov (.t 0),some (30,true)⟩,.quiet,26,67108863⟩::⟨⟨some 32,.call 21 [(.t 31)],some (30,true)⟩,.loud,27,134217727⟩::⟨⟨some 33,.mov (.t 1),some (30,true)⟩,.quiet,28,67108863⟩::⟨⟨some 34,.nilchk (.t 33),some (30,true)⟩,.quiet,29,335544319⟩::⟨⟨some 35,.faddr 4 (.t 34),some (30,true)⟩,.quiet,30,872415231⟩::⟨⟨some 36,.load true 3 (.t 35),some (30,true)⟩,.load,31,1946157055⟩::⟨⟨some 37,.eq false (.arr 3 1 false .int) (.t 32) (.t 36),some (30,true)⟩,.quiet,32,4294967295⟩::⟨⟨some 38,.pick (.t 30) (.t 37) (.c (.bool false)),none⟩,.quiet,33,8589934591⟩::⟨⟨some 4,.mov (.t 38),none⟩,.quiet,34,17179869183⟩::[]))
.ret))⟩
theorem c10_eq : compFn Tryz.prog 10 = some c10 := by kernel_rfl
/-- (*sodality/roster.Roster).Health -/
noncomputable def c11 : FnI := ⟨39, [.tmp 6],
(.seq (.reg (⟨some 6,.mov (.c (.int .i64 (.ofNat 0))),none⟩::[]))
(.seq (.reg (⟨some 7,.mov (.c (.int .i64 (.ofNat 0))),none⟩::[]))
(.seq (.reg (⟨some 13,.mov (.t 0),none⟩::⟨some 14,.mov (.t 1),none⟩::⟨some 15,.call 17 [(.t 13), (.t 14)],none⟩::⟨some 12,.mov (.t 15),none⟩::⟨some 16,.extract (.t 12) 0,none⟩::⟨some 17,.extract (.t 12) 1,none⟩::⟨some 8,.mov (.t 16),none⟩::⟨some 9,.mov (.t 17),none⟩::[]))
(.seq (.seq (.reg (⟨some 18,.mov (.t 9),none⟩::⟨some 19,.len false (.t 18),none⟩::⟨some 20,.mov (.c (.int .i64 (.ofNat 0))),none⟩::[]))
(.block 0 (.loop (.seq (.reg (⟨some 21,.bin .lss (.t 20) (.t 19),none⟩::[]))
(.seq (.cond (.t 21) .skip (.exit 0))
(.seq (.block 1 (.seq (.reg (⟨some 22,.idxS 7 (.t 18) (.t 20),none⟩::⟨some 23,.load true 7 (.t 22),none⟩::⟨some 11,.alloc [(.int .i64 (.ofNat 0)), (.str []), (.str []), (.str []), (.int .i64 (.ofNat 0)), (.int .u64 (.ofNat 0)), (.int .u64 (.ofNat 0))],none⟩::⟨none,.store 7 (.t 11) (.t 23),none⟩::[]))
(.seq (.reg (⟨some 24,.faddr 2 (.t 11),none⟩::⟨some 25,.load false 1 (.t 24),none⟩::⟨some 26,.bin .eql (.t 25) (.c (.str [])),none⟩::⟨some 27,.mov (.t 26),none⟩::⟨some 28,.faddr 2 (.t 11),some (27,false)⟩::⟨some 29,.load false 1 (.t 28),some (27,false)⟩::⟨some 30,.mov (.t 2),some (27,false)⟩::⟨some 31,.bin .eql (.t 29) (.t 30),some (27,false)⟩::⟨some 32,.pick (.t 27) (.c (.bool true)) (.t 31),none⟩::[]))
(.cond (.t 32) (.reg (⟨some 33,.mov (.t 7),none⟩::⟨some 34,.faddr 4 (.t 11),none⟩::⟨some 35,.load false 1 (.t 34),none⟩::⟨some 36,.mm true (.t 33) [(.t 35)],none⟩::⟨some 7,.mov (.t 36),none⟩::[])) .skip))))
(.reg (⟨some 37,.bin .add (.t 20) (.c (.int .i64 (.ofNat 1))),none⟩::⟨some 20,.mov (.t 37),none⟩::[]))))))))
(.seq (.reg (⟨some 38,.mov (.t 7),none⟩::⟨some 6,.mov (.t 38),none⟩::[]))
.ret)))))⟩
theorem c11_eq : compFn Tryz.prog 11 = some c11 := by kernel_rfl
/-- (*sodality/sodalityref19.Roster).Health -/
noncomputable def c12 : FnI := ⟨50, [.tmp 6],
(.seq (.reg (⟨some 6,.mov (.c (.int .i64 (.ofNat 0))),none⟩::[]))
(.seq (.reg (⟨some 7,.mov (.c (.int .i64 (.ofNat 0))),none⟩::[]))
(.seq (.seq (.reg (⟨some 8,.mov (.c (.int .i64 (.ofNat 0))),none⟩::[]))
(.block 0 (.loop (.seq (.seq (.reg (⟨some 10,.mov (.t 8),none⟩::⟨some 11,.mov (.t 0),none⟩::⟨some 12,.nilchk (.t 11),none⟩::⟨some 13,.faddr 3 (.t 12),none⟩::⟨some 14,.load false 1 (.t 13),none⟩::⟨some 15,.len false (.t 14),none⟩::⟨some 16,.bin .lss (.t 10) (.t 15),none⟩::[]))
(.cond (.t 16) .skip (.exit 0)))
(.seq (.block 1 (.seq (.reg (⟨some 19,.mov (.t 0),none⟩::⟨some 20,.nilchk (.t 19),none⟩::⟨some 21,.faddr 3 (.t 20),none⟩::⟨some 22,.load false 1 (.t 21),none⟩::⟨some 23,.mov (.t 8),none⟩::⟨some 24,.idxS 7 (.t 22) (.t 23),none⟩::⟨some 25,.load true 7 (.t 24),none⟩::⟨some 9,.alloc [(.int .i64 (.ofNat 0)), (.str []), (.str []), (.str []), (.int .i64 (.ofNat 0)), (.int .u64 (.ofNat 0)), (.int .u64 (.ofNat 0))],none⟩::⟨none,.store 7 (.t 9) (.t 25),none⟩::[]))
(.seq (.reg (⟨some 26,.faddr 0 (.t 9),none⟩::⟨some 27,.load false 1 (.t 26),none⟩::⟨some 28,.mov (.t 1),none⟩::⟨some 29,.bin .eql (.t 27) (.t 28),none⟩::⟨some 30,.mov (.t 29),none⟩::⟨some 31,.faddr 2 (.t 9),some (30,true)⟩::⟨some 32,.load false 1 (.t 31),some (30,true)⟩::⟨some 33,.bin .eql (.t 32) (.c (.str [])),some (30,true)⟩::⟨some 34,.mov (.t 33),some (30,true)⟩::⟨some 35,.faddr 2 (.t 9),some (34,false)⟩::⟨some 36,.load false 1 (.t 35),some (34,false)⟩::⟨some 37,.mov (.t 2),some (34,false)⟩::⟨some 38,.bin .eql (.t 36) (.t 37),some (34,false)⟩::⟨some 39,.pick (.t 34) (.c (.bool true)) (.t 38),some (30,true)⟩::⟨some 40,.pick (.t 30) (.t 39) (.c (.bool false)),none⟩::⟨some 41,.mov (.t 40),none⟩::⟨some 42,.faddr 4 (.t 9),some (41,true)⟩::⟨some 43,.load false 1 (.t 42),some (41,true)⟩::⟨some 44,.mov (.t 7),some (41,true)⟩::⟨some 45,.bin .gtr (.t 43) (.t 44),some (41,true)⟩::⟨some 46,.pick (.t 41) (.t 45) (.c (.bool false)),none⟩::[]))
(.cond (.t 46) (.reg (⟨some 47,.faddr 4 (.t 9),none⟩::⟨some 48,.load false 1 (.t 47),none⟩::⟨some 7,.mov (.t 48),none⟩::[])) .skip))))
(.reg (⟨some 17,.mov (.t 8),none⟩::⟨some 18,.bin .add (.t 17) (.c (.int .i64 (.ofNat 1))),none⟩::⟨some 8,.mov (.t 18),none⟩::[])))))))
(.seq (.reg (⟨some 49,.mov (.t 7),none⟩::⟨some 6,.mov (.t 49),none⟩::[]))
.ret))))⟩
theorem c12_eq : compFn Tryz.prog 12 = some c12 := by kernel_rfl
/-- sodality/sodalitylaw19.works -/
noncomputable def c13 : FnI := ⟨34, [.tmp 0],
(.seq (.reg (⟨some 0,.mov (.c (.bool false)),none⟩::[]))
(.seq (.reg (⟨some 5,.call 7 [(.c (.int .i64 (.ofNat 9)))],none⟩::⟨some 1,.mov (.t 5),none⟩::[]))
(.seq (.reg (⟨some 6,.mov (.t 1),none⟩::⟨some 7,.call 25 [(.t 6), (.c (.int .i64 (.ofNat 1))), (.c (.str [120])), (.c (.int .u64 (.ofNat 3)))],none⟩::⟨some 2,.mov (.t 7),none⟩::[]))
(.seq (.reg (⟨some 8,.mov (.t 1),none⟩::⟨some 9,.build [(.int .i64 (.ofNat 0)), (.str []), (.str []), .nilsl, (.int .i64 (.ofNat 0)), (.int .u64 (.ofNat 0)), (.int .u64 (.ofNat 0))] [(0, 1, (.c (.int .i64 (.ofNat 1)))), (1, 1, (.c (.str [119, 101, 98, 45, 49]))), (2, 1, (.c (.str [119, 101, 98])))],none⟩::⟨some 10,.call 29 [(.t 8), (.t 9), (.c (.int .u64 (.ofNat 4)))],none⟩::⟨some 3,.mov (.t 10),none⟩::[]))
(.seq (.reg (⟨some 11,.mov (.t 1),none⟩::⟨some 12,.build [(.int .i64 (.ofNat 0)), (.str []), (.str []), (.str []), (.int .i64 (.ofNat 0)), (.int .u64 (.ofNat 0)), (.int .u64 (.ofNat 0))] [(0, 1, (.c (.int .i64 (.ofNat 1)))), (1, 1, (.c (.str [99]))), (2, 1, (.c (.str [119, 101, 98, 45, 49]))), (4, 1, (.c (.int .i64 (.ofNat 2))))],none⟩::⟨some 13,.call 18 [(.t 11), (.t 12), (.c (.int .u64 (.ofNat 5)))],none⟩::⟨some 4,.mov (.t 13),none⟩::[]))
(.seq (.reg (⟨some 14,.mov (.t 2),none⟩::⟨some 15,.bin .eql (.t 14) (.c (.int .i64 (.ofNat 0))),none⟩::⟨some 16,.mov (.t 15),none⟩::⟨some 17,.mov (.t 3),some (16,true)⟩::⟨some 18,.bin .eql (.t 17) (.c (.int .i64 (.ofNat 0))),some (16,true)⟩::⟨some 19,.pick (.t 16) (.t 18) (.c (.bool false)),none⟩::⟨some 20,.mov (.t 19),none⟩::⟨some 21,.mov (.t 4),some (20,true)⟩::⟨some 22,.bin .eql (.t 21) (.c (.int .i64 (.ofNat 0))),some (20,true)⟩::⟨some 23,.pick (.t 20) (.t 22) (.c (.bool false)),none⟩::⟨some 24,.mov (.t 23),none⟩::⟨some 25,.mov (.t 1),some (24,true)⟩::⟨some 26,.call 11 [(.t 25), (.c (.int .i64 (.ofNat 1))), (.c (.str [119, 101, 98, 45, 49]))],some (24,true)⟩::⟨some 27,.bin .eql (.t 26) (.c (.int .i64 (.ofNat 2))),some (24,true)⟩::⟨some 28,.pick (.t 24) (.t 27) (.c (.bool false)),none⟩::⟨some 29,.mov (.t 28),none⟩::⟨some 30,.mov (.t 1),some (29,true)⟩::⟨some 31,.call 11 [(.t 30), (.c (.int .i64 (.ofNat 1))), (.c (.str [100, 98]))],some (29,true)⟩::⟨some 32,.bin .eql (.t 31) (.c (.int .i64 (.ofNat 0))),some (29,true)⟩::⟨some 33,.pick (.t 29) (.t 32) (.c (.bool false)),none⟩::⟨some 0,.mov (.t 33),none⟩::[]))
.ret))))))⟩
theorem c13_eq : compFn Tryz.prog 13 = some c13 := by kernel_rfl
/-- (*sodality/roster.Roster).Nodes -/
noncomputable def c14 : FnI := ⟨11, [.tmp 2],
(.seq (.reg (⟨some 2,.mov (.c .nilsl),none⟩::[]))
(.seq (.seq (.reg (⟨some 3,.mov (.t 0),none⟩::⟨some 4,.call 39 [(.t 3)],none⟩::[]))
(.cond (.t 4) (.seq (.reg (⟨some 2,.mov (.c .nilsl),none⟩::[]))
.ret) .skip))
(.seq (.reg (⟨some 5,.mov (.t 0),none⟩::⟨some 6,.nilchk (.t 5),none⟩::⟨some 7,.faddr 0 (.t 6),none⟩::⟨some 8,.load false 1 (.t 7),none⟩::⟨some 9,.build [.nilfn] [(0, 1, (.c (.fn (.func 41) [] [])))],none⟩::⟨some 10,.call 40 [(.t 8), (.t 9)],none⟩::⟨some 2,.mov (.t 10),none⟩::[]))
.ret)))⟩
theorem c14_eq : compFn Tryz.prog 14 = some c14 := by kernel_rfl
/-- (*sodality/roster.Roster).Services -/
noncomputable def c15 : FnI := ⟨11, [.tmp 2],
(.seq (.reg (⟨some 2,.mov (.c .nilsl),none⟩::[]))
(.seq (.seq (.reg (⟨some 3,.mov (.t 0),none⟩::⟨some 4,.call 39 [(.t 3)],none⟩::[]))
(.cond (.t 4) (.seq (.reg (⟨some 2,.mov (.c .nilsl),none⟩::[]))
.ret) .skip))
(.seq (.reg (⟨some 5,.mov (.t 0),none⟩::⟨some 6,.nilchk (.t 5),none⟩::⟨some 7,.faddr 1 (.t 6),none⟩::⟨some 8,.load false 1 (.t 7),none⟩::⟨some 9,.build [.nilfn] [(0, 1, (.c (.fn (.func 43) [] [])))],none⟩::⟨some 10,.call 42 [(.t 8), (.t 9)],none⟩::⟨some 2,.mov (.t 10),none⟩::[]))
.ret)))⟩
theorem c15_eq : compFn Tryz.prog 15 = some c15 := by kernel_rfl
/-- (*sodality/roster.Roster).Checks -/
noncomputable def c16 : FnI := ⟨11, [.tmp 2],
(.seq (.reg (⟨some 2,.mov (.c .nilsl),none⟩::[]))
(.seq (.seq (.reg (⟨some 3,.mov (.t 0),none⟩::⟨some 4,.call 39 [(.t 3)],none⟩::[]))
(.cond (.t 4) (.seq (.reg (⟨some 2,.mov (.c .nilsl),none⟩::[]))
.ret) .skip))
(.seq (.reg (⟨some 5,.mov (.t 0),none⟩::⟨some 6,.nilchk (.t 5),none⟩::⟨some 7,.faddr 2 (.t 6),none⟩::⟨some 8,.load false 1 (.t 7),none⟩::⟨some 9,.build [.nilfn] [(0, 1, (.c (.fn (.func 45) [] [])))],none⟩::⟨some 10,.call 44 [(.t 8), (.t 9)],none⟩::⟨some 2,.mov (.t 10),none⟩::[]))
.ret)))⟩
theorem c16_eq : compFn Tryz.prog 16 = some c16 := by kernel_rfl
/-- (*sodality/roster.Roster).Of -/
noncomputable def c17 : FnI := ⟨46, [.tmp 4, .tmp 5],
(.seq (.reg (⟨some 4,.mov (.c .nilsl),none⟩::⟨some 5,.mov (.c .nilsl),none⟩::[]))
(.seq (.reg (⟨some 6,.mov (.c .nilsl),none⟩::[]))
(.seq (.seq (.reg (⟨some 12,.mov (.t 0),none⟩::⟨some 13,.call 15 [(.t 12)],none⟩::⟨some 14,.len false (.t 13),none⟩::⟨some 15,.mov (.c (.int .i64 (.ofNat 0))),none⟩::[]))
(.block 0 (.loop (.seq (.reg (⟨some 16,.bin .lss (.t 15) (.t 14),none⟩::[]))
(.seq (.cond (.t 16) .skip (.exit 0))
(.seq (.block 1 (.seq (.reg (⟨some 17,.idxS 7 (.t 13) (.t 15),none⟩::⟨some 18,.load true 7 (.t 17),none⟩::⟨some 8,.alloc [(.int .i64 (.ofNat 0)), (.str []), (.str []), .nilsl, (.int .i64 (.ofNat 0)), (.int .u64 (.ofNat 0)), (.int .u64 (.ofNat 0))],none⟩::⟨none,.store 7 (.t 8) (.t 18),none⟩::[]))
(.seq (.reg (⟨some 19,.faddr 0 (.t 8),none⟩::⟨some 20,.load false 1 (.t 19),none⟩::⟨some 21,.mov (.t 1),none⟩::⟨some 22,.bin .eql (.t 20) (.t 21),none⟩::[]))
(.cond (.t 22) (.reg (⟨some 23,.mov (.t 6),none⟩::⟨some 24,.load true 7 (.t 8),none⟩::⟨some 25,.buildSl 7 1 [(.int .i64 (.ofNat 0)), (.str []), (.str []), .nilsl, (.int .i64 (.ofNat 0)), (.int .u64 (.ofNat 0)), (.int .u64 (.ofNat 0))] [(0, 7, (.t 24))],none⟩::⟨some 26,.append 7 88 (.t 23) (.t 25),none⟩::⟨some 6,.mov (.t 26),none⟩::[])) .skip))))
(.reg (⟨some 27,.bin .add (.t 15) (.c (.int .i64 (.ofNat 1))),none⟩::⟨some 15,.mov (.t 27),none⟩::[]))))))))
(.seq (.reg (⟨some 9,.mov (.c .nilsl),none⟩::[]))
(.seq (.seq (.reg (⟨some 28,.mov (.t 0),none⟩::⟨some 29,.call 16 [(.t 28)],none⟩::⟨some 30,.len false (.t 29),none⟩::⟨some 31,.mov (.c (.int .i64 (.ofNat 0))),none⟩::[]))
(.block 2 (.loop (.seq (.reg (⟨some 32,.bin .lss (.t 31) (.t 30),none⟩::[]))
(.seq (.cond (.t 32) .skip (.exit 2))
(.seq (.block 3 (.seq (.reg (⟨some 33,.idxS 7 (.t 29) (.t 31),none⟩::⟨some 34,.load true 7 (.t 33),none⟩::⟨some 11,.alloc [(.int .i64 (.ofNat 0)), (.str []), (.str []), (.str []), (.int .i64 (.ofNat 0)), (.int .u64 (.ofNat 0)), (.int .u64 (.ofNat 0))],none⟩::⟨none,.store 7 (.t 11) (.t 34),none⟩::[]))
(.seq (.reg (⟨some 35,.faddr 0 (.t 11),none⟩::⟨some 36,.load false 1 (.t 35),none⟩::⟨some 37,.mov (.t 1),none⟩::⟨some 38,.bin .eql (.t 36) (.t 37),none⟩::[]))
(.cond (.t 38) (.reg (⟨some 39,.mov (.t 9),none⟩::⟨some 40,.load true 7 (.t 11),none⟩::⟨some 41,.buildSl 7 1 [(.int .i64 (.ofNat 0)), (.str []), (.str []), (.str []), (.int .i64 (.ofNat 0)), (.int .u64 (.ofNat 0)), (.int .u64 (.ofNat 0))] [(0, 7, (.t 40))],none⟩::⟨some 42,.append 7 80 (.t 39) (.t 41),none⟩::⟨some 9,.mov (.t 42),none⟩::[])) .skip))))
(.reg (⟨some 43,.bin .add (.t 31) (.c (.int .i64 (.ofNat 1))),none⟩::⟨some 31,.mov (.t 43),none⟩::[]))))))))
(.seq (.reg (⟨some 44,.mov (.t 6),none⟩::⟨some 45,.mov (.t 9),none⟩::⟨some 4,.mov (.t 44),none⟩::⟨some 5,.mov (.t 45),none⟩::[]))
.ret))))))⟩
theorem c17_eq : compFn Tryz.prog 17 = some c17 := by kernel_rfl
/-- (*sodality/roster.Roster).Check -/
noncomputable def c18 : FnI := ⟨34, [.tmp 6],
(.seq (.reg (⟨some 4,.box (.t 1),none⟩::⟨some 6,.mov (.c (.int .i64 (.ofNat 0))),none⟩::[]))
(.seq (.seq (.reg (⟨some 10,.mov (.t 0),none⟩::⟨some 11,.call 39 [(.t 10)],none⟩::[]))
(.cond (.t 11) (.seq (.reg (⟨some 6,.mov (.c (.int .i64 (.ofNat 1))),none⟩::[]))
.ret) .skip))
(.seq (.seq (.reg (⟨some 12,.mov (.t 0),none⟩::⟨some 13,.load true 7 (.t 4),none⟩::⟨some 14,.call 46 [(.t 12), (.t 13)],none⟩::⟨some 7,.mov (.t 14),none⟩::[]))
(.seq (.reg (⟨some 15,.mov (.t 7),none⟩::⟨some 16,.bin .neq (.t 15) (.c (.int .i64 (.ofNat 0))),none⟩::[]))
(.cond (.t 16) (.seq (.reg (⟨some 17,.mov (.t 7),none⟩::⟨some 6,.mov (.t 17),none⟩::[]))
.ret) .skip)))
(.seq (.dreg (⟨⟨some 23,.faddr 0 (.t 4),none⟩,.quiet,4,0⟩::⟨⟨some 24,.load false 1 (.t 23),none⟩,.load,5,16⟩::⟨⟨some 25,.faddr 1 (.t 4),none⟩,.quiet,6,0⟩::⟨⟨some 26,.load false 1 (.t 25),none⟩,.load,7,64⟩::⟨⟨some 27,.call 48 [(.t 24), (.t 26)],none⟩,.loud,8,240⟩::⟨⟨some 19,.mov (.t 0),none⟩,.quiet,0,0⟩::⟨⟨some 20,.nilchk (.t 19),none⟩,.quiet,1,1⟩::⟨⟨some 21,.faddr 2 (.t 20),none⟩,.quiet,2,3⟩::⟨⟨some 22,.load false 1 (.t 21),none⟩,.load,3,7⟩::⟨⟨some 28,.load true 7 (.t 4),none⟩,.load,9,0⟩::⟨⟨some 29,.mov (.t 2),none⟩,.quiet,10,0⟩::⟨⟨some 30,.call 47 [(.t 22), (.t 27), (.t 28), (.t 29)],none⟩,.loud,11,2047⟩::⟨⟨some 18,.mov (.t 30),none⟩,.quiet,12,4095⟩::⟨⟨some 31,.extract (.t 18) 0,none⟩,.quiet,13,8191⟩::⟨⟨some 8,.alloc [(.str []), (.int .i64 (.ofNat 0)), (.str []), (.str []), (.str []), (.int .i64 (.ofNat 0)), (.int .u64 (.ofNat 0)), (.int .u64 (.ofNat 0)), (.int .u64 (.ofNat 0)), (.int .u64 (.ofNat 0))],none⟩,.quiet,15,0⟩::⟨⟨none,.store 10 (.t 8) (.t 31),none⟩,.loud,16,49151⟩::⟨⟨some 32,.extract (.t 18) 1,none⟩,.quiet,14,8191⟩::⟨⟨some 9,.mov (.t 32),none⟩,.quiet,17,131071⟩::[]))
(.seq (.reg (⟨some 33,.mov (.t 9),none⟩::⟨some 6,.mov (.t 33),none⟩::[]))
.ret)))))⟩
theorem c18_eq : compFn Tryz.prog 18 = some c18 := by kernel_rfl
/-- (*sodality/roster.Roster).DropCheck -/
noncomputable def c19 : FnI := ⟨26, [.tmp 8],
(.seq (.reg (⟨some 8,.mov (.c (.int .i64 (.ofNat 0))),none⟩::[]))
(.seq (.seq (.reg (⟨some 9,.mov (.t 0),none⟩::⟨some 10,.call 39 [(.t 9)],none⟩::[]))
(.cond (.t 10) (.seq (.reg (⟨some 8,.mov (.c (.int .i64 (.ofNat 1))),none⟩::[]))
.ret) .skip))
(.seq (.seq (.dreg (⟨⟨some 11,.mov (.t 1),none⟩,.quiet,0,0⟩::⟨⟨some 12,.call 49 [(.t 11)],none⟩,.loud,1,1⟩::⟨⟨some 13,.un .not (.t 12),none⟩,.quiet,2,3⟩::⟨⟨some 14,.mov (.t 13),none⟩,.quiet,3,7⟩::⟨⟨some 19,.mov (.t 1),some (14,false)⟩,.quiet,8,15⟩::⟨⟨some 20,.mov (.t 2),some (14,false)⟩,.quiet,9,15⟩::⟨⟨some 21,.call 48 [(.t 19), (.t 20)],some (14,false)⟩,.loud,10,783⟩::⟨⟨some 15,.mov (.t 0),some (14,false)⟩,.quiet,4,15⟩::⟨⟨some 16,.nilchk (.t 15),some (14,false)⟩,.quiet,5,31⟩::⟨⟨some 17,.faddr 2 (.t 16),some (14,false)⟩,.quiet,6,63⟩::⟨⟨some 18,.load false 1 (.t 17),some (14,false)⟩,.load,7,127⟩::⟨⟨some 22,.mov (.t 3),some (14,false)⟩,.quiet,11,15⟩::⟨⟨some 23,.call 50 [(.t 18), (.t 21), (.t 22)],some (14,false)⟩,.loud,12,4095⟩::⟨⟨some 24,.un .not (.t 23),some (14,false)⟩,.quiet,13,8191⟩::⟨⟨some 25,.pick (.t 14) (.c (.bool true)) (.t 24),none⟩,.quiet,14,16383⟩::[]))
(.cond (.t 25) (.seq (.reg (⟨some 8,.mov (.c (.int .i64 (.ofNat 4))),none⟩::[]))
.ret) .skip))
(.seq (.reg (⟨some 8,.mov (.c (.int .i64 (.ofNat 0))),none⟩::[]))
.ret))))⟩
theorem c19_eq : compFn Tryz.prog 19 = some c19 := by kernel_rfl
/-- sodality/roster.Load -/
noncomputable def c20 : FnI := ⟨129, [.tmp 10, .tmp 11],
(.seq (.reg (⟨some 9,.box (.t 4),none⟩::⟨some 10,.mov (.c .nilp),none⟩::⟨some 11,.mov (.c (.int .i64 (.ofNat 0))),none⟩::[]))
(.seq (.dreg (⟨⟨some 19,.mov (.t 0),none⟩,.quiet,0,0⟩::⟨⟨some 20,.call 7 [(.t 19)],none⟩,.loud,1,1⟩::⟨⟨some 21,.load true 3 (.t 9),none⟩,.load,2,0⟩::⟨⟨some 22,.build [.nilp, (.int .u64 (.ofNat 0)), (.int .u64 (.ofNat 0)), (.int .u64 (.ofNat 0)), (.str []), (.str []), (.str []), (.bool false)] [(0, 1, (.t 20)), (1, 3, (.t 21))],none⟩,.quiet,3,7⟩::⟨⟨some 23,.box (.t 22),none⟩,.quiet,4,15⟩::⟨⟨some 12,.alloc [.nilp],none⟩,.quiet,5,0⟩::⟨⟨none,.store 1 (.t 12) (.t 23),none⟩,.loud,6,63⟩::[]))
(.seq (.seq (.reg (⟨some 24,.mov (.t 1),none⟩::⟨some 25,.len false (.t 24),none⟩::⟨some 26,.mov (.c (.int .i64 (.ofNat 0))),none⟩::[]))
(.block 0 (.loop (.seq (.reg (⟨some 27,.bin .lss (.t 26) (.t 25),none⟩::[]))
(.seq (.cond (.t 27) .skip (.exit 0))
(.seq (.block 1 (.seq (.reg (⟨some 28,.idxS 4 (.t 24) (.t 26),none⟩::⟨some 29,.load true 4 (.t 28),none⟩::⟨some 14,.alloc [(.int .i64 (.ofNat 0)), (.str []), (.int .u64 (.ofNat 0)), (.int .u64 (.ofNat 0))],none⟩::⟨none,.store 4 (.t 14) (.t 29),none⟩::[]))
(.seq (.seq (.reg (⟨some 30,.faddr 0 (.t 14),none⟩::⟨some 31,.load false 1 (.t 30),none⟩::⟨some 32,.call 49 [(.t 31)],none⟩::⟨some 33,.un .not (.t 32),none⟩::[]))
(.cond (.t 33) (.seq (.reg (⟨some 10,.mov (.c .nilp),none⟩::⟨some 11,.mov (.c (.int .i64 (.ofNat 2))),none⟩::[]))
.ret) .skip))
(.dreg (⟨⟨some 35,.faddr 0 (.t 14),none⟩,.quiet,1,0⟩::⟨⟨some 36,.load false 1 (.t 35),none⟩,.load,2,2⟩::⟨⟨some 37,.call 52 [(.t 36)],none⟩,.loud,3,6⟩::⟨⟨some 34,.load false 1 (.t 12),none⟩,.load,0,0⟩::⟨⟨some 38,.faddr 2 (.t 14),none⟩,.quiet,4,0⟩::⟨⟨some 39,.load false 1 (.t 38),none⟩,.load,5,16⟩::⟨⟨some 40,.faddr 3 (.t 14),none⟩,.quiet,6,0⟩::⟨⟨some 41,.load false 1 (.t 40),none⟩,.load,7,64⟩::⟨⟨some 42,.mkfn 53 [] [(.t 12), (.t 14)],none⟩,.quiet,8,0⟩::⟨⟨some 43,.call 51 [(.t 34), (.c (.int .i64 (.ofNat 0))), (.t 37), (.t 39), (.t 41), (.t 42)],none⟩,.loud,9,511⟩::[])))))
(.reg (⟨some 44,.bin .add (.t 26) (.c (.int .i64 (.ofNat 1))),none⟩::⟨some 26,.mov (.t 44),none⟩::[]))))))))
(.seq (.seq (.reg (⟨some 45,.mov (.t 2),none⟩::⟨some 46,.len false (.t 45),none⟩::⟨some 47,.mov (.c (.int .i64 (.ofNat 0))),none⟩::[]))
(.block 2 (.loop (.seq (.reg (⟨some 48,.bin .lss (.t 47) (.t 46),none⟩::[]))
(.seq (.cond (.t 48) .skip (.exit 2))
(.seq (.block 3 (.seq (.reg (⟨some 49,.idxS 7 (.t 45) (.t 47),none⟩::⟨some 50,.load true 7 (.t 49),none⟩::⟨some 16,.alloc [(.int .i64 (.ofNat 0)), (.str []), (.str []), .nilsl, (.int .i64 (.ofNat 0)), (.int .u64 (.ofNat 0)), (.int .u64 (.ofNat 0))],none⟩::⟨none,.store 7 (.t 16) (.t 50),none⟩::[]))
(.seq (.seq (.reg (⟨some 51,.faddr 0 (.t 16),none⟩::⟨some 52,.load false 1 (.t 51),none⟩::⟨some 53,.call 49 [(.t 52)],none⟩::⟨some 54,.un .not (.t 53),none⟩::[]))
(.cond (.t 54) (.seq (.reg (⟨some 10,.mov (.c .nilp),none⟩::⟨some 11,.mov (.c (.int .i64 (.ofNat 2))),none⟩::[]))
.ret) .skip))
(.dreg (⟨⟨some 56,.faddr 0 (.t 16),none⟩,.quiet,1,0⟩::⟨⟨some 57,.load false 1 (.t 56),none⟩,.load,2,2⟩::⟨⟨some 58,.faddr 1 (.t 16),none⟩,.quiet,3,0⟩::⟨⟨some 59,.load false 1 (.t 58),none⟩,.load,4,8⟩::⟨⟨some 60,.call 48 [(.t 57), (.t 59)],none⟩,.loud,5,30⟩::⟨⟨some 55,.load false 1 (.t 12),none⟩,.load,0,0⟩::⟨⟨some 61,.faddr 5 (.t 16),none⟩,.quiet,6,0⟩::⟨⟨some 62,.load false 1 (.t 61),none⟩,.load,7,64⟩::⟨⟨some 63,.faddr 6 (.t 16),none⟩,.quiet,8,0⟩::⟨⟨some 64,.load false 1 (.t 63),none⟩,.load,9,256⟩::⟨⟨some 65,.mkfn 54 [] [(.t 12), (.t 16)],none⟩,.quiet,10,0⟩::⟨⟨some 66,.call 51 [(.t 55), (.c (.int .i64 (.ofNat 1))), (.t 60), (.t 62), (.t 64), (.t 65)],none⟩,.loud,11,2047⟩::[])))))
(.reg (⟨some 67,.bin .add (.t 47) (.c (.int .i64 (.ofNat 1))),none⟩::⟨some 47,.mov (.t 67),none⟩::[]))))))))
(.seq (.seq (.reg (⟨some 68,.mov (.t 3),none⟩::⟨some 69,.len false (.t 68),none⟩::⟨some 70,.mov (.c (.int .i64 (.ofNat 0))),none⟩::[]))
(.block 4 (.loop (.seq (.reg (⟨some 71,.bin .lss (.t 70) (.t 69),none⟩::[]))
(.seq (.cond (.t 71) .skip (.exit 4))
(.seq (.block 5 (.seq (.reg (⟨some 72,.idxS 7 (.t 68) (.t 70),none⟩::⟨some 73,.load true 7 (.t 72),none⟩::⟨some 18,.alloc [(.int .i64 (.ofNat 0)), (.str []), (.str []), (.str []), (.int .i64 (.ofNat 0)), (.int .u64 (.ofNat 0)), (.int .u64 (.ofNat 0))],none⟩::⟨none,.store 7 (.t 18) (.t 73),none⟩::[]))
(.seq (.seq (.reg (⟨some 74,.faddr 0 (.t 18),none⟩::⟨some 75,.load false 1 (.t 74),none⟩::⟨some 76,.call 49 [(.t 75)],none⟩::⟨some 77,.un .not (.t 76),none⟩::[]))
(.cond (.t 77) (.seq (.reg (⟨some 10,.mov (.c .nilp),none⟩::⟨some 11,.mov (.c (.int .i64 (.ofNat 2))),none⟩::[]))
.ret) .skip))
(.dreg (⟨⟨some 79,.faddr 0 (.t 18),none⟩,.quiet,1,0⟩::⟨⟨some 80,.load false 1 (.t 79),none⟩,.load,2,2⟩::⟨⟨some 81,.faddr 1 (.t 18),none⟩,.quiet,3,0⟩::⟨⟨some 82,.load false 1 (.t 81),none⟩,.load,4,8⟩::⟨⟨some 83,.call 48 [(.t 80), (.t 82)],none⟩,.loud,5,30⟩::⟨⟨some 78,.load false 1 (.t 12),none⟩,.load,0,0⟩::⟨⟨some 84,.faddr 5 (.t 18),none⟩,.quiet,6,0⟩::⟨⟨some 85,.load false 1 (.t 84),none⟩,.load,7,64⟩::⟨⟨some 86,.faddr 6 (.t 18),none⟩,.quiet,8,0⟩::⟨⟨some 87,.load false 1 (.t 86),none⟩,.load,9,256⟩::⟨⟨some 88,.mkfn 55 [] [(.t 12), (.t 18)],none⟩,.quiet,10,0⟩::⟨⟨some 89,.call 51 [(.t 78), (.c (.int .i64 (.ofNat 2))), (.t 83), (.t 85), (.t 87), (.t 88)],none⟩,.loud,11,2047⟩::[])))))
(.reg (⟨some 90,.bin .add (.t 70) (.c (.int .i64 (.ofNat 1))),none⟩::⟨some 70,.mov (.t 90),none⟩::[]))))))))
(.seq (.seq (.reg (⟨some 91,.load false 1 (.t 12),none⟩::⟨some 92,.nilchk (.t 91),none⟩::⟨some 93,.faddr 7 (.t 92),none⟩::⟨some 94,.load false 1 (.t 93),none⟩::[]))
(.cond (.t 94) (.seq (.reg (⟨some 10,.mov (.c .nilp),none⟩::⟨some 11,.mov (.c (.int .i64 (.ofNat 2))),none⟩::[]))
.ret) .skip))
(.seq (.dreg (⟨⟨some 95,.load false 1 (.t 12),none⟩,.load,0,0⟩::⟨⟨some 96,.nilchk (.t 95),none⟩,.quiet,1,1⟩::⟨⟨some 97,.faddr 0 (.t 96),none⟩,.quiet,2,3⟩::⟨⟨some 98,.load false 1 (.t 97),none⟩,.load,3,7⟩::⟨⟨some 99,.nilchk (.t 98),none⟩,.quiet,4,15⟩::⟨⟨some 100,.faddr 0 (.t 99),none⟩,.quiet,5,31⟩::⟨⟨some 101,.load false 1 (.t 100),none⟩,.load,6,63⟩::⟨⟨some 102,.idxA 3 1 (.t 9) (.c (.int .i64 (.ofNat 0))),none⟩,.quiet,7,0⟩::⟨⟨some 103,.load false 1 (.t 102),none⟩,.load,8,128⟩::⟨⟨some 104,.call 56 [(.t 101), (.t 103)],none⟩,.loud,9,511⟩::[]))
(.seq (.dreg (⟨⟨some 105,.load false 1 (.t 12),none⟩,.load,0,0⟩::⟨⟨some 106,.nilchk (.t 105),none⟩,.quiet,1,1⟩::⟨⟨some 107,.faddr 0 (.t 106),none⟩,.quiet,2,3⟩::⟨⟨some 108,.load false 1 (.t 107),none⟩,.load,3,7⟩::⟨⟨some 109,.nilchk (.t 108),none⟩,.quiet,4,15⟩::⟨⟨some 110,.faddr 1 (.t 109),none⟩,.quiet,5,31⟩::⟨⟨some 111,.load false 1 (.t 110),none⟩,.load,6,63⟩::⟨⟨some 112,.idxA 3 1 (.t 9) (.c (.int .i64 (.ofNat 1))),none⟩,.quiet,7,0⟩::⟨⟨some 113,.load false 1 (.t 112),none⟩,.load,8,128⟩::⟨⟨some 114,.call 57 [(.t 111), (.t 113)],none⟩,.loud,9,511⟩::[]))
(.seq (.dreg (⟨⟨some 115,.load false 1 (.t 12),none⟩,.load,0,0⟩::⟨⟨some 116,.nilchk (.t 115),none⟩,.quiet,1,1⟩::⟨⟨some 117,.faddr 0 (.t 116),none⟩,.quiet,2,3⟩::⟨⟨some 118,.load false 1 (.t 117),none⟩,.load,3,7⟩::⟨⟨some 119,.nilchk (.t 118),none⟩,.quiet,4,15⟩::⟨⟨some 120,.faddr 2 (.t 119),none⟩,.quiet,5,31⟩::⟨⟨some 121,.load false 1 (.t 120),none⟩,.load,6,63⟩::⟨⟨some 122,.idxA 3 1 (.t 9) (.c (.int .i64 (.ofNat 2))),none⟩,.quiet,7,0⟩::⟨⟨some 123,.load false 1 (.t 122),none⟩,.load,8,128⟩::⟨⟨some 124,.call 58 [(.t 121), (.t 123)],none⟩,.loud,9,511⟩::[]))
(.seq (.reg (⟨some 125,.load false 1 (.t 12),none⟩::⟨some 126,.nilchk (.t 125),none⟩::⟨some 127,.faddr 0 (.t 126),none⟩::⟨some 128,.load false 1 (.t 127),none⟩::⟨some 10,.mov (.t 128),none⟩::⟨some 11,.mov (.c (.int .i64 (.ofNat 0))),none⟩::[]))
.ret))))))))))⟩
theorem c20_eq : compFn Tryz.prog 20 = some c20 := by kernel_rfl
/-- (*sodality/roster.Roster).Last -/
noncomputable def c21 : FnI := ⟨22, [.cell 2 true 3],
(.seq (.reg (⟨some 2,.alloc [(.int .u64 (.ofNat 0)), (.int .u64 (.ofNat 0)), (.int .u64 (.ofNat 0))],none⟩::[]))
(.seq (.seq (.reg (⟨some 3,.mov (.t 0),none⟩::⟨some 4,.call 39 [(.t 3)],none⟩::[]))
(.cond (.t 4) (.seq (.reg (⟨some 5,.build [(.int .u64 (.ofNat 0)), (.int .u64 (.ofNat 0)), (.int .u64 (.ofNat 0))] [],none⟩::⟨none,.store 3 (.t 2) (.t 5),none⟩::[]))
.ret) .skip))
(.seq (.dreg (⟨⟨some 6,.mov (.t 0),none⟩,.quiet,0,0⟩::⟨⟨some 7,.nilchk (.t 6),none⟩,.quiet,1,1⟩::⟨⟨some 8,.faddr 0 (.t 7),none⟩,.quiet,2,3⟩::⟨⟨some 9,.load false 1 (.t 8),none⟩,.load,3,7⟩::⟨⟨some 10,.call 59 [(.t 9)],none⟩,.loud,4,15⟩::⟨⟨some 11,.mov (.t 0),none⟩,.quiet,5,0⟩::⟨⟨some 12,.nilchk (.t 11),none⟩,.quiet,6,32⟩::⟨⟨some 13,.faddr 1 (.t 12),none⟩,.quiet,7,96⟩::⟨⟨some 14,.load false 1 (.t 13),none⟩,.load,8,224⟩::⟨⟨some 15,.call 60 [(.t 14)],none⟩,.loud,9,511⟩::⟨⟨some 16,.mov (.t 0),none⟩,.quiet,10,0⟩::⟨⟨some 17,.nilchk (.t 16),none⟩,.quiet,11,1024⟩::⟨⟨some 18,.faddr 2 (.t 17),none⟩,.quiet,12,3072⟩::⟨⟨some 19,.load false 1 (.t 18),none⟩,.load,13,7168⟩::⟨⟨some 20,.call 61 [(.t 19)],none⟩,.loud,14,16383⟩::⟨⟨some 21,.build [(.int .u64 (.ofNat 0)), (.int .u64 (.ofNat 0)), (.int .u64 (.ofNat 0))] [(0, 1, (.t 10)), (1, 1, (.t 15)), (2, 1, (.t 20))],none⟩,.quiet,15,32767⟩::⟨⟨none,.store 3 (.t 2) (.t 21),none⟩,.loud,16,65535⟩::[]))
.ret)))⟩
theorem c21_eq : compFn Tryz.prog 21 = some c21 := by kernel_rfl
/-- sodality/table.New[sodality/api.Node] -/
noncomputable def c22 : FnI := ⟨8, [.tmp 2],
(.seq (.reg (⟨some 2,.mov (.c .nilp),none⟩::[]))
(.seq (.reg (⟨some 3,.mov (.t 0),none⟩::⟨some 4,.mm true (.t 3) [(.c (.int .i64 (.ofNat 1)))],none⟩::⟨some 5,.mm false (.t 4) [(.c (.int .i64 (.ofNat 64)))],none⟩::⟨some 6,.build [(.int .i64 (.ofNat 0)), .nilsl, (.int .u64 (.ofNat 0))] [(0, 1, (.t 5))],none⟩::⟨some 7,.box (.t 6),none⟩::⟨some 2,.mov (.t 7),none⟩::[]))
.ret))⟩
theorem c22_eq : compFn Tryz.prog 22 = some c22 := by kernel_rfl
/-- sodality/table.New[sodality/api.Service] -/
noncomputable def c23 : FnI := ⟨8, [.tmp 2],
(.seq (.reg (⟨some 2,.mov (.c .nilp),none⟩::[]))
(.seq (.reg (⟨some 3,.mov (.t 0),none⟩::⟨some 4,.mm true (.t 3) [(.c (.int .i64 (.ofNat 1)))],none⟩::⟨some 5,.mm false (.t 4) [(.c (.int .i64 (.ofNat 64)))],none⟩::⟨some 6,.build [(.int .i64 (.ofNat 0)), .nilsl, (.int .u64 (.ofNat 0))] [(0, 1, (.t 5))],none⟩::⟨some 7,.box (.t 6),none⟩::⟨some 2,.mov (.t 7),none⟩::[]))
.ret))⟩
theorem c23_eq : compFn Tryz.prog 23 = some c23 := by kernel_rfl
/-- sodality/table.New[sodality/api.Check] -/
noncomputable def c24 : FnI := ⟨8, [.tmp 2],
(.seq (.reg (⟨some 2,.mov (.c .nilp),none⟩::[]))
(.seq (.reg (⟨some 3,.mov (.t 0),none⟩::⟨some 4,.mm true (.t 3) [(.c (.int .i64 (.ofNat 1)))],none⟩::⟨some 5,.mm false (.t 4) [(.c (.int .i64 (.ofNat 64)))],none⟩::⟨some 6,.build [(.int .i64 (.ofNat 0)), .nilsl, (.int .u64 (.ofNat 0))] [(0, 1, (.t 5))],none⟩::⟨some 7,.box (.t 6),none⟩::⟨some 2,.mov (.t 7),none⟩::[]))
.ret))⟩
theorem c24_eq : compFn Tryz.prog 24 = some c24 := by kernel_rfl
/-- (*sodality/roster.Roster).Node -/
noncomputable def c25 : FnI := ⟨37, [.tmp 8],
(.seq (.reg (⟨some 8,.mov (.c (.int .i64 (.ofNat 0))),none⟩::[]))
(.seq (.block 0 (.seq (.reg (⟨some 12,.mov (.t 0),none⟩::⟨some 13,.call 39 [(.t 12)],none⟩::⟨some 11,.mov (.t 13),none⟩::[]))
(.cond (.t 11) (.seq (.reg (⟨some 8,.mov (.c (.int .i64 (.ofNat 1))),none⟩::[]))
.ret) (.seq (.reg (⟨some 15,.mov (.t 1),none⟩::⟨some 16,.call 49 [(.t 15)],none⟩::⟨some 17,.un .not (.t 16),none⟩::⟨some 14,.mov (.t 17),none⟩::[]))
(.cond (.t 14) (.seq (.reg (⟨some 8,.mov (.c (.int .i64 (.ofNat 2))),none⟩::[]))
.ret) (.seq (.reg (⟨some 19,.mov (.t 2),none⟩::⟨some 20,.len true (.t 19),none⟩::⟨some 21,.bin .gtr (.t 20) (.c (.int .i64 (.ofNat 32))),none⟩::⟨some 18,.mov (.t 21),none⟩::[]))
(.cond (.t 18) (.seq (.reg (⟨some 8,.mov (.c (.int .i64 (.ofNat 3))),none⟩::[]))
.ret) .skip)))))))
(.seq (.dreg (⟨⟨some 27,.mov (.t 1),none⟩,.quiet,4,0⟩::⟨⟨some 28,.call 52 [(.t 27)],none⟩,.loud,5,16⟩::⟨⟨some 23,.mov (.t 0),none⟩,.quiet,0,0⟩::⟨⟨some 24,.nilchk (.t 23),none⟩,.quiet,1,1⟩::⟨⟨some 25,.faddr 0 (.t 24),none⟩,.quiet,2,3⟩::⟨⟨some 26,.load false 1 (.t 25),none⟩,.load,3,7⟩::⟨⟨some 29,.mov (.t 1),none⟩,.quiet,6,0⟩::⟨⟨some 30,.mov (.t 2),none⟩,.quiet,7,0⟩::⟨⟨some 31,.build [(.int .i64 (.ofNat 0)), (.str []), (.int .u64 (.ofNat 0)), (.int .u64 (.ofNat 0))] [(0, 1, (.t 29)), (1, 1, (.t 30))],none⟩,.quiet,8,192⟩::⟨⟨some 32,.mov (.t 3),none⟩,.quiet,9,0⟩::⟨⟨some 33,.call 62 [(.t 26), (.t 28), (.t 31), (.t 32)],none⟩,.loud,10,1023⟩::⟨⟨some 22,.mov (.t 33),none⟩,.quiet,11,2047⟩::⟨⟨some 34,.extract (.t 22) 0,none⟩,.quiet,12,4095⟩::⟨⟨some 9,.alloc [(.str []), (.int .i64 (.ofNat 0)), (.str []), (.int .u64 (.ofNat 0)), (.int .u64 (.ofNat 0)), (.int .u64 (.ofNat 0)), (.int .u64 (.ofNat 0))],none⟩,.quiet,14,0⟩::⟨⟨none,.store 7 (.t 9) (.t 34),none⟩,.loud,15,24575⟩::⟨⟨some 35,.extract (.t 22) 1,none⟩,.quiet,13,4095⟩::⟨⟨some 10,.mov (.t 35),none⟩,.quiet,16,65535⟩::[]))
(.seq (.reg (⟨some 36,.mov (.t 10),none⟩::⟨some 8,.mov (.t 36),none⟩::[]))
.ret))))⟩
theorem c25_eq : compFn Tryz.prog 25 = some c25 := by kernel_rfl
/-- (*sodality/sodalityref19.Roster).Node -/
noncomputable def c26 : FnI := ⟨116, [.tmp 8],
(.seq (.reg (⟨some 8,.mov (.c (.int .i64 (.ofNat 0))),none⟩::[]))
(.seq (.seq (.reg (⟨some 13,.mov (.t 1),none⟩::⟨some 14,.bin .lss (.t 13) (.c (.int .i64 (.ofNat 0))),none⟩::⟨some 15,.mov (.t 14),none⟩::⟨some 16,.mov (.t 1),some (15,false)⟩::⟨some 17,.bin .gtr (.t 16) (.c (.int .i64 (.ofNat 7))),some (15,false)⟩::⟨some 18,.pick (.t 15) (.c (.bool true)) (.t 17),none⟩::[]))
(.cond (.t 18) (.seq (.reg (⟨some 8,.mov (.c (.int .i64 (.ofNat 2))),none⟩::[]))
.ret) .skip))
(.seq (.seq (.reg (⟨some 19,.mov (.t 2),none⟩::⟨some 20,.len true (.t 19),none⟩::⟨some 21,.bin .gtr (.t 20) (.c (.int .i64 (.ofNat 32))),none⟩::[]))
(.cond (.t 21) (.seq (.reg (⟨some 8,.mov (.c (.int .i64 (.ofNat 3))),none⟩::[]))
.ret) .skip))
(.seq (.seq (.dreg (⟨⟨some 22,.mov (.t 0),none⟩,.quiet,0,0⟩::⟨⟨some 23,.mov (.t 1),none⟩,.quiet,1,0⟩::⟨⟨some 24,.call 63 [(.t 22), (.t 23)],none⟩,.loud,2,3⟩::⟨⟨some 25,.un .not (.t 24),none⟩,.quiet,3,7⟩::⟨⟨some 26,.mov (.t 25),none⟩,.quiet,4,15⟩::⟨⟨some 27,.mov (.t 0),some (26,true)⟩,.quiet,5,31⟩::⟨⟨some 28,.nilchk (.t 27),some (26,true)⟩,.quiet,6,63⟩::⟨⟨some 29,.faddr 1 (.t 28),some (26,true)⟩,.quiet,7,127⟩::⟨⟨some 30,.load false 1 (.t 29),some (26,true)⟩,.load,8,255⟩::⟨⟨some 31,.len false (.t 30),some (26,true)⟩,.quiet,9,511⟩::⟨⟨some 32,.mov (.t 0),some (26,true)⟩,.quiet,10,31⟩::⟨⟨some 33,.nilchk (.t 32),some (26,true)⟩,.quiet,11,1055⟩::⟨⟨some 34,.faddr 0 (.t 33),some (26,true)⟩,.quiet,12,3103⟩::⟨⟨some 35,.load false 1 (.t 34),some (26,true)⟩,.load,13,7199⟩::⟨⟨some 36,.bin .geq (.t 31) (.t 35),some (26,true)⟩,.quiet,14,16383⟩::⟨⟨some 37,.pick (.t 26) (.t 36) (.c (.bool false)),none⟩,.quiet,15,32767⟩::[]))
(.cond (.t 37) (.seq (.reg (⟨some 8,.mov (.c (.int .i64 (.ofNat 5))),none⟩::[]))
.ret) .skip))
(.seq (.reg (⟨some 38,.mov (.t 1),none⟩::⟨some 39,.mov (.t 2),none⟩::⟨some 40,.mov (.t 3),none⟩::⟨some 41,.mov (.t 3),none⟩::⟨some 42,.build [(.int .i64 (.ofNat 0)), (.str []), (.int .u64 (.ofNat 0)), (.int .u64 (.ofNat 0))] [(0, 1, (.t 38)), (1, 1, (.t 39)), (2, 1, (.t 40)), (3, 1, (.t 41))],none⟩::⟨some 9,.alloc [(.int .i64 (.ofNat 0)), (.str []), (.int .u64 (.ofNat 0)), (.int .u64 (.ofNat 0))],none⟩::⟨none,.store 4 (.t 9) (.t 42),none⟩::[]))
(.seq (.reg (⟨some 10,.mov (.c .nilsl),none⟩::[]))
(.seq (.reg (⟨some 11,.mov (.c (.bool false)),none⟩::[]))
(.seq (.seq (.reg (⟨some 12,.mov (.c (.int .i64 (.ofNat 0))),none⟩::[]))
(.block 0 (.loop (.seq (.seq (.reg (⟨some 43,.mov (.t 12),none⟩::⟨some 44,.mov (.t 0),none⟩::⟨some 45,.nilchk (.t 44),none⟩::⟨some 46,.faddr 1 (.t 45),none⟩::⟨some 47,.load false 1 (.t 46),none⟩::⟨some 48,.len false (.t 47),none⟩::⟨some 49,.bin .lss (.t 43) (.t 48),none⟩::[]))
(.cond (.t 49) .skip (.exit 0)))
(.seq (.block 1 (.seq (.seq (.reg (⟨some 52,.mov (.t 0),none⟩::⟨some 53,.nilchk (.t 52),none⟩::⟨some 54,.faddr 1 (.t 53),none⟩::⟨some 55,.load false 1 (.t 54),none⟩::⟨some 56,.mov (.t 12),none⟩::⟨some 57,.idxS 4 (.t 55) (.t 56),none⟩::⟨some 58,.faddr 0 (.t 57),none⟩::⟨some 59,.load false 1 (.t 58),none⟩::⟨some 60,.mov (.t 1),none⟩::⟨some 61,.bin .eql (.t 59) (.t 60),none⟩::[]))
(.cond (.t 61) (.seq (.reg (⟨some 62,.mov (.t 0),none⟩::⟨some 63,.nilchk (.t 62),none⟩::⟨some 64,.faddr 1 (.t 63),none⟩::⟨some 65,.load false 1 (.t 64),none⟩::⟨some 66,.mov (.t 12),none⟩::⟨some 67,.idxS 4 (.t 65) (.t 66),none⟩::⟨some 68,.faddr 2 (.t 67),none⟩::⟨some 69,.load false 1 (.t 68),none⟩::⟨some 70,.faddr 2 (.t 9),none⟩::⟨none,.store 1 (.t 70) (.t 69),none⟩::[]))
(.seq (.reg (⟨some 71,.mov (.t 10),none⟩::⟨some 72,.load true 4 (.t 9),none⟩::⟨some 73,.buildSl 4 1 [(.int .i64 (.ofNat 0)), (.str []), (.int .u64 (.ofNat 0)), (.int .u64 (.ofNat 0))] [(0, 4, (.t 72))],none⟩::⟨some 74,.append 4 40 (.t 71) (.t 73),none⟩::⟨some 10,.mov (.t 74),none⟩::[]))
(.seq (.reg (⟨some 11,.mov (.c (.bool true)),none⟩::[]))
(.exit 1)))) .skip))
(.seq (.seq (.reg (⟨some 75,.mov (.t 11),none⟩::⟨some 76,.un .not (.t 75),none⟩::⟨some 77,.mov (.t 76),none⟩::⟨some 78,.mov (.t 0),some (77,true)⟩::⟨some 79,.nilchk (.t 78),some (77,true)⟩::⟨some 80,.faddr 1 (.t 79),some (77,true)⟩::⟨some 81,.load false 1 (.t 80),some (77,true)⟩::⟨some 82,.mov (.t 12),some (77,true)⟩::⟨some 83,.idxS 4 (.t 81) (.t 82),some (77,true)⟩::⟨some 84,.faddr 0 (.t 83),some (77,true)⟩::⟨some 85,.load false 1 (.t 84),some (77,true)⟩::⟨some 86,.mov (.t 1),some (77,true)⟩::⟨some 87,.bin .gtr (.t 85) (.t 86),some (77,true)⟩::⟨some 88,.pick (.t 77) (.t 87) (.c (.bool false)),none⟩::[]))
(.cond (.t 88) (.seq (.reg (⟨some 89,.mov (.t 10),none⟩::⟨some 90,.load true 4 (.t 9),none⟩::⟨some 91,.buildSl 4 1 [(.int .i64 (.ofNat 0)), (.str []), (.int .u64 (.ofNat 0)), (.int .u64 (.ofNat 0))] [(0, 4, (.t 90))],none⟩::⟨some 92,.append 4 40 (.t 89) (.t 91),none⟩::⟨some 10,.mov (.t 92),none⟩::[]))
(.reg (⟨some 11,.mov (.c (.bool true)),none⟩::[]))) .skip))
(.reg (⟨some 93,.mov (.t 10),none⟩::⟨some 94,.mov (.t 0),none⟩::⟨some 95,.nilchk (.t 94),none⟩::⟨some 96,.faddr 1 (.t 95),none⟩::⟨some 97,.load false 1 (.t 96),none⟩::⟨some 98,.mov (.t 12),none⟩::⟨some 99,.idxS 4 (.t 97) (.t 98),none⟩::⟨some 100,.load true 4 (.t 99),none⟩::⟨some 101,.buildSl 4 1 [(.int .i64 (.ofNat 0)), (.str []), (.int .u64 (.ofNat 0)), (.int .u64 (.ofNat 0))] [(0, 4, (.t 100))],none⟩::⟨some 102,.append 4 40 (.t 93) (.t 101),none⟩::⟨some 10,.mov (.t 102),none⟩::[])))))
(.reg (⟨some 50,.mov (.t 12),none⟩::⟨some 51,.bin .add (.t 50) (.c (.int .i64 (.ofNat 1))),none⟩::⟨some 12,.mov (.t 51),none⟩::[])))))))
(.seq (.seq (.reg (⟨some 103,.mov (.t 11),none⟩::⟨some 104,.un .not (.t 103),none⟩::[]))
(.cond (.t 104) (.reg (⟨some 105,.mov (.t 10),none⟩::⟨some 106,.load true 4 (.t 9),none⟩::⟨some 107,.buildSl 4 1 [(.int .i64 (.ofNat 0)), (.str []), (.int .u64 (.ofNat 0)), (.int .u64 (.ofNat 0))] [(0, 4, (.t 106))],none⟩::⟨some 108,.append 4 40 (.t 105) (.t 107),none⟩::⟨some 10,.mov (.t 108),none⟩::[])) .skip))
(.seq (.reg (⟨some 109,.mov (.t 0),none⟩::⟨some 110,.mov (.t 10),none⟩::⟨some 111,.nilchk (.t 109),none⟩::⟨some 112,.faddr 1 (.t 111),none⟩::⟨none,.store 1 (.t 112) (.t 110),none⟩::[]))
(.seq (.reg (⟨some 113,.mov (.t 0),none⟩::⟨some 114,.mov (.t 3),none⟩::⟨some 115,.call 64 [(.t 113), (.c (.int .i64 (.ofNat 0))), (.t 114)],none⟩::[]))
(.seq (.reg (⟨some 8,.mov (.c (.int .i64 (.ofNat 0))),none⟩::[]))
.ret))))))))))))⟩
theorem c26_eq : compFn Tryz.prog 26 = some c26 := by kernel_rfl
/-- (*sodality/roster.Roster).DropNode -/
noncomputable def c27 : FnI := ⟨45, [.tmp 6],
(.seq (.reg (⟨some 3,.box (.t 0),none⟩::⟨some 4,.box (.t 1),none⟩::⟨some 5,.box (.t 2),none⟩::⟨some 6,.mov (.c (.int .i64 (.ofNat 0))),none⟩::[]))
(.seq (.seq (.reg (⟨some 9,.load false 1 (.t 3),none⟩::⟨some 10,.call 39 [(.t 9)],none⟩::[]))
(.cond (.t 10) (.seq (.reg (⟨some 6,.mov (.c (.int .i64 (.ofNat 1))),none⟩::[]))
.ret) .skip))
(.seq (.seq (.reg (⟨some 11,.load false 1 (.t 3),none⟩::⟨some 12,.load false 1 (.t 4),none⟩::⟨some 13,.call 65 [(.t 11), (.t 12)],none⟩::⟨some 14,.un .not (.t 13),none⟩::[]))
(.cond (.t 14) (.seq (.reg (⟨some 6,.mov (.c (.int .i64 (.ofNat 4))),none⟩::[]))
.ret) .skip))
(.seq (.dreg (⟨⟨some 19,.load false 1 (.t 4),none⟩,.load,4,0⟩::⟨⟨some 20,.call 52 [(.t 19)],none⟩,.loud,5,16⟩::⟨⟨some 15,.load false 1 (.t 3),none⟩,.load,0,0⟩::⟨⟨some 16,.nilchk (.t 15),none⟩,.quiet,1,1⟩::⟨⟨some 17,.faddr 0 (.t 16),none⟩,.quiet,2,3⟩::⟨⟨some 18,.load false 1 (.t 17),none⟩,.load,3,7⟩::⟨⟨some 21,.load false 1 (.t 5),none⟩,.load,6,0⟩::⟨⟨some 22,.call 66 [(.t 18), (.t 20), (.t 21)],none⟩,.loud,7,127⟩::[]))
(.seq (.seq (.reg (⟨some 23,.load false 1 (.t 3),none⟩::⟨some 24,.nilchk (.t 23),none⟩::⟨some 25,.faddr 1 (.t 24),none⟩::⟨some 26,.load false 1 (.t 25),none⟩::⟨some 27,.call 67 [(.t 26)],none⟩::[]))
(.block 0 (.rangef (.t 27) [28, 29] (.seq (.reg (⟨some 7,.mov (.t 28),none⟩::[]))
(.reg (⟨some 8,.alloc [(.int .i64 (.ofNat 0)), (.str []), (.str []), .nilsl, (.int .i64 (.ofNat 0)), (.int .u64 (.ofNat 0)), (.int .u64 (.ofNat 0))],none⟩::⟨none,.store 7 (.t 8) (.t 29),none⟩::[]))) (.block 1 (.seq (.reg (⟨some 30,.faddr 0 (.t 8),none⟩::⟨some 31,.load false 1 (.t 30),none⟩::⟨some 32,.load false 1 (.t 4),none⟩::⟨some 33,.bin .eql (.t 31) (.t 32),none⟩::[]))
(.cond (.t 33) (.dreg (⟨⟨some 34,.load false 1 (.t 3),none⟩,.load,0,0⟩::⟨⟨some 35,.nilchk (.t 34),none⟩,.quiet,1,1⟩::⟨⟨some 36,.faddr 1 (.t 35),none⟩,.quiet,2,3⟩::⟨⟨some 37,.load false 1 (.t 36),none⟩,.load,3,7⟩::⟨⟨some 38,.mov (.t 7),none⟩,.quiet,4,0⟩::⟨⟨some 39,.load false 1 (.t 5),none⟩,.load,5,0⟩::⟨⟨some 40,.call 68 [(.t 37), (.t 38), (.t 39)],none⟩,.loud,6,63⟩::[])) .skip))))))
(.seq (.reg (⟨some 41,.load false 1 (.t 3),none⟩::⟨some 42,.mkfn 70 [] [(.t 4)],none⟩::⟨some 43,.load false 1 (.t 5),none⟩::⟨some 44,.call 69 [(.t 41), (.t 42), (.t 43)],none⟩::[]))
(.seq (.reg (⟨some 6,.mov (.c (.int .i64 (.ofNat 0))),none⟩::[]))
.ret)))))))⟩
theorem c27_eq : compFn Tryz.prog 27 = some c27 := by kernel_rfl
/-- (*sodality/sodalityref19.Roster).DropNode -/
noncomputable def c28 : FnI := ⟨57, [.tmp 6],
(.seq (.reg (⟨some 6,.mov (.c (.int .i64 (.ofNat 0))),none⟩::[]))
(.seq (.seq (.reg (⟨some 9,.mov (.t 0),none⟩::⟨some 10,.mov (.t 1),none⟩::⟨some 11,.call 63 [(.t 9), (.t 10)],none⟩::⟨some 12,.un .not (.t 11),none⟩::[]))
(.cond (.t 12) (.seq (.reg (⟨some 6,.mov (.c (.int .i64 (.ofNat 4))),none⟩::[]))
.ret) .skip))
(.seq (.reg (⟨some 7,.mov (.c .nilsl),none⟩::[]))
(.seq (.seq (.reg (⟨some 8,.mov (.c (.int .i64 (.ofNat 0))),none⟩::[]))
(.block 0 (.loop (.seq (.seq (.reg (⟨some 13,.mov (.t 8),none⟩::⟨some 14,.mov (.t 0),none⟩::⟨some 15,.nilchk (.t 14),none⟩::⟨some 16,.faddr 1 (.t 15),none⟩::⟨some 17,.load false 1 (.t 16),none⟩::⟨some 18,.len false (.t 17),none⟩::⟨some 19,.bin .lss (.t 13) (.t 18),none⟩::[]))
(.cond (.t 19) .skip (.exit 0)))
(.seq (.block 1 (.seq (.reg (⟨some 22,.mov (.t 0),none⟩::⟨some 23,.nilchk (.t 22),none⟩::⟨some 24,.faddr 1 (.t 23),none⟩::⟨some 25,.load false 1 (.t 24),none⟩::⟨some 26,.mov (.t 8),none⟩::⟨some 27,.idxS 4 (.t 25) (.t 26),none⟩::⟨some 28,.faddr 0 (.t 27),none⟩::⟨some 29,.load false 1 (.t 28),none⟩::⟨some 30,.mov (.t 1),none⟩::⟨some 31,.bin .neq (.t 29) (.t 30),none⟩::[]))
(.cond (.t 31) (.reg (⟨some 32,.mov (.t 7),none⟩::⟨some 33,.mov (.t 0),none⟩::⟨some 34,.nilchk (.t 33),none⟩::⟨some 35,.faddr 1 (.t 34),none⟩::⟨some 36,.load false 1 (.t 35),none⟩::⟨some 37,.mov (.t 8),none⟩::⟨some 38,.idxS 4 (.t 36) (.t 37),none⟩::⟨some 39,.load true 4 (.t 38),none⟩::⟨some 40,.buildSl 4 1 [(.int .i64 (.ofNat 0)), (.str []), (.int .u64 (.ofNat 0)), (.int .u64 (.ofNat 0))] [(0, 4, (.t 39))],none⟩::⟨some 41,.append 4 40 (.t 32) (.t 40),none⟩::⟨some 7,.mov (.t 41),none⟩::[])) .skip)))
(.reg (⟨some 20,.mov (.t 8),none⟩::⟨some 21,.bin .add (.t 20) (.c (.int .i64 (.ofNat 1))),none⟩::⟨some 8,.mov (.t 21),none⟩::[])))))))
(.seq (.reg (⟨some 42,.mov (.t 0),none⟩::⟨some 43,.mov (.t 7),none⟩::⟨some 44,.nilchk (.t 42),none⟩::⟨some 45,.faddr 1 (.t 44),none⟩::⟨none,.store 1 (.t 45) (.t 43),none⟩::[]))
(.seq (.reg (⟨some 46,.mov (.t 0),none⟩::⟨some 47,.mov (.t 2),none⟩::⟨some 48,.call 64 [(.t 46), (.c (.int .i64 (.ofNat 0))), (.t 47)],none⟩::[]))
(.seq (.reg (⟨some 49,.mov (.t 0),none⟩::⟨some 50,.mov (.t 1),none⟩::⟨some 51,.mov (.t 2),none⟩::⟨some 52,.call 71 [(.t 49), (.t 50), (.c (.bool true)), (.c (.str [])), (.t 51)],none⟩::[]))
(.seq (.reg (⟨some 53,.mov (.t 0),none⟩::⟨some 54,.mov (.t 1),none⟩::⟨some 55,.mov (.t 2),none⟩::⟨some 56,.call 72 [(.t 53), (.t 54), (.c (.bool true)), (.c (.str [])), (.t 55)],none⟩::[]))
(.seq (.reg (⟨some 6,.mov (.c (.int .i64 (.ofNat 0))),none⟩::[]))
.ret)))))))))⟩
theorem c28_eq : compFn Tryz.prog 28 = some c28 := by kernel_rfl
/-- (*sodality/roster.Roster).Service -/
noncomputable def c29 : FnI := ⟨39, [.tmp 6],
(.seq (.reg (⟨some 4,.box (.t 1),none⟩::⟨some 6,.mov (.c (.int .i64 (.ofNat 0))),none⟩::[]))
(.seq (.seq (.reg (⟨some 10,.mov (.t 0),none⟩::⟨some 11,.call 39 [(.t 10)],none⟩::[]))
(.cond (.t 11) (.seq (.reg (⟨some 6,.mov (.c (.int .i64 (.ofNat 1))),none⟩::[]))
.ret) .skip))
(.seq (.seq (.reg (⟨some 12,.mov (.t 0),none⟩::⟨some 13,.load true 7 (.t 4),none⟩::⟨some 14,.call 73 [(.t 12), (.t 13)],none⟩::⟨some 7,.mov (.t 14),none⟩::[]))
(.seq (.reg (⟨some 15,.mov (.t 7),none⟩::⟨some 16,.bin .neq (.t 15) (.c (.int .i64 (.ofNat 0))),none⟩::[]))
(.cond (.t 16) (.seq (.reg (⟨some 17,.mov (.t 7),none⟩::⟨some 6,.mov (.t 17),none⟩::[]))
.ret) .skip)))
(.seq (.reg (⟨some 18,.buildSl 1 0 [] [],none⟩::⟨some 19,.faddr 3 (.t 4),none⟩::⟨some 20,.load false 1 (.t 19),none⟩::⟨some 21,.append 1 16 (.t 18) (.t 20),none⟩::⟨some 22,.faddr 3 (.t 4),none⟩::⟨none,.store 1 (.t 22) (.t 21),none⟩::[]))
(.seq (.dreg (⟨⟨some 28,.faddr 0 (.t 4),none⟩,.quiet,4,0⟩::⟨⟨some 29,.load false 1 (.t 28),none⟩,.load,5,16⟩::⟨⟨some 30,.faddr 1 (.t 4),none⟩,.quiet,6,0⟩::⟨⟨some 31,.load false 1 (.t 30),none⟩,.load,7,64⟩::⟨⟨some 32,.call 48 [(.t 29), (.t 31)],none⟩,.loud,8,240⟩::⟨⟨some 24,.mov (.t 0),none⟩,.quiet,0,0⟩::⟨⟨some 25,.nilchk (.t 24),none⟩,.quiet,1,1⟩::⟨⟨some 26,.faddr 1 (.t 25),none⟩,.quiet,2,3⟩::⟨⟨some 27,.load false 1 (.t 26),none⟩,.load,3,7⟩::⟨⟨some 33,.load true 7 (.t 4),none⟩,.load,9,0⟩::⟨⟨some 34,.mov (.t 2),none⟩,.quiet,10,0⟩::⟨⟨some 35,.call 74 [(.t 27), (.t 32), (.t 33), (.t 34)],none⟩,.loud,11,2047⟩::⟨⟨some 23,.mov (.t 35),none⟩,.quiet,12,4095⟩::⟨⟨some 36,.extract (.t 23) 0,none⟩,.quiet,13,8191⟩::⟨⟨some 8,.alloc [(.str []), (.int .i64 (.ofNat 0)), (.str []), (.str []), .nilsl, (.int .i64 (.ofNat 0)), (.int .u64 (.ofNat 0)), (.int .u64 (.ofNat 0)), (.int .u64 (.ofNat 0)), (.int .u64 (.ofNat 0))],none⟩,.quiet,15,0⟩::⟨⟨none,.store 10 (.t 8) (.t 36),none⟩,.loud,16,49151⟩::⟨⟨some 37,.extract (.t 23) 1,none⟩,.quiet,14,8191⟩::⟨⟨some 9,.mov (.t 37),none⟩,.quiet,17,131071⟩::[]))
(.seq (.reg (⟨some 38,.mov (.t 9),none⟩::⟨some 6,.mov (.t 38),none⟩::[]))
.ret))))))⟩
theorem c29_eq : compFn Tryz.prog 29 = some c29 := by kernel_rfl
/-- (*sodality/sodalityref19.Roster).Service -/
noncomputable def c30 : FnI := ⟨120, [.tmp 6],
(.seq (.reg (⟨some 4,.box (.t 1),none⟩::⟨some 6,.mov (.c (.int .i64 (.ofNat 0))),none⟩::[]))
(.seq (.seq (.reg (⟨some 12,.mov (.t 0),none⟩::⟨some 13,.load true 7 (.t 4),none⟩::⟨some 14,.call 75 [(.t 12), (.t 13)],none⟩::⟨some 7,.mov (.t 14),none⟩::[]))
(.seq (.reg (⟨some 15,.mov (.t 7),none⟩::⟨some 16,.bin .neq (.t 15) (.c (.int .i64 (.ofNat 0))),none⟩::[]))
(.cond (.t 16) (.seq (.reg (⟨some 17,.mov (.t 7),none⟩::⟨some 6,.mov (.t 17),none⟩::[]))
.ret) .skip)))
(.seq (.seq (.dreg (⟨⟨some 18,.mov (.t 0),none⟩,.quiet,0,0⟩::⟨⟨some 19,.faddr 0 (.t 4),none⟩,.quiet,1,0⟩::⟨⟨some 20,.load false 1 (.t 19),none⟩,.load,2,2⟩::⟨⟨some 21,.faddr 1 (.t 4),none⟩,.quiet,3,0⟩::⟨⟨some 22,.load false 1 (.t 21),none⟩,.load,4,8⟩::⟨⟨some 23,.call 76 [(.t 18), (.t 20), (.t 22)],none⟩,.loud,5,31⟩::⟨⟨some 24,.un .not (.t 23),none⟩,.quiet,6,63⟩::⟨⟨some 25,.mov (.t 24),none⟩,.quiet,7,127⟩::⟨⟨some 26,.mov (.t 0),some (25,true)⟩,.quiet,8,255⟩::⟨⟨some 27,.nilchk (.t 26),some (25,true)⟩,.quiet,9,511⟩::⟨⟨some 28,.faddr 2 (.t 27),some (25,true)⟩,.quiet,10,1023⟩::⟨⟨some 29,.load false 1 (.t 28),some (25,true)⟩,.load,11,2047⟩::⟨⟨some 30,.len false (.t 29),some (25,true)⟩,.quiet,12,4095⟩::⟨⟨some 31,.mov (.t 0),some (25,true)⟩,.quiet,13,255⟩::⟨⟨some 32,.nilchk (.t 31),some (25,true)⟩,.quiet,14,8447⟩::⟨⟨some 33,.faddr 0 (.t 32),some (25,true)⟩,.quiet,15,24831⟩::⟨⟨some 34,.load false 1 (.t 33),some (25,true)⟩,.load,16,57599⟩::⟨⟨some 35,.bin .geq (.t 30) (.t 34),some (25,true)⟩,.quiet,17,131071⟩::⟨⟨some 36,.pick (.t 25) (.t 35) (.c (.bool false)),none⟩,.quiet,18,262143⟩::[]))
(.cond (.t 36) (.seq (.reg (⟨some 6,.mov (.c (.int .i64 (.ofNat 5))),none⟩::[]))
.ret) .skip))
(.seq (.reg (⟨some 37,.mov (.t 2),none⟩::⟨some 38,.faddr 5 (.t 4),none⟩::⟨none,.store 1 (.t 38) (.t 37),none⟩::[]))
(.seq (.reg (⟨some 39,.mov (.t 2),none⟩::⟨some 40,.faddr 6 (.t 4),none⟩::⟨none,.store 1 (.t 40) (.t 39),none⟩::[]))
(.seq (.reg (⟨some 8,.mov (.c .nilsl),none⟩::[]))
(.seq (.reg (⟨some 9,.mov (.c (.bool false)),none⟩::[]))
(.seq (.seq (.reg (⟨some 10,.mov (.c (.int .i64 (.ofNat 0))),none⟩::[]))
(.block 0 (.loop (.seq (.seq (.reg (⟨some 41,.mov (.t 10),none⟩::⟨some 42,.mov (.t 0),none⟩::⟨some 43,.nilchk (.t 42),none⟩::⟨some 44,.faddr 2 (.t 43),none⟩::⟨some 45,.load false 1 (.t 44),none⟩::⟨some 46,.len false (.t 45),none⟩::⟨some 47,.bin .lss (.t 41) (.t 46),none⟩::[]))
(.cond (.t 47) .skip (.exit 0)))
(.seq (.block 1 (.seq (.reg (⟨some 50,.mov (.t 0),none⟩::⟨some 51,.nilchk (.t 50),none⟩::⟨some 52,.faddr 2 (.t 51),none⟩::⟨some 53,.load false 1 (.t 52),none⟩::⟨some 54,.mov (.t 10),none⟩::⟨some 55,.idxS 7 (.t 53) (.t 54),none⟩::⟨some 56,.load true 7 (.t 55),none⟩::⟨some 11,.alloc [(.int .i64 (.ofNat 0)), (.str []), (.str []), .nilsl, (.int .i64 (.ofNat 0)), (.int .u64 (.ofNat 0)), (.int .u64 (.ofNat 0))],none⟩::⟨none,.store 7 (.t 11) (.t 56),none⟩::[]))
(.seq (.seq (.reg (⟨some 57,.faddr 0 (.t 11),none⟩::⟨some 58,.load false 1 (.t 57),none⟩::⟨some 59,.faddr 0 (.t 4),none⟩::⟨some 60,.load false 1 (.t 59),none⟩::⟨some 61,.bin .eql (.t 58) (.t 60),none⟩::⟨some 62,.mov (.t 61),none⟩::⟨some 63,.faddr 1 (.t 11),some (62,true)⟩::⟨some 64,.load false 1 (.t 63),some (62,true)⟩::⟨some 65,.faddr 1 (.t 4),some (62,true)⟩::⟨some 66,.load false 1 (.t 65),some (62,true)⟩::⟨some 67,.bin .eql (.t 64) (.t 66),some (62,true)⟩::⟨some 68,.pick (.t 62) (.t 67) (.c (.bool false)),none⟩::[]))
(.cond (.t 68) (.seq (.reg (⟨some 69,.faddr 5 (.t 11),none⟩::⟨some 70,.load false 1 (.t 69),none⟩::⟨some 71,.faddr 5 (.t 4),none⟩::⟨none,.store 1 (.t 71) (.t 70),none⟩::[]))
(.seq (.reg (⟨some 72,.mov (.t 8),none⟩::⟨some 73,.load true 7 (.t 4),none⟩::⟨some 74,.buildSl 7 1 [(.int .i64 (.ofNat 0)), (.str []), (.str []), .nilsl, (.int .i64 (.ofNat 0)), (.int .u64 (.ofNat 0)), (.int .u64 (.ofNat 0))] [(0, 7, (.t 73))],none⟩::⟨some 75,.append 7 88 (.t 72) (.t 74),none⟩::⟨some 8,.mov (.t 75),none⟩::[]))
(.seq (.reg (⟨some 9,.mov (.c (.bool true)),none⟩::[]))
(.exit 1)))) .skip))
(.seq (.seq (.reg (⟨some 76,.mov (.t 9),none⟩::⟨some 77,.un .not (.t 76),none⟩::⟨some 78,.mov (.t 77),none⟩::⟨some 79,.faddr 0 (.t 11),some (78,true)⟩::⟨some 80,.load false 1 (.t 79),some (78,true)⟩::⟨some 81,.faddr 0 (.t 4),some (78,true)⟩::⟨some 82,.load false 1 (.t 81),some (78,true)⟩::⟨some 83,.bin .gtr (.t 80) (.t 82),some (78,true)⟩::⟨some 84,.mov (.t 83),some (78,true)⟩::⟨some 85,.faddr 0 (.t 11),some (84,false)⟩::⟨some 86,.load false 1 (.t 85),some (84,false)⟩::⟨some 87,.faddr 0 (.t 4),some (84,false)⟩::⟨some 88,.load false 1 (.t 87),some (84,false)⟩::⟨some 89,.bin .eql (.t 86) (.t 88),some (84,false)⟩::⟨some 90,.mov (.t 89),some (84,false)⟩::⟨some 91,.faddr 1 (.t 11),some (90,true)⟩::⟨some 92,.load false 1 (.t 91),some (90,true)⟩::⟨some 93,.faddr 1 (.t 4),some (90,true)⟩::⟨some 94,.load false 1 (.t 93),some (90,true)⟩::⟨some 95,.bin .gtr (.t 92) (.t 94),some (90,true)⟩::⟨some 96,.pick (.t 90) (.t 95) (.c (.bool false)),some (84,false)⟩::⟨some 97,.pick (.t 84) (.c (.bool true)) (.t 96),some (78,true)⟩::⟨some 98,.pick (.t 78) (.t 97) (.c (.bool false)),none⟩::[]))
(.cond (.t 98) (.seq (.reg (⟨some 99,.mov (.t 8),none⟩::⟨some 100,.load true 7 (.t 4),none⟩::⟨some 101,.buildSl 7 1 [(.int .i64 (.ofNat 0)), (.str []), (.str []), .nilsl, (.int .i64 (.ofNat 0)), (.int .u64 (.ofNat 0)), (.int .u64 (.ofNat 0))] [(0, 7, (.t 100))],none⟩::⟨some 102,.append 7 88 (.t 99) (.t 101),none⟩::⟨some 8,.mov (.t 102),none⟩::[]))
(.reg (⟨some 9,.mov (.c (.bool true)),none⟩::[]))) .skip))
(.reg (⟨some 103,.mov (.t 8),none⟩::⟨some 104,.load true 7 (.t 11),none⟩::⟨some 105,.buildSl 7 1 [(.int .i64 (.ofNat 0)), (.str []), (.str []), .nilsl, (.int .i64 (.ofNat 0)), (.int .u64 (.ofNat 0)), (.int .u64 (.ofNat 0))] [(0, 7, (.t 104))],none⟩::⟨some 106,.append 7 88 (.t 103) (.t 105),none⟩::⟨some 8,.mov (.t 106),none⟩::[]))))))
(.reg (⟨some 48,.mov (.t 10),none⟩::⟨some 49,.bin .add (.t 48) (.c (.int .i64 (.ofNat 1))),none⟩::⟨some 10,.mov (.t 49),none⟩::[])))))))
(.seq (.seq (.reg (⟨some 107,.mov (.t 9),none⟩::⟨some 108,.un .not (.t 107),none⟩::[]))
(.cond (.t 108) (.reg (⟨some 109,.mov (.t 8),none⟩::⟨some 110,.load true 7 (.t 4),none⟩::⟨some 111,.buildSl 7 1 [(.int .i64 (.ofNat 0)), (.str []), (.str []), .nilsl, (.int .i64 (.ofNat 0)), (.int .u64 (.ofNat 0)), (.int .u64 (.ofNat 0))] [(0, 7, (.t 110))],none⟩::⟨some 112,.append 7 88 (.t 109) (.t 111),none⟩::⟨some 8,.mov (.t 112),none⟩::[])) .skip))
(.seq (.reg (⟨some 113,.mov (.t 0),none⟩::⟨some 114,.mov (.t 8),none⟩::⟨some 115,.nilchk (.t 113),none⟩::⟨some 116,.faddr 2 (.t 115),none⟩::⟨none,.store 1 (.t 116) (.t 114),none⟩::[]))
(.seq (.reg (⟨some 117,.mov (.t 0),none⟩::⟨some 118,.mov (.t 2),none⟩::⟨some 119,.call 64 [(.t 117), (.c (.int .i64 (.ofNat 1))), (.t 118)],none⟩::[]))
(.seq (.reg (⟨some 6,.mov (.c (.int .i64 (.ofNat 0))),none⟩::[]))
.ret))))))))))))⟩
theorem c30_eq : compFn Tryz.prog 30 = some c30 := by kernel_rfl
/-- (*sodality/roster.Roster).DropService -/
noncomputable def c31 : FnI := ⟨33, [.tmp 8],
(.seq (.reg (⟨some 5,.box (.t 1),none⟩::⟨some 6,.box (.t 2),none⟩::⟨some 8,.mov (.c (.int .i64 (.ofNat 0))),none⟩::[]))
(.seq (.seq (.reg (⟨some 10,.mov (.t 0),none⟩::⟨some 11,.call 39 [(.t 10)],none⟩::[]))
(.cond (.t 11) (.seq (.reg (⟨some 8,.mov (.c (.int .i64 (.ofNat 1))),none⟩::[]))
.ret) .skip))
(.seq (.reg (⟨some 12,.load false 1 (.t 5),none⟩::⟨some 13,.mkfn 48 [(.t 12)] [],none⟩::⟨some 9,.mov (.t 13),none⟩::[]))
(.seq (.seq (.dreg (⟨⟨some 14,.load false 1 (.t 5),none⟩,.load,0,0⟩::⟨⟨some 15,.call 49 [(.t 14)],none⟩,.loud,1,1⟩::⟨⟨some 16,.un .not (.t 15),none⟩,.quiet,2,3⟩::⟨⟨some 17,.mov (.t 16),none⟩,.quiet,3,7⟩::⟨⟨some 22,.mov (.t 9),some (17,false)⟩,.quiet,8,15⟩::⟨⟨some 23,.load false 1 (.t 6),some (17,false)⟩,.load,9,15⟩::⟨⟨some 24,.callv (.t 22) [(.t 23)],some (17,false)⟩,.loud,10,783⟩::⟨⟨some 18,.mov (.t 0),some (17,false)⟩,.quiet,4,15⟩::⟨⟨some 19,.nilchk (.t 18),some (17,false)⟩,.quiet,5,31⟩::⟨⟨some 20,.faddr 1 (.t 19),some (17,false)⟩,.quiet,6,63⟩::⟨⟨some 21,.load false 1 (.t 20),some (17,false)⟩,.load,7,127⟩::⟨⟨some 25,.mov (.t 3),some (17,false)⟩,.quiet,11,15⟩::⟨⟨some 26,.call 68 [(.t 21), (.t 24), (.t 25)],some (17,false)⟩,.loud,12,4095⟩::⟨⟨some 27,.un .not (.t 26),some (17,false)⟩,.quiet,13,8191⟩::⟨⟨some 28,.pick (.t 17) (.c (.bool true)) (.t 27),none⟩,.quiet,14,16383⟩::[]))
(.cond (.t 28) (.seq (.reg (⟨some 8,.mov (.c (.int .i64 (.ofNat 4))),none⟩::[]))
.ret) .skip))
(.seq (.reg (⟨some 29,.mov (.t 0),none⟩::⟨some 30,.mkfn 77 [] [(.t 5), (.t 6)],none⟩::⟨some 31,.mov (.t 3),none⟩::⟨some 32,.call 69 [(.t 29), (.t 30), (.t 31)],none⟩::[]))
(.seq (.reg (⟨some 8,.mov (.c (.int .i64 (.ofNat 0))),none⟩::[]))
.ret))))))⟩
theorem c31_eq : compFn Tryz.prog 31 = some c31 := by kernel_rfl
/-- (*sodality/sodalityref19.Roster).DropService -/
noncomputable def c32 : FnI := ⟨24, [.tmp 8],
(.seq (.reg (⟨some 8,.mov (.c (.int .i64 (.ofNat 0))),none⟩::[]))
(.seq (.seq (.reg (⟨some 9,.mov (.t 0),none⟩::⟨some 10,.mov (.t 1),none⟩::⟨some 11,.mov (.t 2),none⟩::⟨some 12,.call 76 [(.t 9), (.t 10), (.t 11)],none⟩::⟨some 13,.un .not (.t 12),none⟩::[]))
(.cond (.t 13) (.seq (.reg (⟨some 8,.mov (.c (.int .i64 (.ofNat 4))),none⟩::[]))
.ret) .skip))
(.seq (.reg (⟨some 14,.mov (.t 0),none⟩::⟨some 15,.mov (.t 1),none⟩::⟨some 16,.mov (.t 2),none⟩::⟨some 17,.mov (.t 3),none⟩::⟨some 18,.call 71 [(.t 14), (.t 15), (.c (.bool false)), (.t 16), (.t 17)],none⟩::[]))
(.seq (.reg (⟨some 19,.mov (.t 0),none⟩::⟨some 20,.mov (.t 1),none⟩::⟨some 21,.mov (.t 2),none⟩::⟨some 22,.mov (.t 3),none⟩::⟨some 23,.call 72 [(.t 19), (.t 20), (.c (.bool false)), (.t 21), (.t 22)],none⟩::[]))
(.seq (.reg (⟨some 8,.mov (.c (.int .i64 (.ofNat 0))),none⟩::[]))
.ret)))))⟩
theorem c32_eq : compFn Tryz.prog 32 = some c32 := by kernel_rfl
/-- (*sodality/sodalityref19.Roster).Check -/
noncomputable def c33 : FnI := ⟨153, [.tmp 6],
(.seq (.reg (⟨some 4,.box (.t 1),none⟩::⟨some 6,.mov (.c (.int .i64 (.ofNat 0))),none⟩::[]))
(.seq (.seq (.reg (⟨some 14,.mov (.t 0),none⟩::⟨some 15,.load true 7 (.t 4),none⟩::⟨some 16,.call 78 [(.t 14), (.t 15)],none⟩::⟨some 7,.mov (.t 16),none⟩::[]))
(.seq (.reg (⟨some 17,.mov (.t 7),none⟩::⟨some 18,.bin .neq (.t 17) (.c (.int .i64 (.ofNat 0))),none⟩::[]))
(.cond (.t 18) (.seq (.reg (⟨some 19,.mov (.t 7),none⟩::⟨some 6,.mov (.t 19),none⟩::[]))
.ret) .skip)))
(.seq (.reg (⟨some 8,.mov (.c (.bool false)),none⟩::[]))
(.seq (.seq (.reg (⟨some 9,.mov (.c (.int .i64 (.ofNat 0))),none⟩::[]))
(.block 0 (.loop (.seq (.seq (.reg (⟨some 20,.mov (.t 9),none⟩::⟨some 21,.mov (.t 0),none⟩::⟨some 22,.nilchk (.t 21),none⟩::⟨some 23,.faddr 3 (.t 22),none⟩::⟨some 24,.load false 1 (.t 23),none⟩::⟨some 25,.len false (.t 24),none⟩::⟨some 26,.bin .lss (.t 20) (.t 25),none⟩::[]))
(.cond (.t 26) .skip (.exit 0)))
(.seq (.block 1 (.dreg (⟨⟨some 29,.mov (.t 8),none⟩,.quiet,0,0⟩::⟨⟨some 30,.mov (.t 29),none⟩,.quiet,1,1⟩::⟨⟨some 31,.mov (.t 0),some (30,false)⟩,.quiet,2,3⟩::⟨⟨some 32,.nilchk (.t 31),some (30,false)⟩,.quiet,3,7⟩::⟨⟨some 33,.faddr 3 (.t 32),some (30,false)⟩,.quiet,4,15⟩::⟨⟨some 34,.load false 1 (.t 33),some (30,false)⟩,.load,5,31⟩::⟨⟨some 35,.mov (.t 9),some (30,false)⟩,.quiet,6,3⟩::⟨⟨some 36,.idxS 7 (.t 34) (.t 35),some (30,false)⟩,.quiet,7,127⟩::⟨⟨some 37,.faddr 0 (.t 36),some (30,false)⟩,.quiet,8,255⟩::⟨⟨some 38,.load false 1 (.t 37),some (30,false)⟩,.load,9,511⟩::⟨⟨some 39,.faddr 0 (.t 4),some (30,false)⟩,.quiet,10,3⟩::⟨⟨some 40,.load false 1 (.t 39),some (30,false)⟩,.load,11,1027⟩::⟨⟨some 41,.bin .eql (.t 38) (.t 40),some (30,false)⟩,.quiet,12,4095⟩::⟨⟨some 42,.mov (.t 41),some (30,false)⟩,.quiet,13,8191⟩::⟨⟨some 43,.mov (.t 0),some (42,true)⟩,.quiet,14,16383⟩::⟨⟨some 44,.nilchk (.t 43),some (42,true)⟩,.quiet,15,32767⟩::⟨⟨some 45,.faddr 3 (.t 44),some (42,true)⟩,.quiet,16,65535⟩::⟨⟨some 46,.load false 1 (.t 45),some (42,true)⟩,.load,17,131071⟩::⟨⟨some 47,.mov (.t 9),some (42,true)⟩,.quiet,18,16383⟩::⟨⟨some 48,.idxS 7 (.t 46) (.t 47),some (42,true)⟩,.quiet,19,524287⟩::⟨⟨some 49,.faddr 1 (.t 48),some (42,true)⟩,.quiet,20,1048575⟩::⟨⟨some 50,.load false 1 (.t 49),some (42,true)⟩,.load,21,2097151⟩::⟨⟨some 51,.faddr 1 (.t 4),some (42,true)⟩,.quiet,22,16383⟩::⟨⟨some 52,.load false 1 (.t 51),some (42,true)⟩,.load,23,4210687⟩::⟨⟨some 53,.bin .eql (.t 50) (.t 52),some (42,true)⟩,.quiet,24,16777215⟩::⟨⟨some 54,.pick (.t 42) (.t 53) (.c (.bool false)),some (30,false)⟩,.quiet,25,33554431⟩::⟨⟨some 55,.pick (.t 30) (.c (.bool true)) (.t 54),none⟩,.quiet,26,67108863⟩::⟨⟨some 8,.mov (.t 55),none⟩,.quiet,27,134217727⟩::[])))
(.reg (⟨some 27,.mov (.t 9),none⟩::⟨some 28,.bin .add (.t 27) (.c (.int .i64 (.ofNat 1))),none⟩::⟨some 9,.mov (.t 28),none⟩::[])))))))
(.seq (.seq (.dreg (⟨⟨some 56,.mov (.t 8),none⟩,.quiet,0,0⟩::⟨⟨some 57,.un .not (.t 56),none⟩,.quiet,1,1⟩::⟨⟨some 58,.mov (.t 57),none⟩,.quiet,2,3⟩::⟨⟨some 59,.mov (.t 0),some (58,true)⟩,.quiet,3,7⟩::⟨⟨some 60,.nilchk (.t 59),some (58,true)⟩,.quiet,4,15⟩::⟨⟨some 61,.faddr 3 (.t 60),some (58,true)⟩,.quiet,5,31⟩::⟨⟨some 62,.load false 1 (.t 61),some (58,true)⟩,.load,6,63⟩::⟨⟨some 63,.len false (.t 62),some (58,true)⟩,.quiet,7,127⟩::⟨⟨some 64,.mov (.t 0),some (58,true)⟩,.quiet,8,7⟩::⟨⟨some 65,.nilchk (.t 64),some (58,true)⟩,.quiet,9,263⟩::⟨⟨some 66,.faddr 0 (.t 65),some (58,true)⟩,.quiet,10,775⟩::⟨⟨some 67,.load false 1 (.t 66),some (58,true)⟩,.load,11,1799⟩::⟨⟨some 68,.bin .geq (.t 63) (.t 67),some (58,true)⟩,.quiet,12,4095⟩::⟨⟨some 69,.pick (.t 58) (.t 68) (.c (.bool false)),none⟩,.quiet,13,8191⟩::[]))
(.cond (.t 69) (.seq (.reg (⟨some 6,.mov (.c (.int .i64 (.ofNat 5))),none⟩::[]))
.ret) .skip))
(.seq (.reg (⟨some 70,.mov (.t 2),none⟩::⟨some 71,.faddr 5 (.t 4),none⟩::⟨none,.store 1 (.t 71) (.t 70),none⟩::[]))
(.seq (.reg (⟨some 72,.mov (.t 2),none⟩::⟨some 73,.faddr 6 (.t 4),none⟩::⟨none,.store 1 (.t 73) (.t 72),none⟩::[]))
(.seq (.reg (⟨some 10,.mov (.c .nilsl),none⟩::[]))
(.seq (.reg (⟨some 11,.mov (.c (.bool false)),none⟩::[]))
(.seq (.seq (.reg (⟨some 12,.mov (.c (.int .i64 (.ofNat 0))),none⟩::[]))
(.block 2 (.loop (.seq (.seq (.reg (⟨some 74,.mov (.t 12),none⟩::⟨some 75,.mov (.t 0),none⟩::⟨some 76,.nilchk (.t 75),none⟩::⟨some 77,.faddr 3 (.t 76),none⟩::⟨some 78,.load false 1 (.t 77),none⟩::⟨some 79,.len false (.t 78),none⟩::⟨some 80,.bin .lss (.t 74) (.t 79),none⟩::[]))
(.cond (.t 80) .skip (.exit 2)))
(.seq (.block 3 (.seq (.reg (⟨some 83,.mov (.t 0),none⟩::⟨some 84,.nilchk (.t 83),none⟩::⟨some 85,.faddr 3 (.t 84),none⟩::⟨some 86,.load false 1 (.t 85),none⟩::⟨some 87,.mov (.t 12),none⟩::⟨some 88,.idxS 7 (.t 86) (.t 87),none⟩::⟨some 89,.load true 7 (.t 88),none⟩::⟨some 13,.alloc [(.int .i64 (.ofNat 0)), (.str []), (.str []), (.str []), (.int .i64 (.ofNat 0)), (.int .u64 (.ofNat 0)), (.int .u64 (.ofNat 0))],none⟩::⟨none,.store 7 (.t 13) (.t 89),none⟩::[]))
(.seq (.seq (.reg (⟨some 90,.faddr 0 (.t 13),none⟩::⟨some 91,.load false 1 (.t 90),none⟩::⟨some 92,.faddr 0 (.t 4),none⟩::⟨some 93,.load false 1 (.t 92),none⟩::⟨some 94,.bin .eql (.t 91) (.t 93),none⟩::⟨some 95,.mov (.t 94),none⟩::⟨some 96,.faddr 1 (.t 13),some (95,true)⟩::⟨some 97,.load false 1 (.t 96),some (95,true)⟩::⟨some 98,.faddr 1 (.t 4),some (95,true)⟩::⟨some 99,.load false 1 (.t 98),some (95,true)⟩::⟨some 100,.bin .eql (.t 97) (.t 99),some (95,true)⟩::⟨some 101,.pick (.t 95) (.t 100) (.c (.bool false)),none⟩::[]))
(.cond (.t 101) (.seq (.reg (⟨some 102,.faddr 5 (.t 13),none⟩::⟨some 103,.load false 1 (.t 102),none⟩::⟨some 104,.faddr 5 (.t 4),none⟩::⟨none,.store 1 (.t 104) (.t 103),none⟩::[]))
(.seq (.reg (⟨some 105,.mov (.t 10),none⟩::⟨some 106,.load true 7 (.t 4),none⟩::⟨some 107,.buildSl 7 1 [(.int .i64 (.ofNat 0)), (.str []), (.str []), (.str []), (.int .i64 (.ofNat 0)), (.int .u64 (.ofNat 0)), (.int .u64 (.ofNat 0))] [(0, 7, (.t 106))],none⟩::⟨some 108,.append 7 80 (.t 105) (.t 107),none⟩::⟨some 10,.mov (.t 108),none⟩::[]))
(.seq (.reg (⟨some 11,.mov (.c (.bool true)),none⟩::[]))
(.exit 3)))) .skip))
(.seq (.seq (.reg (⟨some 109,.mov (.t 11),none⟩::⟨some 110,.un .not (.t 109),none⟩::⟨some 111,.mov (.t 110),none⟩::⟨some 112,.faddr 0 (.t 13),some (111,true)⟩::⟨some 113,.load false 1 (.t 112),some (111,true)⟩::⟨some 114,.faddr 0 (.t 4),some (111,true)⟩::⟨some 115,.load false 1 (.t 114),some (111,true)⟩::⟨some 116,.bin .gtr (.t 113) (.t 115),some (111,true)⟩::⟨some 117,.mov (.t 116),some (111,true)⟩::⟨some 118,.faddr 0 (.t 13),some (117,false)⟩::⟨some 119,.load false 1 (.t 118),some (117,false)⟩::⟨some 120,.faddr 0 (.t 4),some (117,false)⟩::⟨some 121,.load false 1 (.t 120),some (117,false)⟩::⟨some 122,.bin .eql (.t 119) (.t 121),some (117,false)⟩::⟨some 123,.mov (.t 122),some (117,false)⟩::⟨some 124,.faddr 1 (.t 13),some (123,true)⟩::⟨some 125,.load false 1 (.t 124),some (123,true)⟩::⟨some 126,.faddr 1 (.t 4),some (123,true)⟩::⟨some 127,.load false 1 (.t 126),some (123,true)⟩::⟨some 128,.bin .gtr (.t 125) (.t 127),some (123,true)⟩::⟨some 129,.pick (.t 123) (.t 128) (.c (.bool false)),some (117,false)⟩::⟨some 130,.pick (.t 117) (.c (.bool true)) (.t 129),some (111,true)⟩::⟨some 131,.pick (.t 111) (.t 130) (.c (.bool false)),none⟩::[]))
(.cond (.t 131) (.seq (.reg (⟨some 132,.mov (.t 10),none⟩::⟨some 133,.load true 7 (.t 4),none⟩::⟨some 134,.buildSl 7 1 [(.int .i64 (.ofNat 0)), (.str []), (.str []), (.str []), (.int .i64 (.ofNat 0)), (.int .u64 (.ofNat 0)), (.int .u64 (.ofNat 0))] [(0, 7, (.t 133))],none⟩::⟨some 135,.append 7 80 (.t 132) (.t 134),none⟩::⟨some 10,.mov (.t 135),none⟩::[]))
(.reg (⟨some 11,.mov (.c (.bool true)),none⟩::[]))) .skip))
(.reg (⟨some 136,.mov (.t 10),none⟩::⟨some 137,.load true 7 (.t 13),none⟩::⟨some 138,.buildSl 7 1 [(.int .i64 (.ofNat 0)), (.str []), (.str []), (.str []), (.int .i64 (.ofNat 0)), (.int .u64 (.ofNat 0)), (.int .u64 (.ofNat 0))] [(0, 7, (.t 137))],none⟩::⟨some 139,.append 7 80 (.t 136) (.t 138),none⟩::⟨some 10,.mov (.t 139),none⟩::[]))))))
(.reg (⟨some 81,.mov (.t 12),none⟩::⟨some 82,.bin .add (.t 81) (.c (.int .i64 (.ofNat 1))),none⟩::⟨some 12,.mov (.t 82),none⟩::[])))))))
(.seq (.seq (.reg (⟨some 140,.mov (.t 11),none⟩::⟨some 141,.un .not (.t 140),none⟩::[]))
(.cond (.t 141) (.reg (⟨some 142,.mov (.t 10),none⟩::⟨some 143,.load true 7 (.t 4),none⟩::⟨some 144,.buildSl 7 1 [(.int .i64 (.ofNat 0)), (.str []), (.str []), (.str []), (.int .i64 (.ofNat 0)), (.int .u64 (.ofNat 0)), (.int .u64 (.ofNat 0))] [(0, 7, (.t 143))],none⟩::⟨some 145,.append 7 80 (.t 142) (.t 144),none⟩::⟨some 10,.mov (.t 145),none⟩::[])) .skip))
(.seq (.reg (⟨some 146,.mov (.t 0),none⟩::⟨some 147,.mov (.t 10),none⟩::⟨some 148,.nilchk (.t 146),none⟩::⟨some 149,.faddr 3 (.t 148),none⟩::⟨none,.store 1 (.t 149) (.t 147),none⟩::[]))
(.seq (.reg (⟨some 150,.mov (.t 0),none⟩::⟨some 151,.mov (.t 2),none⟩::⟨some 152,.call 64 [(.t 150), (.c (.int .i64 (.ofNat 2))), (.t 151)],none⟩::[]))
(.seq (.reg (⟨some 6,.mov (.c (.int .i64 (.ofNat 0))),none⟩::[]))
.ret))))))))))))))⟩
theorem c33_eq : compFn Tryz.prog 33 = some c33 := by kernel_rfl
/-- (*sodality/sodalityref19.Roster).DropCheck -/
noncomputable def c34 : FnI := ⟨62, [.tmp 8],
(.seq (.reg (⟨some 8,.mov (.c (.int .i64 (.ofNat 0))),none⟩::[]))
(.seq (.reg (⟨some 9,.mov (.c .nilsl),none⟩::[]))
(.seq (.reg (⟨some 10,.mov (.c (.bool false)),none⟩::[]))
(.seq (.seq (.reg (⟨some 11,.mov (.c (.int .i64 (.ofNat 0))),none⟩::[]))
(.block 0 (.loop (.seq (.seq (.reg (⟨some 12,.mov (.t 11),none⟩::⟨some 13,.mov (.t 0),none⟩::⟨some 14,.nilchk (.t 13),none⟩::⟨some 15,.faddr 3 (.t 14),none⟩::⟨some 16,.load false 1 (.t 15),none⟩::⟨some 17,.len false (.t 16),none⟩::⟨some 18,.bin .lss (.t 12) (.t 17),none⟩::[]))
(.cond (.t 18) .skip (.exit 0)))
(.seq (.block 1 (.seq (.reg (⟨some 21,.mov (.t 0),none⟩::⟨some 22,.nilchk (.t 21),none⟩::⟨some 23,.faddr 3 (.t 22),none⟩::⟨some 24,.load false 1 (.t 23),none⟩::⟨some 25,.mov (.t 11),none⟩::⟨some 26,.idxS 7 (.t 24) (.t 25),none⟩::⟨some 27,.faddr 0 (.t 26),none⟩::⟨some 28,.load false 1 (.t 27),none⟩::⟨some 29,.mov (.t 1),none⟩::⟨some 30,.bin .eql (.t 28) (.t 29),none⟩::⟨some 31,.mov (.t 30),none⟩::⟨some 32,.mov (.t 0),some (31,true)⟩::⟨some 33,.nilchk (.t 32),some (31,true)⟩::⟨some 34,.faddr 3 (.t 33),some (31,true)⟩::⟨some 35,.load false 1 (.t 34),some (31,true)⟩::⟨some 36,.mov (.t 11),some (31,true)⟩::⟨some 37,.idxS 7 (.t 35) (.t 36),some (31,true)⟩::⟨some 38,.faddr 1 (.t 37),some (31,true)⟩::⟨some 39,.load false 1 (.t 38),some (31,true)⟩::⟨some 40,.mov (.t 2),some (31,true)⟩::⟨some 41,.bin .eql (.t 39) (.t 40),some (31,true)⟩::⟨some 42,.pick (.t 31) (.t 41) (.c (.bool false)),none⟩::[]))
(.cond (.t 42) (.reg (⟨some 10,.mov (.c (.bool true)),none⟩::[])) (.reg (⟨some 43,.mov (.t 9),none⟩::⟨some 44,.mov (.t 0),none⟩::⟨some 45,.nilchk (.t 44),none⟩::⟨some 46,.faddr 3 (.t 45),none⟩::⟨some 47,.load false 1 (.t 46),none⟩::⟨some 48,.mov (.t 11),none⟩::⟨some 49,.idxS 7 (.t 47) (.t 48),none⟩::⟨some 50,.load true 7 (.t 49),none⟩::⟨some 51,.buildSl 7 1 [(.int .i64 (.ofNat 0)), (.str []), (.str []), (.str []), (.int .i64 (.ofNat 0)), (.int .u64 (.ofNat 0)), (.int .u64 (.ofNat 0))] [(0, 7, (.t 50))],none⟩::⟨some 52,.append 7 80 (.t 43) (.t 51),none⟩::⟨some 9,.mov (.t 52),none⟩::[])))))
(.reg (⟨some 19,.mov (.t 11),none⟩::⟨some 20,.bin .add (.t 19) (.c (.int .i64 (.ofNat 1))),none⟩::⟨some 11,.mov (.t 20),none⟩::[])))))))
(.seq (.reg (⟨some 53,.mov (.t 0),none⟩::⟨some 54,.mov (.t 9),none⟩::⟨some 55,.nilchk (.t 53),none⟩::⟨some 56,.faddr 3 (.t 55),none⟩::⟨none,.store 1 (.t 56) (.t 54),none⟩::[]))
(.seq (.seq (.reg (⟨some 57,.mov (.t 10),none⟩::⟨some 58,.un .not (.t 57),none⟩::[]))
(.cond (.t 58) (.seq (.reg (⟨some 8,.mov (.c (.int .i64 (.ofNat 4))),none⟩::[]))
.ret) .skip))
(.seq (.reg (⟨some 59,.mov (.t 0),none⟩::⟨some 60,.mov (.t 3),none⟩::⟨some 61,.call 64 [(.t 59), (.c (.int .i64 (.ofNat 2))), (.t 60)],none⟩::[]))
(.seq (.reg (⟨some 8,.mov (.c (.int .i64 (.ofNat 0))),none⟩::[]))
.ret))))))))⟩
theorem c34_eq : compFn Tryz.prog 34 = some c34 := by kernel_rfl
/-- (*sodality/roster.Roster).Copy -/
noncomputable def c35 : FnI := ⟨22, [.tmp 2],
(.seq (.reg (⟨some 2,.mov (.c .nilp),none⟩::[]))
(.seq (.seq (.reg (⟨some 3,.mov (.t 0),none⟩::⟨some 4,.call 39 [(.t 3)],none⟩::[]))
(.cond (.t 4) (.seq (.reg (⟨some 2,.mov (.c .nilp),none⟩::[]))
.ret) .skip))
(.seq (.dreg (⟨⟨some 5,.mov (.t 0),none⟩,.quiet,0,0⟩::⟨⟨some 6,.nilchk (.t 5),none⟩,.quiet,1,1⟩::⟨⟨some 7,.faddr 0 (.t 6),none⟩,.quiet,2,3⟩::⟨⟨some 8,.load false 1 (.t 7),none⟩,.load,3,7⟩::⟨⟨some 9,.call 79 [(.t 8)],none⟩,.loud,4,15⟩::⟨⟨some 10,.mov (.t 0),none⟩,.quiet,5,0⟩::⟨⟨some 11,.nilchk (.t 10),none⟩,.quiet,6,32⟩::⟨⟨some 12,.faddr 1 (.t 11),none⟩,.quiet,7,96⟩::⟨⟨some 13,.load false 1 (.t 12),none⟩,.load,8,224⟩::⟨⟨some 14,.call 80 [(.t 13)],none⟩,.loud,9,511⟩::⟨⟨some 15,.mov (.t 0),none⟩,.quiet,10,0⟩::⟨⟨some 16,.nilchk (.t 15),none⟩,.quiet,11,1024⟩::⟨⟨some 17,.faddr 2 (.t 16),none⟩,.quiet,12,3072⟩::⟨⟨some 18,.load false 1 (.t 17),none⟩,.load,13,7168⟩::⟨⟨some 19,.call 81 [(.t 18)],none⟩,.loud,14,16383⟩::⟨⟨some 20,.build [.nilp, .nilp, .nilp] [(0, 1, (.t 9)), (1, 1, (.t 14)), (2, 1, (.t 19))],none⟩,.quiet,15,32767⟩::⟨⟨some 21,.box (.t 20),none⟩,.quiet,16,65535⟩::⟨⟨some 2,.mov (.t 21),none⟩,.quiet,17,131071⟩::[]))
.ret)))⟩
theorem c35_eq : compFn Tryz.prog 35 = some c35 := by kernel_rfl
/-- sodality/sodalityref19.SameNodes -/
noncomputable def c36 : FnI := ⟨26, [.tmp 4],
(.seq (.reg (⟨some 4,.mov (.c (.bool false)),none⟩::[]))
(.seq (.seq (.reg (⟨some 6,.mov (.t 0),none⟩::⟨some 7,.len false (.t 6),none⟩::⟨some 8,.mov (.t 1),none⟩::⟨some 9,.len false (.t 8),none⟩::⟨some 10,.bin .neq (.t 7) (.t 9),none⟩::[]))
(.cond (.t 10) (.seq (.reg (⟨some 4,.mov (.c (.bool false)),none⟩::[]))
.ret) .skip))
(.seq (.seq (.reg (⟨some 5,.mov (.c (.int .i64 (.ofNat 0))),none⟩::[]))
(.block 0 (.loop (.seq (.seq (.reg (⟨some 11,.mov (.t 5),none⟩::⟨some 12,.mov (.t 0),none⟩::⟨some 13,.len false (.t 12),none⟩::⟨some 14,.bin .lss (.t 11) (.t 13),none⟩::[]))
(.cond (.t 14) .skip (.exit 0)))
(.seq (.block 1 (.seq (.dreg (⟨⟨some 17,.mov (.t 0),none⟩,.quiet,0,0⟩::⟨⟨some 18,.mov (.t 5),none⟩,.quiet,1,0⟩::⟨⟨some 19,.idxS 4 (.t 17) (.t 18),none⟩,.quiet,2,3⟩::⟨⟨some 20,.load true 4 (.t 19),none⟩,.load,3,7⟩::⟨⟨some 21,.mov (.t 1),none⟩,.quiet,4,0⟩::⟨⟨some 22,.mov (.t 5),none⟩,.quiet,5,0⟩::⟨⟨some 23,.idxS 4 (.t 21) (.t 22),none⟩,.quiet,6,48⟩::⟨⟨some 24,.load true 4 (.t 23),none⟩,.load,7,112⟩::⟨⟨some 25,.eq true (.str0 [(0, 1, false), (1, 1, false), (2, 1, false), (3, 1, false)] [.int, .str, .int, .int]) (.t 20) (.t 24),none⟩,.quiet,8,255⟩::[]))
(.cond (.t 25) (.seq (.reg (⟨some 4,.mov (.c (.bool false)),none⟩::[]))
.ret) .skip)))
(.reg (⟨some 15,.mov (.t 5),none⟩::⟨some 16,.bin .add (.t 15) (.c (.int .i64 (.ofNat 1))),none⟩::⟨some 5,.mov (.t 16),none⟩::[])))))))
(.seq (.reg (⟨some 4,.mov (.c (.bool true)),none⟩::[]))
.ret))))⟩
theorem c36_eq : compFn Tryz.prog 36 = some c36 := by kernel_rfl
/-- sodality/sodalityref19.SameServices -/
noncomputable def c37 : FnI := ⟨75, [.tmp 4],
(.seq (.reg (⟨some 4,.mov (.c (.bool false)),none⟩::[]))
(.seq (.seq (.reg (⟨some 8,.mov (.t 0),none⟩::⟨some 9,.len false (.t 8),none⟩::⟨some 10,.mov (.t 1),none⟩::⟨some 11,.len false (.t 10),none⟩::⟨some 12,.bin .neq (.t 9) (.t 11),none⟩::[]))
(.cond (.t 12) (.seq (.reg (⟨some 4,.mov (.c (.bool false)),none⟩::[]))
.ret) .skip))
(.seq (.seq (.reg (⟨some 5,.mov (.c (.int .i64 (.ofNat 0))),none⟩::[]))
(.block 0 (.loop (.seq (.seq (.reg (⟨some 13,.mov (.t 5),none⟩::⟨some 14,.mov (.t 0),none⟩::⟨some 15,.len false (.t 14),none⟩::⟨some 16,.bin .lss (.t 13) (.t 15),none⟩::[]))
(.cond (.t 16) .skip (.exit 0)))
(.seq (.block 1 (.seq (.dreg (⟨⟨some 19,.mov (.t 0),none⟩,.quiet,0,0⟩::⟨⟨some 20,.mov (.t 5),none⟩,.quiet,1,0⟩::⟨⟨some 21,.idxS 7 (.t 19) (.t 20),none⟩,.quiet,2,3⟩::⟨⟨some 22,.load true 7 (.t 21),none⟩,.load,3,7⟩::⟨⟨some 6,.alloc [(.int .i64 (.ofNat 0)), (.str []), (.str []), .nilsl, (.int .i64 (.ofNat 0)), (.int .u64 (.ofNat 0)), (.int .u64 (.ofNat 0))],none⟩,.quiet,8,0⟩::⟨⟨some 7,.alloc [(.int .i64 (.ofNat 0)), (.str []), (.str []), .nilsl, (.int .i64 (.ofNat 0)), (.int .u64 (.ofNat 0)), (.int .u64 (.ofNat 0))],none⟩,.quiet,9,0⟩::⟨⟨none,.store 7 (.t 6) (.t 22),none⟩,.loud,10,783⟩::⟨⟨some 23,.mov (.t 1),none⟩,.quiet,4,0⟩::⟨⟨some 24,.mov (.t 5),none⟩,.quiet,5,0⟩::⟨⟨some 25,.idxS 7 (.t 23) (.t 24),none⟩,.quiet,6,48⟩::⟨⟨some 26,.load true 7 (.t 25),none⟩,.load,7,112⟩::⟨⟨none,.store 7 (.t 7) (.t 26),none⟩,.loud,11,2047⟩::[]))
(.seq (.reg (⟨some 27,.faddr 0 (.t 6),none⟩::⟨some 28,.load false 1 (.t 27),none⟩::⟨some 29,.faddr 0 (.t 7),none⟩::⟨some 30,.load false 1 (.t 29),none⟩::⟨some 31,.bin .neq (.t 28) (.t 30),none⟩::⟨some 32,.mov (.t 31),none⟩::⟨some 33,.faddr 1 (.t 6),some (32,false)⟩::⟨some 34,.load false 1 (.t 33),some (32,false)⟩::⟨some 35,.faddr 1 (.t 7),some (32,false)⟩::⟨some 36,.load false 1 (.t 35),some (32,false)⟩::⟨some 37,.bin .neq (.t 34) (.t 36),some (32,false)⟩::⟨some 38,.pick (.t 32) (.c (.bool true)) (.t 37),none⟩::⟨some 39,.mov (.t 38),none⟩::⟨some 40,.faddr 2 (.t 6),some (39,false)⟩::⟨some 41,.load false 1 (.t 40),some (39,false)⟩::⟨some 42,.faddr 2 (.t 7),some (39,false)⟩::⟨some 43,.load false 1 (.t 42),some (39,false)⟩::⟨some 44,.bin .neq (.t 41) (.t 43),some (39,false)⟩::⟨some 45,.pick (.t 39) (.c (.bool true)) (.t 44),none⟩::⟨some 46,.mov (.t 45),none⟩::⟨some 47,.faddr 3 (.t 6),some (46,false)⟩::⟨some 48,.load false 1 (.t 47),some (46,false)⟩::⟨some 49,.faddr 3 (.t 7),some (46,false)⟩::⟨some 50,.load false 1 (.t 49),some (46,false)⟩::⟨some 51,.call 82 [(.t 48), (.t 50)],some (46,false)⟩::⟨some 52,.un .not (.t 51),some (46,false)⟩::⟨some 53,.pick (.t 46) (.c (.bool true)) (.t 52),none⟩::⟨some 54,.mov (.t 53),none⟩::⟨some 55,.faddr 4 (.t 6),some (54,false)⟩::⟨some 56,.load false 1 (.t 55),some (54,false)⟩::⟨some 57,.faddr 4 (.t 7),some (54,false)⟩::⟨some 58,.load false 1 (.t 57),some (54,false)⟩::⟨some 59,.bin .neq (.t 56) (.t 58),some (54,false)⟩::⟨some 60,.pick (.t 54) (.c (.bool true)) (.t 59),none⟩::⟨some 61,.mov (.t 60),none⟩::⟨some 62,.faddr 5 (.t 6),some (61,false)⟩::⟨some 63,.load false 1 (.t 62),some (61,false)⟩::⟨some 64,.faddr 5 (.t 7),some (61,false)⟩::⟨some 65,.load false 1 (.t 64),some (61,false)⟩::⟨some 66,.bin .neq (.t 63) (.t 65),some (61,false)⟩::⟨some 67,.pick (.t 61) (.c (.bool true)) (.t 66),none⟩::⟨some 68,.mov (.t 67),none⟩::⟨some 69,.faddr 6 (.t 6),some (68,false)⟩::⟨some 70,.load false 1 (.t 69),some (68,false)⟩::⟨some 71,.faddr 6 (.t 7),some (68,false)⟩::⟨some 72,.load false 1 (.t 71),some (68,false)⟩::⟨some 73,.bin .neq (.t 70) (.t 72),some (68,false)⟩::⟨some 74,.pick (.t 68) (.c (.bool true)) (.t 73),none⟩::[]))
(.cond (.t 74) (.seq (.reg (⟨some 4,.mov (.c (.bool false)),none⟩::[]))
.ret) .skip))))
(.reg (⟨some 17,.mov (.t 5),none⟩::⟨some 18,.bin .add (.t 17) (.c (.int .i64 (.ofNat 1))),none⟩::⟨some 5,.mov (.t 18),none⟩::[])))))))
(.seq (.reg (⟨some 4,.mov (.c (.bool true)),none⟩::[]))
.ret))))⟩
theorem c37_eq : compFn Tryz.prog 37 = some c37 := by kernel_rfl
/-- sodality/sodalityref19.SameChecks -/
noncomputable def c38 : FnI := ⟨26, [.tmp 4],
(.seq (.reg (⟨some 4,.mov (.c (.bool false)),none⟩::[]))
(.seq (.seq (.reg (⟨some 6,.mov (.t 0),none⟩::⟨some 7,.len false (.t 6),none⟩::⟨some 8,.mov (.t 1),none⟩::⟨some 9,.len false (.t 8),none⟩::⟨some 10,.bin .neq (.t 7) (.t 9),none⟩::[]))
(.cond (.t 10) (.seq (.reg (⟨some 4,.mov (.c (.bool false)),none⟩::[]))
.ret) .skip))
(.seq (.seq (.reg (⟨some 5,.mov (.c (.int .i64 (.ofNat 0))),none⟩::[]))
(.block 0 (.loop (.seq (.seq (.reg (⟨some 11,.mov (.t 5),none⟩::⟨some 12,.mov (.t 0),none⟩::⟨some 13,.len false (.t 12),none⟩::⟨some 14,.bin .lss (.t 11) (.t 13),none⟩::[]))
(.cond (.t 14) .skip (.exit 0)))
(.seq (.block 1 (.seq (.dreg (⟨⟨some 17,.mov (.t 0),none⟩,.quiet,0,0⟩::⟨⟨some 18,.mov (.t 5),none⟩,.quiet,1,0⟩::⟨⟨some 19,.idxS 7 (.t 17) (.t 18),none⟩,.quiet,2,3⟩::⟨⟨some 20,.load true 7 (.t 19),none⟩,.load,3,7⟩::⟨⟨some 21,.mov (.t 1),none⟩,.quiet,4,0⟩::⟨⟨some 22,.mov (.t 5),none⟩,.quiet,5,0⟩::⟨⟨some 23,.idxS 7 (.t 21) (.t 22),none⟩,.quiet,6,48⟩::⟨⟨some 24,.load true 7 (.t 23),none⟩,.load,7,112⟩::⟨⟨some 25,.eq true (.str0 [(0, 1, false), (1, 1, false), (2, 1, false), (3, 1, false), (4, 1, false), (5, 1, false), (6, 1, false)] [.int, .str, .str, .str, .int, .int, .int]) (.t 20) (.t 24),none⟩,.quiet,8,255⟩::[]))
(.cond (.t 25) (.seq (.reg (⟨some 4,.mov (.c (.bool false)),none⟩::[]))
.ret) .skip)))
(.reg (⟨some 15,.mov (.t 5),none⟩::⟨some 16,.bin .add (.t 15) (.c (.int .i64 (.ofNat 1))),none⟩::⟨some 5,.mov (.t 16),none⟩::[])))))))
(.seq (.reg (⟨some 4,.mov (.c (.bool true)),none⟩::[]))
.ret))))⟩
theorem c38_eq : compFn Tryz.prog 38 = some c38 := by kernel_rfl
/-- (*sodality/roster.Roster).none -/
noncomputable def c39 : FnI := ⟨12, [.tmp 2],
(.seq (.reg (⟨some 2,.mov (.c (.bool false)),none⟩::[]))
(.seq (.reg (⟨some 3,.mov (.t 0),none⟩::⟨some 4,.eq false .ptr (.t 3) (.c .nilp),none⟩::⟨some 5,.mov (.t 4),none⟩::⟨some 6,.mov (.t 0),some (5,false)⟩::⟨some 7,.nilchk (.t 6),some (5,false)⟩::⟨some 8,.faddr 0 (.t 7),some (5,false)⟩::⟨some 9,.load false 1 (.t 8),some (5,false)⟩::⟨some 10,.eq false .ptr (.t 9) (.c .nilp),some (5,false)⟩::⟨some 11,.pick (.t 5) (.c (.bool true)) (.t 10),none⟩::⟨some 2,.mov (.t 11),none⟩::[]))
.ret))⟩
theorem c39_eq : compFn Tryz.prog 39 = some c39 := by kernel_rfl
/-- sodality/roster.all[sodality/api.Node] -/
noncomputable def c40 : FnI := ⟨29, [.tmp 4],
(.seq (.reg (⟨some 3,.box (.t 1),none⟩::⟨some 4,.mov (.c .nilsl),none⟩::[]))
(.seq (.reg (⟨some 5,.mov (.c .nilsl),none⟩::[]))
(.seq (.seq (.reg (⟨some 8,.mov (.t 0),none⟩::⟨some 9,.call 83 [(.t 8)],none⟩::⟨some 10,.len false (.t 9),none⟩::⟨some 11,.mov (.c (.int .i64 (.ofNat 0))),none⟩::[]))
(.block 0 (.loop (.seq (.reg (⟨some 12,.bin .lss (.t 11) (.t 10),none⟩::[]))
(.seq (.cond (.t 12) .skip (.exit 0))
(.seq (.block 1 (.seq (.reg (⟨some 13,.idxS 7 (.t 9) (.t 11),none⟩::⟨some 14,.load true 7 (.t 13),none⟩::⟨some 7,.alloc [(.str []), (.int .i64 (.ofNat 0)), (.str []), (.int .u64 (.ofNat 0)), (.int .u64 (.ofNat 0)), (.int .u64 (.ofNat 0)), (.int .u64 (.ofNat 0))],none⟩::⟨none,.store 7 (.t 7) (.t 14),none⟩::[]))
(.reg (⟨some 15,.mov (.t 5),none⟩::⟨some 16,.faddr 0 (.t 3),none⟩::⟨some 17,.load false 1 (.t 16),none⟩::⟨some 18,.faddr 1 (.t 7),none⟩::⟨some 19,.load true 4 (.t 18),none⟩::⟨some 20,.faddr 5 (.t 7),none⟩::⟨some 21,.load false 1 (.t 20),none⟩::⟨some 22,.faddr 6 (.t 7),none⟩::⟨some 23,.load false 1 (.t 22),none⟩::⟨some 24,.callv (.t 17) [(.t 19), (.t 21), (.t 23)],none⟩::⟨some 25,.buildSl 4 1 [(.int .i64 (.ofNat 0)), (.str []), (.int .u64 (.ofNat 0)), (.int .u64 (.ofNat 0))] [(0, 4, (.t 24))],none⟩::⟨some 26,.append 4 40 (.t 15) (.t 25),none⟩::⟨some 5,.mov (.t 26),none⟩::[]))))
(.reg (⟨some 27,.bin .add (.t 11) (.c (.int .i64 (.ofNat 1))),none⟩::⟨some 11,.mov (.t 27),none⟩::[]))))))))
(.seq (.reg (⟨some 28,.mov (.t 5),none⟩::⟨some 4,.mov (.t 28),none⟩::[]))
.ret))))⟩
theorem c40_eq : compFn Tryz.prog 40 = some c40 := by kernel_rfl
/-- (*sodality/roster.Roster).Nodes$1 -/
noncomputable def c41 : FnI := ⟨12, [.cell 6 true 4],
(.seq (.reg (⟨some 3,.box (.t 0),none⟩::⟨some 6,.alloc [(.int .i64 (.ofNat 0)), (.str []), (.int .u64 (.ofNat 0)), (.int .u64 (.ofNat 0))],none⟩::[]))
(.seq (.reg (⟨some 7,.mov (.t 1),none⟩::⟨some 8,.mov (.t 2),none⟩::⟨some 9,.faddr 2 (.t 3),none⟩::⟨none,.store 1 (.t 9) (.t 7),none⟩::⟨some 10,.faddr 3 (.t 3),none⟩::⟨none,.store 1 (.t 10) (.t 8),none⟩::[]))
(.seq (.reg (⟨some 11,.load true 4 (.t 3),none⟩::⟨none,.store 4 (.t 6) (.t 11),none⟩::[]))
.ret)))⟩
theorem c41_eq : compFn Tryz.prog 41 = some c41 := by kernel_rfl
/-- sodality/roster.all[sodality/api.Service] -/
noncomputable def c42 : FnI := ⟨29, [.tmp 4],
(.seq (.reg (⟨some 3,.box (.t 1),none⟩::⟨some 4,.mov (.c .nilsl),none⟩::[]))
(.seq (.reg (⟨some 5,.mov (.c .nilsl),none⟩::[]))
(.seq (.seq (.reg (⟨some 8,.mov (.t 0),none⟩::⟨some 9,.call 84 [(.t 8)],none⟩::⟨some 10,.len false (.t 9),none⟩::⟨some 11,.mov (.c (.int .i64 (.ofNat 0))),none⟩::[]))
(.block 0 (.loop (.seq (.reg (⟨some 12,.bin .lss (.t 11) (.t 10),none⟩::[]))
(.seq (.cond (.t 12) .skip (.exit 0))
(.seq (.block 1 (.seq (.reg (⟨some 13,.idxS 10 (.t 9) (.t 11),none⟩::⟨some 14,.load true 10 (.t 13),none⟩::⟨some 7,.alloc [(.str []), (.int .i64 (.ofNat 0)), (.str []), (.str []), .nilsl, (.int .i64 (.ofNat 0)), (.int .u64 (.ofNat 0)), (.int .u64 (.ofNat 0)), (.int .u64 (.ofNat 0)), (.int .u64 (.ofNat 0))],none⟩::⟨none,.store 10 (.t 7) (.t 14),none⟩::[]))
(.reg (⟨some 15,.mov (.t 5),none⟩::⟨some 16,.faddr 0 (.t 3),none⟩::⟨some 17,.load false 1 (.t 16),none⟩::⟨some 18,.faddr 1 (.t 7),none⟩::⟨some 19,.load true 7 (.t 18),none⟩::⟨some 20,.faddr 8 (.t 7),none⟩::⟨some 21,.load false 1 (.t 20),none⟩::⟨some 22,.faddr 9 (.t 7),none⟩::⟨some 23,.load false 1 (.t 22),none⟩::⟨some 24,.callv (.t 17) [(.t 19), (.t 21), (.t 23)],none⟩::⟨some 25,.buildSl 7 1 [(.int .i64 (.ofNat 0)), (.str []), (.str []), .nilsl, (.int .i64 (.ofNat 0)), (.int .u64 (.ofNat 0)), (.int .u64 (.ofNat 0))] [(0, 7, (.t 24))],none⟩::⟨some 26,.append 7 88 (.t 15) (.t 25),none⟩::⟨some 5,.mov (.t 26),none⟩::[]))))
(.reg (⟨some 27,.bin .add (.t 11) (.c (.int .i64 (.ofNat 1))),none⟩::⟨some 11,.mov (.t 27),none⟩::[]))))))))
(.seq (.reg (⟨some 28,.mov (.t 5),none⟩::⟨some 4,.mov (.t 28),none⟩::[]))
.ret))))⟩
theorem c42_eq : compFn Tryz.prog 42 = some c42 := by kernel_rfl
/-- (*sodality/roster.Roster).Services$1 -/
noncomputable def c43 : FnI := ⟨17, [.cell 6 true 7],
(.seq (.reg (⟨some 3,.box (.t 0),none⟩::⟨some 6,.alloc [(.int .i64 (.ofNat 0)), (.str []), (.str []), .nilsl, (.int .i64 (.ofNat 0)), (.int .u64 (.ofNat 0)), (.int .u64 (.ofNat 0))],none⟩::[]))
(.seq (.reg (⟨some 7,.mov (.t 1),none⟩::⟨some 8,.mov (.t 2),none⟩::⟨some 9,.faddr 5 (.t 3),none⟩::⟨none,.store 1 (.t 9) (.t 7),none⟩::⟨some 10,.faddr 6 (.t 3),none⟩::⟨none,.store 1 (.t 10) (.t 8),none⟩::[]))
(.seq (.reg (⟨some 11,.buildSl 1 0 [] [],none⟩::⟨some 12,.faddr 3 (.t 3),none⟩::⟨some 13,.load false 1 (.t 12),none⟩::⟨some 14,.append 1 16 (.t 11) (.t 13),none⟩::⟨some 15,.faddr 3 (.t 3),none⟩::⟨none,.store 1 (.t 15) (.t 14),none⟩::[]))
(.seq (.reg (⟨some 16,.load true 7 (.t 3),none⟩::⟨none,.store 7 (.t 6) (.t 16),none⟩::[]))
.ret))))⟩
theorem c43_eq : compFn Tryz.prog 43 = some c43 := by kernel_rfl
/-- sodality/roster.all[sodality/api.Check] -/
noncomputable def c44 : FnI := ⟨29, [.tmp 4],
(.seq (.reg (⟨some 3,.box (.t 1),none⟩::⟨some 4,.mov (.c .nilsl),none⟩::[]))
(.seq (.reg (⟨some 5,.mov (.c .nilsl),none⟩::[]))
(.seq (.seq (.reg (⟨some 8,.mov (.t 0),none⟩::⟨some 9,.call 85 [(.t 8)],none⟩::⟨some 10,.len false (.t 9),none⟩::⟨some 11,.mov (.c (.int .i64 (.ofNat 0))),none⟩::[]))
(.block 0 (.loop (.seq (.reg (⟨some 12,.bin .lss (.t 11) (.t 10),none⟩::[]))
(.seq (.cond (.t 12) .skip (.exit 0))
(.seq (.block 1 (.seq (.reg (⟨some 13,.idxS 10 (.t 9) (.t 11),none⟩::⟨some 14,.load true 10 (.t 13),none⟩::⟨some 7,.alloc [(.str []), (.int .i64 (.ofNat 0)), (.str []), (.str []), (.str []), (.int .i64 (.ofNat 0)), (.int .u64 (.ofNat 0)), (.int .u64 (.ofNat 0)), (.int .u64 (.ofNat 0)), (.int .u64 (.ofNat 0))],none⟩::⟨none,.store 10 (.t 7) (.t 14),none⟩::[]))
(.reg (⟨some 15,.mov (.t 5),none⟩::⟨some 16,.faddr 0 (.t 3),none⟩::⟨some 17,.load false 1 (.t 16),none⟩::⟨some 18,.faddr 1 (.t 7),none⟩::⟨some 19,.load true 7 (.t 18),none⟩::⟨some 20,.faddr 8 (.t 7),none⟩::⟨some 21,.load false 1 (.t 20),none⟩::⟨some 22,.faddr 9 (.t 7),none⟩::⟨some 23,.load false 1 (.t 22),none⟩::⟨some 24,.callv (.t 17) [(.t 19), (.t 21), (.t 23)],none⟩::⟨some 25,.buildSl 7 1 [(.int .i64 (.ofNat 0)), (.str []), (.str []), (.str []), (.int .i64 (.ofNat 0)), (.int .u64 (.ofNat 0)), (.int .u64 (.ofNat 0))] [(0, 7, (.t 24))],none⟩::⟨some 26,.append 7 80 (.t 15) (.t 25),none⟩::⟨some 5,.mov (.t 26),none⟩::[]))))
(.reg (⟨some 27,.bin .add (.t 11) (.c (.int .i64 (.ofNat 1))),none⟩::⟨some 11,.mov (.t 27),none⟩::[]))))))))
(.seq (.reg (⟨some 28,.mov (.t 5),none⟩::⟨some 4,.mov (.t 28),none⟩::[]))
.ret))))⟩
theorem c44_eq : compFn Tryz.prog 44 = some c44 := by kernel_rfl
/-- (*sodality/roster.Roster).Checks$1 -/
noncomputable def c45 : FnI := ⟨12, [.cell 6 true 7],
(.seq (.reg (⟨some 3,.box (.t 0),none⟩::⟨some 6,.alloc [(.int .i64 (.ofNat 0)), (.str []), (.str []), (.str []), (.int .i64 (.ofNat 0)), (.int .u64 (.ofNat 0)), (.int .u64 (.ofNat 0))],none⟩::[]))
(.seq (.reg (⟨some 7,.mov (.t 1),none⟩::⟨some 8,.mov (.t 2),none⟩::⟨some 9,.faddr 5 (.t 3),none⟩::⟨none,.store 1 (.t 9) (.t 7),none⟩::⟨some 10,.faddr 6 (.t 3),none⟩::⟨none,.store 1 (.t 10) (.t 8),none⟩::[]))
(.seq (.reg (⟨some 11,.load true 7 (.t 3),none⟩::⟨none,.store 7 (.t 6) (.t 11),none⟩::[]))
.ret)))⟩
theorem c45_eq : compFn Tryz.prog 45 = some c45 := by kernel_rfl
/-- (*sodality/roster.Roster).wrongCheck -/
noncomputable def c46 : FnI := ⟨69, [.tmp 4],
(.seq (.reg (⟨some 3,.box (.t 1),none⟩::⟨some 4,.mov (.c (.int .i64 (.ofNat 0))),none⟩::[]))
(.seq (.block 0 (.seq (.reg (⟨some 8,.faddr 0 (.t 3),none⟩::⟨some 9,.load false 1 (.t 8),none⟩::⟨some 10,.call 49 [(.t 9)],none⟩::⟨some 11,.un .not (.t 10),none⟩::⟨some 12,.mov (.t 11),none⟩::⟨some 13,.faddr 4 (.t 3),some (12,false)⟩::⟨some 14,.load false 1 (.t 13),some (12,false)⟩::⟨some 15,.bin .lss (.t 14) (.c (.int .i64 (.ofNat 0))),some (12,false)⟩::⟨some 16,.pick (.t 12) (.c (.bool true)) (.t 15),none⟩::⟨some 17,.mov (.t 16),none⟩::⟨some 18,.faddr 4 (.t 3),some (17,false)⟩::⟨some 19,.load false 1 (.t 18),some (17,false)⟩::⟨some 20,.bin .gtr (.t 19) (.c (.int .i64 (.ofNat 3))),some (17,false)⟩::⟨some 21,.pick (.t 17) (.c (.bool true)) (.t 20),none⟩::⟨some 7,.mov (.t 21),none⟩::[]))
(.cond (.t 7) (.seq (.reg (⟨some 4,.mov (.c (.int .i64 (.ofNat 2))),none⟩::[]))
.ret) (.seq (.reg (⟨some 23,.faddr 1 (.t 3),none⟩::⟨some 24,.load false 1 (.t 23),none⟩::⟨some 25,.call 86 [(.t 24)],none⟩::⟨some 26,.un .not (.t 25),none⟩::⟨some 27,.mov (.t 26),none⟩::⟨some 28,.faddr 2 (.t 3),some (27,false)⟩::⟨some 29,.load false 1 (.t 28),some (27,false)⟩::⟨some 30,.bin .neq (.t 29) (.c (.str [])),some (27,false)⟩::⟨some 31,.mov (.t 30),some (27,false)⟩::⟨some 32,.faddr 2 (.t 3),some (31,true)⟩::⟨some 33,.load false 1 (.t 32),some (31,true)⟩::⟨some 34,.call 86 [(.t 33)],some (31,true)⟩::⟨some 35,.un .not (.t 34),some (31,true)⟩::⟨some 36,.pick (.t 31) (.t 35) (.c (.bool false)),some (27,false)⟩::⟨some 37,.pick (.t 27) (.c (.bool true)) (.t 36),none⟩::⟨some 22,.mov (.t 37),none⟩::[]))
(.cond (.t 22) (.seq (.reg (⟨some 4,.mov (.c (.int .i64 (.ofNat 10))),none⟩::[]))
.ret) (.seq (.reg (⟨some 39,.faddr 3 (.t 3),none⟩::⟨some 40,.load false 1 (.t 39),none⟩::⟨some 41,.len true (.t 40),none⟩::⟨some 42,.bin .gtr (.t 41) (.c (.int .i64 (.ofNat 32))),none⟩::⟨some 38,.mov (.t 42),none⟩::[]))
(.cond (.t 38) (.seq (.reg (⟨some 4,.mov (.c (.int .i64 (.ofNat 3))),none⟩::[]))
.ret) (.seq (.reg (⟨some 44,.mov (.t 0),none⟩::⟨some 45,.faddr 0 (.t 3),none⟩::⟨some 46,.load false 1 (.t 45),none⟩::⟨some 47,.call 65 [(.t 44), (.t 46)],none⟩::⟨some 48,.un .not (.t 47),none⟩::⟨some 43,.mov (.t 48),none⟩::[]))
(.cond (.t 43) (.seq (.reg (⟨some 4,.mov (.c (.int .i64 (.ofNat 4))),none⟩::[]))
.ret) .skip)))))))))
(.seq (.seq (.dreg (⟨⟨some 54,.faddr 0 (.t 3),none⟩,.quiet,4,0⟩::⟨⟨some 55,.load false 1 (.t 54),none⟩,.load,5,16⟩::⟨⟨some 56,.faddr 2 (.t 3),none⟩,.quiet,6,0⟩::⟨⟨some 57,.load false 1 (.t 56),none⟩,.load,7,64⟩::⟨⟨some 58,.call 48 [(.t 55), (.t 57)],none⟩,.loud,8,240⟩::⟨⟨some 50,.mov (.t 0),none⟩,.quiet,0,0⟩::⟨⟨some 51,.nilchk (.t 50),none⟩,.quiet,1,1⟩::⟨⟨some 52,.faddr 1 (.t 51),none⟩,.quiet,2,3⟩::⟨⟨some 53,.load false 1 (.t 52),none⟩,.load,3,7⟩::⟨⟨some 59,.call 87 [(.t 53), (.t 58)],none⟩,.loud,9,511⟩::⟨⟨some 49,.mov (.t 59),none⟩,.quiet,10,1023⟩::⟨⟨some 60,.extract (.t 49) 0,none⟩,.quiet,11,2047⟩::⟨⟨some 5,.alloc [(.str []), (.int .i64 (.ofNat 0)), (.str []), (.str []), .nilsl, (.int .i64 (.ofNat 0)), (.int .u64 (.ofNat 0)), (.int .u64 (.ofNat 0)), (.int .u64 (.ofNat 0)), (.int .u64 (.ofNat 0))],none⟩,.quiet,13,0⟩::⟨⟨none,.store 10 (.t 5) (.t 60),none⟩,.loud,14,12287⟩::⟨⟨some 61,.extract (.t 49) 1,none⟩,.quiet,12,2047⟩::⟨⟨some 6,.mov (.t 61),none⟩,.quiet,15,32767⟩::[]))
(.seq (.reg (⟨some 62,.faddr 2 (.t 3),none⟩::⟨some 63,.load false 1 (.t 62),none⟩::⟨some 64,.bin .neq (.t 63) (.c (.str [])),none⟩::⟨some 65,.mov (.t 64),none⟩::⟨some 66,.mov (.t 6),some (65,true)⟩::⟨some 67,.un .not (.t 66),some (65,true)⟩::⟨some 68,.pick (.t 65) (.t 67) (.c (.bool false)),none⟩::[]))
(.cond (.t 68) (.seq (.reg (⟨some 4,.mov (.c (.int .i64 (.ofNat 4))),none⟩::[]))
.ret) .skip)))
(.seq (.reg (⟨some 4,.mov (.c (.int .i64 (.ofNat 0))),none⟩::[]))
.ret))))⟩
theorem c46_eq : compFn Tryz.prog 46 = some c46 := by kernel_rfl
/-- (*sodality/table.Table[sodality/api.Check]).Put -/
noncomputable def c47 : FnI := ⟨94, [.cell 8 true 10, .tmp 9],
(.seq (.reg (⟨some 6,.box (.t 2),none⟩::⟨some 8,.alloc [(.str []), (.int .i64 (.ofNat 0)), (.str []), (.str []), (.str []), (.int .i64 (.ofNat 0)), (.int .u64 (.ofNat 0)), (.int .u64 (.ofNat 0)), (.int .u64 (.ofNat 0)), (.int .u64 (.ofNat 0))],none⟩::⟨some 9,.mov (.c (.int .i64 (.ofNat 0))),none⟩::[]))
(.seq (.seq (.reg (⟨some 13,.mov (.t 0),none⟩::⟨some 14,.call 88 [(.t 13)],none⟩::[]))
(.cond (.t 14) (.seq (.reg (⟨some 15,.build [(.str []), (.int .i64 (.ofNat 0)), (.str []), (.str []), (.str []), (.int .i64 (.ofNat 0)), (.int .u64 (.ofNat 0)), (.int .u64 (.ofNat 0)), (.int .u64 (.ofNat 0)), (.int .u64 (.ofNat 0))] [],none⟩::⟨none,.store 10 (.t 8) (.t 15),none⟩::⟨some 9,.mov (.c (.int .i64 (.ofNat 1))),none⟩::[]))
.ret) .skip))
(.seq (.reg (⟨some 17,.mov (.t 0),none⟩::⟨some 18,.mov (.t 1),none⟩::⟨some 19,.call 89 [(.t 17), (.t 18)],none⟩::⟨some 16,.mov (.t 19),none⟩::⟨some 20,.extract (.t 16) 0,none⟩::⟨some 21,.extract (.t 16) 1,none⟩::⟨some 10,.mov (.t 20),none⟩::⟨some 11,.mov (.t 21),none⟩::[]))
(.seq (.seq (.dreg (⟨⟨some 22,.mov (.t 11),none⟩,.quiet,0,0⟩::⟨⟨some 23,.un .not (.t 22),none⟩,.quiet,1,1⟩::⟨⟨some 24,.mov (.t 23),none⟩,.quiet,2,3⟩::⟨⟨some 25,.mov (.t 0),some (24,true)⟩,.quiet,3,7⟩::⟨⟨some 26,.nilchk (.t 25),some (24,true)⟩,.quiet,4,15⟩::⟨⟨some 27,.faddr 1 (.t 26),some (24,true)⟩,.quiet,5,31⟩::⟨⟨some 28,.load false 1 (.t 27),some (24,true)⟩,.load,6,63⟩::⟨⟨some 29,.len false (.t 28),some (24,true)⟩,.quiet,7,127⟩::⟨⟨some 30,.mov (.t 0),some (24,true)⟩,.quiet,8,7⟩::⟨⟨some 31,.nilchk (.t 30),some (24,true)⟩,.quiet,9,263⟩::⟨⟨some 32,.faddr 0 (.t 31),some (24,true)⟩,.quiet,10,775⟩::⟨⟨some 33,.load false 1 (.t 32),some (24,true)⟩,.load,11,1799⟩::⟨⟨some 34,.bin .geq (.t 29) (.t 33),some (24,true)⟩,.quiet,12,4095⟩::⟨⟨some 35,.pick (.t 24) (.t 34) (.c (.bool false)),none⟩,.quiet,13,8191⟩::[]))
(.cond (.t 35) (.seq (.reg (⟨some 36,.build [(.str []), (.int .i64 (.ofNat 0)), (.str []), (.str []), (.str []), (.int .i64 (.ofNat 0)), (.int .u64 (.ofNat 0)), (.int .u64 (.ofNat 0)), (.int .u64 (.ofNat 0)), (.int .u64 (.ofNat 0))] [],none⟩::⟨none,.store 10 (.t 8) (.t 36),none⟩::⟨some 9,.mov (.c (.int .i64 (.ofNat 5))),none⟩::[]))
.ret) .skip))
(.seq (.reg (⟨some 37,.mov (.t 1),none⟩::⟨some 38,.load true 7 (.t 6),none⟩::⟨some 39,.mov (.t 3),none⟩::⟨some 40,.mov (.t 3),none⟩::⟨some 41,.build [(.str []), (.int .i64 (.ofNat 0)), (.str []), (.str []), (.str []), (.int .i64 (.ofNat 0)), (.int .u64 (.ofNat 0)), (.int .u64 (.ofNat 0)), (.int .u64 (.ofNat 0)), (.int .u64 (.ofNat 0))] [(0, 1, (.t 37)), (1, 7, (.t 38)), (8, 1, (.t 39)), (9, 1, (.t 40))],none⟩::⟨some 12,.alloc [(.str []), (.int .i64 (.ofNat 0)), (.str []), (.str []), (.str []), (.int .i64 (.ofNat 0)), (.int .u64 (.ofNat 0)), (.int .u64 (.ofNat 0)), (.int .u64 (.ofNat 0)), (.int .u64 (.ofNat 0))],none⟩::⟨none,.store 10 (.t 12) (.t 41),none⟩::[]))
(.seq (.seq (.reg (⟨some 42,.mov (.t 11),none⟩::[]))
(.cond (.t 42) (.seq (.reg (⟨some 43,.mov (.t 0),none⟩::⟨some 44,.nilchk (.t 43),none⟩::⟨some 45,.faddr 1 (.t 44),none⟩::⟨some 46,.load false 1 (.t 45),none⟩::⟨some 47,.mov (.t 10),none⟩::⟨some 48,.idxS 10 (.t 46) (.t 47),none⟩::⟨some 49,.faddr 8 (.t 48),none⟩::⟨some 50,.load false 1 (.t 49),none⟩::⟨some 51,.faddr 8 (.t 12),none⟩::⟨none,.store 1 (.t 51) (.t 50),none⟩::[]))
(.dreg (⟨⟨some 52,.mov (.t 0),none⟩,.quiet,0,0⟩::⟨⟨some 53,.nilchk (.t 52),none⟩,.quiet,1,1⟩::⟨⟨some 54,.faddr 1 (.t 53),none⟩,.quiet,2,3⟩::⟨⟨some 55,.load false 1 (.t 54),none⟩,.load,3,7⟩::⟨⟨some 56,.mov (.t 10),none⟩,.quiet,4,0⟩::⟨⟨some 57,.load true 10 (.t 12),none⟩,.load,5,0⟩::⟨⟨some 58,.idxS 10 (.t 55) (.t 56),none⟩,.quiet,6,63⟩::⟨⟨none,.store 10 (.t 58) (.t 57),none⟩,.loud,7,127⟩::[]))) (.seq (.reg (⟨some 59,.mov (.t 0),none⟩::⟨some 60,.mov (.t 0),none⟩::⟨some 61,.nilchk (.t 60),none⟩::⟨some 62,.faddr 1 (.t 61),none⟩::⟨some 63,.load false 1 (.t 62),none⟩::⟨some 64,.build [(.str []), (.int .i64 (.ofNat 0)), (.str []), (.str []), (.str []), (.int .i64 (.ofNat 0)), (.int .u64 (.ofNat 0)), (.int .u64 (.ofNat 0)), (.int .u64 (.ofNat 0)), (.int .u64 (.ofNat 0))] [],none⟩::⟨some 65,.buildSl 10 1 [(.str []), (.int .i64 (.ofNat 0)), (.str []), (.str []), (.str []), (.int .i64 (.ofNat 0)), (.int .u64 (.ofNat 0)), (.int .u64 (.ofNat 0)), (.int .u64 (.ofNat 0)), (.int .u64 (.ofNat 0))] [(0, 10, (.t 64))],none⟩::⟨some 66,.append 10 112 (.t 63) (.t 65),none⟩::⟨some 67,.nilchk (.t 59),none⟩::⟨some 68,.faddr 1 (.t 67),none⟩::⟨none,.store 1 (.t 68) (.t 66),none⟩::[]))
(.seq (.dreg (⟨⟨some 69,.mov (.t 0),none⟩,.quiet,0,0⟩::⟨⟨some 70,.nilchk (.t 69),none⟩,.quiet,1,1⟩::⟨⟨some 71,.faddr 1 (.t 70),none⟩,.quiet,2,3⟩::⟨⟨some 72,.load false 1 (.t 71),none⟩,.load,3,7⟩::⟨⟨some 73,.mov (.t 10),none⟩,.quiet,4,0⟩::⟨⟨some 74,.bin .add (.t 73) (.c (.int .i64 (.ofNat 1))),none⟩,.quiet,5,16⟩::⟨⟨some 75,.slS 10 (.t 72) (some (.t 74)) none none,none⟩,.quiet,6,63⟩::⟨⟨some 76,.mov (.t 0),none⟩,.quiet,7,0⟩::⟨⟨some 77,.nilchk (.t 76),none⟩,.quiet,8,128⟩::⟨⟨some 78,.faddr 1 (.t 77),none⟩,.quiet,9,384⟩::⟨⟨some 79,.load false 1 (.t 78),none⟩,.load,10,896⟩::⟨⟨some 80,.mov (.t 10),none⟩,.quiet,11,0⟩::⟨⟨some 81,.slS 10 (.t 79) (some (.t 80)) none none,none⟩,.quiet,12,3968⟩::⟨⟨some 82,.copy 10 (.t 75) (.t 81),none⟩,.loud,13,8191⟩::[]))
(.dreg (⟨⟨some 83,.mov (.t 0),none⟩,.quiet,0,0⟩::⟨⟨some 84,.nilchk (.t 83),none⟩,.quiet,1,1⟩::⟨⟨some 85,.faddr 1 (.t 84),none⟩,.quiet,2,3⟩::⟨⟨some 86,.load false 1 (.t 85),none⟩,.load,3,7⟩::⟨⟨some 87,.mov (.t 10),none⟩,.quiet,4,0⟩::⟨⟨some 88,.load true 10 (.t 12),none⟩,.load,5,0⟩::⟨⟨some 89,.idxS 10 (.t 86) (.t 87),none⟩,.quiet,6,63⟩::⟨⟨none,.store 10 (.t 89) (.t 88),none⟩,.loud,7,127⟩::[]))))))
(.seq (.reg (⟨some 90,.mov (.t 0),none⟩::⟨some 91,.mov (.t 3),none⟩::⟨some 92,.call 58 [(.t 90), (.t 91)],none⟩::[]))
(.seq (.reg (⟨some 93,.load true 10 (.t 12),none⟩::⟨none,.store 10 (.t 8) (.t 93),none⟩::⟨some 9,.mov (.c (.int .i64 (.ofNat 0))),none⟩::[]))
.ret))))))))⟩
theorem c47_eq : compFn Tryz.prog 47 = some c47 := by kernel_rfl
/-- (sodality/roster.of).key -/
noncomputable def c48 : FnI := ⟨10, [.tmp 4],
(.seq (.reg (⟨some 4,.mov (.c (.str [])),none⟩::[]))
(.seq (.reg (⟨some 5,.mov (.t 0),none⟩::⟨some 6,.call 52 [(.t 5)],none⟩::⟨some 7,.bin .add (.t 6) (.c (.str [32])),none⟩::⟨some 8,.mov (.t 1),none⟩::⟨some 9,.bin .add (.t 7) (.t 8),none⟩::⟨some 4,.mov (.t 9),none⟩::[]))
.ret))⟩
theorem c48_eq : compFn Tryz.prog 48 = some c48 := by kernel_rfl
/-- sodality/roster.right -/
noncomputable def c49 : FnI := ⟨9, [.tmp 2],
(.seq (.reg (⟨some 2,.mov (.c (.bool false)),none⟩::[]))
(.seq (.reg (⟨some 3,.mov (.t 0),none⟩::⟨some 4,.bin .geq (.t 3) (.c (.int .i64 (.ofNat 0))),none⟩::⟨some 5,.mov (.t 4),none⟩::⟨some 6,.mov (.t 0),some (5,true)⟩::⟨some 7,.bin .lss (.t 6) (.c (.int .i64 (.ofNat 8))),some (5,true)⟩::⟨some 8,.pick (.t 5) (.t 7) (.c (.bool false)),none⟩::⟨some 2,.mov (.t 8),none⟩::[]))
.ret))⟩
theorem c49_eq : compFn Tryz.prog 49 = some c49 := by kernel_rfl
/-- (*sodality/table.Table[sodality/api.Check]).Drop -/
noncomputable def c50 : FnI := ⟨41, [.tmp 6],
(.seq (.reg (⟨some 6,.mov (.c (.bool false)),none⟩::[]))
(.seq (.seq (.reg (⟨some 9,.mov (.t 0),none⟩::⟨some 10,.call 88 [(.t 9)],none⟩::[]))
(.cond (.t 10) (.seq (.reg (⟨some 6,.mov (.c (.bool false)),none⟩::[]))
.ret) .skip))
(.seq (.reg (⟨some 12,.mov (.t 0),none⟩::⟨some 13,.mov (.t 1),none⟩::⟨some 14,.call 89 [(.t 12), (.t 13)],none⟩::⟨some 11,.mov (.t 14),none⟩::⟨some 15,.extract (.t 11) 0,none⟩::⟨some 16,.extract (.t 11) 1,none⟩::⟨some 7,.mov (.t 15),none⟩::⟨some 8,.mov (.t 16),none⟩::[]))
(.seq (.seq (.reg (⟨some 17,.mov (.t 8),none⟩::⟨some 18,.un .not (.t 17),none⟩::[]))
(.cond (.t 18) (.seq (.reg (⟨some 6,.mov (.c (.bool false)),none⟩::[]))
.ret) .skip))
(.seq (.dreg (⟨⟨some 20,.buildSl 10 0 [] [],none⟩,.quiet,1,0⟩::⟨⟨some 21,.mov (.t 0),none⟩,.quiet,2,0⟩::⟨⟨some 22,.nilchk (.t 21),none⟩,.quiet,3,4⟩::⟨⟨some 23,.faddr 1 (.t 22),none⟩,.quiet,4,12⟩::⟨⟨some 24,.load false 1 (.t 23),none⟩,.load,5,28⟩::⟨⟨some 25,.mov (.t 7),none⟩,.quiet,6,0⟩::⟨⟨some 26,.slS 10 (.t 24) none (some (.t 25)) none,none⟩,.quiet,7,124⟩::⟨⟨some 27,.append 10 112 (.t 20) (.t 26),none⟩,.loud,8,254⟩::⟨⟨some 28,.mov (.t 0),none⟩,.quiet,9,0⟩::⟨⟨some 29,.nilchk (.t 28),none⟩,.quiet,10,512⟩::⟨⟨some 30,.faddr 1 (.t 29),none⟩,.quiet,11,1536⟩::⟨⟨some 31,.load false 1 (.t 30),none⟩,.load,12,3584⟩::⟨⟨some 32,.mov (.t 7),none⟩,.quiet,13,0⟩::⟨⟨some 33,.bin .add (.t 32) (.c (.int .i64 (.ofNat 1))),none⟩,.quiet,14,8192⟩::⟨⟨some 34,.slS 10 (.t 31) (some (.t 33)) none none,none⟩,.quiet,15,32256⟩::⟨⟨some 35,.append 10 112 (.t 27) (.t 34),none⟩,.loud,16,65534⟩::⟨⟨some 19,.mov (.t 0),none⟩,.quiet,0,0⟩::⟨⟨some 36,.nilchk (.t 19),none⟩,.quiet,17,131071⟩::⟨⟨some 37,.faddr 1 (.t 36),none⟩,.quiet,18,262143⟩::⟨⟨none,.store 1 (.t 37) (.t 35),none⟩,.loud,19,524287⟩::[]))
(.seq (.reg (⟨some 38,.mov (.t 0),none⟩::⟨some 39,.mov (.t 2),none⟩::⟨some 40,.call 58 [(.t 38), (.t 39)],none⟩::[]))
(.seq (.reg (⟨some 6,.mov (.c (.bool true)),none⟩::[]))
.ret)))))))⟩
theorem c50_eq : compFn Tryz.prog 50 = some c50 := by kernel_rfl
/-- (*sodality/roster.loader).one -/
noncomputable def c51 : FnI := ⟨63, [],
(.seq (.seq (.reg (⟨some 12,.mov (.t 0),none⟩::⟨some 13,.nilchk (.t 12),none⟩::⟨some 14,.faddr 7 (.t 13),none⟩::⟨some 15,.load false 1 (.t 14),none⟩::⟨some 16,.mov (.t 15),none⟩::⟨some 17,.mov (.t 2),some (16,false)⟩::⟨some 18,.mov (.t 0),some (16,false)⟩::⟨some 19,.mov (.t 1),some (16,false)⟩::⟨some 20,.nilchk (.t 18),some (16,false)⟩::⟨some 21,.faddr 4 (.t 20),some (16,false)⟩::⟨some 22,.idxA 3 1 (.t 21) (.t 19),some (16,false)⟩::⟨some 23,.load false 1 (.t 22),some (16,false)⟩::⟨some 24,.bin .leq (.t 17) (.t 23),some (16,false)⟩::⟨some 25,.pick (.t 16) (.c (.bool true)) (.t 24),none⟩::⟨some 26,.mov (.t 25),none⟩::⟨some 27,.mov (.t 3),some (26,false)⟩::⟨some 28,.mov (.t 4),some (26,false)⟩::⟨some 29,.bin .gtr (.t 27) (.t 28),some (26,false)⟩::⟨some 30,.pick (.t 26) (.c (.bool true)) (.t 29),none⟩::⟨some 31,.mov (.t 30),none⟩::⟨some 32,.mov (.t 4),some (31,false)⟩::⟨some 33,.mov (.t 0),some (31,false)⟩::⟨some 34,.mov (.t 1),some (31,false)⟩::⟨some 35,.nilchk (.t 33),some (31,false)⟩::⟨some 36,.faddr 1 (.t 35),some (31,false)⟩::⟨some 37,.idxA 3 1 (.t 36) (.t 34),some (31,false)⟩::⟨some 38,.load false 1 (.t 37),some (31,false)⟩::⟨some 39,.bin .gtr (.t 32) (.t 38),some (31,false)⟩::⟨some 40,.pick (.t 31) (.c (.bool true)) (.t 39),none⟩::[]))
(.cond (.t 40) (.seq (.reg (⟨some 41,.mov (.t 0),none⟩::⟨some 42,.nilchk (.t 41),none⟩::⟨some 43,.faddr 7 (.t 42),none⟩::⟨none,.store 1 (.t 43) (.c (.bool true)),none⟩::[]))
.ret) .skip))
(.seq (.reg (⟨some 44,.mov (.t 0),none⟩::⟨some 45,.mov (.t 1),none⟩::⟨some 46,.mov (.t 2),none⟩::⟨some 47,.nilchk (.t 44),none⟩::⟨some 48,.faddr 4 (.t 47),none⟩::⟨some 49,.idxA 3 1 (.t 48) (.t 45),none⟩::⟨none,.store 1 (.t 49) (.t 46),none⟩::[]))
(.reg (⟨some 50,.mov (.t 0),none⟩::⟨some 51,.mov (.t 5),none⟩::⟨some 52,.mov (.t 3),none⟩::⟨some 53,.callv (.t 51) [(.t 52)],none⟩::⟨some 54,.bin .neq (.t 53) (.c (.int .i64 (.ofNat 0))),none⟩::⟨some 55,.mov (.t 54),none⟩::⟨some 56,.mov (.t 5),some (55,false)⟩::⟨some 57,.mov (.t 4),some (55,false)⟩::⟨some 58,.callv (.t 56) [(.t 57)],some (55,false)⟩::⟨some 59,.bin .neq (.t 58) (.c (.int .i64 (.ofNat 0))),some (55,false)⟩::⟨some 60,.pick (.t 55) (.c (.bool true)) (.t 59),none⟩::⟨some 61,.nilchk (.t 50),none⟩::⟨some 62,.faddr 7 (.t 61),none⟩::⟨none,.store 1 (.t 62) (.t 60),none⟩::[]))))⟩
theorem c51_eq : compFn Tryz.prog 51 = some c51 := by kernel_rfl
/-- sodality/roster.digit -/
noncomputable def c52 : FnI := ⟨8, [.tmp 2],
(.seq (.reg (⟨some 2,.mov (.c (.str [])),none⟩::[]))
(.seq (.reg (⟨some 3,.mov (.t 0),none⟩::⟨some 4,.cvInt .u8 (.t 3),none⟩::⟨some 5,.bin .add (.c (.int .u8 (.ofNat 48))) (.t 4),none⟩::⟨some 6,.buildSl 1 1 [(.int .u8 (.ofNat 0))] [(0, 1, (.t 5))],none⟩::⟨some 7,.cvStr (.t 6),none⟩::⟨some 2,.mov (.t 7),none⟩::[]))
.ret))⟩
theorem c52_eq : compFn Tryz.prog 52 = some c52 := by kernel_rfl
/-- sodality/roster.Load$1 -/
noncomputable def c53 : FnI := ⟨15, [.tmp 4],
(.seq (.reg (⟨some 4,.mov (.c (.int .i64 (.ofNat 0))),none⟩::[]))
(.seq (.dreg (⟨⟨some 5,.load false 1 (.t 1),none⟩,.load,0,0⟩::⟨⟨some 6,.nilchk (.t 5),none⟩,.quiet,1,1⟩::⟨⟨some 7,.faddr 0 (.t 6),none⟩,.quiet,2,3⟩::⟨⟨some 8,.load false 1 (.t 7),none⟩,.load,3,7⟩::⟨⟨some 9,.faddr 0 (.t 2),none⟩,.quiet,4,0⟩::⟨⟨some 10,.load false 1 (.t 9),none⟩,.load,5,16⟩::⟨⟨some 11,.faddr 1 (.t 2),none⟩,.quiet,6,0⟩::⟨⟨some 12,.load false 1 (.t 11),none⟩,.load,7,64⟩::⟨⟨some 13,.mov (.t 0),none⟩,.quiet,8,0⟩::⟨⟨some 14,.call 25 [(.t 8), (.t 10), (.t 12), (.t 13)],none⟩,.loud,9,511⟩::⟨⟨some 4,.mov (.t 14),none⟩,.quiet,10,1023⟩::[]))
.ret))⟩
theorem c53_eq : compFn Tryz.prog 53 = some c53 := by kernel_rfl
/-- sodality/roster.Load$2 -/
noncomputable def c54 : FnI := ⟨12, [.tmp 4],
(.seq (.reg (⟨some 4,.mov (.c (.int .i64 (.ofNat 0))),none⟩::[]))
(.seq (.dreg (⟨⟨some 5,.load false 1 (.t 1),none⟩,.load,0,0⟩::⟨⟨some 6,.nilchk (.t 5),none⟩,.quiet,1,1⟩::⟨⟨some 7,.faddr 0 (.t 6),none⟩,.quiet,2,3⟩::⟨⟨some 8,.load false 1 (.t 7),none⟩,.load,3,7⟩::⟨⟨some 9,.load true 7 (.t 2),none⟩,.load,4,0⟩::⟨⟨some 10,.mov (.t 0),none⟩,.quiet,5,0⟩::⟨⟨some 11,.call 29 [(.t 8), (.t 9), (.t 10)],none⟩,.loud,6,63⟩::⟨⟨some 4,.mov (.t 11),none⟩,.quiet,7,127⟩::[]))
.ret))⟩
theorem c54_eq : compFn Tryz.prog 54 = some c54 := by kernel_rfl
/-- sodality/roster.Load$3 -/
noncomputable def c55 : FnI := ⟨12, [.tmp 4],
(.seq (.reg (⟨some 4,.mov (.c (.int .i64 (.ofNat 0))),none⟩::[]))
(.seq (.dreg (⟨⟨some 5,.load false 1 (.t 1),none⟩,.load,0,0⟩::⟨⟨some 6,.nilchk (.t 5),none⟩,.quiet,1,1⟩::⟨⟨some 7,.faddr 0 (.t 6),none⟩,.quiet,2,3⟩::⟨⟨some 8,.load false 1 (.t 7),none⟩,.load,3,7⟩::⟨⟨some 9,.load true 7 (.t 2),none⟩,.load,4,0⟩::⟨⟨some 10,.mov (.t 0),none⟩,.quiet,5,0⟩::⟨⟨some 11,.call 18 [(.t 8), (.t 9), (.t 10)],none⟩,.loud,6,63⟩::⟨⟨some 4,.mov (.t 11),none⟩,.quiet,7,127⟩::[]))
.ret))⟩
theorem c55_eq : compFn Tryz.prog 55 = some c55 := by kernel_rfl
/-- (*sodality/table.Table[sodality/api.Node]).Raise -/
noncomputable def c56 : FnI := ⟨16, [],
(.seq (.reg (⟨some 4,.mov (.t 0),none⟩::⟨some 5,.call 90 [(.t 4)],none⟩::⟨some 6,.un .not (.t 5),none⟩::[]))
(.cond (.t 6) (.reg (⟨some 7,.mov (.t 0),none⟩::⟨some 8,.mov (.t 0),none⟩::⟨some 9,.nilchk (.t 8),none⟩::⟨some 10,.faddr 2 (.t 9),none⟩::⟨some 11,.load false 1 (.t 10),none⟩::⟨some 12,.mov (.t 1),none⟩::⟨some 13,.mm true (.t 11) [(.t 12)],none⟩::⟨some 14,.nilchk (.t 7),none⟩::⟨some 15,.faddr 2 (.t 14),none⟩::⟨none,.store 1 (.t 15) (.t 13),none⟩::[])) .skip))⟩
theorem c56_eq : compFn Tryz.prog 56 = some c56 := by kernel_rfl
/-- (*sodality/table.Table[sodality/api.Service]).Raise -/
noncomputable def c57 : FnI := ⟨16, [],
(.seq (.reg (⟨some 4,.mov (.t 0),none⟩::⟨some 5,.call 91 [(.t 4)],none⟩::⟨some 6,.un .not (.t 5),none⟩::[]))
(.cond (.t 6) (.reg (⟨some 7,.mov (.t 0),none⟩::⟨some 8,.mov (.t 0),none⟩::⟨some 9,.nilchk (.t 8),none⟩::⟨some 10,.faddr 2 (.t 9),none⟩::⟨some 11,.load false 1 (.t 10),none⟩::⟨some 12,.mov (.t 1),none⟩::⟨some 13,.mm true (.t 11) [(.t 12)],none⟩::⟨some 14,.nilchk (.t 7),none⟩::⟨some 15,.faddr 2 (.t 14),none⟩::⟨none,.store 1 (.t 15) (.t 13),none⟩::[])) .skip))⟩
theorem c57_eq : compFn Tryz.prog 57 = some c57 := by kernel_rfl
/-- (*sodality/table.Table[sodality/api.Check]).Raise -/
noncomputable def c58 : FnI := ⟨16, [],
(.seq (.reg (⟨some 4,.mov (.t 0),none⟩::⟨some 5,.call 88 [(.t 4)],none⟩::⟨some 6,.un .not (.t 5),none⟩::[]))
(.cond (.t 6) (.reg (⟨some 7,.mov (.t 0),none⟩::⟨some 8,.mov (.t 0),none⟩::⟨some 9,.nilchk (.t 8),none⟩::⟨some 10,.faddr 2 (.t 9),none⟩::⟨some 11,.load false 1 (.t 10),none⟩::⟨some 12,.mov (.t 1),none⟩::⟨some 13,.mm true (.t 11) [(.t 12)],none⟩::⟨some 14,.nilchk (.t 7),none⟩::⟨some 15,.faddr 2 (.t 14),none⟩::⟨none,.store 1 (.t 15) (.t 13),none⟩::[])) .skip))⟩
theorem c58_eq : compFn Tryz.prog 58 = some c58 := by kernel_rfl
/-- (*sodality/table.Table[sodality/api.Node]).Last -/
noncomputable def c59 : FnI := ⟨9, [.tmp 2],
(.seq (.reg (⟨some 2,.mov (.c (.int .u64 (.ofNat 0))),none⟩::[]))
(.seq (.seq (.reg (⟨some 3,.mov (.t 0),none⟩::⟨some 4,.call 90 [(.t 3)],none⟩::[]))
(.cond (.t 4) (.seq (.reg (⟨some 2,.mov (.c (.int .u64 (.ofNat 0))),none⟩::[]))
.ret) .skip))
(.seq (.reg (⟨some 5,.mov (.t 0),none⟩::⟨some 6,.nilchk (.t 5),none⟩::⟨some 7,.faddr 2 (.t 6),none⟩::⟨some 8,.load false 1 (.t 7),none⟩::⟨some 2,.mov (.t 8),none⟩::[]))
.ret)))⟩
theorem c59_eq : compFn Tryz.prog 59 = some c59 := by kernel_rfl
/-- (*sodality/table.Table[sodality/api.Service]).Last -/
noncomputable def c60 : FnI := ⟨9, [.tmp 2],
(.seq (.reg (⟨some 2,.mov (.c (.int .u64 (.ofNat 0))),none⟩::[]))
(.seq (.seq (.reg (⟨some 3,.mov (.t 0),none⟩::⟨some 4,.call 91 [(.t 3)],none⟩::[]))
(.cond (.t 4) (.seq (.reg (⟨some 2,.mov (.c (.int .u64 (.ofNat 0))),none⟩::[]))
.ret) .skip))
(.seq (.reg (⟨some 5,.mov (.t 0),none⟩::⟨some 6,.nilchk (.t 5),none⟩::⟨some 7,.faddr 2 (.t 6),none⟩::⟨some 8,.load false 1 (.t 7),none⟩::⟨some 2,.mov (.t 8),none⟩::[]))
.ret)))⟩
theorem c60_eq : compFn Tryz.prog 60 = some c60 := by kernel_rfl
/-- (*sodality/table.Table[sodality/api.Check]).Last -/
noncomputable def c61 : FnI := ⟨9, [.tmp 2],
(.seq (.reg (⟨some 2,.mov (.c (.int .u64 (.ofNat 0))),none⟩::[]))
(.seq (.seq (.reg (⟨some 3,.mov (.t 0),none⟩::⟨some 4,.call 88 [(.t 3)],none⟩::[]))
(.cond (.t 4) (.seq (.reg (⟨some 2,.mov (.c (.int .u64 (.ofNat 0))),none⟩::[]))
.ret) .skip))
(.seq (.reg (⟨some 5,.mov (.t 0),none⟩::⟨some 6,.nilchk (.t 5),none⟩::⟨some 7,.faddr 2 (.t 6),none⟩::⟨some 8,.load false 1 (.t 7),none⟩::⟨some 2,.mov (.t 8),none⟩::[]))
.ret)))⟩
theorem c61_eq : compFn Tryz.prog 61 = some c61 := by kernel_rfl
/-- (*sodality/table.Table[sodality/api.Node]).Put -/
noncomputable def c62 : FnI := ⟨94, [.cell 8 true 7, .tmp 9],
(.seq (.reg (⟨some 6,.box (.t 2),none⟩::⟨some 8,.alloc [(.str []), (.int .i64 (.ofNat 0)), (.str []), (.int .u64 (.ofNat 0)), (.int .u64 (.ofNat 0)), (.int .u64 (.ofNat 0)), (.int .u64 (.ofNat 0))],none⟩::⟨some 9,.mov (.c (.int .i64 (.ofNat 0))),none⟩::[]))
(.seq (.seq (.reg (⟨some 13,.mov (.t 0),none⟩::⟨some 14,.call 90 [(.t 13)],none⟩::[]))
(.cond (.t 14) (.seq (.reg (⟨some 15,.build [(.str []), (.int .i64 (.ofNat 0)), (.str []), (.int .u64 (.ofNat 0)), (.int .u64 (.ofNat 0)), (.int .u64 (.ofNat 0)), (.int .u64 (.ofNat 0))] [],none⟩::⟨none,.store 7 (.t 8) (.t 15),none⟩::⟨some 9,.mov (.c (.int .i64 (.ofNat 1))),none⟩::[]))
.ret) .skip))
(.seq (.reg (⟨some 17,.mov (.t 0),none⟩::⟨some 18,.mov (.t 1),none⟩::⟨some 19,.call 92 [(.t 17), (.t 18)],none⟩::⟨some 16,.mov (.t 19),none⟩::⟨some 20,.extract (.t 16) 0,none⟩::⟨some 21,.extract (.t 16) 1,none⟩::⟨some 10,.mov (.t 20),none⟩::⟨some 11,.mov (.t 21),none⟩::[]))
(.seq (.seq (.dreg (⟨⟨some 22,.mov (.t 11),none⟩,.quiet,0,0⟩::⟨⟨some 23,.un .not (.t 22),none⟩,.quiet,1,1⟩::⟨⟨some 24,.mov (.t 23),none⟩,.quiet,2,3⟩::⟨⟨some 25,.mov (.t 0),some (24,true)⟩,.quiet,3,7⟩::⟨⟨some 26,.nilchk (.t 25),some (24,true)⟩,.quiet,4,15⟩::⟨⟨some 27,.faddr 1 (.t 26),some (24,true)⟩,.quiet,5,31⟩::⟨⟨some 28,.load false 1 (.t 27),some (24,true)⟩,.load,6,63⟩::⟨⟨some 29,.len false (.t 28),some (24,true)⟩,.quiet,7,127⟩::⟨⟨some 30,.mov (.t 0),some (24,true)⟩,.quiet,8,7⟩::⟨⟨some 31,.nilchk (.t 30),some (24,true)⟩,.quiet,9,263⟩::⟨⟨some 32,.faddr 0 (.t 31),some (24,true)⟩,.quiet,10,775⟩::⟨⟨some 33,.load false 1 (.t 32),some (24,true)⟩,.load,11,1799⟩::⟨⟨some 34,.bin .geq (.t 29) (.t 33),some (24,true)⟩,.quiet,12,4095⟩::⟨⟨some 35,.pick (.t 24) (.t 34) (.c (.bool false)),none⟩,.quiet,13,8191⟩::[]))
(.cond (.t 35) (.seq (.reg (⟨some 36,.build [(.str []), (.int .i64 (.ofNat 0)), (.str []), (.int .u64 (.ofNat 0)), (.int .u64 (.ofNat 0)), (.int .u64 (.ofNat 0)), (.int .u64 (.ofNat 0))] [],none⟩::⟨none,.store 7 (.t 8) (.t 36),none⟩::⟨some 9,.mov (.c (.int .i64 (.ofNat 5))),none⟩::[]))
.ret) .skip))
(.seq (.reg (⟨some 37,.mov (.t 1),none⟩::⟨some 38,.load true 4 (.t 6),none⟩::⟨some 39,.mov (.t 3),none⟩::⟨some 40,.mov (.t 3),none⟩::⟨some 41,.build [(.str []), (.int .i64 (.ofNat 0)), (.str []), (.int .u64 (.ofNat 0)), (.int .u64 (.ofNat 0)), (.int .u64 (.ofNat 0)), (.int .u64 (.ofNat 0))] [(0, 1, (.t 37)), (1, 4, (.t 38)), (5, 1, (.t 39)), (6, 1, (.t 40))],none⟩::⟨some 12,.alloc [(.str []), (.int .i64 (.ofNat 0)), (.str []), (.int .u64 (.ofNat 0)), (.int .u64 (.ofNat 0)), (.int .u64 (.ofNat 0)), (.int .u64 (.ofNat 0))],none⟩::⟨none,.store 7 (.t 12) (.t 41),none⟩::[]))
(.seq (.seq (.reg (⟨some 42,.mov (.t 11),none⟩::[]))
(.cond (.t 42) (.seq (.reg (⟨some 43,.mov (.t 0),none⟩::⟨some 44,.nilchk (.t 43),none⟩::⟨some 45,.faddr 1 (.t 44),none⟩::⟨some 46,.load false 1 (.t 45),none⟩::⟨some 47,.mov (.t 10),none⟩::⟨some 48,.idxS 7 (.t 46) (.t 47),none⟩::⟨some 49,.faddr 5 (.t 48),none⟩::⟨some 50,.load false 1 (.t 49),none⟩::⟨some 51,.faddr 5 (.t 12),none⟩::⟨none,.store 1 (.t 51) (.t 50),none⟩::[]))
(.dreg (⟨⟨some 52,.mov (.t 0),none⟩,.quiet,0,0⟩::⟨⟨some 53,.nilchk (.t 52),none⟩,.quiet,1,1⟩::⟨⟨some 54,.faddr 1 (.t 53),none⟩,.quiet,2,3⟩::⟨⟨some 55,.load false 1 (.t 54),none⟩,.load,3,7⟩::⟨⟨some 56,.mov (.t 10),none⟩,.quiet,4,0⟩::⟨⟨some 57,.load true 7 (.t 12),none⟩,.load,5,0⟩::⟨⟨some 58,.idxS 7 (.t 55) (.t 56),none⟩,.quiet,6,63⟩::⟨⟨none,.store 7 (.t 58) (.t 57),none⟩,.loud,7,127⟩::[]))) (.seq (.reg (⟨some 59,.mov (.t 0),none⟩::⟨some 60,.mov (.t 0),none⟩::⟨some 61,.nilchk (.t 60),none⟩::⟨some 62,.faddr 1 (.t 61),none⟩::⟨some 63,.load false 1 (.t 62),none⟩::⟨some 64,.build [(.str []), (.int .i64 (.ofNat 0)), (.str []), (.int .u64 (.ofNat 0)), (.int .u64 (.ofNat 0)), (.int .u64 (.ofNat 0)), (.int .u64 (.ofNat 0))] [],none⟩::⟨some 65,.buildSl 7 1 [(.str []), (.int .i64 (.ofNat 0)), (.str []), (.int .u64 (.ofNat 0)), (.int .u64 (.ofNat 0)), (.int .u64 (.ofNat 0)), (.int .u64 (.ofNat 0))] [(0, 7, (.t 64))],none⟩::⟨some 66,.append 7 72 (.t 63) (.t 65),none⟩::⟨some 67,.nilchk (.t 59),none⟩::⟨some 68,.faddr 1 (.t 67),none⟩::⟨none,.store 1 (.t 68) (.t 66),none⟩::[]))
(.seq (.dreg (⟨⟨some 69,.mov (.t 0),none⟩,.quiet,0,0⟩::⟨⟨some 70,.nilchk (.t 69),none⟩,.quiet,1,1⟩::⟨⟨some 71,.faddr 1 (.t 70),none⟩,.quiet,2,3⟩::⟨⟨some 72,.load false 1 (.t 71),none⟩,.load,3,7⟩::⟨⟨some 73,.mov (.t 10),none⟩,.quiet,4,0⟩::⟨⟨some 74,.bin .add (.t 73) (.c (.int .i64 (.ofNat 1))),none⟩,.quiet,5,16⟩::⟨⟨some 75,.slS 7 (.t 72) (some (.t 74)) none none,none⟩,.quiet,6,63⟩::⟨⟨some 76,.mov (.t 0),none⟩,.quiet,7,0⟩::⟨⟨some 77,.nilchk (.t 76),none⟩,.quiet,8,128⟩::⟨⟨some 78,.faddr 1 (.t 77),none⟩,.quiet,9,384⟩::⟨⟨some 79,.load false 1 (.t 78),none⟩,.load,10,896⟩::⟨⟨some 80,.mov (.t 10),none⟩,.quiet,11,0⟩::⟨⟨some 81,.slS 7 (.t 79) (some (.t 80)) none none,none⟩,.quiet,12,3968⟩::⟨⟨some 82,.copy 7 (.t 75) (.t 81),none⟩,.loud,13,8191⟩::[]))
(.dreg (⟨⟨some 83,.mov (.t 0),none⟩,.quiet,0,0⟩::⟨⟨some 84,.nilchk (.t 83),none⟩,.quiet,1,1⟩::⟨⟨some 85,.faddr 1 (.t 84),none⟩,.quiet,2,3⟩::⟨⟨some 86,.load false 1 (.t 85),none⟩,.load,3,7⟩::⟨⟨some 87,.mov (.t 10),none⟩,.quiet,4,0⟩::⟨⟨some 88,.load true 7 (.t 12),none⟩,.load,5,0⟩::⟨⟨some 89,.idxS 7 (.t 86) (.t 87),none⟩,.quiet,6,63⟩::⟨⟨none,.store 7 (.t 89) (.t 88),none⟩,.loud,7,127⟩::[]))))))
(.seq (.reg (⟨some 90,.mov (.t 0),none⟩::⟨some 91,.mov (.t 3),none⟩::⟨some 92,.call 56 [(.t 90), (.t 91)],none⟩::[]))
(.seq (.reg (⟨some 93,.load true 7 (.t 12),none⟩::⟨none,.store 7 (.t 8) (.t 93),none⟩::⟨some 9,.mov (.c (.int .i64 (.ofNat 0))),none⟩::[]))
.ret))))))))⟩
theorem c62_eq : compFn Tryz.prog 62 = some c62 := by kernel_rfl
/-- (*sodality/sodalityref19.Roster).there -/
noncomputable def c63 : FnI := ⟨25, [.tmp 4],
(.seq (.reg (⟨some 4,.mov (.c (.bool false)),none⟩::[]))
(.seq (.seq (.reg (⟨some 5,.mov (.c (.int .i64 (.ofNat 0))),none⟩::[]))
(.block 0 (.loop (.seq (.seq (.reg (⟨some 6,.mov (.t 5),none⟩::⟨some 7,.mov (.t 0),none⟩::⟨some 8,.nilchk (.t 7),none⟩::⟨some 9,.faddr 1 (.t 8),none⟩::⟨some 10,.load false 1 (.t 9),none⟩::⟨some 11,.len false (.t 10),none⟩::⟨some 12,.bin .lss (.t 6) (.t 11),none⟩::[]))
(.cond (.t 12) .skip (.exit 0)))
(.seq (.block 1 (.seq (.reg (⟨some 15,.mov (.t 0),none⟩::⟨some 16,.nilchk (.t 15),none⟩::⟨some 17,.faddr 1 (.t 16),none⟩::⟨some 18,.load false 1 (.t 17),none⟩::⟨some 19,.mov (.t 5),none⟩::⟨some 20,.idxS 4 (.t 18) (.t 19),none⟩::⟨some 21,.faddr 0 (.t 20),none⟩::⟨some 22,.load false 1 (.t 21),none⟩::⟨some 23,.mov (.t 1),none⟩::⟨some 24,.bin .eql (.t 22) (.t 23),none⟩::[]))
(.cond (.t 24) (.seq (.reg (⟨some 4,.mov (.c (.bool true)),none⟩::[]))
.ret) .skip)))
(.reg (⟨some 13,.mov (.t 5),none⟩::⟨some 14,.bin .add (.t 13) (.c (.int .i64 (.ofNat 1))),none⟩::⟨some 5,.mov (.t 14),none⟩::[])))))))
(.seq (.reg (⟨some 4,.mov (.c (.bool false)),none⟩::[]))
.ret)))⟩
theorem c63_eq : compFn Tryz.prog 63 = some c63 := by kernel_rfl
/-- (*sodality/sodalityref19.Roster).raise -/
noncomputable def c64 : FnI := ⟨20, [],
(.seq (.reg (⟨some 6,.mov (.t 2),none⟩::⟨some 7,.mov (.t 0),none⟩::⟨some 8,.mov (.t 1),none⟩::⟨some 9,.nilchk (.t 7),none⟩::⟨some 10,.faddr 4 (.t 9),none⟩::⟨some 11,.idxA 3 1 (.t 10) (.t 8),none⟩::⟨some 12,.load false 1 (.t 11),none⟩::⟨some 13,.bin .gtr (.t 6) (.t 12),none⟩::[]))
(.cond (.t 13) (.reg (⟨some 14,.mov (.t 0),none⟩::⟨some 15,.mov (.t 1),none⟩::⟨some 16,.mov (.t 2),none⟩::⟨some 17,.nilchk (.t 14),none⟩::⟨some 18,.faddr 4 (.t 17),none⟩::⟨some 19,.idxA 3 1 (.t 18) (.t 15),none⟩::⟨none,.store 1 (.t 19) (.t 16),none⟩::[])) .skip))⟩
theorem c64_eq : compFn Tryz.prog 64 = some c64 := by kernel_rfl
/-- (*sodality/roster.Roster).there -/
noncomputable def c65 : FnI := ⟨21, [.tmp 4],
(.seq (.reg (⟨some 4,.mov (.c (.bool false)),none⟩::[]))
(.seq (.seq (.reg (⟨some 7,.mov (.t 1),none⟩::⟨some 8,.call 49 [(.t 7)],none⟩::⟨some 9,.un .not (.t 8),none⟩::[]))
(.cond (.t 9) (.seq (.reg (⟨some 4,.mov (.c (.bool false)),none⟩::[]))
.ret) .skip))
(.seq (.dreg (⟨⟨some 15,.mov (.t 1),none⟩,.quiet,4,0⟩::⟨⟨some 16,.call 52 [(.t 15)],none⟩,.loud,5,16⟩::⟨⟨some 11,.mov (.t 0),none⟩,.quiet,0,0⟩::⟨⟨some 12,.nilchk (.t 11),none⟩,.quiet,1,1⟩::⟨⟨some 13,.faddr 0 (.t 12),none⟩,.quiet,2,3⟩::⟨⟨some 14,.load false 1 (.t 13),none⟩,.load,3,7⟩::⟨⟨some 17,.call 93 [(.t 14), (.t 16)],none⟩,.loud,6,63⟩::⟨⟨some 10,.mov (.t 17),none⟩,.quiet,7,127⟩::⟨⟨some 18,.extract (.t 10) 0,none⟩,.quiet,8,255⟩::⟨⟨some 5,.alloc [(.str []), (.int .i64 (.ofNat 0)), (.str []), (.int .u64 (.ofNat 0)), (.int .u64 (.ofNat 0)), (.int .u64 (.ofNat 0)), (.int .u64 (.ofNat 0))],none⟩,.quiet,10,0⟩::⟨⟨none,.store 7 (.t 5) (.t 18),none⟩,.loud,11,1535⟩::⟨⟨some 19,.extract (.t 10) 1,none⟩,.quiet,9,255⟩::⟨⟨some 6,.mov (.t 19),none⟩,.quiet,12,4095⟩::[]))
(.seq (.reg (⟨some 20,.mov (.t 6),none⟩::⟨some 4,.mov (.t 20),none⟩::[]))
.ret))))⟩
theorem c65_eq : compFn Tryz.prog 65 = some c65 := by kernel_rfl
/-- (*sodality/table.Table[sodality/api.Node]).Drop -/
noncomputable def c66 : FnI := ⟨41, [.tmp 6],
(.seq (.reg (⟨some 6,.mov (.c (.bool false)),none⟩::[]))
(.seq (.seq (.reg (⟨some 9,.mov (.t 0),none⟩::⟨some 10,.call 90 [(.t 9)],none⟩::[]))
(.cond (.t 10) (.seq (.reg (⟨some 6,.mov (.c (.bool false)),none⟩::[]))
.ret) .skip))
(.seq (.reg (⟨some 12,.mov (.t 0),none⟩::⟨some 13,.mov (.t 1),none⟩::⟨some 14,.call 92 [(.t 12), (.t 13)],none⟩::⟨some 11,.mov (.t 14),none⟩::⟨some 15,.extract (.t 11) 0,none⟩::⟨some 16,.extract (.t 11) 1,none⟩::⟨some 7,.mov (.t 15),none⟩::⟨some 8,.mov (.t 16),none⟩::[]))
(.seq (.seq (.reg (⟨some 17,.mov (.t 8),none⟩::⟨some 18,.un .not (.t 17),none⟩::[]))
(.cond (.t 18) (.seq (.reg (⟨some 6,.mov (.c (.bool false)),none⟩::[]))
.ret) .skip))
(.seq (.dreg (⟨⟨some 20,.buildSl 7 0 [] [],none⟩,.quiet,1,0⟩::⟨⟨some 21,.mov (.t 0),none⟩,.quiet,2,0⟩::⟨⟨some 22,.nilchk (.t 21),none⟩,.quiet,3,4⟩::⟨⟨some 23,.faddr 1 (.t 22),none⟩,.quiet,4,12⟩::⟨⟨some 24,.load false 1 (.t 23),none⟩,.load,5,28⟩::⟨⟨some 25,.mov (.t 7),none⟩,.quiet,6,0⟩::⟨⟨some 26,.slS 7 (.t 24) none (some (.t 25)) none,none⟩,.quiet,7,124⟩::⟨⟨some 27,.append 7 72 (.t 20) (.t 26),none⟩,.loud,8,254⟩::⟨⟨some 28,.mov (.t 0),none⟩,.quiet,9,0⟩::⟨⟨some 29,.nilchk (.t 28),none⟩,.quiet,10,512⟩::⟨⟨some 30,.faddr 1 (.t 29),none⟩,.quiet,11,1536⟩::⟨⟨some 31,.load false 1 (.t 30),none⟩,.load,12,3584⟩::⟨⟨some 32,.mov (.t 7),none⟩,.quiet,13,0⟩::⟨⟨some 33,.bin .add (.t 32) (.c (.int .i64 (.ofNat 1))),none⟩,.quiet,14,8192⟩::⟨⟨some 34,.slS 7 (.t 31) (some (.t 33)) none none,none⟩,.quiet,15,32256⟩::⟨⟨some 35,.append 7 72 (.t 27) (.t 34),none⟩,.loud,16,65534⟩::⟨⟨some 19,.mov (.t 0),none⟩,.quiet,0,0⟩::⟨⟨some 36,.nilchk (.t 19),none⟩,.quiet,17,131071⟩::⟨⟨some 37,.faddr 1 (.t 36),none⟩,.quiet,18,262143⟩::⟨⟨none,.store 1 (.t 37) (.t 35),none⟩,.loud,19,524287⟩::[]))
(.seq (.reg (⟨some 38,.mov (.t 0),none⟩::⟨some 39,.mov (.t 2),none⟩::⟨some 40,.call 56 [(.t 38), (.t 39)],none⟩::[]))
(.seq (.reg (⟨some 6,.mov (.c (.bool true)),none⟩::[]))
.ret)))))))⟩
theorem c66_eq : compFn Tryz.prog 66 = some c66 := by kernel_rfl
/-- (*sodality/table.Table[sodality/api.Service]).Each -/
noncomputable def c67 : FnI := ⟨7, [.tmp 2],
(.seq (.reg (⟨some 2,.mov (.c .nilfn),none⟩::[]))
(.seq (.reg (⟨some 4,.mov (.t 0),none⟩::⟨some 5,.call 94 [(.t 4)],none⟩::⟨some 3,.alloc [.nilfn],none⟩::⟨none,.store 1 (.t 3) (.t 5),none⟩::[]))
(.seq (.reg (⟨some 6,.mkfn 95 [] [(.t 3)],none⟩::⟨some 2,.mov (.t 6),none⟩::[]))
.ret)))⟩
theorem c67_eq : compFn Tryz.prog 67 = some c67 := by kernel_rfl
/-- (*sodality/table.Table[sodality/api.Service]).Drop -/
noncomputable def c68 : FnI := ⟨41, [.tmp 6],
(.seq (.reg (⟨some 6,.mov (.c (.bool false)),none⟩::[]))
(.seq (.seq (.reg (⟨some 9,.mov (.t 0),none⟩::⟨some 10,.call 91 [(.t 9)],none⟩::[]))
(.cond (.t 10) (.seq (.reg (⟨some 6,.mov (.c (.bool false)),none⟩::[]))
.ret) .skip))
(.seq (.reg (⟨some 12,.mov (.t 0),none⟩::⟨some 13,.mov (.t 1),none⟩::⟨some 14,.call 96 [(.t 12), (.t 13)],none⟩::⟨some 11,.mov (.t 14),none⟩::⟨some 15,.extract (.t 11) 0,none⟩::⟨some 16,.extract (.t 11) 1,none⟩::⟨some 7,.mov (.t 15),none⟩::⟨some 8,.mov (.t 16),none⟩::[]))
(.seq (.seq (.reg (⟨some 17,.mov (.t 8),none⟩::⟨some 18,.un .not (.t 17),none⟩::[]))
(.cond (.t 18) (.seq (.reg (⟨some 6,.mov (.c (.bool false)),none⟩::[]))
.ret) .skip))
(.seq (.dreg (⟨⟨some 20,.buildSl 10 0 [] [],none⟩,.quiet,1,0⟩::⟨⟨some 21,.mov (.t 0),none⟩,.quiet,2,0⟩::⟨⟨some 22,.nilchk (.t 21),none⟩,.quiet,3,4⟩::⟨⟨some 23,.faddr 1 (.t 22),none⟩,.quiet,4,12⟩::⟨⟨some 24,.load false 1 (.t 23),none⟩,.load,5,28⟩::⟨⟨some 25,.mov (.t 7),none⟩,.quiet,6,0⟩::⟨⟨some 26,.slS 10 (.t 24) none (some (.t 25)) none,none⟩,.quiet,7,124⟩::⟨⟨some 27,.append 10 120 (.t 20) (.t 26),none⟩,.loud,8,254⟩::⟨⟨some 28,.mov (.t 0),none⟩,.quiet,9,0⟩::⟨⟨some 29,.nilchk (.t 28),none⟩,.quiet,10,512⟩::⟨⟨some 30,.faddr 1 (.t 29),none⟩,.quiet,11,1536⟩::⟨⟨some 31,.load false 1 (.t 30),none⟩,.load,12,3584⟩::⟨⟨some 32,.mov (.t 7),none⟩,.quiet,13,0⟩::⟨⟨some 33,.bin .add (.t 32) (.c (.int .i64 (.ofNat 1))),none⟩,.quiet,14,8192⟩::⟨⟨some 34,.slS 10 (.t 31) (some (.t 33)) none none,none⟩,.quiet,15,32256⟩::⟨⟨some 35,.append 10 120 (.t 27) (.t 34),none⟩,.loud,16,65534⟩::⟨⟨some 19,.mov (.t 0),none⟩,.quiet,0,0⟩::⟨⟨some 36,.nilchk (.t 19),none⟩,.quiet,17,131071⟩::⟨⟨some 37,.faddr 1 (.t 36),none⟩,.quiet,18,262143⟩::⟨⟨none,.store 1 (.t 37) (.t 35),none⟩,.loud,19,524287⟩::[]))
(.seq (.reg (⟨some 38,.mov (.t 0),none⟩::⟨some 39,.mov (.t 2),none⟩::⟨some 40,.call 57 [(.t 38), (.t 39)],none⟩::[]))
(.seq (.reg (⟨some 6,.mov (.c (.bool true)),none⟩::[]))
.ret)))))))⟩
theorem c68_eq : compFn Tryz.prog 68 = some c68 := by kernel_rfl
/-- (*sodality/roster.Roster).dropChecks -/
noncomputable def c69 : FnI := ⟨25, [],
(.seq (.reg (⟨some 3,.box (.t 0),none⟩::⟨some 4,.box (.t 1),none⟩::⟨some 5,.box (.t 2),none⟩::[]))
(.seq (.reg (⟨some 8,.load false 1 (.t 3),none⟩::⟨some 9,.nilchk (.t 8),none⟩::⟨some 10,.faddr 2 (.t 9),none⟩::⟨some 11,.load false 1 (.t 10),none⟩::⟨some 12,.call 97 [(.t 11)],none⟩::[]))
(.block 0 (.rangef (.t 12) [13, 14] (.seq (.reg (⟨some 6,.mov (.t 13),none⟩::[]))
(.reg (⟨some 7,.alloc [(.int .i64 (.ofNat 0)), (.str []), (.str []), (.str []), (.int .i64 (.ofNat 0)), (.int .u64 (.ofNat 0)), (.int .u64 (.ofNat 0))],none⟩::⟨none,.store 7 (.t 7) (.t 14),none⟩::[]))) (.block 1 (.seq (.reg (⟨some 15,.load false 1 (.t 4),none⟩::⟨some 16,.load true 7 (.t 7),none⟩::⟨some 17,.callv (.t 15) [(.t 16)],none⟩::[]))
(.cond (.t 17) (.dreg (⟨⟨some 18,.load false 1 (.t 3),none⟩,.load,0,0⟩::⟨⟨some 19,.nilchk (.t 18),none⟩,.quiet,1,1⟩::⟨⟨some 20,.faddr 2 (.t 19),none⟩,.quiet,2,3⟩::⟨⟨some 21,.load false 1 (.t 20),none⟩,.load,3,7⟩::⟨⟨some 22,.mov (.t 6),none⟩,.quiet,4,0⟩::⟨⟨some 23,.load false 1 (.t 5),none⟩,.load,5,0⟩::⟨⟨some 24,.call 50 [(.t 21), (.t 22), (.t 23)],none⟩,.loud,6,63⟩::[])) .skip)))))))⟩
theorem c69_eq : compFn Tryz.prog 69 = some c69 := by kernel_rfl
/-- (*sodality/roster.Roster).DropNode$1 -/
noncomputable def c70 : FnI := ⟨8, [.tmp 3],
(.seq (.reg (⟨some 2,.box (.t 0),none⟩::⟨some 3,.mov (.c (.bool false)),none⟩::[]))
(.seq (.reg (⟨some 4,.faddr 0 (.t 2),none⟩::⟨some 5,.load false 1 (.t 4),none⟩::⟨some 6,.load false 1 (.t 1),none⟩::⟨some 7,.bin .eql (.t 5) (.t 6),none⟩::⟨some 3,.mov (.t 7),none⟩::[]))
.ret))⟩
theorem c70_eq : compFn Tryz.prog 70 = some c70 := by kernel_rfl
/-- (*sodality/sodalityref19.Roster).dropServices -/
noncomputable def c71 : FnI := ⟨63, [],
(.seq (.reg (⟨some 10,.mov (.c .nilsl),none⟩::[]))
(.seq (.seq (.reg (⟨some 11,.mov (.c (.int .i64 (.ofNat 0))),none⟩::[]))
(.block 0 (.loop (.seq (.seq (.reg (⟨some 12,.mov (.t 11),none⟩::⟨some 13,.mov (.t 0),none⟩::⟨some 14,.nilchk (.t 13),none⟩::⟨some 15,.faddr 2 (.t 14),none⟩::⟨some 16,.load false 1 (.t 15),none⟩::⟨some 17,.len false (.t 16),none⟩::⟨some 18,.bin .lss (.t 12) (.t 17),none⟩::[]))
(.cond (.t 18) .skip (.exit 0)))
(.seq (.block 1 (.seq (.reg (⟨some 21,.mov (.t 0),none⟩::⟨some 22,.nilchk (.t 21),none⟩::⟨some 23,.faddr 2 (.t 22),none⟩::⟨some 24,.load false 1 (.t 23),none⟩::⟨some 25,.mov (.t 11),none⟩::⟨some 26,.idxS 7 (.t 24) (.t 25),none⟩::⟨some 27,.faddr 0 (.t 26),none⟩::⟨some 28,.load false 1 (.t 27),none⟩::⟨some 29,.mov (.t 1),none⟩::⟨some 30,.bin .eql (.t 28) (.t 29),none⟩::⟨some 31,.mov (.t 30),none⟩::⟨some 32,.mov (.t 2),some (31,true)⟩::⟨some 33,.mov (.t 32),some (31,true)⟩::⟨some 34,.mov (.t 0),some (33,false)⟩::⟨some 35,.nilchk (.t 34),some (33,false)⟩::⟨some 36,.faddr 2 (.t 35),some (33,false)⟩::⟨some 37,.load false 1 (.t 36),some (33,false)⟩::⟨some 38,.mov (.t 11),some (33,false)⟩::⟨some 39,.idxS 7 (.t 37) (.t 38),some (33,false)⟩::⟨some 40,.faddr 1 (.t 39),some (33,false)⟩::⟨some 41,.load false 1 (.t 40),some (33,false)⟩::⟨some 42,.mov (.t 3),some (33,false)⟩::⟨some 43,.bin .eql (.t 41) (.t 42),some (33,false)⟩::⟨some 44,.pick (.t 33) (.c (.bool true)) (.t 43),some (31,true)⟩::⟨some 45,.pick (.t 31) (.t 44) (.c (.bool false)),none⟩::[]))
(.cond (.t 45) (.reg (⟨some 46,.mov (.t 0),none⟩::⟨some 47,.mov (.t 4),none⟩::⟨some 48,.call 64 [(.t 46), (.c (.int .i64 (.ofNat 1))), (.t 47)],none⟩::[])) (.reg (⟨some 49,.mov (.t 10),none⟩::⟨some 50,.mov (.t 0),none⟩::⟨some 51,.nilchk (.t 50),none⟩::⟨some 52,.faddr 2 (.t 51),none⟩::⟨some 53,.load false 1 (.t 52),none⟩::⟨some 54,.mov (.t 11),none⟩::⟨some 55,.idxS 7 (.t 53) (.t 54),none⟩::⟨some 56,.load true 7 (.t 55),none⟩::⟨some 57,.buildSl 7 1 [(.int .i64 (.ofNat 0)), (.str []), (.str []), .nilsl, (.int .i64 (.ofNat 0)), (.int .u64 (.ofNat 0)), (.int .u64 (.ofNat 0))] [(0, 7, (.t 56))],none⟩::⟨some 58,.append 7 88 (.t 49) (.t 57),none⟩::⟨some 10,.mov (.t 58),none⟩::[])))))
(.reg (⟨some 19,.mov (.t 11),none⟩::⟨some 20,.bin .add (.t 19) (.c (.int .i64 (.ofNat 1))),none⟩::⟨some 11,.mov (.t 20),none⟩::[])))))))
(.reg (⟨some 59,.mov (.t 0),none⟩::⟨some 60,.mov (.t 10),none⟩::⟨some 61,.nilchk (.t 59),none⟩::⟨some 62,.faddr 2 (.t 61),none⟩::⟨none,.store 1 (.t 62) (.t 60),none⟩::[]))))⟩
theorem c71_eq : compFn Tryz.prog 71 = some c71 := by kernel_rfl
/-- (*sodality/sodalityref19.Roster).dropChecks -/
noncomputable def c72 : FnI := ⟨63, [],
(.seq (.reg (⟨some 10,.mov (.c .nilsl),none⟩::[]))
(.seq (.seq (.reg (⟨some 11,.mov (.c (.int .i64 (.ofNat 0))),none⟩::[]))
(.block 0 (.loop (.seq (.seq (.reg (⟨some 12,.mov (.t 11),none⟩::⟨some 13,.mov (.t 0),none⟩::⟨some 14,.nilchk (.t 13),none⟩::⟨some 15,.faddr 3 (.t 14),none⟩::⟨some 16,.load false 1 (.t 15),none⟩::⟨some 17,.len false (.t 16),none⟩::⟨some 18,.bin .lss (.t 12) (.t 17),none⟩::[]))
(.cond (.t 18) .skip (.exit 0)))
(.seq (.block 1 (.seq (.reg (⟨some 21,.mov (.t 0),none⟩::⟨some 22,.nilchk (.t 21),none⟩::⟨some 23,.faddr 3 (.t 22),none⟩::⟨some 24,.load false 1 (.t 23),none⟩::⟨some 25,.mov (.t 11),none⟩::⟨some 26,.idxS 7 (.t 24) (.t 25),none⟩::⟨some 27,.faddr 0 (.t 26),none⟩::⟨some 28,.load false 1 (.t 27),none⟩::⟨some 29,.mov (.t 1),none⟩::⟨some 30,.bin .eql (.t 28) (.t 29),none⟩::⟨some 31,.mov (.t 30),none⟩::⟨some 32,.mov (.t 2),some (31,true)⟩::⟨some 33,.mov (.t 32),some (31,true)⟩::⟨some 34,.mov (.t 0),some (33,false)⟩::⟨some 35,.nilchk (.t 34),some (33,false)⟩::⟨some 36,.faddr 3 (.t 35),some (33,false)⟩::⟨some 37,.load false 1 (.t 36),some (33,false)⟩::⟨some 38,.mov (.t 11),some (33,false)⟩::⟨some 39,.idxS 7 (.t 37) (.t 38),some (33,false)⟩::⟨some 40,.faddr 2 (.t 39),some (33,false)⟩::⟨some 41,.load false 1 (.t 40),some (33,false)⟩::⟨some 42,.mov (.t 3),some (33,false)⟩::⟨some 43,.bin .eql (.t 41) (.t 42),some (33,false)⟩::⟨some 44,.pick (.t 33) (.c (.bool true)) (.t 43),some (31,true)⟩::⟨some 45,.pick (.t 31) (.t 44) (.c (.bool false)),none⟩::[]))
(.cond (.t 45) (.reg (⟨some 46,.mov (.t 0),none⟩::⟨some 47,.mov (.t 4),none⟩::⟨some 48,.call 64 [(.t 46), (.c (.int .i64 (.ofNat 2))), (.t 47)],none⟩::[])) (.reg (⟨some 49,.mov (.t 10),none⟩::⟨some 50,.mov (.t 0),none⟩::⟨some 51,.nilchk (.t 50),none⟩::⟨some 52,.faddr 3 (.t 51),none⟩::⟨some 53,.load false 1 (.t 52),none⟩::⟨some 54,.mov (.t 11),none⟩::⟨some 55,.idxS 7 (.t 53) (.t 54),none⟩::⟨some 56,.load true 7 (.t 55),none⟩::⟨some 57,.buildSl 7 1 [(.int .i64 (.ofNat 0)), (.str []), (.str []), (.str []), (.int .i64 (.ofNat 0)), (.int .u64 (.ofNat 0)), (.int .u64 (.ofNat 0))] [(0, 7, (.t 56))],none⟩::⟨some 58,.append 7 80 (.t 49) (.t 57),none⟩::⟨some 10,.mov (.t 58),none⟩::[])))))
(.reg (⟨some 19,.mov (.t 11),none⟩::⟨some 20,.bin .add (.t 19) (.c (.int .i64 (.ofNat 1))),none⟩::⟨some 11,.mov (.t 20),none⟩::[])))))))
(.reg (⟨some 59,.mov (.t 0),none⟩::⟨some 60,.mov (.t 10),none⟩::⟨some 61,.nilchk (.t 59),none⟩::⟨some 62,.faddr 3 (.t 61),none⟩::⟨none,.store 1 (.t 62) (.t 60),none⟩::[]))))⟩
theorem c72_eq : compFn Tryz.prog 72 = some c72 := by kernel_rfl
/-- (*sodality/roster.Roster).wrongService -/
noncomputable def c73 : FnI := ⟨43, [.tmp 4],
(.seq (.reg (⟨some 3,.box (.t 1),none⟩::⟨some 4,.mov (.c (.int .i64 (.ofNat 0))),none⟩::[]))
(.seq (.block 0 (.seq (.reg (⟨some 6,.faddr 0 (.t 3),none⟩::⟨some 7,.load false 1 (.t 6),none⟩::⟨some 8,.call 49 [(.t 7)],none⟩::⟨some 9,.un .not (.t 8),none⟩::⟨some 10,.mov (.t 9),none⟩::⟨some 11,.faddr 4 (.t 3),some (10,false)⟩::⟨some 12,.load false 1 (.t 11),some (10,false)⟩::⟨some 13,.bin .lss (.t 12) (.c (.int .i64 (.ofNat 0))),some (10,false)⟩::⟨some 14,.pick (.t 10) (.c (.bool true)) (.t 13),none⟩::⟨some 15,.mov (.t 14),none⟩::⟨some 16,.faddr 4 (.t 3),some (15,false)⟩::⟨some 17,.load false 1 (.t 16),some (15,false)⟩::⟨some 18,.bin .gtr (.t 17) (.c (.int .i64 (.ofNat 65535))),some (15,false)⟩::⟨some 19,.pick (.t 15) (.c (.bool true)) (.t 18),none⟩::⟨some 5,.mov (.t 19),none⟩::[]))
(.cond (.t 5) (.seq (.reg (⟨some 4,.mov (.c (.int .i64 (.ofNat 2))),none⟩::[]))
.ret) (.seq (.reg (⟨some 21,.faddr 1 (.t 3),none⟩::⟨some 22,.load false 1 (.t 21),none⟩::⟨some 23,.call 86 [(.t 22)],none⟩::⟨some 24,.un .not (.t 23),none⟩::⟨some 25,.mov (.t 24),none⟩::⟨some 26,.faddr 2 (.t 3),some (25,false)⟩::⟨some 27,.load false 1 (.t 26),some (25,false)⟩::⟨some 28,.call 86 [(.t 27)],some (25,false)⟩::⟨some 29,.un .not (.t 28),some (25,false)⟩::⟨some 30,.pick (.t 25) (.c (.bool true)) (.t 29),none⟩::⟨some 31,.mov (.t 30),none⟩::⟨some 32,.faddr 3 (.t 3),some (31,false)⟩::⟨some 33,.load false 1 (.t 32),some (31,false)⟩::⟨some 34,.call 98 [(.t 33)],some (31,false)⟩::⟨some 35,.un .not (.t 34),some (31,false)⟩::⟨some 36,.pick (.t 31) (.c (.bool true)) (.t 35),none⟩::⟨some 20,.mov (.t 36),none⟩::[]))
(.cond (.t 20) (.seq (.reg (⟨some 4,.mov (.c (.int .i64 (.ofNat 10))),none⟩::[]))
.ret) (.seq (.reg (⟨some 38,.mov (.t 0),none⟩::⟨some 39,.faddr 0 (.t 3),none⟩::⟨some 40,.load false 1 (.t 39),none⟩::⟨some 41,.call 65 [(.t 38), (.t 40)],none⟩::⟨some 42,.un .not (.t 41),none⟩::⟨some 37,.mov (.t 42),none⟩::[]))
(.cond (.t 37) (.seq (.reg (⟨some 4,.mov (.c (.int .i64 (.ofNat 4))),none⟩::[]))
.ret) .skip)))))))
(.seq (.reg (⟨some 4,.mov (.c (.int .i64 (.ofNat 0))),none⟩::[]))
.ret)))⟩
theorem c73_eq : compFn Tryz.prog 73 = some c73 := by kernel_rfl
/-- (*sodality/table.Table[sodality/api.Service]).Put -/
noncomputable def c74 : FnI := ⟨94, [.cell 8 true 10, .tmp 9],
(.seq (.reg (⟨some 6,.box (.t 2),none⟩::⟨some 8,.alloc [(.str []), (.int .i64 (.ofNat 0)), (.str []), (.str []), .nilsl, (.int .i64 (.ofNat 0)), (.int .u64 (.ofNat 0)), (.int .u64 (.ofNat 0)), (.int .u64 (.ofNat 0)), (.int .u64 (.ofNat 0))],none⟩::⟨some 9,.mov (.c (.int .i64 (.ofNat 0))),none⟩::[]))
(.seq (.seq (.reg (⟨some 13,.mov (.t 0),none⟩::⟨some 14,.call 91 [(.t 13)],none⟩::[]))
(.cond (.t 14) (.seq (.reg (⟨some 15,.build [(.str []), (.int .i64 (.ofNat 0)), (.str []), (.str []), .nilsl, (.int .i64 (.ofNat 0)), (.int .u64 (.ofNat 0)), (.int .u64 (.ofNat 0)), (.int .u64 (.ofNat 0)), (.int .u64 (.ofNat 0))] [],none⟩::⟨none,.store 10 (.t 8) (.t 15),none⟩::⟨some 9,.mov (.c (.int .i64 (.ofNat 1))),none⟩::[]))
.ret) .skip))
(.seq (.reg (⟨some 17,.mov (.t 0),none⟩::⟨some 18,.mov (.t 1),none⟩::⟨some 19,.call 96 [(.t 17), (.t 18)],none⟩::⟨some 16,.mov (.t 19),none⟩::⟨some 20,.extract (.t 16) 0,none⟩::⟨some 21,.extract (.t 16) 1,none⟩::⟨some 10,.mov (.t 20),none⟩::⟨some 11,.mov (.t 21),none⟩::[]))
(.seq (.seq (.dreg (⟨⟨some 22,.mov (.t 11),none⟩,.quiet,0,0⟩::⟨⟨some 23,.un .not (.t 22),none⟩,.quiet,1,1⟩::⟨⟨some 24,.mov (.t 23),none⟩,.quiet,2,3⟩::⟨⟨some 25,.mov (.t 0),some (24,true)⟩,.quiet,3,7⟩::⟨⟨some 26,.nilchk (.t 25),some (24,true)⟩,.quiet,4,15⟩::⟨⟨some 27,.faddr 1 (.t 26),some (24,true)⟩,.quiet,5,31⟩::⟨⟨some 28,.load false 1 (.t 27),some (24,true)⟩,.load,6,63⟩::⟨⟨some 29,.len false (.t 28),some (24,true)⟩,.quiet,7,127⟩::⟨⟨some 30,.mov (.t 0),some (24,true)⟩,.quiet,8,7⟩::⟨⟨some 31,.nilchk (.t 30),some (24,true)⟩,.quiet,9,263⟩::⟨⟨some 32,.faddr 0 (.t 31),some (24,true)⟩,.quiet,10,775⟩::⟨⟨some 33,.load false 1 (.t 32),some (24,true)⟩,.load,11,1799⟩::⟨⟨some 34,.bin .geq (.t 29) (.t 33),some (24,true)⟩,.quiet,12,4095⟩::⟨⟨some 35,.pick (.t 24) (.t 34) (.c (.bool false)),none⟩,.quiet,13,8191⟩::[]))
(.cond (.t 35) (.seq (.reg (⟨some 36,.build [(.str []), (.int .i64 (.ofNat 0)), (.str []), (.str []), .nilsl, (.int .i64 (.ofNat 0)), (.int .u64 (.ofNat 0)), (.int .u64 (.ofNat 0)), (.int .u64 (.ofNat 0)), (.int .u64 (.ofNat 0))] [],none⟩::⟨none,.store 10 (.t 8) (.t 36),none⟩::⟨some 9,.mov (.c (.int .i64 (.ofNat 5))),none⟩::[]))
.ret) .skip))
(.seq (.reg (⟨some 37,.mov (.t 1),none⟩::⟨some 38,.load true 7 (.t 6),none⟩::⟨some 39,.mov (.t 3),none⟩::⟨some 40,.mov (.t 3),none⟩::⟨some 41,.build [(.str []), (.int .i64 (.ofNat 0)), (.str []), (.str []), .nilsl, (.int .i64 (.ofNat 0)), (.int .u64 (.ofNat 0)), (.int .u64 (.ofNat 0)), (.int .u64 (.ofNat 0)), (.int .u64 (.ofNat 0))] [(0, 1, (.t 37)), (1, 7, (.t 38)), (8, 1, (.t 39)), (9, 1, (.t 40))],none⟩::⟨some 12,.alloc [(.str []), (.int .i64 (.ofNat 0)), (.str []), (.str []), .nilsl, (.int .i64 (.ofNat 0)), (.int .u64 (.ofNat 0)), (.int .u64 (.ofNat 0)), (.int .u64 (.ofNat 0)), (.int .u64 (.ofNat 0))],none⟩::⟨none,.store 10 (.t 12) (.t 41),none⟩::[]))
(.seq (.seq (.reg (⟨some 42,.mov (.t 11),none⟩::[]))
(.cond (.t 42) (.seq (.reg (⟨some 43,.mov (.t 0),none⟩::⟨some 44,.nilchk (.t 43),none⟩::⟨some 45,.faddr 1 (.t 44),none⟩::⟨some 46,.load false 1 (.t 45),none⟩::⟨some 47,.mov (.t 10),none⟩::⟨some 48,.idxS 10 (.t 46) (.t 47),none⟩::⟨some 49,.faddr 8 (.t 48),none⟩::⟨some 50,.load false 1 (.t 49),none⟩::⟨some 51,.faddr 8 (.t 12),none⟩::⟨none,.store 1 (.t 51) (.t 50),none⟩::[]))
(.dreg (⟨⟨some 52,.mov (.t 0),none⟩,.quiet,0,0⟩::⟨⟨some 53,.nilchk (.t 52),none⟩,.quiet,1,1⟩::⟨⟨some 54,.faddr 1 (.t 53),none⟩,.quiet,2,3⟩::⟨⟨some 55,.load false 1 (.t 54),none⟩,.load,3,7⟩::⟨⟨some 56,.mov (.t 10),none⟩,.quiet,4,0⟩::⟨⟨some 57,.load true 10 (.t 12),none⟩,.load,5,0⟩::⟨⟨some 58,.idxS 10 (.t 55) (.t 56),none⟩,.quiet,6,63⟩::⟨⟨none,.store 10 (.t 58) (.t 57),none⟩,.loud,7,127⟩::[]))) (.seq (.reg (⟨some 59,.mov (.t 0),none⟩::⟨some 60,.mov (.t 0),none⟩::⟨some 61,.nilchk (.t 60),none⟩::⟨some 62,.faddr 1 (.t 61),none⟩::⟨some 63,.load false 1 (.t 62),none⟩::⟨some 64,.build [(.str []), (.int .i64 (.ofNat 0)), (.str []), (.str []), .nilsl, (.int .i64 (.ofNat 0)), (.int .u64 (.ofNat 0)), (.int .u64 (.ofNat 0)), (.int .u64 (.ofNat 0)), (.int .u64 (.ofNat 0))] [],none⟩::⟨some 65,.buildSl 10 1 [(.str []), (.int .i64 (.ofNat 0)), (.str []), (.str []), .nilsl, (.int .i64 (.ofNat 0)), (.int .u64 (.ofNat 0)), (.int .u64 (.ofNat 0)), (.int .u64 (.ofNat 0)), (.int .u64 (.ofNat 0))] [(0, 10, (.t 64))],none⟩::⟨some 66,.append 10 120 (.t 63) (.t 65),none⟩::⟨some 67,.nilchk (.t 59),none⟩::⟨some 68,.faddr 1 (.t 67),none⟩::⟨none,.store 1 (.t 68) (.t 66),none⟩::[]))
(.seq (.dreg (⟨⟨some 69,.mov (.t 0),none⟩,.quiet,0,0⟩::⟨⟨some 70,.nilchk (.t 69),none⟩,.quiet,1,1⟩::⟨⟨some 71,.faddr 1 (.t 70),none⟩,.quiet,2,3⟩::⟨⟨some 72,.load false 1 (.t 71),none⟩,.load,3,7⟩::⟨⟨some 73,.mov (.t 10),none⟩,.quiet,4,0⟩::⟨⟨some 74,.bin .add (.t 73) (.c (.int .i64 (.ofNat 1))),none⟩,.quiet,5,16⟩::⟨⟨some 75,.slS 10 (.t 72) (some (.t 74)) none none,none⟩,.quiet,6,63⟩::⟨⟨some 76,.mov (.t 0),none⟩,.quiet,7,0⟩::⟨⟨some 77,.nilchk (.t 76),none⟩,.quiet,8,128⟩::⟨⟨some 78,.faddr 1 (.t 77),none⟩,.quiet,9,384⟩::⟨⟨some 79,.load false 1 (.t 78),none⟩,.load,10,896⟩::⟨⟨some 80,.mov (.t 10),none⟩,.quiet,11,0⟩::⟨⟨some 81,.slS 10 (.t 79) (some (.t 80)) none none,none⟩,.quiet,12,3968⟩::⟨⟨some 82,.copy 10 (.t 75) (.t 81),none⟩,.loud,13,8191⟩::[]))
(.dreg (⟨⟨some 83,.mov (.t 0),none⟩,.quiet,0,0⟩::⟨⟨some 84,.nilchk (.t 83),none⟩,.quiet,1,1⟩::⟨⟨some 85,.faddr 1 (.t 84),none⟩,.quiet,2,3⟩::⟨⟨some 86,.load false 1 (.t 85),none⟩,.load,3,7⟩::⟨⟨some 87,.mov (.t 10),none⟩,.quiet,4,0⟩::⟨⟨some 88,.load true 10 (.t 12),none⟩,.load,5,0⟩::⟨⟨some 89,.idxS 10 (.t 86) (.t 87),none⟩,.quiet,6,63⟩::⟨⟨none,.store 10 (.t 89) (.t 88),none⟩,.loud,7,127⟩::[]))))))
(.seq (.reg (⟨some 90,.mov (.t 0),none⟩::⟨some 91,.mov (.t 3),none⟩::⟨some 92,.call 57 [(.t 90), (.t 91)],none⟩::[]))
(.seq (.reg (⟨some 93,.load true 10 (.t 12),none⟩::⟨none,.store 10 (.t 8) (.t 93),none⟩::⟨some 9,.mov (.c (.int .i64 (.ofNat 0))),none⟩::[]))
.ret))))))))⟩
theorem c74_eq : compFn Tryz.prog 74 = some c74 := by kernel_rfl
/-- (*sodality/sodalityref19.Roster).WrongService -/
noncomputable def c75 : FnI := ⟨44, [.tmp 4],
(.seq (.reg (⟨some 3,.box (.t 1),none⟩::⟨some 4,.mov (.c (.int .i64 (.ofNat 0))),none⟩::[]))
(.seq (.seq (.reg (⟨some 5,.faddr 0 (.t 3),none⟩::⟨some 6,.load false 1 (.t 5),none⟩::⟨some 7,.bin .lss (.t 6) (.c (.int .i64 (.ofNat 0))),none⟩::⟨some 8,.mov (.t 7),none⟩::⟨some 9,.faddr 0 (.t 3),some (8,false)⟩::⟨some 10,.load false 1 (.t 9),some (8,false)⟩::⟨some 11,.bin .gtr (.t 10) (.c (.int .i64 (.ofNat 7))),some (8,false)⟩::⟨some 12,.pick (.t 8) (.c (.bool true)) (.t 11),none⟩::⟨some 13,.mov (.t 12),none⟩::⟨some 14,.faddr 4 (.t 3),some (13,false)⟩::⟨some 15,.load false 1 (.t 14),some (13,false)⟩::⟨some 16,.bin .lss (.t 15) (.c (.int .i64 (.ofNat 0))),some (13,false)⟩::⟨some 17,.pick (.t 13) (.c (.bool true)) (.t 16),none⟩::⟨some 18,.mov (.t 17),none⟩::⟨some 19,.faddr 4 (.t 3),some (18,false)⟩::⟨some 20,.load false 1 (.t 19),some (18,false)⟩::⟨some 21,.bin .gtr (.t 20) (.c (.int .i64 (.ofNat 65535))),some (18,false)⟩::⟨some 22,.pick (.t 18) (.c (.bool true)) (.t 21),none⟩::[]))
(.cond (.t 22) (.seq (.reg (⟨some 4,.mov (.c (.int .i64 (.ofNat 2))),none⟩::[]))
.ret) .skip))
(.seq (.seq (.reg (⟨some 23,.faddr 1 (.t 3),none⟩::⟨some 24,.load false 1 (.t 23),none⟩::⟨some 25,.call 99 [(.t 24)],none⟩::⟨some 26,.un .not (.t 25),none⟩::⟨some 27,.mov (.t 26),none⟩::⟨some 28,.faddr 2 (.t 3),some (27,false)⟩::⟨some 29,.load false 1 (.t 28),some (27,false)⟩::⟨some 30,.call 99 [(.t 29)],some (27,false)⟩::⟨some 31,.un .not (.t 30),some (27,false)⟩::⟨some 32,.pick (.t 27) (.c (.bool true)) (.t 31),none⟩::⟨some 33,.mov (.t 32),none⟩::⟨some 34,.faddr 3 (.t 3),some (33,false)⟩::⟨some 35,.load false 1 (.t 34),some (33,false)⟩::⟨some 36,.call 100 [(.t 35)],some (33,false)⟩::⟨some 37,.un .not (.t 36),some (33,false)⟩::⟨some 38,.pick (.t 33) (.c (.bool true)) (.t 37),none⟩::[]))
(.cond (.t 38) (.seq (.reg (⟨some 4,.mov (.c (.int .i64 (.ofNat 10))),none⟩::[]))
.ret) .skip))
(.seq (.seq (.reg (⟨some 39,.mov (.t 0),none⟩::⟨some 40,.faddr 0 (.t 3),none⟩::⟨some 41,.load false 1 (.t 40),none⟩::⟨some 42,.call 63 [(.t 39), (.t 41)],none⟩::⟨some 43,.un .not (.t 42),none⟩::[]))
(.cond (.t 43) (.seq (.reg (⟨some 4,.mov (.c (.int .i64 (.ofNat 4))),none⟩::[]))
.ret) .skip))
(.seq (.reg (⟨some 4,.mov (.c (.int .i64 (.ofNat 0))),none⟩::[]))
.ret)))))⟩
theorem c75_eq : compFn Tryz.prog 75 = some c75 := by kernel_rfl
/-- (*sodality/sodalityref19.Roster).has -/
noncomputable def c76 : FnI := ⟨39, [.tmp 6],
(.seq (.reg (⟨some 6,.mov (.c (.bool false)),none⟩::[]))
(.seq (.seq (.reg (⟨some 7,.mov (.c (.int .i64 (.ofNat 0))),none⟩::[]))
(.block 0 (.loop (.seq (.seq (.reg (⟨some 8,.mov (.t 7),none⟩::⟨some 9,.mov (.t 0),none⟩::⟨some 10,.nilchk (.t 9),none⟩::⟨some 11,.faddr 2 (.t 10),none⟩::⟨some 12,.load false 1 (.t 11),none⟩::⟨some 13,.len false (.t 12),none⟩::⟨some 14,.bin .lss (.t 8) (.t 13),none⟩::[]))
(.cond (.t 14) .skip (.exit 0)))
(.seq (.block 1 (.seq (.reg (⟨some 17,.mov (.t 0),none⟩::⟨some 18,.nilchk (.t 17),none⟩::⟨some 19,.faddr 2 (.t 18),none⟩::⟨some 20,.load false 1 (.t 19),none⟩::⟨some 21,.mov (.t 7),none⟩::⟨some 22,.idxS 7 (.t 20) (.t 21),none⟩::⟨some 23,.faddr 0 (.t 22),none⟩::⟨some 24,.load false 1 (.t 23),none⟩::⟨some 25,.mov (.t 1),none⟩::⟨some 26,.bin .eql (.t 24) (.t 25),none⟩::⟨some 27,.mov (.t 26),none⟩::⟨some 28,.mov (.t 0),some (27,true)⟩::⟨some 29,.nilchk (.t 28),some (27,true)⟩::⟨some 30,.faddr 2 (.t 29),some (27,true)⟩::⟨some 31,.load false 1 (.t 30),some (27,true)⟩::⟨some 32,.mov (.t 7),some (27,true)⟩::⟨some 33,.idxS 7 (.t 31) (.t 32),some (27,true)⟩::⟨some 34,.faddr 1 (.t 33),some (27,true)⟩::⟨some 35,.load false 1 (.t 34),some (27,true)⟩::⟨some 36,.mov (.t 2),some (27,true)⟩::⟨some 37,.bin .eql (.t 35) (.t 36),some (27,true)⟩::⟨some 38,.pick (.t 27) (.t 37) (.c (.bool false)),none⟩::[]))
(.cond (.t 38) (.seq (.reg (⟨some 6,.mov (.c (.bool true)),none⟩::[]))
.ret) .skip)))
(.reg (⟨some 15,.mov (.t 7),none⟩::⟨some 16,.bin .add (.t 15) (.c (.int .i64 (.ofNat 1))),none⟩::⟨some 7,.mov (.t 16),none⟩::[])))))))
(.seq (.reg (⟨some 6,.mov (.c (.bool false)),none⟩::[]))
.ret)))⟩
theorem c76_eq : compFn Tryz.prog 76 = some c76 := by kernel_rfl
/-- (*sodality/roster.Roster).DropService$1 -/
noncomputable def c77 : FnI := ⟨15, [.tmp 4],
(.seq (.reg (⟨some 3,.box (.t 0),none⟩::⟨some 4,.mov (.c (.bool false)),none⟩::[]))
(.seq (.reg (⟨some 5,.faddr 0 (.t 3),none⟩::⟨some 6,.load false 1 (.t 5),none⟩::⟨some 7,.load false 1 (.t 1),none⟩::⟨some 8,.bin .eql (.t 6) (.t 7),none⟩::⟨some 9,.mov (.t 8),none⟩::⟨some 10,.faddr 2 (.t 3),some (9,true)⟩::⟨some 11,.load false 1 (.t 10),some (9,true)⟩::⟨some 12,.load false 1 (.t 2),some (9,true)⟩::⟨some 13,.bin .eql (.t 11) (.t 12),some (9,true)⟩::⟨some 14,.pick (.t 9) (.t 13) (.c (.bool false)),none⟩::⟨some 4,.mov (.t 14),none⟩::[]))
.ret))⟩
theorem c77_eq : compFn Tryz.prog 77 = some c77 := by kernel_rfl
/-- (*sodality/sodalityref19.Roster).WrongCheck -/
noncomputable def c78 : FnI := ⟨61, [.tmp 4],
(.seq (.reg (⟨some 3,.box (.t 1),none⟩::⟨some 4,.mov (.c (.int .i64 (.ofNat 0))),none⟩::[]))
(.seq (.seq (.reg (⟨some 5,.faddr 0 (.t 3),none⟩::⟨some 6,.load false 1 (.t 5),none⟩::⟨some 7,.bin .lss (.t 6) (.c (.int .i64 (.ofNat 0))),none⟩::⟨some 8,.mov (.t 7),none⟩::⟨some 9,.faddr 0 (.t 3),some (8,false)⟩::⟨some 10,.load false 1 (.t 9),some (8,false)⟩::⟨some 11,.bin .gtr (.t 10) (.c (.int .i64 (.ofNat 7))),some (8,false)⟩::⟨some 12,.pick (.t 8) (.c (.bool true)) (.t 11),none⟩::⟨some 13,.mov (.t 12),none⟩::⟨some 14,.faddr 4 (.t 3),some (13,false)⟩::⟨some 15,.load false 1 (.t 14),some (13,false)⟩::⟨some 16,.bin .lss (.t 15) (.c (.int .i64 (.ofNat 0))),some (13,false)⟩::⟨some 17,.pick (.t 13) (.c (.bool true)) (.t 16),none⟩::⟨some 18,.mov (.t 17),none⟩::⟨some 19,.faddr 4 (.t 3),some (18,false)⟩::⟨some 20,.load false 1 (.t 19),some (18,false)⟩::⟨some 21,.bin .gtr (.t 20) (.c (.int .i64 (.ofNat 3))),some (18,false)⟩::⟨some 22,.pick (.t 18) (.c (.bool true)) (.t 21),none⟩::[]))
(.cond (.t 22) (.seq (.reg (⟨some 4,.mov (.c (.int .i64 (.ofNat 2))),none⟩::[]))
.ret) .skip))
(.seq (.seq (.reg (⟨some 23,.faddr 1 (.t 3),none⟩::⟨some 24,.load false 1 (.t 23),none⟩::⟨some 25,.call 99 [(.t 24)],none⟩::⟨some 26,.un .not (.t 25),none⟩::⟨some 27,.mov (.t 26),none⟩::⟨some 28,.faddr 2 (.t 3),some (27,false)⟩::⟨some 29,.load false 1 (.t 28),some (27,false)⟩::⟨some 30,.bin .neq (.t 29) (.c (.str [])),some (27,false)⟩::⟨some 31,.mov (.t 30),some (27,false)⟩::⟨some 32,.faddr 2 (.t 3),some (31,true)⟩::⟨some 33,.load false 1 (.t 32),some (31,true)⟩::⟨some 34,.call 99 [(.t 33)],some (31,true)⟩::⟨some 35,.un .not (.t 34),some (31,true)⟩::⟨some 36,.pick (.t 31) (.t 35) (.c (.bool false)),some (27,false)⟩::⟨some 37,.pick (.t 27) (.c (.bool true)) (.t 36),none⟩::[]))
(.cond (.t 37) (.seq (.reg (⟨some 4,.mov (.c (.int .i64 (.ofNat 10))),none⟩::[]))
.ret) .skip))
(.seq (.seq (.reg (⟨some 38,.faddr 3 (.t 3),none⟩::⟨some 39,.load false 1 (.t 38),none⟩::⟨some 40,.len true (.t 39),none⟩::⟨some 41,.bin .gtr (.t 40) (.c (.int .i64 (.ofNat 32))),none⟩::[]))
(.cond (.t 41) (.seq (.reg (⟨some 4,.mov (.c (.int .i64 (.ofNat 3))),none⟩::[]))
.ret) .skip))
(.seq (.seq (.reg (⟨some 42,.mov (.t 0),none⟩::⟨some 43,.faddr 0 (.t 3),none⟩::⟨some 44,.load false 1 (.t 43),none⟩::⟨some 45,.call 63 [(.t 42), (.t 44)],none⟩::⟨some 46,.un .not (.t 45),none⟩::⟨some 47,.mov (.t 46),none⟩::⟨some 48,.faddr 2 (.t 3),some (47,false)⟩::⟨some 49,.load false 1 (.t 48),some (47,false)⟩::⟨some 50,.bin .neq (.t 49) (.c (.str [])),some (47,false)⟩::⟨some 51,.mov (.t 50),some (47,false)⟩::⟨some 52,.mov (.t 0),some (51,true)⟩::⟨some 53,.faddr 0 (.t 3),some (51,true)⟩::⟨some 54,.load false 1 (.t 53),some (51,true)⟩::⟨some 55,.faddr 2 (.t 3),some (51,true)⟩::⟨some 56,.load false 1 (.t 55),some (51,true)⟩::⟨some 57,.call 76 [(.t 52), (.t 54), (.t 56)],some (51,true)⟩::⟨some 58,.un .not (.t 57),some (51,true)⟩::⟨some 59,.pick (.t 51) (.t 58) (.c (.bool false)),some (47,false)⟩::⟨some 60,.pick (.t 47) (.c (.bool true)) (.t 59),none⟩::[]))
(.cond (.t 60) (.seq (.reg (⟨some 4,.mov (.c (.int .i64 (.ofNat 4))),none⟩::[]))
.ret) .skip))
(.seq (.reg (⟨some 4,.mov (.c (.int .i64 (.ofNat 0))),none⟩::[]))
.ret))))))⟩
theorem c78_eq : compFn Tryz.prog 78 = some c78 := by kernel_rfl
/-- (*sodality/table.Table[sodality/api.Node]).Copy -/
noncomputable def c79 : FnI := ⟨17, [.tmp 2],
(.seq (.reg (⟨some 2,.mov (.c .nilp),none⟩::[]))
(.seq (.seq (.reg (⟨some 3,.mov (.t 0),none⟩::⟨some 4,.call 90 [(.t 3)],none⟩::[]))
(.cond (.t 4) (.seq (.reg (⟨some 2,.mov (.c .nilp),none⟩::[]))
.ret) .skip))
(.seq (.dreg (⟨⟨some 9,.mov (.t 0),none⟩,.quiet,4,0⟩::⟨⟨some 10,.call 83 [(.t 9)],none⟩,.loud,5,16⟩::⟨⟨some 5,.mov (.t 0),none⟩,.quiet,0,0⟩::⟨⟨some 6,.nilchk (.t 5),none⟩,.quiet,1,1⟩::⟨⟨some 7,.faddr 0 (.t 6),none⟩,.quiet,2,3⟩::⟨⟨some 8,.load false 1 (.t 7),none⟩,.load,3,7⟩::⟨⟨some 11,.mov (.t 0),none⟩,.quiet,6,0⟩::⟨⟨some 12,.nilchk (.t 11),none⟩,.quiet,7,64⟩::⟨⟨some 13,.faddr 2 (.t 12),none⟩,.quiet,8,192⟩::⟨⟨some 14,.load false 1 (.t 13),none⟩,.load,9,448⟩::⟨⟨some 15,.build [(.int .i64 (.ofNat 0)), .nilsl, (.int .u64 (.ofNat 0))] [(0, 1, (.t 8)), (1, 1, (.t 10)), (2, 1, (.t 14))],none⟩,.quiet,10,1023⟩::⟨⟨some 16,.box (.t 15),none⟩,.quiet,11,2047⟩::⟨⟨some 2,.mov (.t 16),none⟩,.quiet,12,4095⟩::[]))
.ret)))⟩
theorem c79_eq : compFn Tryz.prog 79 = some c79 := by kernel_rfl
/-- (*sodality/table.Table[sodality/api.Service]).Copy -/
noncomputable def c80 : FnI := ⟨17, [.tmp 2],
(.seq (.reg (⟨some 2,.mov (.c .nilp),none⟩::[]))
(.seq (.seq (.reg (⟨some 3,.mov (.t 0),none⟩::⟨some 4,.call 91 [(.t 3)],none⟩::[]))
(.cond (.t 4) (.seq (.reg (⟨some 2,.mov (.c .nilp),none⟩::[]))
.ret) .skip))
(.seq (.dreg (⟨⟨some 9,.mov (.t 0),none⟩,.quiet,4,0⟩::⟨⟨some 10,.call 84 [(.t 9)],none⟩,.loud,5,16⟩::⟨⟨some 5,.mov (.t 0),none⟩,.quiet,0,0⟩::⟨⟨some 6,.nilchk (.t 5),none⟩,.quiet,1,1⟩::⟨⟨some 7,.faddr 0 (.t 6),none⟩,.quiet,2,3⟩::⟨⟨some 8,.load false 1 (.t 7),none⟩,.load,3,7⟩::⟨⟨some 11,.mov (.t 0),none⟩,.quiet,6,0⟩::⟨⟨some 12,.nilchk (.t 11),none⟩,.quiet,7,64⟩::⟨⟨some 13,.faddr 2 (.t 12),none⟩,.quiet,8,192⟩::⟨⟨some 14,.load false 1 (.t 13),none⟩,.load,9,448⟩::⟨⟨some 15,.build [(.int .i64 (.ofNat 0)), .nilsl, (.int .u64 (.ofNat 0))] [(0, 1, (.t 8)), (1, 1, (.t 10)), (2, 1, (.t 14))],none⟩,.quiet,10,1023⟩::⟨⟨some 16,.box (.t 15),none⟩,.quiet,11,2047⟩::⟨⟨some 2,.mov (.t 16),none⟩,.quiet,12,4095⟩::[]))
.ret)))⟩
theorem c80_eq : compFn Tryz.prog 80 = some c80 := by kernel_rfl
/-- (*sodality/table.Table[sodality/api.Check]).Copy -/
noncomputable def c81 : FnI := ⟨17, [.tmp 2],
(.seq (.reg (⟨some 2,.mov (.c .nilp),none⟩::[]))
(.seq (.seq (.reg (⟨some 3,.mov (.t 0),none⟩::⟨some 4,.call 88 [(.t 3)],none⟩::[]))
(.cond (.t 4) (.seq (.reg (⟨some 2,.mov (.c .nilp),none⟩::[]))
.ret) .skip))
(.seq (.dreg (⟨⟨some 9,.mov (.t 0),none⟩,.quiet,4,0⟩::⟨⟨some 10,.call 85 [(.t 9)],none⟩,.loud,5,16⟩::⟨⟨some 5,.mov (.t 0),none⟩,.quiet,0,0⟩::⟨⟨some 6,.nilchk (.t 5),none⟩,.quiet,1,1⟩::⟨⟨some 7,.faddr 0 (.t 6),none⟩,.quiet,2,3⟩::⟨⟨some 8,.load false 1 (.t 7),none⟩,.load,3,7⟩::⟨⟨some 11,.mov (.t 0),none⟩,.quiet,6,0⟩::⟨⟨some 12,.nilchk (.t 11),none⟩,.quiet,7,64⟩::⟨⟨some 13,.faddr 2 (.t 12),none⟩,.quiet,8,192⟩::⟨⟨some 14,.load false 1 (.t 13),none⟩,.load,9,448⟩::⟨⟨some 15,.build [(.int .i64 (.ofNat 0)), .nilsl, (.int .u64 (.ofNat 0))] [(0, 1, (.t 8)), (1, 1, (.t 10)), (2, 1, (.t 14))],none⟩,.quiet,10,1023⟩::⟨⟨some 16,.box (.t 15),none⟩,.quiet,11,2047⟩::⟨⟨some 2,.mov (.t 16),none⟩,.quiet,12,4095⟩::[]))
.ret)))⟩
theorem c81_eq : compFn Tryz.prog 81 = some c81 := by kernel_rfl
/-- sodality/sodalityref01.Same -/
noncomputable def c82 : FnI := ⟨26, [.tmp 4],
(.seq (.reg (⟨some 4,.mov (.c (.bool false)),none⟩::[]))
(.seq (.seq (.reg (⟨some 6,.mov (.t 0),none⟩::⟨some 7,.len false (.t 6),none⟩::⟨some 8,.mov (.t 1),none⟩::⟨some 9,.len false (.t 8),none⟩::⟨some 10,.bin .neq (.t 7) (.t 9),none⟩::[]))
(.cond (.t 10) (.seq (.reg (⟨some 4,.mov (.c (.bool false)),none⟩::[]))
.ret) .skip))
(.seq (.seq (.reg (⟨some 5,.mov (.c (.int .i64 (.ofNat 0))),none⟩::[]))
(.block 0 (.loop (.seq (.seq (.reg (⟨some 11,.mov (.t 5),none⟩::⟨some 12,.mov (.t 0),none⟩::⟨some 13,.len false (.t 12),none⟩::⟨some 14,.bin .lss (.t 11) (.t 13),none⟩::[]))
(.cond (.t 14) .skip (.exit 0)))
(.seq (.block 1 (.seq (.dreg (⟨⟨some 17,.mov (.t 0),none⟩,.quiet,0,0⟩::⟨⟨some 18,.mov (.t 5),none⟩,.quiet,1,0⟩::⟨⟨some 19,.idxS 1 (.t 17) (.t 18),none⟩,.quiet,2,3⟩::⟨⟨some 20,.load false 1 (.t 19),none⟩,.load,3,7⟩::⟨⟨some 21,.mov (.t 1),none⟩,.quiet,4,0⟩::⟨⟨some 22,.mov (.t 5),none⟩,.quiet,5,0⟩::⟨⟨some 23,.idxS 1 (.t 21) (.t 22),none⟩,.quiet,6,48⟩::⟨⟨some 24,.load false 1 (.t 23),none⟩,.load,7,112⟩::⟨⟨some 25,.bin .neq (.t 20) (.t 24),none⟩,.quiet,8,255⟩::[]))
(.cond (.t 25) (.seq (.reg (⟨some 4,.mov (.c (.bool false)),none⟩::[]))
.ret) .skip)))
(.reg (⟨some 15,.mov (.t 5),none⟩::⟨some 16,.bin .add (.t 15) (.c (.int .i64 (.ofNat 1))),none⟩::⟨some 5,.mov (.t 16),none⟩::[])))))))
(.seq (.reg (⟨some 4,.mov (.c (.bool true)),none⟩::[]))
.ret))))⟩
theorem c82_eq : compFn Tryz.prog 82 = some c82 := by kernel_rfl
/-- (*sodality/table.Table[sodality/api.Node]).List -/
noncomputable def c83 : FnI := ⟨11, [.tmp 2],
(.seq (.reg (⟨some 2,.mov (.c .nilsl),none⟩::[]))
(.seq (.seq (.reg (⟨some 3,.mov (.t 0),none⟩::⟨some 4,.call 90 [(.t 3)],none⟩::[]))
(.cond (.t 4) (.seq (.reg (⟨some 2,.mov (.c .nilsl),none⟩::[]))
.ret) .skip))
(.seq (.reg (⟨some 5,.buildSl 7 0 [] [],none⟩::⟨some 6,.mov (.t 0),none⟩::⟨some 7,.nilchk (.t 6),none⟩::⟨some 8,.faddr 1 (.t 7),none⟩::⟨some 9,.load false 1 (.t 8),none⟩::⟨some 10,.append 7 72 (.t 5) (.t 9),none⟩::⟨some 2,.mov (.t 10),none⟩::[]))
.ret)))⟩
theorem c83_eq : compFn Tryz.prog 83 = some c83 := by kernel_rfl
/-- (*sodality/table.Table[sodality/api.Service]).List -/
noncomputable def c84 : FnI := ⟨11, [.tmp 2],
(.seq (.reg (⟨some 2,.mov (.c .nilsl),none⟩::[]))
(.seq (.seq (.reg (⟨some 3,.mov (.t 0),none⟩::⟨some 4,.call 91 [(.t 3)],none⟩::[]))
(.cond (.t 4) (.seq (.reg (⟨some 2,.mov (.c .nilsl),none⟩::[]))
.ret) .skip))
(.seq (.reg (⟨some 5,.buildSl 10 0 [] [],none⟩::⟨some 6,.mov (.t 0),none⟩::⟨some 7,.nilchk (.t 6),none⟩::⟨some 8,.faddr 1 (.t 7),none⟩::⟨some 9,.load false 1 (.t 8),none⟩::⟨some 10,.append 10 120 (.t 5) (.t 9),none⟩::⟨some 2,.mov (.t 10),none⟩::[]))
.ret)))⟩
theorem c84_eq : compFn Tryz.prog 84 = some c84 := by kernel_rfl
/-- (*sodality/table.Table[sodality/api.Check]).List -/
noncomputable def c85 : FnI := ⟨11, [.tmp 2],
(.seq (.reg (⟨some 2,.mov (.c .nilsl),none⟩::[]))
(.seq (.seq (.reg (⟨some 3,.mov (.t 0),none⟩::⟨some 4,.call 88 [(.t 3)],none⟩::[]))
(.cond (.t 4) (.seq (.reg (⟨some 2,.mov (.c .nilsl),none⟩::[]))
.ret) .skip))
(.seq (.reg (⟨some 5,.buildSl 10 0 [] [],none⟩::⟨some 6,.mov (.t 0),none⟩::⟨some 7,.nilchk (.t 6),none⟩::⟨some 8,.faddr 1 (.t 7),none⟩::⟨some 9,.load false 1 (.t 8),none⟩::⟨some 10,.append 10 112 (.t 5) (.t 9),none⟩::⟨some 2,.mov (.t 10),none⟩::[]))
.ret)))⟩
theorem c85_eq : compFn Tryz.prog 85 = some c85 := by kernel_rfl
/-- sodality/name.Right -/
noncomputable def c86 : FnI := ⟨26, [.tmp 2],
(.seq (.reg (⟨some 2,.mov (.c (.bool false)),none⟩::[]))
(.seq (.seq (.reg (⟨some 3,.mov (.t 0),none⟩::⟨some 4,.len true (.t 3),none⟩::⟨some 5,.bin .lss (.t 4) (.c (.int .i64 (.ofNat 1))),none⟩::⟨some 6,.mov (.t 5),none⟩::⟨some 7,.mov (.t 0),some (6,false)⟩::⟨some 8,.len true (.t 7),some (6,false)⟩::⟨some 9,.bin .gtr (.t 8) (.c (.int .i64 (.ofNat 24))),some (6,false)⟩::⟨some 10,.pick (.t 6) (.c (.bool true)) (.t 9),none⟩::⟨some 11,.mov (.t 10),none⟩::⟨some 12,.mov (.t 0),some (11,false)⟩::⟨some 13,.idxStr (.t 12) (.c (.int .i64 (.ofNat 0))),some (11,false)⟩::⟨some 14,.bin .eql (.t 13) (.c (.int .u8 (.ofNat 45))),some (11,false)⟩::⟨some 15,.pick (.t 11) (.c (.bool true)) (.t 14),none⟩::⟨some 16,.mov (.t 15),none⟩::⟨some 17,.mov (.t 0),some (16,false)⟩::⟨some 18,.mov (.t 0),some (16,false)⟩::⟨some 19,.len true (.t 18),some (16,false)⟩::⟨some 20,.bin .sub (.t 19) (.c (.int .i64 (.ofNat 1))),some (16,false)⟩::⟨some 21,.idxStr (.t 17) (.t 20),some (16,false)⟩::⟨some 22,.bin .eql (.t 21) (.c (.int .u8 (.ofNat 45))),some (16,false)⟩::⟨some 23,.pick (.t 16) (.c (.bool true)) (.t 22),none⟩::[]))
(.cond (.t 23) (.seq (.reg (⟨some 2,.mov (.c (.bool false)),none⟩::[]))
.ret) .skip))
(.seq (.reg (⟨some 24,.mov (.t 0),none⟩::⟨some 25,.call 101 [(.t 24), (.c (.fn (.func 102) [] []))],none⟩::⟨some 2,.mov (.t 25),none⟩::[]))
.ret)))⟩
theorem c86_eq : compFn Tryz.prog 86 = some c86 := by kernel_rfl
/-- (*sodality/table.Table[sodality/api.Service]).Get -/
noncomputable def c87 : FnI := ⟨27, [.cell 4 true 10, .tmp 5],
(.seq (.reg (⟨some 4,.alloc [(.str []), (.int .i64 (.ofNat 0)), (.str []), (.str []), .nilsl, (.int .i64 (.ofNat 0)), (.int .u64 (.ofNat 0)), (.int .u64 (.ofNat 0)), (.int .u64 (.ofNat 0)), (.int .u64 (.ofNat 0))],none⟩::⟨some 5,.mov (.c (.bool false)),none⟩::[]))
(.seq (.seq (.reg (⟨some 8,.mov (.t 0),none⟩::⟨some 9,.call 91 [(.t 8)],none⟩::[]))
(.cond (.t 9) (.seq (.reg (⟨some 10,.build [(.str []), (.int .i64 (.ofNat 0)), (.str []), (.str []), .nilsl, (.int .i64 (.ofNat 0)), (.int .u64 (.ofNat 0)), (.int .u64 (.ofNat 0)), (.int .u64 (.ofNat 0)), (.int .u64 (.ofNat 0))] [],none⟩::⟨none,.store 10 (.t 4) (.t 10),none⟩::⟨some 5,.mov (.c (.bool false)),none⟩::[]))
.ret) .skip))
(.seq (.reg (⟨some 12,.mov (.t 0),none⟩::⟨some 13,.mov (.t 1),none⟩::⟨some 14,.call 96 [(.t 12), (.t 13)],none⟩::⟨some 11,.mov (.t 14),none⟩::⟨some 15,.extract (.t 11) 0,none⟩::⟨some 16,.extract (.t 11) 1,none⟩::⟨some 6,.mov (.t 15),none⟩::⟨some 7,.mov (.t 16),none⟩::[]))
(.seq (.seq (.reg (⟨some 17,.mov (.t 7),none⟩::⟨some 18,.un .not (.t 17),none⟩::[]))
(.cond (.t 18) (.seq (.reg (⟨some 19,.build [(.str []), (.int .i64 (.ofNat 0)), (.str []), (.str []), .nilsl, (.int .i64 (.ofNat 0)), (.int .u64 (.ofNat 0)), (.int .u64 (.ofNat 0)), (.int .u64 (.ofNat 0)), (.int .u64 (.ofNat 0))] [],none⟩::⟨none,.store 10 (.t 4) (.t 19),none⟩::⟨some 5,.mov (.c (.bool false)),none⟩::[]))
.ret) .skip))
(.seq (.reg (⟨some 20,.mov (.t 0),none⟩::⟨some 21,.nilchk (.t 20),none⟩::⟨some 22,.faddr 1 (.t 21),none⟩::⟨some 23,.load false 1 (.t 22),none⟩::⟨some 24,.mov (.t 6),none⟩::⟨some 25,.idxS 10 (.t 23) (.t 24),none⟩::⟨some 26,.load true 10 (.t 25),none⟩::⟨none,.store 10 (.t 4) (.t 26),none⟩::⟨some 5,.mov (.c (.bool true)),none⟩::[]))
.ret)))))⟩
theorem c87_eq : compFn Tryz.prog 87 = some c87 := by kernel_rfl
/-- (*sodality/table.Table[sodality/api.Check]).none -/
noncomputable def c88 : FnI := ⟨12, [.tmp 2],
(.seq (.reg (⟨some 2,.mov (.c (.bool false)),none⟩::[]))
(.seq (.reg (⟨some 3,.mov (.t 0),none⟩::⟨some 4,.eq false .ptr (.t 3) (.c .nilp),none⟩::⟨some 5,.mov (.t 4),none⟩::⟨some 6,.mov (.t 0),some (5,false)⟩::⟨some 7,.nilchk (.t 6),some (5,false)⟩::⟨some 8,.faddr 0 (.t 7),some (5,false)⟩::⟨some 9,.load false 1 (.t 8),some (5,false)⟩::⟨some 10,.bin .eql (.t 9) (.c (.int .i64 (.ofNat 0))),some (5,false)⟩::⟨some 11,.pick (.t 5) (.c (.bool true)) (.t 10),none⟩::⟨some 2,.mov (.t 11),none⟩::[]))
.ret))⟩
theorem c88_eq : compFn Tryz.prog 88 = some c88 := by kernel_rfl
/-- (*sodality/table.Table[sodality/api.Check]).at -/
noncomputable def c89 : FnI := ⟨34, [.tmp 4, .tmp 5],
(.seq (.reg (⟨some 2,.box (.t 0),none⟩::⟨some 3,.box (.t 1),none⟩::⟨some 4,.mov (.c (.int .i64 (.ofNat 0))),none⟩::⟨some 5,.mov (.c (.bool false)),none⟩::[]))
(.seq (.reg (⟨some 7,.load false 1 (.t 2),none⟩::⟨some 8,.nilchk (.t 7),none⟩::⟨some 9,.faddr 1 (.t 8),none⟩::⟨some 10,.load false 1 (.t 9),none⟩::⟨some 11,.len false (.t 10),none⟩::⟨some 12,.mkfn 105 [] [(.t 2), (.t 3)],none⟩::⟨some 13,.call 104 [(.t 11), (.t 12)],none⟩::⟨some 6,.mov (.t 13),none⟩::[]))
(.seq (.dreg (⟨⟨some 14,.mov (.t 6),none⟩,.quiet,0,0⟩::⟨⟨some 15,.mov (.t 6),none⟩,.quiet,1,0⟩::⟨⟨some 16,.load false 1 (.t 2),none⟩,.load,2,0⟩::⟨⟨some 17,.nilchk (.t 16),none⟩,.quiet,3,4⟩::⟨⟨some 18,.faddr 1 (.t 17),none⟩,.quiet,4,12⟩::⟨⟨some 19,.load false 1 (.t 18),none⟩,.load,5,28⟩::⟨⟨some 20,.len false (.t 19),none⟩,.quiet,6,60⟩::⟨⟨some 21,.bin .lss (.t 15) (.t 20),none⟩,.quiet,7,126⟩::⟨⟨some 22,.mov (.t 21),none⟩,.quiet,8,254⟩::⟨⟨some 23,.load false 1 (.t 2),some (22,true)⟩,.load,9,510⟩::⟨⟨some 24,.nilchk (.t 23),some (22,true)⟩,.quiet,10,1022⟩::⟨⟨some 25,.faddr 1 (.t 24),some (22,true)⟩,.quiet,11,2046⟩::⟨⟨some 26,.load false 1 (.t 25),some (22,true)⟩,.load,12,4094⟩::⟨⟨some 27,.mov (.t 6),some (22,true)⟩,.quiet,13,510⟩::⟨⟨some 28,.idxS 10 (.t 26) (.t 27),some (22,true)⟩,.quiet,14,16382⟩::⟨⟨some 29,.faddr 0 (.t 28),some (22,true)⟩,.quiet,15,32766⟩::⟨⟨some 30,.load false 1 (.t 29),some (22,true)⟩,.load,16,65534⟩::⟨⟨some 31,.load false 1 (.t 3),some (22,true)⟩,.load,17,510⟩::⟨⟨some 32,.bin .eql (.t 30) (.t 31),some (22,true)⟩,.quiet,18,262142⟩::⟨⟨some 33,.pick (.t 22) (.t 32) (.c (.bool false)),none⟩,.quiet,19,524286⟩::⟨⟨some 4,.mov (.t 14),none⟩,.quiet,20,511⟩::⟨⟨some 5,.mov (.t 33),none⟩,.quiet,21,2097151⟩::[]))
.ret)))⟩
theorem c89_eq : compFn Tryz.prog 89 = some c89 := by kernel_rfl
/-- (*sodality/table.Table[sodality/api.Node]).none -/
noncomputable def c90 : FnI := ⟨12, [.tmp 2],
(.seq (.reg (⟨some 2,.mov (.c (.bool false)),none⟩::[]))
(.seq (.reg (⟨some 3,.mov (.t 0),none⟩::⟨some 4,.eq false .ptr (.t 3) (.c .nilp),none⟩::⟨some 5,.mov (.t 4),none⟩::⟨some 6,.mov (.t 0),some (5,false)⟩::⟨some 7,.nilchk (.t 6),some (5,false)⟩::⟨some 8,.faddr 0 (.t 7),some (5,false)⟩::⟨some 9,.load false 1 (.t 8),some (5,false)⟩::⟨some 10,.bin .eql (.t 9) (.c (.int .i64 (.ofNat 0))),some (5,false)⟩::⟨some 11,.pick (.t 5) (.c (.bool true)) (.t 10),none⟩::⟨some 2,.mov (.t 11),none⟩::[]))
.ret))⟩
theorem c90_eq : compFn Tryz.prog 90 = some c90 := by kernel_rfl
/-- (*sodality/table.Table[sodality/api.Service]).none -/
noncomputable def c91 : FnI := ⟨12, [.tmp 2],
(.seq (.reg (⟨some 2,.mov (.c (.bool false)),none⟩::[]))
(.seq (.reg (⟨some 3,.mov (.t 0),none⟩::⟨some 4,.eq false .ptr (.t 3) (.c .nilp),none⟩::⟨some 5,.mov (.t 4),none⟩::⟨some 6,.mov (.t 0),some (5,false)⟩::⟨some 7,.nilchk (.t 6),some (5,false)⟩::⟨some 8,.faddr 0 (.t 7),some (5,false)⟩::⟨some 9,.load false 1 (.t 8),some (5,false)⟩::⟨some 10,.bin .eql (.t 9) (.c (.int .i64 (.ofNat 0))),some (5,false)⟩::⟨some 11,.pick (.t 5) (.c (.bool true)) (.t 10),none⟩::⟨some 2,.mov (.t 11),none⟩::[]))
.ret))⟩
theorem c91_eq : compFn Tryz.prog 91 = some c91 := by kernel_rfl
/-- (*sodality/table.Table[sodality/api.Node]).at -/
noncomputable def c92 : FnI := ⟨34, [.tmp 4, .tmp 5],
(.seq (.reg (⟨some 2,.box (.t 0),none⟩::⟨some 3,.box (.t 1),none⟩::⟨some 4,.mov (.c (.int .i64 (.ofNat 0))),none⟩::⟨some 5,.mov (.c (.bool false)),none⟩::[]))
(.seq (.reg (⟨some 7,.load false 1 (.t 2),none⟩::⟨some 8,.nilchk (.t 7),none⟩::⟨some 9,.faddr 1 (.t 8),none⟩::⟨some 10,.load false 1 (.t 9),none⟩::⟨some 11,.len false (.t 10),none⟩::⟨some 12,.mkfn 106 [] [(.t 2), (.t 3)],none⟩::⟨some 13,.call 104 [(.t 11), (.t 12)],none⟩::⟨some 6,.mov (.t 13),none⟩::[]))
(.seq (.dreg (⟨⟨some 14,.mov (.t 6),none⟩,.quiet,0,0⟩::⟨⟨some 15,.mov (.t 6),none⟩,.quiet,1,0⟩::⟨⟨some 16,.load false 1 (.t 2),none⟩,.load,2,0⟩::⟨⟨some 17,.nilchk (.t 16),none⟩,.quiet,3,4⟩::⟨⟨some 18,.faddr 1 (.t 17),none⟩,.quiet,4,12⟩::⟨⟨some 19,.load false 1 (.t 18),none⟩,.load,5,28⟩::⟨⟨some 20,.len false (.t 19),none⟩,.quiet,6,60⟩::⟨⟨some 21,.bin .lss (.t 15) (.t 20),none⟩,.quiet,7,126⟩::⟨⟨some 22,.mov (.t 21),none⟩,.quiet,8,254⟩::⟨⟨some 23,.load false 1 (.t 2),some (22,true)⟩,.load,9,510⟩::⟨⟨some 24,.nilchk (.t 23),some (22,true)⟩,.quiet,10,1022⟩::⟨⟨some 25,.faddr 1 (.t 24),some (22,true)⟩,.quiet,11,2046⟩::⟨⟨some 26,.load false 1 (.t 25),some (22,true)⟩,.load,12,4094⟩::⟨⟨some 27,.mov (.t 6),some (22,true)⟩,.quiet,13,510⟩::⟨⟨some 28,.idxS 7 (.t 26) (.t 27),some (22,true)⟩,.quiet,14,16382⟩::⟨⟨some 29,.faddr 0 (.t 28),some (22,true)⟩,.quiet,15,32766⟩::⟨⟨some 30,.load false 1 (.t 29),some (22,true)⟩,.load,16,65534⟩::⟨⟨some 31,.load false 1 (.t 3),some (22,true)⟩,.load,17,510⟩::⟨⟨some 32,.bin .eql (.t 30) (.t 31),some (22,true)⟩,.quiet,18,262142⟩::⟨⟨some 33,.pick (.t 22) (.t 32) (.c (.bool false)),none⟩,.quiet,19,524286⟩::⟨⟨some 4,.mov (.t 14),none⟩,.quiet,20,511⟩::⟨⟨some 5,.mov (.t 33),none⟩,.quiet,21,2097151⟩::[]))
.ret)))⟩
theorem c92_eq : compFn Tryz.prog 92 = some c92 := by kernel_rfl
/-- (*sodality/table.Table[sodality/api.Node]).Get -/
noncomputable def c93 : FnI := ⟨27, [.cell 4 true 7, .tmp 5],
(.seq (.reg (⟨some 4,.alloc [(.str []), (.int .i64 (.ofNat 0)), (.str []), (.int .u64 (.ofNat 0)), (.int .u64 (.ofNat 0)), (.int .u64 (.ofNat 0)), (.int .u64 (.ofNat 0))],none⟩::⟨some 5,.mov (.c (.bool false)),none⟩::[]))
(.seq (.seq (.reg (⟨some 8,.mov (.t 0),none⟩::⟨some 9,.call 90 [(.t 8)],none⟩::[]))
(.cond (.t 9) (.seq (.reg (⟨some 10,.build [(.str []), (.int .i64 (.ofNat 0)), (.str []), (.int .u64 (.ofNat 0)), (.int .u64 (.ofNat 0)), (.int .u64 (.ofNat 0)), (.int .u64 (.ofNat 0))] [],none⟩::⟨none,.store 7 (.t 4) (.t 10),none⟩::⟨some 5,.mov (.c (.bool false)),none⟩::[]))
.ret) .skip))
(.seq (.reg (⟨some 12,.mov (.t 0),none⟩::⟨some 13,.mov (.t 1),none⟩::⟨some 14,.call 92 [(.t 12), (.t 13)],none⟩::⟨some 11,.mov (.t 14),none⟩::⟨some 15,.extract (.t 11) 0,none⟩::⟨some 16,.extract (.t 11) 1,none⟩::⟨some 6,.mov (.t 15),none⟩::⟨some 7,.mov (.t 16),none⟩::[]))
(.seq (.seq (.reg (⟨some 17,.mov (.t 7),none⟩::⟨some 18,.un .not (.t 17),none⟩::[]))
(.cond (.t 18) (.seq (.reg (⟨some 19,.build [(.str []), (.int .i64 (.ofNat 0)), (.str []), (.int .u64 (.ofNat 0)), (.int .u64 (.ofNat 0)), (.int .u64 (.ofNat 0)), (.int .u64 (.ofNat 0))] [],none⟩::⟨none,.store 7 (.t 4) (.t 19),none⟩::⟨some 5,.mov (.c (.bool false)),none⟩::[]))
.ret) .skip))
(.seq (.reg (⟨some 20,.mov (.t 0),none⟩::⟨some 21,.nilchk (.t 20),none⟩::⟨some 22,.faddr 1 (.t 21),none⟩::⟨some 23,.load false 1 (.t 22),none⟩::⟨some 24,.mov (.t 6),none⟩::⟨some 25,.idxS 7 (.t 23) (.t 24),none⟩::⟨some 26,.load true 7 (.t 25),none⟩::⟨none,.store 7 (.t 4) (.t 26),none⟩::⟨some 5,.mov (.c (.bool true)),none⟩::[]))
.ret)))))⟩
theorem c93_eq : compFn Tryz.prog 93 = some c93 := by kernel_rfl
/-- (*sodality/table.Table[sodality/api.Service]).each -/
noncomputable def c94 : FnI := ⟨7, [.tmp 2],
(.seq (.reg (⟨some 2,.mov (.c .nilfn),none⟩::[]))
(.seq (.reg (⟨some 4,.mov (.t 0),none⟩::⟨some 5,.call 84 [(.t 4)],none⟩::⟨some 3,.alloc [.nilsl],none⟩::⟨none,.store 1 (.t 3) (.t 5),none⟩::[]))
(.seq (.reg (⟨some 6,.mkfn 107 [] [(.t 3)],none⟩::⟨some 2,.mov (.t 6),none⟩::[]))
.ret)))⟩
theorem c94_eq : compFn Tryz.prog 94 = some c94 := by kernel_rfl
/-- (*sodality/table.Table[sodality/api.Service]).Each$1 -/
noncomputable def c95 : FnI := ⟨13, [],
(.seq (.reg (⟨some 2,.box (.t 0),none⟩::[]))
(.seq (.reg (⟨some 4,.load false 1 (.t 1),none⟩::[]))
(.block 0 (.rangef (.t 4) [5] (.reg (⟨some 3,.alloc [(.str []), (.int .i64 (.ofNat 0)), (.str []), (.str []), .nilsl, (.int .i64 (.ofNat 0)), (.int .u64 (.ofNat 0)), (.int .u64 (.ofNat 0)), (.int .u64 (.ofNat 0)), (.int .u64 (.ofNat 0))],none⟩::⟨none,.store 10 (.t 3) (.t 5),none⟩::[])) (.block 1 (.seq (.reg (⟨some 6,.load false 1 (.t 2),none⟩::⟨some 7,.faddr 0 (.t 3),none⟩::⟨some 8,.load false 1 (.t 7),none⟩::⟨some 9,.faddr 1 (.t 3),none⟩::⟨some 10,.load true 7 (.t 9),none⟩::⟨some 11,.callv (.t 6) [(.t 8), (.t 10)],none⟩::⟨some 12,.un .not (.t 11),none⟩::[]))
(.cond (.t 12) .ret .skip)))))))⟩
theorem c95_eq : compFn Tryz.prog 95 = some c95 := by kernel_rfl
/-- (*sodality/table.Table[sodality/api.Service]).at -/
noncomputable def c96 : FnI := ⟨34, [.tmp 4, .tmp 5],
(.seq (.reg (⟨some 2,.box (.t 0),none⟩::⟨some 3,.box (.t 1),none⟩::⟨some 4,.mov (.c (.int .i64 (.ofNat 0))),none⟩::⟨some 5,.mov (.c (.bool false)),none⟩::[]))
(.seq (.reg (⟨some 7,.load false 1 (.t 2),none⟩::⟨some 8,.nilchk (.t 7),none⟩::⟨some 9,.faddr 1 (.t 8),none⟩::⟨some 10,.load false 1 (.t 9),none⟩::⟨some 11,.len false (.t 10),none⟩::⟨some 12,.mkfn 108 [] [(.t 2), (.t 3)],none⟩::⟨some 13,.call 104 [(.t 11), (.t 12)],none⟩::⟨some 6,.mov (.t 13),none⟩::[]))
(.seq (.dreg (⟨⟨some 14,.mov (.t 6),none⟩,.quiet,0,0⟩::⟨⟨some 15,.mov (.t 6),none⟩,.quiet,1,0⟩::⟨⟨some 16,.load false 1 (.t 2),none⟩,.load,2,0⟩::⟨⟨some 17,.nilchk (.t 16),none⟩,.quiet,3,4⟩::⟨⟨some 18,.faddr 1 (.t 17),none⟩,.quiet,4,12⟩::⟨⟨some 19,.load false 1 (.t 18),none⟩,.load,5,28⟩::⟨⟨some 20,.len false (.t 19),none⟩,.quiet,6,60⟩::⟨⟨some 21,.bin .lss (.t 15) (.t 20),none⟩,.quiet,7,126⟩::⟨⟨some 22,.mov (.t 21),none⟩,.quiet,8,254⟩::⟨⟨some 23,.load false 1 (.t 2),some (22,true)⟩,.load,9,510⟩::⟨⟨some 24,.nilchk (.t 23),some (22,true)⟩,.quiet,10,1022⟩::⟨⟨some 25,.faddr 1 (.t 24),some (22,true)⟩,.quiet,11,2046⟩::⟨⟨some 26,.load false 1 (.t 25),some (22,true)⟩,.load,12,4094⟩::⟨⟨some 27,.mov (.t 6),some (22,true)⟩,.quiet,13,510⟩::⟨⟨some 28,.idxS 10 (.t 26) (.t 27),some (22,true)⟩,.quiet,14,16382⟩::⟨⟨some 29,.faddr 0 (.t 28),some (22,true)⟩,.quiet,15,32766⟩::⟨⟨some 30,.load false 1 (.t 29),some (22,true)⟩,.load,16,65534⟩::⟨⟨some 31,.load false 1 (.t 3),some (22,true)⟩,.load,17,510⟩::⟨⟨some 32,.bin .eql (.t 30) (.t 31),some (22,true)⟩,.quiet,18,262142⟩::⟨⟨some 33,.pick (.t 22) (.t 32) (.c (.bool false)),none⟩,.quiet,19,524286⟩::⟨⟨some 4,.mov (.t 14),none⟩,.quiet,20,511⟩::⟨⟨some 5,.mov (.t 33),none⟩,.quiet,21,2097151⟩::[]))
.ret)))⟩
theorem c96_eq : compFn Tryz.prog 96 = some c96 := by kernel_rfl
/-- (*sodality/table.Table[sodality/api.Check]).Each -/
noncomputable def c97 : FnI := ⟨7, [.tmp 2],
(.seq (.reg (⟨some 2,.mov (.c .nilfn),none⟩::[]))
(.seq (.reg (⟨some 4,.mov (.t 0),none⟩::⟨some 5,.call 109 [(.t 4)],none⟩::⟨some 3,.alloc [.nilfn],none⟩::⟨none,.store 1 (.t 3) (.t 5),none⟩::[]))
(.seq (.reg (⟨some 6,.mkfn 110 [] [(.t 3)],none⟩::⟨some 2,.mov (.t 6),none⟩::[]))
.ret)))⟩
theorem c97_eq : compFn Tryz.prog 97 = some c97 := by kernel_rfl
/-- sodality/name.Tags -/
noncomputable def c98 : FnI := ⟨32, [.tmp 2],
(.seq (.reg (⟨some 2,.mov (.c (.bool false)),none⟩::[]))
(.seq (.seq (.reg (⟨some 5,.mov (.t 0),none⟩::⟨some 6,.len false (.t 5),none⟩::⟨some 7,.bin .gtr (.t 6) (.c (.int .i64 (.ofNat 4))),none⟩::[]))
(.cond (.t 7) (.seq (.reg (⟨some 2,.mov (.c (.bool false)),none⟩::[]))
.ret) .skip))
(.seq (.seq (.reg (⟨some 8,.mov (.t 0),none⟩::⟨some 9,.len false (.t 8),none⟩::⟨some 10,.mov (.c (.int .i64 (.ofNat 0))),none⟩::[]))
(.block 0 (.loop (.seq (.reg (⟨some 11,.bin .lss (.t 10) (.t 9),none⟩::[]))
(.seq (.cond (.t 11) .skip (.exit 0))
(.seq (.block 1 (.seq (.reg (⟨some 12,.mov (.t 10),none⟩::⟨some 13,.idxS 1 (.t 8) (.t 10),none⟩::⟨some 14,.load false 1 (.t 13),none⟩::⟨some 3,.mov (.t 12),none⟩::⟨some 4,.mov (.t 14),none⟩::[]))
(.seq (.reg (⟨some 15,.mov (.t 4),none⟩::⟨some 16,.call 86 [(.t 15)],none⟩::⟨some 17,.un .not (.t 16),none⟩::⟨some 18,.mov (.t 17),none⟩::⟨some 19,.mov (.t 3),some (18,false)⟩::⟨some 20,.bin .gtr (.t 19) (.c (.int .i64 (.ofNat 0))),some (18,false)⟩::⟨some 21,.mov (.t 20),some (18,false)⟩::⟨some 22,.mov (.t 0),some (21,true)⟩::⟨some 23,.mov (.t 3),some (21,true)⟩::⟨some 24,.bin .sub (.t 23) (.c (.int .i64 (.ofNat 1))),some (21,true)⟩::⟨some 25,.idxS 1 (.t 22) (.t 24),some (21,true)⟩::⟨some 26,.load false 1 (.t 25),some (21,true)⟩::⟨some 27,.mov (.t 4),some (21,true)⟩::⟨some 28,.bin .geq (.t 26) (.t 27),some (21,true)⟩::⟨some 29,.pick (.t 21) (.t 28) (.c (.bool false)),some (18,false)⟩::⟨some 30,.pick (.t 18) (.c (.bool true)) (.t 29),none⟩::[]))
(.cond (.t 30) (.seq (.reg (⟨some 2,.mov (.c (.bool false)),none⟩::[]))
.ret) .skip))))
(.reg (⟨some 31,.bin .add (.t 10) (.c (.int .i64 (.ofNat 1))),none⟩::⟨some 10,.mov (.t 31),none⟩::[]))))))))
(.seq (.reg (⟨some 2,.mov (.c (.bool true)),none⟩::[]))
.ret))))⟩
theorem c98_eq : compFn Tryz.prog 98 = some c98 := by kernel_rfl
/-- sodality/sodalityref01.Right -/
noncomputable def c99 : FnI := ⟨40, [.tmp 2],
(.seq (.reg (⟨some 2,.mov (.c (.bool false)),none⟩::[]))
(.seq (.seq (.reg (⟨some 4,.mov (.t 0),none⟩::⟨some 5,.len true (.t 4),none⟩::⟨some 6,.bin .lss (.t 5) (.c (.int .i64 (.ofNat 1))),none⟩::⟨some 7,.mov (.t 6),none⟩::⟨some 8,.mov (.t 0),some (7,false)⟩::⟨some 9,.len true (.t 8),some (7,false)⟩::⟨some 10,.bin .gtr (.t 9) (.c (.int .i64 (.ofNat 24))),some (7,false)⟩::⟨some 11,.pick (.t 7) (.c (.bool true)) (.t 10),none⟩::[]))
(.cond (.t 11) (.seq (.reg (⟨some 2,.mov (.c (.bool false)),none⟩::[]))
.ret) .skip))
(.seq (.seq (.reg (⟨some 3,.mov (.c (.int .i64 (.ofNat 0))),none⟩::[]))
(.block 0 (.loop (.seq (.seq (.reg (⟨some 12,.mov (.t 3),none⟩::⟨some 13,.mov (.t 0),none⟩::⟨some 14,.len true (.t 13),none⟩::⟨some 15,.bin .lss (.t 12) (.t 14),none⟩::[]))
(.cond (.t 15) .skip (.exit 0)))
(.seq (.block 1 (.seq (.reg (⟨some 18,.mov (.t 0),none⟩::⟨some 19,.mov (.t 3),none⟩::⟨some 20,.idxStr (.t 18) (.t 19),none⟩::⟨some 21,.call 111 [(.t 20)],none⟩::⟨some 22,.un .not (.t 21),none⟩::⟨some 23,.mov (.t 22),none⟩::⟨some 24,.mov (.t 0),some (23,true)⟩::⟨some 25,.mov (.t 3),some (23,true)⟩::⟨some 26,.idxStr (.t 24) (.t 25),some (23,true)⟩::⟨some 27,.bin .neq (.t 26) (.c (.int .u8 (.ofNat 45))),some (23,true)⟩::⟨some 28,.mov (.t 27),some (23,true)⟩::⟨some 29,.mov (.t 3),some (28,false)⟩::⟨some 30,.bin .eql (.t 29) (.c (.int .i64 (.ofNat 0))),some (28,false)⟩::⟨some 31,.pick (.t 28) (.c (.bool true)) (.t 30),some (23,true)⟩::⟨some 32,.mov (.t 31),some (23,true)⟩::⟨some 33,.mov (.t 3),some (32,false)⟩::⟨some 34,.mov (.t 0),some (32,false)⟩::⟨some 35,.len true (.t 34),some (32,false)⟩::⟨some 36,.bin .sub (.t 35) (.c (.int .i64 (.ofNat 1))),some (32,false)⟩::⟨some 37,.bin .eql (.t 33) (.t 36),some (32,false)⟩::⟨some 38,.pick (.t 32) (.c (.bool true)) (.t 37),some (23,true)⟩::⟨some 39,.pick (.t 23) (.t 38) (.c (.bool false)),none⟩::[]))
(.cond (.t 39) (.seq (.reg (⟨some 2,.mov (.c (.bool false)),none⟩::[]))
.ret) .skip)))
(.reg (⟨some 16,.mov (.t 3),none⟩::⟨some 17,.bin .add (.t 16) (.c (.int .i64 (.ofNat 1))),none⟩::⟨some 3,.mov (.t 17),none⟩::[])))))))
(.seq (.reg (⟨some 2,.mov (.c (.bool true)),none⟩::[]))
.ret))))⟩
theorem c99_eq : compFn Tryz.prog 99 = some c99 := by kernel_rfl
/-- sodality/sodalityref01.Tags -/
noncomputable def c100 : FnI := ⟨24, [.tmp 2],
(.seq (.reg (⟨some 2,.mov (.c (.bool false)),none⟩::[]))
(.seq (.seq (.reg (⟨some 4,.mov (.t 0),none⟩::⟨some 5,.len false (.t 4),none⟩::⟨some 6,.bin .gtr (.t 5) (.c (.int .i64 (.ofNat 4))),none⟩::⟨some 7,.mov (.t 6),none⟩::⟨some 8,.mov (.t 0),some (7,false)⟩::⟨some 9,.call 112 [(.t 8)],some (7,false)⟩::⟨some 10,.un .not (.t 9),some (7,false)⟩::⟨some 11,.pick (.t 7) (.c (.bool true)) (.t 10),none⟩::[]))
(.cond (.t 11) (.seq (.reg (⟨some 2,.mov (.c (.bool false)),none⟩::[]))
.ret) .skip))
(.seq (.seq (.reg (⟨some 3,.mov (.c (.int .i64 (.ofNat 0))),none⟩::[]))
(.block 0 (.loop (.seq (.seq (.reg (⟨some 12,.mov (.t 3),none⟩::⟨some 13,.mov (.t 0),none⟩::⟨some 14,.len false (.t 13),none⟩::⟨some 15,.bin .lss (.t 12) (.t 14),none⟩::[]))
(.cond (.t 15) .skip (.exit 0)))
(.seq (.block 1 (.seq (.reg (⟨some 18,.mov (.t 0),none⟩::⟨some 19,.mov (.t 3),none⟩::⟨some 20,.idxS 1 (.t 18) (.t 19),none⟩::⟨some 21,.load false 1 (.t 20),none⟩::⟨some 22,.call 99 [(.t 21)],none⟩::⟨some 23,.un .not (.t 22),none⟩::[]))
(.cond (.t 23) (.seq (.reg (⟨some 2,.mov (.c (.bool false)),none⟩::[]))
.ret) .skip)))
(.reg (⟨some 16,.mov (.t 3),none⟩::⟨some 17,.bin .add (.t 16) (.c (.int .i64 (.ofNat 1))),none⟩::⟨some 3,.mov (.t 17),none⟩::[])))))))
(.seq (.reg (⟨some 2,.mov (.c (.bool true)),none⟩::[]))
.ret))))⟩
theorem c100_eq : compFn Tryz.prog 100 = some c100 := by kernel_rfl
/-- sodality/name.all -/
noncomputable def c101 : FnI := ⟨18, [.tmp 4],
(.seq (.reg (⟨some 4,.mov (.c (.bool false)),none⟩::[]))
(.seq (.seq (.reg (⟨some 6,.mov (.t 0),none⟩::⟨some 7,.len true (.t 6),none⟩::⟨some 8,.mov (.c (.int .i64 (.ofNat 0))),none⟩::[]))
(.block 0 (.loop (.seq (.reg (⟨some 9,.bin .lss (.t 8) (.t 7),none⟩::[]))
(.seq (.cond (.t 9) .skip (.exit 0))
(.seq (.block 1 (.seq (.reg (⟨some 10,.mov (.t 8),none⟩::⟨some 5,.mov (.t 10),none⟩::[]))
(.seq (.reg (⟨some 11,.mov (.t 1),none⟩::⟨some 12,.mov (.t 0),none⟩::⟨some 13,.mov (.t 5),none⟩::⟨some 14,.idxStr (.t 12) (.t 13),none⟩::⟨some 15,.callv (.t 11) [(.t 14)],none⟩::⟨some 16,.un .not (.t 15),none⟩::[]))
(.cond (.t 16) (.seq (.reg (⟨some 4,.mov (.c (.bool false)),none⟩::[]))
.ret) .skip))))
(.reg (⟨some 17,.bin .add (.t 8) (.c (.int .i64 (.ofNat 1))),none⟩::⟨some 8,.mov (.t 17),none⟩::[]))))))))
(.seq (.reg (⟨some 4,.mov (.c (.bool true)),none⟩::[]))
.ret)))⟩
theorem c101_eq : compFn Tryz.prog 101 = some c101 := by kernel_rfl
/-- sodality/name.Right$1 -/
noncomputable def c102 : FnI := ⟨9, [.tmp 2],
(.seq (.reg (⟨some 2,.mov (.c (.bool false)),none⟩::[]))
(.seq (.reg (⟨some 3,.mov (.t 0),none⟩::⟨some 4,.call 103 [(.t 3)],none⟩::⟨some 5,.mov (.t 4),none⟩::⟨some 6,.mov (.t 0),some (5,false)⟩::⟨some 7,.bin .eql (.t 6) (.c (.int .u8 (.ofNat 45))),some (5,false)⟩::⟨some 8,.pick (.t 5) (.c (.bool true)) (.t 7),none⟩::⟨some 2,.mov (.t 8),none⟩::[]))
.ret))⟩
theorem c102_eq : compFn Tryz.prog 102 = some c102 := by kernel_rfl
/-- sodality/name.plain -/
noncomputable def c103 : FnI := ⟨17, [.tmp 2],
(.seq (.reg (⟨some 2,.mov (.c (.bool false)),none⟩::[]))
(.seq (.reg (⟨some 3,.mov (.t 0),none⟩::⟨some 4,.bin .geq (.t 3) (.c (.int .u8 (.ofNat 97))),none⟩::⟨some 5,.mov (.t 4),none⟩::⟨some 6,.mov (.t 0),some (5,true)⟩::⟨some 7,.bin .leq (.t 6) (.c (.int .u8 (.ofNat 122))),some (5,true)⟩::⟨some 8,.pick (.t 5) (.t 7) (.c (.bool false)),none⟩::⟨some 9,.mov (.t 8),none⟩::⟨some 10,.mov (.t 0),some (9,false)⟩::⟨some 11,.bin .geq (.t 10) (.c (.int .u8 (.ofNat 48))),some (9,false)⟩::⟨some 12,.mov (.t 11),some (9,false)⟩::⟨some 13,.mov (.t 0),some (12,true)⟩::⟨some 14,.bin .leq (.t 13) (.c (.int .u8 (.ofNat 57))),some (12,true)⟩::⟨some 15,.pick (.t 12) (.t 14) (.c (.bool false)),some (9,false)⟩::⟨some 16,.pick (.t 9) (.c (.bool true)) (.t 15),none⟩::⟨some 2,.mov (.t 16),none⟩::[]))
.ret))⟩
theorem c103_eq : compFn Tryz.prog 103 = some c103 := by kernel_rfl
/-- sort.Search -/
noncomputable def c104 : FnI := ⟨26, [.tmp 4],
(.seq (.reg (⟨some 4,.mov (.c (.int .i64 (.ofNat 0))),none⟩::[]))
(.seq (.reg (⟨some 8,.mov (.t 0),none⟩::⟨some 5,.mov (.c (.int .i64 (.ofNat 0))),none⟩::⟨some 6,.mov (.t 8),none⟩::[]))
(.seq (.block 0 (.loop (.seq (.seq (.reg (⟨some 9,.mov (.t 5),none⟩::⟨some 10,.mov (.t 6),none⟩::⟨some 11,.bin .lss (.t 9) (.t 10),none⟩::[]))
(.cond (.t 11) .skip (.exit 0)))
(.block 1 (.seq (.reg (⟨some 12,.mov (.t 5),none⟩::⟨some 13,.mov (.t 6),none⟩::⟨some 14,.bin .add (.t 12) (.t 13),none⟩::⟨some 15,.cvInt .u64 (.t 14),none⟩::⟨some 16,.bin .shr (.t 15) (.c (.int .u64 (.ofNat 1))),none⟩::⟨some 17,.cvInt .i64 (.t 16),none⟩::⟨some 7,.mov (.t 17),none⟩::[]))
(.seq (.reg (⟨some 18,.mov (.t 1),none⟩::⟨some 19,.mov (.t 7),none⟩::⟨some 20,.callv (.t 18) [(.t 19)],none⟩::⟨some 21,.un .not (.t 20),none⟩::[]))
(.cond (.t 21) (.reg (⟨some 22,.mov (.t 7),none⟩::⟨some 23,.bin .add (.t 22) (.c (.int .i64 (.ofNat 1))),none⟩::⟨some 5,.mov (.t 23),none⟩::[])) (.reg (⟨some 24,.mov (.t 7),none⟩::⟨some 6,.mov (.t 24),none⟩::[])))))))))
(.seq (.reg (⟨some 25,.mov (.t 5),none⟩::⟨some 4,.mov (.t 25),none⟩::[]))
.ret))))⟩
theorem c104_eq : compFn Tryz.prog 104 = some c104 := by kernel_rfl
/-- (*sodality/table.Table[sodality/api.Check]).at$1 -/
noncomputable def c105 : FnI := ⟨15, [.tmp 4],
(.seq (.reg (⟨some 4,.mov (.c (.bool false)),none⟩::[]))
(.seq (.dreg (⟨⟨some 5,.load false 1 (.t 1),none⟩,.load,0,0⟩::⟨⟨some 6,.nilchk (.t 5),none⟩,.quiet,1,1⟩::⟨⟨some 7,.faddr 1 (.t 6),none⟩,.quiet,2,3⟩::⟨⟨some 8,.load false 1 (.t 7),none⟩,.load,3,7⟩::⟨⟨some 9,.mov (.t 0),none⟩,.quiet,4,0⟩::⟨⟨some 10,.idxS 10 (.t 8) (.t 9),none⟩,.quiet,5,31⟩::⟨⟨some 11,.faddr 0 (.t 10),none⟩,.quiet,6,63⟩::⟨⟨some 12,.load false 1 (.t 11),none⟩,.load,7,127⟩::⟨⟨some 13,.load false 1 (.t 2),none⟩,.load,8,0⟩::⟨⟨some 14,.bin .geq (.t 12) (.t 13),none⟩,.quiet,9,511⟩::⟨⟨some 4,.mov (.t 14),none⟩,.quiet,10,1023⟩::[]))
.ret))⟩
theorem c105_eq : compFn Tryz.prog 105 = some c105 := by kernel_rfl
/-- (*sodality/table.Table[sodality/api.Node]).at$1 -/
noncomputable def c106 : FnI := ⟨15, [.tmp 4],
(.seq (.reg (⟨some 4,.mov (.c (.bool false)),none⟩::[]))
(.seq (.dreg (⟨⟨some 5,.load false 1 (.t 1),none⟩,.load,0,0⟩::⟨⟨some 6,.nilchk (.t 5),none⟩,.quiet,1,1⟩::⟨⟨some 7,.faddr 1 (.t 6),none⟩,.quiet,2,3⟩::⟨⟨some 8,.load false 1 (.t 7),none⟩,.load,3,7⟩::⟨⟨some 9,.mov (.t 0),none⟩,.quiet,4,0⟩::⟨⟨some 10,.idxS 7 (.t 8) (.t 9),none⟩,.quiet,5,31⟩::⟨⟨some 11,.faddr 0 (.t 10),none⟩,.quiet,6,63⟩::⟨⟨some 12,.load false 1 (.t 11),none⟩,.load,7,127⟩::⟨⟨some 13,.load false 1 (.t 2),none⟩,.load,8,0⟩::⟨⟨some 14,.bin .geq (.t 12) (.t 13),none⟩,.quiet,9,511⟩::⟨⟨some 4,.mov (.t 14),none⟩,.quiet,10,1023⟩::[]))
.ret))⟩
theorem c106_eq : compFn Tryz.prog 106 = some c106 := by kernel_rfl
/-- (*sodality/table.Table[sodality/api.Service]).each$1 -/
noncomputable def c107 : FnI := ⟨16, [],
(.seq (.reg (⟨some 5,.load false 1 (.t 1),none⟩::⟨some 6,.len false (.t 5),none⟩::⟨some 7,.mov (.c (.int .i64 (.ofNat 0))),none⟩::[]))
(.block 0 (.loop (.seq (.reg (⟨some 8,.bin .lss (.t 7) (.t 6),none⟩::[]))
(.seq (.cond (.t 8) .skip (.exit 0))
(.seq (.block 1 (.seq (.reg (⟨some 9,.idxS 10 (.t 5) (.t 7),none⟩::⟨some 10,.load true 10 (.t 9),none⟩::⟨some 4,.alloc [(.str []), (.int .i64 (.ofNat 0)), (.str []), (.str []), .nilsl, (.int .i64 (.ofNat 0)), (.int .u64 (.ofNat 0)), (.int .u64 (.ofNat 0)), (.int .u64 (.ofNat 0)), (.int .u64 (.ofNat 0))],none⟩::⟨none,.store 10 (.t 4) (.t 10),none⟩::[]))
(.seq (.reg (⟨some 11,.mov (.t 0),none⟩::⟨some 12,.load true 10 (.t 4),none⟩::⟨some 13,.callv (.t 11) [(.t 12)],none⟩::⟨some 14,.un .not (.t 13),none⟩::[]))
(.cond (.t 14) .ret .skip))))
(.reg (⟨some 15,.bin .add (.t 7) (.c (.int .i64 (.ofNat 1))),none⟩::⟨some 7,.mov (.t 15),none⟩::[]))))))))⟩
theorem c107_eq : compFn Tryz.prog 107 = some c107 := by kernel_rfl
/-- (*sodality/table.Table[sodality/api.Service]).at$1 -/
noncomputable def c108 : FnI := ⟨15, [.tmp 4],
(.seq (.reg (⟨some 4,.mov (.c (.bool false)),none⟩::[]))
(.seq (.dreg (⟨⟨some 5,.load false 1 (.t 1),none⟩,.load,0,0⟩::⟨⟨some 6,.nilchk (.t 5),none⟩,.quiet,1,1⟩::⟨⟨some 7,.faddr 1 (.t 6),none⟩,.quiet,2,3⟩::⟨⟨some 8,.load false 1 (.t 7),none⟩,.load,3,7⟩::⟨⟨some 9,.mov (.t 0),none⟩,.quiet,4,0⟩::⟨⟨some 10,.idxS 10 (.t 8) (.t 9),none⟩,.quiet,5,31⟩::⟨⟨some 11,.faddr 0 (.t 10),none⟩,.quiet,6,63⟩::⟨⟨some 12,.load false 1 (.t 11),none⟩,.load,7,127⟩::⟨⟨some 13,.load false 1 (.t 2),none⟩,.load,8,0⟩::⟨⟨some 14,.bin .geq (.t 12) (.t 13),none⟩,.quiet,9,511⟩::⟨⟨some 4,.mov (.t 14),none⟩,.quiet,10,1023⟩::[]))
.ret))⟩
theorem c108_eq : compFn Tryz.prog 108 = some c108 := by kernel_rfl
/-- (*sodality/table.Table[sodality/api.Check]).each -/
noncomputable def c109 : FnI := ⟨7, [.tmp 2],
(.seq (.reg (⟨some 2,.mov (.c .nilfn),none⟩::[]))
(.seq (.reg (⟨some 4,.mov (.t 0),none⟩::⟨some 5,.call 85 [(.t 4)],none⟩::⟨some 3,.alloc [.nilsl],none⟩::⟨none,.store 1 (.t 3) (.t 5),none⟩::[]))
(.seq (.reg (⟨some 6,.mkfn 113 [] [(.t 3)],none⟩::⟨some 2,.mov (.t 6),none⟩::[]))
.ret)))⟩
theorem c109_eq : compFn Tryz.prog 109 = some c109 := by kernel_rfl
/-- (*sodality/table.Table[sodality/api.Check]).Each$1 -/
noncomputable def c110 : FnI := ⟨13, [],
(.seq (.reg (⟨some 2,.box (.t 0),none⟩::[]))
(.seq (.reg (⟨some 4,.load false 1 (.t 1),none⟩::[]))
(.block 0 (.rangef (.t 4) [5] (.reg (⟨some 3,.alloc [(.str []), (.int .i64 (.ofNat 0)), (.str []), (.str []), (.str []), (.int .i64 (.ofNat 0)), (.int .u64 (.ofNat 0)), (.int .u64 (.ofNat 0)), (.int .u64 (.ofNat 0)), (.int .u64 (.ofNat 0))],none⟩::⟨none,.store 10 (.t 3) (.t 5),none⟩::[])) (.block 1 (.seq (.reg (⟨some 6,.load false 1 (.t 2),none⟩::⟨some 7,.faddr 0 (.t 3),none⟩::⟨some 8,.load false 1 (.t 7),none⟩::⟨some 9,.faddr 1 (.t 3),none⟩::⟨some 10,.load true 7 (.t 9),none⟩::⟨some 11,.callv (.t 6) [(.t 8), (.t 10)],none⟩::⟨some 12,.un .not (.t 11),none⟩::[]))
(.cond (.t 12) .ret .skip)))))))⟩
theorem c110_eq : compFn Tryz.prog 110 = some c110 := by kernel_rfl
/-- sodality/sodalityref01.plain -/
noncomputable def c111 : FnI := ⟨17, [.tmp 2],
(.seq (.reg (⟨some 2,.mov (.c (.bool false)),none⟩::[]))
(.seq (.reg (⟨some 3,.mov (.t 0),none⟩::⟨some 4,.bin .geq (.t 3) (.c (.int .u8 (.ofNat 97))),none⟩::⟨some 5,.mov (.t 4),none⟩::⟨some 6,.mov (.t 0),some (5,true)⟩::⟨some 7,.bin .leq (.t 6) (.c (.int .u8 (.ofNat 122))),some (5,true)⟩::⟨some 8,.pick (.t 5) (.t 7) (.c (.bool false)),none⟩::⟨some 9,.mov (.t 8),none⟩::⟨some 10,.mov (.t 0),some (9,false)⟩::⟨some 11,.bin .geq (.t 10) (.c (.int .u8 (.ofNat 48))),some (9,false)⟩::⟨some 12,.mov (.t 11),some (9,false)⟩::⟨some 13,.mov (.t 0),some (12,true)⟩::⟨some 14,.bin .leq (.t 13) (.c (.int .u8 (.ofNat 57))),some (12,true)⟩::⟨some 15,.pick (.t 12) (.t 14) (.c (.bool false)),some (9,false)⟩::⟨some 16,.pick (.t 9) (.c (.bool true)) (.t 15),none⟩::⟨some 2,.mov (.t 16),none⟩::[]))
.ret))⟩
theorem c111_eq : compFn Tryz.prog 111 = some c111 := by kernel_rfl
/-- sodality/sodalityref01.Rising -/
noncomputable def c112 : FnI := ⟨20, [.tmp 2],
(.seq (.reg (⟨some 2,.mov (.c (.bool false)),none⟩::[]))
(.seq (.seq (.reg (⟨some 3,.mov (.c (.int .i64 (.ofNat 1))),none⟩::[]))
(.block 0 (.loop (.seq (.seq (.reg (⟨some 4,.mov (.t 3),none⟩::⟨some 5,.mov (.t 0),none⟩::⟨some 6,.len false (.t 5),none⟩::⟨some 7,.bin .lss (.t 4) (.t 6),none⟩::[]))
(.cond (.t 7) .skip (.exit 0)))
(.seq (.block 1 (.seq (.dreg (⟨⟨some 10,.mov (.t 0),none⟩,.quiet,0,0⟩::⟨⟨some 11,.mov (.t 3),none⟩,.quiet,1,0⟩::⟨⟨some 12,.bin .sub (.t 11) (.c (.int .i64 (.ofNat 1))),none⟩,.quiet,2,2⟩::⟨⟨some 13,.idxS 1 (.t 10) (.t 12),none⟩,.quiet,3,7⟩::⟨⟨some 14,.load false 1 (.t 13),none⟩,.load,4,15⟩::⟨⟨some 15,.mov (.t 0),none⟩,.quiet,5,0⟩::⟨⟨some 16,.mov (.t 3),none⟩,.quiet,6,0⟩::⟨⟨some 17,.idxS 1 (.t 15) (.t 16),none⟩,.quiet,7,96⟩::⟨⟨some 18,.load false 1 (.t 17),none⟩,.load,8,224⟩::⟨⟨some 19,.bin .geq (.t 14) (.t 18),none⟩,.quiet,9,511⟩::[]))
(.cond (.t 19) (.seq (.reg (⟨some 2,.mov (.c (.bool false)),none⟩::[]))
.ret) .skip)))
(.reg (⟨some 8,.mov (.t 3),none⟩::⟨some 9,.bin .add (.t 8) (.c (.int .i64 (.ofNat 1))),none⟩::⟨some 3,.mov (.t 9),none⟩::[])))))))
(.seq (.reg (⟨some 2,.mov (.c (.bool true)),none⟩::[]))
.ret)))⟩
theorem c112_eq : compFn Tryz.prog 112 = some c112 := by kernel_rfl
/-- (*sodality/table.Table[sodality/api.Check]).each$1 -/
noncomputable def c113 : FnI := ⟨16, [],
(.seq (.reg (⟨some 5,.load false 1 (.t 1),none⟩::⟨some 6,.len false (.t 5),none⟩::⟨some 7,.mov (.c (.int .i64 (.ofNat 0))),none⟩::[]))
(.block 0 (.loop (.seq (.reg (⟨some 8,.bin .lss (.t 7) (.t 6),none⟩::[]))
(.seq (.cond (.t 8) .skip (.exit 0))
(.seq (.block 1 (.seq (.reg (⟨some 9,.idxS 10 (.t 5) (.t 7),none⟩::⟨some 10,.load true 10 (.t 9),none⟩::⟨some 4,.alloc [(.str []), (.int .i64 (.ofNat 0)), (.str []), (.str []), (.str []), (.int .i64 (.ofNat 0)), (.int .u64 (.ofNat 0)), (.int .u64 (.ofNat 0)), (.int .u64 (.ofNat 0)), (.int .u64 (.ofNat 0))],none⟩::⟨none,.store 10 (.t 4) (.t 10),none⟩::[]))
(.seq (.reg (⟨some 11,.mov (.t 0),none⟩::⟨some 12,.load true 10 (.t 4),none⟩::⟨some 13,.callv (.t 11) [(.t 12)],none⟩::⟨some 14,.un .not (.t 13),none⟩::[]))
(.cond (.t 14) .ret .skip))))
(.reg (⟨some 15,.bin .add (.t 7) (.c (.int .i64 (.ofNat 1))),none⟩::⟨some 7,.mov (.t 15),none⟩::[]))))))))⟩
theorem c113_eq : compFn Tryz.prog 113 = some c113 := by kernel_rfl
end Go.Proofs.YtgpnpcahcegadaaGreat.RO
