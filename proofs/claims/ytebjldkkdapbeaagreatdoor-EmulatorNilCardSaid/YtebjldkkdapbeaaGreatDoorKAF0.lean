/- What the functions' code comes to, read off the loaded program. Printed by a program of this session. -/
import Derived.Test.YtebjldkkdapbeaaGreatDoorChecked
import Derived.Test.YtebjldkkdapbeaaGreatDoorEngV6
namespace Go.Proofs.YtebjldkkdapbeaaGreatDoor.Eng
open Go
set_option maxRecDepth 100000
/- wayfarer/wayfarerlaw17.EmulatorNil : 33 -/
def E8 : FnK := ⟨.seq (.ins [2] [.q (some 2) none (.mov (.c (.bool false)))]) <|
 .seq (.ins [3] [.q (some 3) none (.mov (.c (.v (.pointer none))))]) <|
 .seq (.ins [2] [.q (some 4) none (.mov (.t 3)),
 .q (some 5) none (.mov (.t 0)),
 .l (some 6) none (.call 12 [.t 4, .t 5]),
 .q (some 7) none (.len (.t 6)),
 .q (some 8) none (.bin 0 .eql (.t 7) (.c (.int .i64 0))),
 .q (some 9) none (.mov (.t 8)),
 .q (some 10) (some (9, true)) (.mov (.t 3)),
 .l (some 11) (some (9, true)) (.call 13 [.t 10]),
 .q (some 12) (some (9, true)) (.build [.int .i64 0, .int .i64 0, .s 0 (0, 0) 0 0 0 0, .int .i64 0, .int .i64 0, .bool false, .int .i64 0, .int .i64 0, .bool false, .bool false, .bool false, .bool false, .bool false, .bool false, .bool false, .bool false, .int .i64 0, .int .i64 0, .s 0 (0, 0) 0 0 0 0, .bool false, .bool false, .bool false, .bool false, .bool false, .bool false, .int .i64 0, .int .i64 0, .bool false, .bool false, .int .i64 0, .int .i64 0, .bool false, .bool false, .bool false, .bool false, .bool false, .bool false, .bool false, .bool false, .bool false, .int .i64 0, .int .i64 0, .s 0 (0, 0) 0 0 0 0, .s 0 (0, 0) 0 0 0 0] []),
 .l (some 13) (some (9, true)) (.call 15 [.t 11, .t 12]),
 .q (some 14) none (.pick (.t 9) (.t 13) (.c (.bool false))),
 .q (some 15) none (.mov (.t 14)),
 .q (some 16) (some (15, true)) (.mov (.t 3)),
 .l (some 17) (some (15, true)) (.call 31 [.t 16, .c (.int .i64 3), .c (.int .i64 2)]),
 .q (some 18) (some (15, true)) (.bin 0 .eql (.t 17) (.c (.int .i64 1))),
 .q (some 19) none (.pick (.t 15) (.t 18) (.c (.bool false))),
 .q (some 20) none (.mov (.t 19)),
 .q (some 21) (some (20, true)) (.mov (.t 3)),
 .l (some 22) (some (20, true)) (.call 17 [.t 21]),
 .q (some 23) (some (20, true)) (.un .not (.t 22)),
 .q (some 24) none (.pick (.t 20) (.t 23) (.c (.bool false))),
 .q (some 25) none (.mov (.t 24)),
 .q (some 26) (some (25, true)) (.mov (.t 3)),
 .l (some 27) (some (25, true)) (.call 24 [.t 26]),
 .q (some 28) (some (25, true)) (.bin 2 .eql (.t 27) (.c (.v (.pointer none)))),
 .q (some 29) none (.pick (.t 25) (.t 28) (.c (.bool false))),
 .q (some 30) none (.mov (.t 29)),
 .l (some 31) (some (30, true)) (.call 19 []),
 .q (some 32) none (.pick (.t 30) (.t 31) (.c (.bool false))),
 .q (some 2) none (.mov (.t 32))]) <|
 .ret, [.t 2], [3, 0, 2], [3, 0, 2], 33⟩
theorem ok8 : FnOkK Tryz.prog 8 E8 := ⟨Tryz.f8, Tryz.func8, by kernel_rfl, by kernel_rfl, by kernel_rfl, by kernel_rfl⟩
/- wayfarer/emulator.New : 22 -/
def E11 : FnK := ⟨.seq (.ins [4, 5] [.q (some 4) none (.mov (.c (.v (.pointer none)))),
 .q (some 5) none (.mov (.c (.int .i64 0)))]) <|
 .seq (.ins [6, 7] [.q (some 9) none (.mov (.t 0)),
 .q (some 10) none (.mov (.t 1)),
 .l (some 11) none (.call 44 [.t 9, .t 10]),
 .q (some 8) none (.mov (.t 11)),
 .q (some 12) none (.ext 0 (.t 8)),
 .q (some 13) none (.ext 1 (.t 8)),
 .l (some 6) none (.alloc [.int .i64 0, .int .i64 0, .s 0 (0, 0) 0 0 0 0, .int .i64 0, .int .i64 0, .bool false, .int .i64 0, .int .i64 0, .bool false, .bool false, .bool false, .bool false, .bool false, .bool false, .bool false, .bool false, .int .i64 0, .int .i64 0, .s 0 (0, 0) 0 0 0 0, .bool false, .bool false, .bool false, .bool false, .bool false, .bool false, .int .i64 0, .int .i64 0, .bool false, .bool false, .int .i64 0, .int .i64 0, .bool false, .bool false, .bool false, .bool false, .bool false, .bool false, .bool false, .bool false, .bool false, .int .i64 0, .int .i64 0, .s 0 (0, 0) 0 0 0 0, .s 0 (0, 0) 0 0 0 0]),
 .l none none (.store 44 (.t 6) (.t 12)),
 .q (some 7) none (.mov (.t 13))]) <|
 .seq (.seq (.ins [15] [.q (some 14) none (.mov (.t 7)),
 .q (some 15) none (.bin 0 .neq (.t 14) (.c (.int .i64 0)))]) <|
 .cond (.t 15) (.seq (.ins [4, 5] [.q (some 16) none (.mov (.t 7)),
 .q (some 4) none (.mov (.c (.v (.pointer none)))),
 .q (some 5) none (.mov (.t 16))]) <|
 .ret) <|
 .skip) <|
 .seq (.plan [4, 5] <|
 .one 2 [] (.q (some 19) none (.load 44 true (.t 6))) <|
 .late [] <|
 .one 0 [] (.l (some 17) none (.call 45 [])) <|
 .late [] <|
 .one 1 [] (.l (some 18) none (.call 46 [])) <|
 .one 3 [] (.q (some 20) none (.build [.v (.pointer none), .v (.pointer none), .int .i64 0, .int .i64 0, .s 0 (0, 0) 0 0 0 0, .int .i64 0, .int .i64 0, .bool false, .int .i64 0, .int .i64 0, .bool false, .bool false, .bool false, .bool false, .bool false, .bool false, .bool false, .bool false, .int .i64 0, .int .i64 0, .s 0 (0, 0) 0 0 0 0, .bool false, .bool false, .bool false, .bool false, .bool false, .bool false, .int .i64 0, .int .i64 0, .bool false, .bool false, .int .i64 0, .int .i64 0, .bool false, .bool false, .bool false, .bool false, .bool false, .bool false, .bool false, .bool false, .bool false, .int .i64 0, .int .i64 0, .s 0 (0, 0) 0 0 0 0, .s 0 (0, 0) 0 0 0 0] [(0, 1, (.t 17)), (1, 1, (.t 18)), (2, 44, (.t 19))])) <|
 .late [] <|
 .one 4 [2] (.l (some 21) none (.box (.t 20))) <|
 .one 5 [] (.q (some 4) none (.mov (.t 21))) <|
 .one 6 [] (.q (some 5) none (.mov (.c (.int .i64 0)))) <|
 .done) <|
 .ret, [.t 4, .t 5], [0, 1, 7, 15, 6, 4, 5], [0, 1, 7, 15, 6, 4, 5], 22⟩
theorem ok11 : FnOkK Tryz.prog 11 E11 := ⟨Tryz.f11, Tryz.func11, by kernel_rfl, by kernel_rfl, by kernel_rfl, by kernel_rfl⟩
/- (*wayfarer/emulator.Emulator).Write : 54 -/
def E12 : FnK := ⟨.seq (.ins [4] [.q (some 4) none (.mov (.c (.s 0 (0, 0) 0 0 0 0)))]) <|
 .seq (.seq (.ins [13] [.q (some 12) none (.mov (.t 0)),
 .l (some 13) none (.call 47 [.t 12])]) <|
 .cond (.t 13) (.seq (.ins [4] [.q (some 4) none (.mov (.c (.s 0 (0, 0) 0 0 0 0)))]) <|
 .ret) <|
 .skip) <|
 .seq (.ins [5] [.q (some 5) none (.mov (.c (.s 0 (0, 0) 0 0 0 0)))]) <|
 .seq (.seq (.ins [14, 15, 16] [.q (some 14) none (.mov (.t 1)),
 .q (some 15) none (.len (.t 14)),
 .q (some 16) none (.mov (.c (.int .i64 0)))]) <|
 .block 0 <|
 .loop <|
 .seq (.ins [17] [.q (some 17) none (.bin 0 .lss (.t 16) (.t 15))]) <|
 .seq (.cond (.t 17) (.skip) <|
 .exit 0) <|
 .seq (.block 1 <|
 .seq (.ins [7] [.q (some 18) none (.iaddr 1 (.t 14) (.t 16)),
 .q (some 19) none (.load 1 false (.t 18)),
 .q (some 7) none (.mov (.t 19))]) <|
 .seq (.ins [25, 26, 27] [.q (some 20) none (.mov (.t 0)),
 .q (some 21) none (.nilc (.t 20)),
 .q (some 22) none (.faddr 0 (.t 21)),
 .q (some 23) none (.load 1 false (.t 22)),
 .q (some 24) none (.mov (.t 7)),
 .l (some 25) none (.call 48 [.t 23, .t 24]),
 .q (some 26) none (.len (.t 25)),
 .q (some 27) none (.mov (.c (.int .i64 0)))]) <|
 .block 2 <|
 .loop <|
 .seq (.ins [28] [.q (some 28) none (.bin 0 .lss (.t 27) (.t 26))]) <|
 .seq (.cond (.t 28) (.skip) <|
 .exit 2) <|
 .seq (.block 3 <|
 .seq (.ins [9] [.q (some 29) none (.iaddr 1 (.t 25) (.t 27)),
 .q (some 30) none (.load 1 false (.t 29)),
 .q (some 9) none (.mov (.t 30))]) <|
 .seq (.ins [36, 37, 38] [.q (some 31) none (.mov (.t 0)),
 .q (some 32) none (.nilc (.t 31)),
 .q (some 33) none (.faddr 1 (.t 32)),
 .q (some 34) none (.load 1 false (.t 33)),
 .q (some 35) none (.mov (.t 9)),
 .l (some 36) none (.call 49 [.t 34, .t 35]),
 .q (some 37) none (.len (.t 36)),
 .q (some 38) none (.mov (.c (.int .i64 0)))]) <|
 .block 4 <|
 .loop <|
 .seq (.ins [39] [.q (some 39) none (.bin 0 .lss (.t 38) (.t 37))]) <|
 .seq (.cond (.t 39) (.skip) <|
 .exit 4) <|
 .seq (.block 5 <|
 .seq (.ins [11] [.q (some 40) none (.iaddr 7 (.t 36) (.t 38)),
 .q (some 41) none (.load 7 true (.t 40)),
 .l (some 11) none (.alloc [.int .u8 0, .int .i32 0, .int .u8 0, .int .u8 0, .s 0 (0, 0) 0 0 0 0, .s 0 (0, 0) 0 0 0 0, .s 0 (0, 0) 0 0 0 0]),
 .l none none (.store 7 (.t 11) (.t 41))]) <|
 .plan [5] <|
 .one 0 [] (.q (some 42) none (.mov (.t 5))) <|
 .one 1 [] (.q (some 43) none (.mov (.t 0))) <|
 .one 2 [] (.q (some 44) none (.nilc (.t 43))) <|
 .one 3 [] (.q (some 45) none (.faddr 2 (.t 44))) <|
 .one 4 [] (.q (some 46) none (.build [.v (.pointer none)] [(0, 1, (.t 45))])) <|
 .one 5 [] (.q (some 47) none (.load 7 true (.t 11))) <|
 .late [] <|
 .one 6 [5] (.l (some 48) none (.call 50 [.t 46, .t 47])) <|
 .late [] <|
 .one 7 [5] (.l (some 49) none (.append 1 1 (.t 42) (.t 48))) <|
 .one 8 [] (.q (some 5) none (.mov (.t 49))) <|
 .done) <|
 .ins [38] [.q (some 50) none (.bin 0 .add (.t 38) (.c (.int .i64 1))),
 .q (some 38) none (.mov (.t 50))]) <|
 .ins [27] [.q (some 51) none (.bin 0 .add (.t 27) (.c (.int .i64 1))),
 .q (some 27) none (.mov (.t 51))]) <|
 .ins [16] [.q (some 52) none (.bin 0 .add (.t 16) (.c (.int .i64 1))),
 .q (some 16) none (.mov (.t 52))]) <|
 .seq (.ins [4] [.q (some 53) none (.mov (.t 5)),
 .q (some 4) none (.mov (.t 53))]) <|
 .ret, [.t 4], [0, 13, 1, 16, 15, 17, 14, 7, 27, 26, 28, 25, 9, 38, 37, 39, 36, 5, 11, 4], [0, 13, 1, 16, 15, 17, 14, 7, 27, 26, 28, 25, 9, 38, 37, 39, 36, 5, 11, 4], 54⟩
theorem ok12 : FnOkK Tryz.prog 12 E12 := ⟨Tryz.f12, Tryz.func12, by kernel_rfl, by kernel_rfl, by kernel_rfl, by kernel_rfl⟩
/- (*wayfarer/emulator.Emulator).Screen : 11 -/
def E13 : FnK := ⟨.seq (.ins [2] [.l (some 2) none (.alloc [.int .i64 0, .int .i64 0, .s 0 (0, 0) 0 0 0 0, .int .i64 0, .int .i64 0, .bool false, .int .i64 0, .int .i64 0, .bool false, .bool false, .bool false, .bool false, .bool false, .bool false, .bool false, .bool false, .int .i64 0, .int .i64 0, .s 0 (0, 0) 0 0 0 0, .bool false, .bool false, .bool false, .bool false, .bool false, .bool false, .int .i64 0, .int .i64 0, .bool false, .bool false, .int .i64 0, .int .i64 0, .bool false, .bool false, .bool false, .bool false, .bool false, .bool false, .bool false, .bool false, .bool false, .int .i64 0, .int .i64 0, .s 0 (0, 0) 0 0 0 0, .s 0 (0, 0) 0 0 0 0])]) <|
 .seq (.seq (.ins [4] [.q (some 3) none (.mov (.t 0)),
 .l (some 4) none (.call 47 [.t 3])]) <|
 .cond (.t 4) (.seq (.ins [] [.q (some 5) none (.build [.int .i64 0, .int .i64 0, .s 0 (0, 0) 0 0 0 0, .int .i64 0, .int .i64 0, .bool false, .int .i64 0, .int .i64 0, .bool false, .bool false, .bool false, .bool false, .bool false, .bool false, .bool false, .bool false, .int .i64 0, .int .i64 0, .s 0 (0, 0) 0 0 0 0, .bool false, .bool false, .bool false, .bool false, .bool false, .bool false, .int .i64 0, .int .i64 0, .bool false, .bool false, .int .i64 0, .int .i64 0, .bool false, .bool false, .bool false, .bool false, .bool false, .bool false, .bool false, .bool false, .bool false, .int .i64 0, .int .i64 0, .s 0 (0, 0) 0 0 0 0, .s 0 (0, 0) 0 0 0 0] []),
 .l none none (.store 44 (.t 2) (.t 5))]) <|
 .ret) <|
 .skip) <|
 .seq (.ins [] [.q (some 6) none (.mov (.t 0)),
 .q (some 7) none (.nilc (.t 6)),
 .q (some 8) none (.faddr 2 (.t 7)),
 .q (some 9) none (.load 44 true (.t 8)),
 .l (some 10) none (.call 51 [.t 9]),
 .l none none (.store 44 (.t 2) (.t 10))]) <|
 .ret, [.cell 2 44 true], [0, 4, 2], [0, 4, 2], 11⟩
theorem ok13 : FnOkK Tryz.prog 13 E13 := ⟨Tryz.f13, Tryz.func13, by kernel_rfl, by kernel_rfl, by kernel_rfl, by kernel_rfl⟩
/- wayfarer/wayfarerref16.Same : 171 -/
def E15 : FnK := ⟨.seq (.ins [2, 3, 4] [.l (some 2) none (.box (.t 0)),
 .l (some 3) none (.box (.t 1)),
 .q (some 4) none (.mov (.c (.bool false)))]) <|
 .seq (.seq (.ins [38] [.q (some 7) none (.faddr 0 (.t 2)),
 .q (some 8) none (.load 3 true (.t 7)),
 .q (some 9) none (.faddr 0 (.t 3)),
 .q (some 10) none (.load 3 true (.t 9)),
 .l (some 11) none (.call 43 [.t 8, .t 10]),
 .q (some 12) none (.un .not (.t 11)),
 .q (some 13) none (.mov (.t 12)),
 .q (some 14) (some (13, false)) (.faddr 40 (.t 2)),
 .q (some 15) (some (13, false)) (.load 3 true (.t 14)),
 .q (some 16) (some (13, false)) (.faddr 40 (.t 3)),
 .q (some 17) (some (13, false)) (.load 3 true (.t 16)),
 .l (some 18) (some (13, false)) (.call 43 [.t 15, .t 17]),
 .q (some 19) (some (13, false)) (.un .not (.t 18)),
 .q (some 20) none (.pick (.t 13) (.c (.bool true)) (.t 19)),
 .q (some 21) none (.mov (.t 20)),
 .q (some 22) (some (21, false)) (.faddr 18 (.t 2)),
 .q (some 23) (some (21, false)) (.load 1 false (.t 22)),
 .q (some 24) (some (21, false)) (.len (.t 23)),
 .q (some 25) (some (21, false)) (.faddr 18 (.t 3)),
 .q (some 26) (some (21, false)) (.load 1 false (.t 25)),
 .q (some 27) (some (21, false)) (.len (.t 26)),
 .q (some 28) (some (21, false)) (.bin 0 .neq (.t 24) (.t 27)),
 .q (some 29) none (.pick (.t 21) (.c (.bool true)) (.t 28)),
 .q (some 30) none (.mov (.t 29)),
 .q (some 31) (some (30, false)) (.faddr 43 (.t 2)),
 .q (some 32) (some (30, false)) (.load 1 false (.t 31)),
 .q (some 33) (some (30, false)) (.len (.t 32)),
 .q (some 34) (some (30, false)) (.faddr 43 (.t 3)),
 .q (some 35) (some (30, false)) (.load 1 false (.t 34)),
 .q (some 36) (some (30, false)) (.len (.t 35)),
 .q (some 37) (some (30, false)) (.bin 0 .neq (.t 33) (.t 36)),
 .q (some 38) none (.pick (.t 30) (.c (.bool true)) (.t 37))]) <|
 .cond (.t 38) (.seq (.ins [4] [.q (some 4) none (.mov (.c (.bool false)))]) <|
 .ret) <|
 .skip) <|
 .seq (.seq (.ins [5] [.q (some 5) none (.mov (.c (.int .i64 0)))]) <|
 .block 0 <|
 .loop <|
 .seq (.seq (.ins [43] [.q (some 39) none (.mov (.t 5)),
 .q (some 40) none (.faddr 18 (.t 2)),
 .q (some 41) none (.load 1 false (.t 40)),
 .q (some 42) none (.len (.t 41)),
 .q (some 43) none (.bin 0 .lss (.t 39) (.t 42))]) <|
 .cond (.t 43) (.skip) <|
 .exit 0) <|
 .seq (.block 1 <|
 .seq (.plan [56] <|
 .one 0 [] (.q (some 46) none (.faddr 18 (.t 2))) <|
 .one 1 [] (.q (some 47) none (.load 1 false (.t 46))) <|
 .one 2 [] (.q (some 48) none (.mov (.t 5))) <|
 .one 3 [] (.q (some 49) none (.iaddr 1 (.t 47) (.t 48))) <|
 .one 4 [] (.q (some 50) none (.load 1 false (.t 49))) <|
 .one 5 [] (.q (some 51) none (.faddr 18 (.t 3))) <|
 .one 6 [] (.q (some 52) none (.load 1 false (.t 51))) <|
 .one 7 [] (.q (some 53) none (.mov (.t 5))) <|
 .one 8 [] (.q (some 54) none (.iaddr 1 (.t 52) (.t 53))) <|
 .one 9 [] (.q (some 55) none (.load 1 false (.t 54))) <|
 .one 10 [] (.q (some 56) none (.bin 0 .neq (.t 50) (.t 55))) <|
 .done) <|
 .cond (.t 56) (.seq (.ins [4] [.q (some 4) none (.mov (.c (.bool false)))]) <|
 .ret) <|
 .skip) <|
 .ins [5] [.q (some 44) none (.mov (.t 5)),
 .q (some 45) none (.bin 0 .add (.t 44) (.c (.int .i64 1))),
 .q (some 5) none (.mov (.t 45))]) <|
 .seq (.seq (.ins [6] [.q (some 6) none (.mov (.c (.int .i64 0)))]) <|
 .block 2 <|
 .loop <|
 .seq (.seq (.ins [61] [.q (some 57) none (.mov (.t 6)),
 .q (some 58) none (.faddr 43 (.t 2)),
 .q (some 59) none (.load 1 false (.t 58)),
 .q (some 60) none (.len (.t 59)),
 .q (some 61) none (.bin 0 .lss (.t 57) (.t 60))]) <|
 .cond (.t 61) (.skip) <|
 .exit 2) <|
 .seq (.block 3 <|
 .seq (.plan [74] <|
 .one 0 [] (.q (some 64) none (.faddr 43 (.t 2))) <|
 .one 1 [] (.q (some 65) none (.load 1 false (.t 64))) <|
 .one 2 [] (.q (some 66) none (.mov (.t 6))) <|
 .one 3 [] (.q (some 67) none (.iaddr 1 (.t 65) (.t 66))) <|
 .one 4 [] (.q (some 68) none (.load 1 false (.t 67))) <|
 .one 5 [] (.q (some 69) none (.faddr 43 (.t 3))) <|
 .one 6 [] (.q (some 70) none (.load 1 false (.t 69))) <|
 .one 7 [] (.q (some 71) none (.mov (.t 6))) <|
 .one 8 [] (.q (some 72) none (.iaddr 1 (.t 70) (.t 71))) <|
 .one 9 [] (.q (some 73) none (.load 1 false (.t 72))) <|
 .one 10 [] (.q (some 74) none (.bin 0 .neq (.t 68) (.t 73))) <|
 .done) <|
 .cond (.t 74) (.seq (.ins [4] [.q (some 4) none (.mov (.c (.bool false)))]) <|
 .ret) <|
 .skip) <|
 .ins [6] [.q (some 62) none (.mov (.t 6)),
 .q (some 63) none (.bin 0 .add (.t 62) (.c (.int .i64 1))),
 .q (some 6) none (.mov (.t 63))]) <|
 .seq (.ins [4] [.q (some 75) none (.faddr 3 (.t 2)),
 .q (some 76) none (.load 1 false (.t 75)),
 .q (some 77) none (.faddr 3 (.t 3)),
 .q (some 78) none (.load 1 false (.t 77)),
 .q (some 79) none (.bin 0 .eql (.t 76) (.t 78)),
 .q (some 80) none (.mov (.t 79)),
 .q (some 81) (some (80, true)) (.faddr 4 (.t 2)),
 .q (some 82) (some (80, true)) (.load 1 false (.t 81)),
 .q (some 83) (some (80, true)) (.faddr 4 (.t 3)),
 .q (some 84) (some (80, true)) (.load 1 false (.t 83)),
 .q (some 85) (some (80, true)) (.bin 0 .eql (.t 82) (.t 84)),
 .q (some 86) none (.pick (.t 80) (.t 85) (.c (.bool false))),
 .q (some 87) none (.mov (.t 86)),
 .q (some 88) (some (87, true)) (.faddr 5 (.t 2)),
 .q (some 89) (some (87, true)) (.load 1 false (.t 88)),
 .q (some 90) (some (87, true)) (.faddr 5 (.t 3)),
 .q (some 91) (some (87, true)) (.load 1 false (.t 90)),
 .q (some 92) (some (87, true)) (.bin 1 .eql (.t 89) (.t 91)),
 .q (some 93) none (.pick (.t 87) (.t 92) (.c (.bool false))),
 .q (some 94) none (.mov (.t 93)),
 .q (some 95) (some (94, true)) (.faddr 6 (.t 2)),
 .q (some 96) (some (94, true)) (.load 10 true (.t 95)),
 .q (some 97) (some (94, true)) (.faddr 6 (.t 3)),
 .q (some 98) (some (94, true)) (.load 10 true (.t 97)),
 .q (some 99) (some (94, true)) (.eqa false [true, true, false, false, false, false, false, false, false, false] (.t 96) (.t 98)),
 .q (some 100) none (.pick (.t 94) (.t 99) (.c (.bool false))),
 .q (some 101) none (.mov (.t 100)),
 .q (some 102) (some (101, true)) (.faddr 16 (.t 2)),
 .q (some 103) (some (101, true)) (.load 1 false (.t 102)),
 .q (some 104) (some (101, true)) (.faddr 16 (.t 3)),
 .q (some 105) (some (101, true)) (.load 1 false (.t 104)),
 .q (some 106) (some (101, true)) (.bin 0 .eql (.t 103) (.t 105)),
 .q (some 107) none (.pick (.t 101) (.t 106) (.c (.bool false))),
 .q (some 108) none (.mov (.t 107)),
 .q (some 109) (some (108, true)) (.faddr 17 (.t 2)),
 .q (some 110) (some (108, true)) (.load 1 false (.t 109)),
 .q (some 111) (some (108, true)) (.faddr 17 (.t 3)),
 .q (some 112) (some (108, true)) (.load 1 false (.t 111)),
 .q (some 113) (some (108, true)) (.bin 0 .eql (.t 110) (.t 112)),
 .q (some 114) none (.pick (.t 108) (.t 113) (.c (.bool false))),
 .q (some 115) none (.mov (.t 114)),
 .q (some 116) (some (115, true)) (.faddr 19 (.t 2)),
 .q (some 117) (some (115, true)) (.load 1 false (.t 116)),
 .q (some 118) (some (115, true)) (.faddr 19 (.t 3)),
 .q (some 119) (some (115, true)) (.load 1 false (.t 118)),
 .q (some 120) (some (115, true)) (.bin 1 .eql (.t 117) (.t 119)),
 .q (some 121) none (.pick (.t 115) (.t 120) (.c (.bool false))),
 .q (some 122) none (.mov (.t 121)),
 .q (some 123) (some (122, true)) (.faddr 20 (.t 2)),
 .q (some 124) (some (122, true)) (.load 1 false (.t 123)),
 .q (some 125) (some (122, true)) (.faddr 20 (.t 3)),
 .q (some 126) (some (122, true)) (.load 1 false (.t 125)),
 .q (some 127) (some (122, true)) (.bin 1 .eql (.t 124) (.t 126)),
 .q (some 128) none (.pick (.t 122) (.t 127) (.c (.bool false))),
 .q (some 129) none (.mov (.t 128)),
 .q (some 130) (some (129, true)) (.faddr 21 (.t 2)),
 .q (some 131) (some (129, true)) (.load 1 false (.t 130)),
 .q (some 132) (some (129, true)) (.faddr 21 (.t 3)),
 .q (some 133) (some (129, true)) (.load 1 false (.t 132)),
 .q (some 134) (some (129, true)) (.bin 1 .eql (.t 131) (.t 133)),
 .q (some 135) none (.pick (.t 129) (.t 134) (.c (.bool false))),
 .q (some 136) none (.mov (.t 135)),
 .q (some 137) (some (136, true)) (.faddr 22 (.t 2)),
 .q (some 138) (some (136, true)) (.load 1 false (.t 137)),
 .q (some 139) (some (136, true)) (.faddr 22 (.t 3)),
 .q (some 140) (some (136, true)) (.load 1 false (.t 139)),
 .q (some 141) (some (136, true)) (.bin 1 .eql (.t 138) (.t 140)),
 .q (some 142) none (.pick (.t 136) (.t 141) (.c (.bool false))),
 .q (some 143) none (.mov (.t 142)),
 .q (some 144) (some (143, true)) (.faddr 23 (.t 2)),
 .q (some 145) (some (143, true)) (.load 1 false (.t 144)),
 .q (some 146) (some (143, true)) (.faddr 23 (.t 3)),
 .q (some 147) (some (143, true)) (.load 1 false (.t 146)),
 .q (some 148) (some (143, true)) (.bin 1 .eql (.t 145) (.t 147)),
 .q (some 149) none (.pick (.t 143) (.t 148) (.c (.bool false))),
 .q (some 150) none (.mov (.t 149)),
 .q (some 151) (some (150, true)) (.faddr 24 (.t 2)),
 .q (some 152) (some (150, true)) (.load 1 false (.t 151)),
 .q (some 153) (some (150, true)) (.faddr 24 (.t 3)),
 .q (some 154) (some (150, true)) (.load 1 false (.t 153)),
 .q (some 155) (some (150, true)) (.bin 1 .eql (.t 152) (.t 154)),
 .q (some 156) none (.pick (.t 150) (.t 155) (.c (.bool false))),
 .q (some 157) none (.mov (.t 156)),
 .q (some 158) (some (157, true)) (.faddr 25 (.t 2)),
 .q (some 159) (some (157, true)) (.load 14 true (.t 158)),
 .q (some 160) (some (157, true)) (.faddr 25 (.t 3)),
 .q (some 161) (some (157, true)) (.load 14 true (.t 160)),
 .q (some 162) (some (157, true)) (.eqa false [true, true, false, false, true, true, false, false, false, false, false, false, false, false] (.t 159) (.t 161)),
 .q (some 163) none (.pick (.t 157) (.t 162) (.c (.bool false))),
 .q (some 164) none (.mov (.t 163)),
 .q (some 165) (some (164, true)) (.faddr 39 (.t 2)),
 .q (some 166) (some (164, true)) (.load 1 false (.t 165)),
 .q (some 167) (some (164, true)) (.faddr 39 (.t 3)),
 .q (some 168) (some (164, true)) (.load 1 false (.t 167)),
 .q (some 169) (some (164, true)) (.bin 1 .eql (.t 166) (.t 168)),
 .q (some 170) none (.pick (.t 164) (.t 169) (.c (.bool false))),
 .q (some 4) none (.mov (.t 170))]) <|
 .ret, [.t 4], [0, 1, 2, 3, 38, 5, 43, 56, 6, 61, 74, 4], [0, 1, 2, 3, 38, 5, 43, 56, 6, 61, 74, 4], 171⟩
theorem ok15 : FnOkK Tryz.prog 15 E15 := ⟨Tryz.f15, Tryz.func15, by kernel_rfl, by kernel_rfl, by kernel_rfl, by kernel_rfl⟩
/- wayfarer/wayfarerref02.Same : 10 -/
def E16 : FnK := ⟨.seq (.ins [4] [.q (some 4) none (.mov (.c (.bool false)))]) <|
 .seq (.ins [4] [.q (some 5) none (.mov (.t 0)),
 .q (some 6) none (.b2s (.t 5)),
 .q (some 7) none (.mov (.t 1)),
 .q (some 8) none (.b2s (.t 7)),
 .q (some 9) none (.sbin .eql (.t 6) (.t 8)),
 .q (some 4) none (.mov (.t 9))]) <|
 .ret, [.t 4], [0, 1, 4], [0, 1, 4], 10⟩
theorem ok16 : FnOkK Tryz.prog 16 E16 := ⟨Tryz.f16, Tryz.func16, by kernel_rfl, by kernel_rfl, by kernel_rfl, by kernel_rfl⟩
/- (*wayfarer/emulator.Emulator).Quiet : 21 -/
def E17 : FnK := ⟨.seq (.ins [2] [.q (some 2) none (.mov (.c (.bool false)))]) <|
 .seq (.ins [2] [.q (some 3) none (.mov (.t 0)),
 .l (some 4) none (.call 47 [.t 3]),
 .q (some 5) none (.un .not (.t 4)),
 .q (some 6) none (.mov (.t 5)),
 .q (some 7) (some (6, true)) (.mov (.t 0)),
 .q (some 8) (some (6, true)) (.nilc (.t 7)),
 .q (some 9) (some (6, true)) (.faddr 0 (.t 8)),
 .q (some 10) (some (6, true)) (.load 1 false (.t 9)),
 .l (some 11) (some (6, true)) (.call 55 [.t 10]),
 .q (some 12) (some (6, true)) (.bin 0 .eql (.t 11) (.c (.int .i64 0))),
 .q (some 13) none (.pick (.t 6) (.t 12) (.c (.bool false))),
 .q (some 14) none (.mov (.t 13)),
 .q (some 15) (some (14, true)) (.mov (.t 0)),
 .q (some 16) (some (14, true)) (.nilc (.t 15)),
 .q (some 17) (some (14, true)) (.faddr 1 (.t 16)),
 .q (some 18) (some (14, true)) (.load 1 false (.t 17)),
 .l (some 19) (some (14, true)) (.call 56 [.t 18]),
 .q (some 20) none (.pick (.t 14) (.t 19) (.c (.bool false))),
 .q (some 2) none (.mov (.t 20))]) <|
 .ret, [.t 2], [0, 2], [0, 2], 21⟩
theorem ok17 : FnOkK Tryz.prog 17 E17 := ⟨Tryz.f17, Tryz.func17, by kernel_rfl, by kernel_rfl, by kernel_rfl, by kernel_rfl⟩
/- wayfarer/wayfarerlaw17.anchored : 73 -/
def E19 : FnK := ⟨.seq (.ins [0] [.q (some 0) none (.mov (.c (.bool false)))]) <|
 .seq (.ins [1, 2] [.l (some 6) none (.call 11 [.c (.int .i64 3), .c (.int .i64 2)]),
 .q (some 5) none (.mov (.t 6)),
 .q (some 7) none (.ext 0 (.t 5)),
 .q (some 8) none (.ext 1 (.t 5)),
 .q (some 1) none (.mov (.t 7)),
 .q (some 2) none (.mov (.t 8))]) <|
 .seq (.seq (.ins [14] [.q (some 9) none (.mov (.t 2)),
 .q (some 10) none (.bin 0 .neq (.t 9) (.c (.int .i64 0))),
 .q (some 11) none (.mov (.t 10)),
 .q (some 12) (some (11, false)) (.mov (.t 1)),
 .q (some 13) (some (11, false)) (.bin 2 .eql (.t 12) (.c (.v (.pointer none)))),
 .q (some 14) none (.pick (.t 11) (.c (.bool true)) (.t 13))]) <|
 .cond (.t 14) (.seq (.ins [0] [.q (some 0) none (.mov (.c (.bool false)))]) <|
 .ret) <|
 .skip) <|
 .seq (.ins [] [.q (some 15) none (.mov (.t 1)),
 .l (some 16) none (.bslice 1 12 [.int .u8 0] [(0, (.c (.int .u8 97))), (1, (.c (.int .u8 27))), (2, (.c (.int .u8 91))), (3, (.c (.int .u8 50))), (4, (.c (.int .u8 59))), (5, (.c (.int .u8 50))), (6, (.c (.int .u8 72))), (7, (.c (.int .u8 98))), (8, (.c (.int .u8 27))), (9, (.c (.int .u8 91))), (10, (.c (.int .u8 65))), (11, (.c (.int .u8 99)))]),
 .l (some 17) none (.mark (.t 16)),
 .l (some 18) none (.call 12 [.t 15, .t 17])]) <|
 .seq (.ins [3] [.q (some 19) none (.mov (.t 1)),
 .l (some 20) none (.call 13 [.t 19]),
 .l (some 3) none (.alloc [.int .i64 0, .int .i64 0, .s 0 (0, 0) 0 0 0 0, .int .i64 0, .int .i64 0, .bool false, .int .i64 0, .int .i64 0, .bool false, .bool false, .bool false, .bool false, .bool false, .bool false, .bool false, .bool false, .int .i64 0, .int .i64 0, .s 0 (0, 0) 0 0 0 0, .bool false, .bool false, .bool false, .bool false, .bool false, .bool false, .int .i64 0, .int .i64 0, .bool false, .bool false, .int .i64 0, .int .i64 0, .bool false, .bool false, .bool false, .bool false, .bool false, .bool false, .bool false, .bool false, .bool false, .int .i64 0, .int .i64 0, .s 0 (0, 0) 0 0 0 0, .s 0 (0, 0) 0 0 0 0]),
 .l none none (.store 44 (.t 3) (.t 20))]) <|
 .seq (.ins [4] [.q (some 21) none (.mov (.t 1)),
 .l (some 22) none (.bslice 1 4 [.int .u8 0] [(0, (.c (.int .u8 27))), (1, (.c (.int .u8 91))), (2, (.c (.int .u8 54))), (3, (.c (.int .u8 110)))]),
 .l (some 23) none (.mark (.t 22)),
 .l (some 24) none (.call 12 [.t 21, .t 23]),
 .q (some 4) none (.mov (.t 24))]) <|
 .seq (.ins [0] [.q (some 25) none (.faddr 0 (.t 3)),
 .q (some 26) none (.faddr 2 (.t 25)),
 .q (some 27) none (.load 1 false (.t 26)),
 .q (some 28) none (.len (.t 27)),
 .q (some 29) none (.bin 0 .eql (.t 28) (.c (.int .i64 6))),
 .q (some 30) none (.mov (.t 29)),
 .q (some 31) (some (30, true)) (.faddr 0 (.t 3)),
 .q (some 32) (some (30, true)) (.faddr 2 (.t 31)),
 .q (some 33) (some (30, true)) (.load 1 false (.t 32)),
 .q (some 34) (some (30, true)) (.iaddr 15 (.t 33) (.c (.int .i64 0))),
 .q (some 35) (some (30, true)) (.faddr 0 (.t 34)),
 .q (some 36) (some (30, true)) (.load 1 false (.t 35)),
 .q (some 37) (some (30, true)) (.bin 0 .eql (.t 36) (.c (.int .i32 97))),
 .q (some 38) none (.pick (.t 30) (.t 37) (.c (.bool false))),
 .q (some 39) none (.mov (.t 38)),
 .q (some 40) (some (39, true)) (.faddr 0 (.t 3)),
 .q (some 41) (some (39, true)) (.faddr 2 (.t 40)),
 .q (some 42) (some (39, true)) (.load 1 false (.t 41)),
 .q (some 43) (some (39, true)) (.iaddr 15 (.t 42) (.c (.int .i64 2))),
 .q (some 44) (some (39, true)) (.faddr 0 (.t 43)),
 .q (some 45) (some (39, true)) (.load 1 false (.t 44)),
 .q (some 46) (some (39, true)) (.bin 0 .eql (.t 45) (.c (.int .i32 99))),
 .q (some 47) none (.pick (.t 39) (.t 46) (.c (.bool false))),
 .q (some 48) none (.mov (.t 47)),
 .q (some 49) (some (48, true)) (.faddr 0 (.t 3)),
 .q (some 50) (some (48, true)) (.faddr 2 (.t 49)),
 .q (some 51) (some (48, true)) (.load 1 false (.t 50)),
 .q (some 52) (some (48, true)) (.iaddr 15 (.t 51) (.c (.int .i64 4))),
 .q (some 53) (some (48, true)) (.faddr 0 (.t 52)),
 .q (some 54) (some (48, true)) (.load 1 false (.t 53)),
 .q (some 55) (some (48, true)) (.bin 0 .eql (.t 54) (.c (.int .i32 98))),
 .q (some 56) none (.pick (.t 48) (.t 55) (.c (.bool false))),
 .q (some 57) none (.mov (.t 56)),
 .q (some 58) (some (57, true)) (.faddr 3 (.t 3)),
 .q (some 59) (some (57, true)) (.load 1 false (.t 58)),
 .q (some 60) (some (57, true)) (.bin 0 .eql (.t 59) (.c (.int .i64 0))),
 .q (some 61) none (.pick (.t 57) (.t 60) (.c (.bool false))),
 .q (some 62) none (.mov (.t 61)),
 .q (some 63) (some (62, true)) (.faddr 4 (.t 3)),
 .q (some 64) (some (62, true)) (.load 1 false (.t 63)),
 .q (some 65) (some (62, true)) (.bin 0 .eql (.t 64) (.c (.int .i64 2))),
 .q (some 66) none (.pick (.t 62) (.t 65) (.c (.bool false))),
 .q (some 67) none (.mov (.t 66)),
 .q (some 68) (some (67, true)) (.mov (.t 4)),
 .l (some 69) (some (67, true)) (.bslice 1 6 [.int .u8 0] [(0, (.c (.int .u8 27))), (1, (.c (.int .u8 91))), (2, (.c (.int .u8 49))), (3, (.c (.int .u8 59))), (4, (.c (.int .u8 51))), (5, (.c (.int .u8 82)))]),
 .l (some 70) (some (67, true)) (.mark (.t 69)),
 .l (some 71) (some (67, true)) (.call 16 [.t 68, .t 70]),
 .q (some 72) none (.pick (.t 67) (.t 71) (.c (.bool false))),
 .q (some 0) none (.mov (.t 72))]) <|
 .ret, [.t 0], [2, 1, 14, 3, 4, 0], [2, 1, 14, 3, 4, 0], 73⟩
theorem ok19 : FnOkK Tryz.prog 19 E19 := ⟨Tryz.f19, Tryz.func19, by kernel_rfl, by kernel_rfl, by kernel_rfl, by kernel_rfl⟩
/- (*wayfarer/emulator.Emulator).Copy : 24 -/
def E24 : FnK := ⟨.seq (.ins [2] [.q (some 2) none (.mov (.c (.v (.pointer none))))]) <|
 .seq (.seq (.ins [5] [.q (some 4) none (.mov (.t 0)),
 .l (some 5) none (.call 47 [.t 4])]) <|
 .cond (.t 5) (.seq (.ins [2] [.q (some 2) none (.mov (.c (.v (.pointer none))))]) <|
 .ret) <|
 .skip) <|
 .seq (.ins [3] [.q (some 6) none (.mov (.t 0)),
 .q (some 7) none (.nilc (.t 6)),
 .q (some 8) none (.faddr 0 (.t 7)),
 .q (some 9) none (.load 1 false (.t 8)),
 .q (some 10) none (.nilc (.t 9)),
 .q (some 11) none (.load 6 true (.t 10)),
 .l (some 3) none (.alloc [.bool false, .int .u8 0, .int .u8 0, .int .u8 0, .int .u8 0, .int .i64 0]),
 .l none none (.store 6 (.t 3) (.t 11))]) <|
 .seq (.plan [2] <|
 .one 0 [] (.q (some 12) none (.mov (.t 0))) <|
 .one 1 [] (.q (some 13) none (.nilc (.t 12))) <|
 .one 2 [] (.q (some 14) none (.faddr 1 (.t 13))) <|
 .one 3 [] (.q (some 15) none (.load 1 false (.t 14))) <|
 .one 5 [] (.q (some 17) none (.mov (.t 0))) <|
 .one 6 [] (.q (some 18) none (.nilc (.t 17))) <|
 .one 7 [] (.q (some 19) none (.faddr 2 (.t 18))) <|
 .one 8 [] (.q (some 20) none (.load 44 true (.t 19))) <|
 .late [] <|
 .one 4 [3] (.l (some 16) none (.call 62 [.t 15])) <|
 .late [] <|
 .one 9 [3, 8] (.l (some 21) none (.call 51 [.t 20])) <|
 .one 10 [] (.q (some 22) none (.build [.v (.pointer none), .v (.pointer none), .int .i64 0, .int .i64 0, .s 0 (0, 0) 0 0 0 0, .int .i64 0, .int .i64 0, .bool false, .int .i64 0, .int .i64 0, .bool false, .bool false, .bool false, .bool false, .bool false, .bool false, .bool false, .bool false, .int .i64 0, .int .i64 0, .s 0 (0, 0) 0 0 0 0, .bool false, .bool false, .bool false, .bool false, .bool false, .bool false, .int .i64 0, .int .i64 0, .bool false, .bool false, .int .i64 0, .int .i64 0, .bool false, .bool false, .bool false, .bool false, .bool false, .bool false, .bool false, .bool false, .bool false, .int .i64 0, .int .i64 0, .s 0 (0, 0) 0 0 0 0, .s 0 (0, 0) 0 0 0 0] [(0, 1, (.t 3)), (1, 1, (.t 16)), (2, 44, (.t 21))])) <|
 .late [] <|
 .one 11 [3, 8] (.l (some 23) none (.box (.t 22))) <|
 .one 12 [] (.q (some 2) none (.mov (.t 23))) <|
 .done) <|
 .ret, [.t 2], [0, 5, 3, 2], [0, 5, 3, 2], 24⟩
theorem ok24 : FnOkK Tryz.prog 24 E24 := ⟨Tryz.f24, Tryz.func24, by kernel_rfl, by kernel_rfl, by kernel_rfl, by kernel_rfl⟩
/- (*wayfarer/emulator.Emulator).Resize : 28 -/
def E31 : FnK := ⟨.seq (.ins [6] [.q (some 6) none (.mov (.c (.int .i64 0)))]) <|
 .seq (.seq (.ins [10] [.q (some 9) none (.mov (.t 0)),
 .l (some 10) none (.call 47 [.t 9])]) <|
 .cond (.t 10) (.seq (.ins [6] [.q (some 6) none (.mov (.c (.int .i64 1)))]) <|
 .ret) <|
 .skip) <|
 .seq (.ins [7, 8] [.q (some 12) none (.mov (.t 0)),
 .q (some 13) none (.nilc (.t 12)),
 .q (some 14) none (.faddr 2 (.t 13)),
 .q (some 15) none (.load 44 true (.t 14)),
 .q (some 16) none (.mov (.t 1)),
 .q (some 17) none (.mov (.t 2)),
 .l (some 18) none (.call 73 [.t 15, .t 16, .t 17]),
 .q (some 11) none (.mov (.t 18)),
 .q (some 19) none (.ext 0 (.t 11)),
 .q (some 20) none (.ext 1 (.t 11)),
 .l (some 7) none (.alloc [.int .i64 0, .int .i64 0, .s 0 (0, 0) 0 0 0 0, .int .i64 0, .int .i64 0, .bool false, .int .i64 0, .int .i64 0, .bool false, .bool false, .bool false, .bool false, .bool false, .bool false, .bool false, .bool false, .int .i64 0, .int .i64 0, .s 0 (0, 0) 0 0 0 0, .bool false, .bool false, .bool false, .bool false, .bool false, .bool false, .int .i64 0, .int .i64 0, .bool false, .bool false, .int .i64 0, .int .i64 0, .bool false, .bool false, .bool false, .bool false, .bool false, .bool false, .bool false, .bool false, .bool false, .int .i64 0, .int .i64 0, .s 0 (0, 0) 0 0 0 0, .s 0 (0, 0) 0 0 0 0]),
 .l none none (.store 44 (.t 7) (.t 19)),
 .q (some 8) none (.mov (.t 20))]) <|
 .seq (.seq (.ins [22] [.q (some 21) none (.mov (.t 8)),
 .q (some 22) none (.bin 0 .eql (.t 21) (.c (.int .i64 0)))]) <|
 .cond (.t 22) (.ins [] [.q (some 23) none (.mov (.t 0)),
 .q (some 24) none (.load 44 true (.t 7)),
 .q (some 25) none (.nilc (.t 23)),
 .q (some 26) none (.faddr 2 (.t 25)),
 .l none none (.store 44 (.t 26) (.t 24))]) <|
 .skip) <|
 .seq (.ins [6] [.q (some 27) none (.mov (.t 8)),
 .q (some 6) none (.mov (.t 27))]) <|
 .ret, [.t 6], [0, 10, 1, 2, 8, 22, 7, 6], [0, 10, 1, 2, 8, 22, 7, 6], 28⟩
theorem ok31 : FnOkK Tryz.prog 31 E31 := ⟨Tryz.f31, Tryz.func31, by kernel_rfl, by kernel_rfl, by kernel_rfl, by kernel_rfl⟩
/- wayfarer/wayfarerref15.Same : 45 -/
def E43 : FnK := ⟨.seq (.ins [2, 3, 4] [.l (some 2) none (.box (.t 0)),
 .l (some 3) none (.box (.t 1)),
 .q (some 4) none (.mov (.c (.bool false)))]) <|
 .seq (.seq (.ins [26] [.q (some 6) none (.faddr 0 (.t 2)),
 .q (some 7) none (.load 1 false (.t 6)),
 .q (some 8) none (.faddr 0 (.t 3)),
 .q (some 9) none (.load 1 false (.t 8)),
 .q (some 10) none (.bin 0 .neq (.t 7) (.t 9)),
 .q (some 11) none (.mov (.t 10)),
 .q (some 12) (some (11, false)) (.faddr 1 (.t 2)),
 .q (some 13) (some (11, false)) (.load 1 false (.t 12)),
 .q (some 14) (some (11, false)) (.faddr 1 (.t 3)),
 .q (some 15) (some (11, false)) (.load 1 false (.t 14)),
 .q (some 16) (some (11, false)) (.bin 0 .neq (.t 13) (.t 15)),
 .q (some 17) none (.pick (.t 11) (.c (.bool true)) (.t 16)),
 .q (some 18) none (.mov (.t 17)),
 .q (some 19) (some (18, false)) (.faddr 2 (.t 2)),
 .q (some 20) (some (18, false)) (.load 1 false (.t 19)),
 .q (some 21) (some (18, false)) (.len (.t 20)),
 .q (some 22) (some (18, false)) (.faddr 2 (.t 3)),
 .q (some 23) (some (18, false)) (.load 1 false (.t 22)),
 .q (some 24) (some (18, false)) (.len (.t 23)),
 .q (some 25) (some (18, false)) (.bin 0 .neq (.t 21) (.t 24)),
 .q (some 26) none (.pick (.t 18) (.c (.bool true)) (.t 25))]) <|
 .cond (.t 26) (.seq (.ins [4] [.q (some 4) none (.mov (.c (.bool false)))]) <|
 .ret) <|
 .skip) <|
 .seq (.seq (.ins [5] [.q (some 5) none (.mov (.c (.int .i64 0)))]) <|
 .block 0 <|
 .loop <|
 .seq (.seq (.ins [31] [.q (some 27) none (.mov (.t 5)),
 .q (some 28) none (.faddr 2 (.t 2)),
 .q (some 29) none (.load 1 false (.t 28)),
 .q (some 30) none (.len (.t 29)),
 .q (some 31) none (.bin 0 .lss (.t 27) (.t 30))]) <|
 .cond (.t 31) (.skip) <|
 .exit 0) <|
 .seq (.block 1 <|
 .seq (.plan [44] <|
 .one 0 [] (.q (some 34) none (.faddr 2 (.t 2))) <|
 .one 1 [] (.q (some 35) none (.load 1 false (.t 34))) <|
 .one 2 [] (.q (some 36) none (.mov (.t 5))) <|
 .one 3 [] (.q (some 37) none (.iaddr 15 (.t 35) (.t 36))) <|
 .one 4 [] (.q (some 38) none (.load 15 true (.t 37))) <|
 .one 5 [] (.q (some 39) none (.faddr 2 (.t 3))) <|
 .one 6 [] (.q (some 40) none (.load 1 false (.t 39))) <|
 .one 7 [] (.q (some 41) none (.mov (.t 5))) <|
 .one 8 [] (.q (some 42) none (.iaddr 15 (.t 40) (.t 41))) <|
 .one 9 [] (.q (some 43) none (.load 15 true (.t 42))) <|
 .one 10 [] (.q (some 44) none (.eqa true [true, true, true, true, true, true, true, false, false, false, false, false, false, false, false] (.t 38) (.t 43))) <|
 .done) <|
 .cond (.t 44) (.seq (.ins [4] [.q (some 4) none (.mov (.c (.bool false)))]) <|
 .ret) <|
 .skip) <|
 .ins [5] [.q (some 32) none (.mov (.t 5)),
 .q (some 33) none (.bin 0 .add (.t 32) (.c (.int .i64 1))),
 .q (some 5) none (.mov (.t 33))]) <|
 .seq (.ins [4] [.q (some 4) none (.mov (.c (.bool true)))]) <|
 .ret, [.t 4], [0, 1, 2, 3, 26, 5, 31, 44, 4], [0, 1, 2, 3, 26, 5, 31, 44, 4], 45⟩
theorem ok43 : FnOkK Tryz.prog 43 E43 := ⟨Tryz.f43, Tryz.func43, by kernel_rfl, by kernel_rfl, by kernel_rfl, by kernel_rfl⟩
/- wayfarer/screen.New : 31 -/
def E44 : FnK := ⟨.seq (.ins [4, 5] [.l (some 4) none (.alloc [.int .i64 0, .int .i64 0, .s 0 (0, 0) 0 0 0 0, .int .i64 0, .int .i64 0, .bool false, .int .i64 0, .int .i64 0, .bool false, .bool false, .bool false, .bool false, .bool false, .bool false, .bool false, .bool false, .int .i64 0, .int .i64 0, .s 0 (0, 0) 0 0 0 0, .bool false, .bool false, .bool false, .bool false, .bool false, .bool false, .int .i64 0, .int .i64 0, .bool false, .bool false, .int .i64 0, .int .i64 0, .bool false, .bool false, .bool false, .bool false, .bool false, .bool false, .bool false, .bool false, .bool false, .int .i64 0, .int .i64 0, .s 0 (0, 0) 0 0 0 0, .s 0 (0, 0) 0 0 0 0]),
 .q (some 5) none (.mov (.c (.int .i64 0)))]) <|
 .seq (.ins [6, 7] [.q (some 10) none (.mov (.t 0)),
 .q (some 11) none (.mov (.t 1)),
 .l (some 12) none (.call 77 []),
 .l (some 13) none (.call 81 [.t 10, .t 11, .t 12]),
 .q (some 9) none (.mov (.t 13)),
 .q (some 14) none (.ext 0 (.t 9)),
 .q (some 15) none (.ext 1 (.t 9)),
 .l (some 6) none (.alloc [.int .i64 0, .int .i64 0, .s 0 (0, 0) 0 0 0 0]),
 .l none none (.store 3 (.t 6) (.t 14)),
 .q (some 7) none (.mov (.t 15))]) <|
 .seq (.seq (.ins [17] [.q (some 16) none (.mov (.t 7)),
 .q (some 17) none (.bin 0 .neq (.t 16) (.c (.int .i64 0)))]) <|
 .cond (.t 17) (.seq (.ins [5] [.q (some 18) none (.build [.int .i64 0, .int .i64 0, .s 0 (0, 0) 0 0 0 0, .int .i64 0, .int .i64 0, .bool false, .int .i64 0, .int .i64 0, .bool false, .bool false, .bool false, .bool false, .bool false, .bool false, .bool false, .bool false, .int .i64 0, .int .i64 0, .s 0 (0, 0) 0 0 0 0, .bool false, .bool false, .bool false, .bool false, .bool false, .bool false, .int .i64 0, .int .i64 0, .bool false, .bool false, .int .i64 0, .int .i64 0, .bool false, .bool false, .bool false, .bool false, .bool false, .bool false, .bool false, .bool false, .bool false, .int .i64 0, .int .i64 0, .s 0 (0, 0) 0 0 0 0, .s 0 (0, 0) 0 0 0 0] []),
 .q (some 19) none (.mov (.t 7)),
 .l none none (.store 44 (.t 4) (.t 18)),
 .q (some 5) none (.mov (.t 19))]) <|
 .ret) <|
 .skip) <|
 .seq (.plan [8] <|
 .one 0 [] (.q (some 20) none (.load 3 true (.t 6))) <|
 .one 2 [] (.q (some 22) none (.mov (.t 1))) <|
 .one 3 [] (.q (some 23) none (.bin 0 .sub (.t 22) (.c (.int .i64 1)))) <|
 .one 4 [] (.q (some 24) none (.mov (.t 0))) <|
 .late [((some 8), .alloc [.int .i64 0, .int .i64 0, .s 0 (0, 0) 0 0 0 0, .int .i64 0, .int .i64 0, .bool false, .int .i64 0, .int .i64 0, .bool false, .bool false, .bool false, .bool false, .bool false, .bool false, .bool false, .bool false, .int .i64 0, .int .i64 0, .s 0 (0, 0) 0 0 0 0, .bool false, .bool false, .bool false, .bool false, .bool false, .bool false, .int .i64 0, .int .i64 0, .bool false, .bool false, .int .i64 0, .int .i64 0, .bool false, .bool false, .bool false, .bool false, .bool false, .bool false, .bool false, .bool false, .bool false, .int .i64 0, .int .i64 0, .s 0 (0, 0) 0 0 0 0, .s 0 (0, 0) 0 0 0 0])] <|
 .one 1 [] (.l (some 21) none (.call 77 [])) <|
 .late [((some 8), .alloc [.int .i64 0, .int .i64 0, .s 0 (0, 0) 0 0 0 0, .int .i64 0, .int .i64 0, .bool false, .int .i64 0, .int .i64 0, .bool false, .bool false, .bool false, .bool false, .bool false, .bool false, .bool false, .bool false, .int .i64 0, .int .i64 0, .s 0 (0, 0) 0 0 0 0, .bool false, .bool false, .bool false, .bool false, .bool false, .bool false, .int .i64 0, .int .i64 0, .bool false, .bool false, .int .i64 0, .int .i64 0, .bool false, .bool false, .bool false, .bool false, .bool false, .bool false, .bool false, .bool false, .bool false, .int .i64 0, .int .i64 0, .s 0 (0, 0) 0 0 0 0, .s 0 (0, 0) 0 0 0 0])] <|
 .one 5 [] (.l (some 25) none (.call 82 [.t 24])) <|
 .one 6 [] (.q (some 26) none (.build [.int .i64 0, .int .i64 0, .s 0 (0, 0) 0 0 0 0, .int .i64 0, .int .i64 0, .bool false, .int .i64 0, .int .i64 0, .bool false, .bool false, .bool false, .bool false, .bool false, .bool false, .bool false, .bool false, .int .i64 0, .int .i64 0, .s 0 (0, 0) 0 0 0 0, .bool false, .bool false, .bool false, .bool false, .bool false, .bool false, .int .i64 0, .int .i64 0, .bool false, .bool false, .int .i64 0, .int .i64 0, .bool false, .bool false, .bool false, .bool false, .bool false, .bool false, .bool false, .bool false, .bool false, .int .i64 0, .int .i64 0, .s 0 (0, 0) 0 0 0 0, .s 0 (0, 0) 0 0 0 0] [(0, 3, (.t 20)), (6, 10, (.t 21)), (17, 1, (.t 23)), (18, 1, (.t 25)), (19, 1, (.c (.bool true))), (24, 1, (.c (.bool true)))])) <|
 .late [] <|
 .one 7 [] (.l (some 8) none (.alloc [.int .i64 0, .int .i64 0, .s 0 (0, 0) 0 0 0 0, .int .i64 0, .int .i64 0, .bool false, .int .i64 0, .int .i64 0, .bool false, .bool false, .bool false, .bool false, .bool false, .bool false, .bool false, .bool false, .int .i64 0, .int .i64 0, .s 0 (0, 0) 0 0 0 0, .bool false, .bool false, .bool false, .bool false, .bool false, .bool false, .int .i64 0, .int .i64 0, .bool false, .bool false, .int .i64 0, .int .i64 0, .bool false, .bool false, .bool false, .bool false, .bool false, .bool false, .bool false, .bool false, .bool false, .int .i64 0, .int .i64 0, .s 0 (0, 0) 0 0 0 0, .s 0 (0, 0) 0 0 0 0])) <|
 .late [] <|
 .one 8 [0] (.l none none (.store 44 (.t 8) (.t 26))) <|
 .done) <|
 .seq (.ins [] [.l (some 27) none (.call 77 []),
 .q (some 28) none (.faddr 25 (.t 8)),
 .q (some 29) none (.faddr 4 (.t 28)),
 .l none none (.store 10 (.t 29) (.t 27))]) <|
 .seq (.ins [5] [.q (some 30) none (.load 44 true (.t 8)),
 .l none none (.store 44 (.t 4) (.t 30)),
 .q (some 5) none (.mov (.c (.int .i64 0)))]) <|
 .ret, [.cell 4 44 true, .t 5], [0, 1, 7, 17, 4, 6, 8, 5], [0, 1, 7, 17, 4, 6, 8, 5], 31⟩
theorem ok44 : FnOkK Tryz.prog 44 E44 := ⟨Tryz.f44, Tryz.func44, by kernel_rfl, by kernel_rfl, by kernel_rfl, by kernel_rfl⟩
/- wayfarer/utf.New : 3 -/
def E45 : FnK := ⟨.seq (.ins [0] [.q (some 0) none (.mov (.c (.v (.pointer none))))]) <|
 .seq (.ins [0] [.q (some 1) none (.build [.bool false, .int .u8 0, .int .u8 0, .int .u8 0, .int .u8 0, .int .i64 0] [(0, 1, (.c (.bool true)))]),
 .l (some 2) none (.box (.t 1)),
 .q (some 0) none (.mov (.t 2))]) <|
 .ret, [.t 0], [0], [0], 3⟩
theorem ok45 : FnOkK Tryz.prog 45 E45 := ⟨Tryz.f45, Tryz.func45, by kernel_rfl, by kernel_rfl, by kernel_rfl, by kernel_rfl⟩
/- wayfarer/vt.New : 3 -/
def E46 : FnK := ⟨.seq (.ins [0] [.q (some 0) none (.mov (.c (.v (.pointer none))))]) <|
 .seq (.ins [0] [.q (some 1) none (.build [.int .u8 0, .int .u8 0, .s 0 (0, 0) 0 0 0 0, .s 0 (0, 0) 0 0 0 0, .s 0 (0, 0) 0 0 0 0, .bool false, .bool false] [(0, 1, (.c (.int .u8 1)))]),
 .l (some 2) none (.box (.t 1)),
 .q (some 0) none (.mov (.t 2))]) <|
 .ret, [.t 0], [0], [0], 3⟩
theorem ok46 : FnOkK Tryz.prog 46 E46 := ⟨Tryz.f46, Tryz.func46, by kernel_rfl, by kernel_rfl, by kernel_rfl, by kernel_rfl⟩
/- (*wayfarer/emulator.Emulator).none : 12 -/
def E47 : FnK := ⟨.seq (.ins [2] [.q (some 2) none (.mov (.c (.bool false)))]) <|
 .seq (.ins [2] [.q (some 3) none (.mov (.t 0)),
 .q (some 4) none (.bin 2 .eql (.t 3) (.c (.v (.pointer none)))),
 .q (some 5) none (.mov (.t 4)),
 .q (some 6) (some (5, false)) (.mov (.t 0)),
 .q (some 7) (some (5, false)) (.nilc (.t 6)),
 .q (some 8) (some (5, false)) (.faddr 1 (.t 7)),
 .q (some 9) (some (5, false)) (.load 1 false (.t 8)),
 .q (some 10) (some (5, false)) (.bin 2 .eql (.t 9) (.c (.v (.pointer none)))),
 .q (some 11) none (.pick (.t 5) (.c (.bool true)) (.t 10)),
 .q (some 2) none (.mov (.t 11))]) <|
 .ret, [.t 2], [0, 2], [0, 2], 12⟩
theorem ok47 : FnOkK Tryz.prog 47 E47 := ⟨Tryz.f47, Tryz.func47, by kernel_rfl, by kernel_rfl, by kernel_rfl, by kernel_rfl⟩
/- (*wayfarer/utf.Reader).Take : 63 -/
def E48 : FnK := ⟨.seq (.ins [4] [.q (some 4) none (.mov (.c (.s 0 (0, 0) 0 0 0 0)))]) <|
 .seq (.seq (.ins [10] [.q (some 9) none (.mov (.t 0)),
 .l (some 10) none (.call 83 [.t 9])]) <|
 .cond (.t 10) (.seq (.ins [4] [.q (some 4) none (.mov (.c (.s 0 (0, 0) 0 0 0 0)))]) <|
 .ret) <|
 .skip) <|
 .seq (.plan [] <|
 .one 0 [] (.q (some 11) none (.mov (.t 0))) <|
 .one 1 [] (.q (some 12) none (.mov (.t 0))) <|
 .one 2 [] (.q (some 13) none (.nilc (.t 12))) <|
 .one 3 [] (.q (some 14) none (.faddr 5 (.t 13))) <|
 .one 4 [] (.q (some 15) none (.load 1 false (.t 14))) <|
 .one 5 [] (.q (some 16) none (.mov (.t 1))) <|
 .one 6 [] (.q (some 17) none (.nilc (.t 11))) <|
 .one 7 [] (.q (some 18) none (.faddr 1 (.t 17))) <|
 .one 8 [] (.q (some 19) none (.iaddrA 1 4 (.t 18) (.t 15))) <|
 .late [] <|
 .one 9 [4] (.l none none (.store 1 (.t 19) (.t 16))) <|
 .done) <|
 .seq (.ins [] [.q (some 20) none (.mov (.t 0)),
 .q (some 21) none (.nilc (.t 20)),
 .q (some 22) none (.faddr 5 (.t 21)),
 .q (some 23) none (.load 1 false (.t 22)),
 .q (some 24) none (.bin 0 .add (.t 23) (.c (.int .i64 1))),
 .q (some 25) none (.nilc (.t 20)),
 .q (some 26) none (.faddr 5 (.t 25)),
 .l none none (.store 1 (.t 26) (.t 24))]) <|
 .seq (.plan [5] <|
 .one 0 [] (.q (some 27) none (.mov (.t 0))) <|
 .one 1 [] (.q (some 28) none (.nilc (.t 27))) <|
 .one 2 [] (.q (some 29) none (.faddr 1 (.t 28))) <|
 .one 3 [] (.q (some 30) none (.mov (.t 0))) <|
 .one 4 [] (.q (some 31) none (.nilc (.t 30))) <|
 .one 5 [] (.q (some 32) none (.faddr 5 (.t 31))) <|
 .one 6 [] (.q (some 33) none (.load 1 false (.t 32))) <|
 .one 7 [] (.q (some 34) none (.slcA 1 4 (.t 29) none (some (.t 33)) none)) <|
 .late [] <|
 .one 8 [6] (.l (some 35) none (.call 84 [.t 34])) <|
 .one 9 [] (.q (some 5) none (.mov (.t 35))) <|
 .done) <|
 .seq (.ins [6] [.q (some 6) none (.mov (.c (.s 0 (0, 0) 0 0 0 0)))]) <|
 .seq (.block 0 <|
 .loop <|
 .seq (.seq (.ins [38] [.q (some 36) none (.mov (.t 5)),
 .q (some 37) none (.len (.t 36)),
 .q (some 38) none (.bin 0 .gtr (.t 37) (.c (.int .i64 0)))]) <|
 .cond (.t 38) (.skip) <|
 .exit 0) <|
 .block 1 <|
 .seq (.ins [7, 8] [.q (some 40) none (.mov (.t 5)),
 .l (some 41) none (.call 85 [.t 40, .c (.bool false)]),
 .q (some 39) none (.mov (.t 41)),
 .q (some 42) none (.ext 0 (.t 39)),
 .q (some 43) none (.ext 1 (.t 39)),
 .q (some 7) none (.mov (.t 42)),
 .q (some 8) none (.mov (.t 43))]) <|
 .seq (.seq (.ins [45] [.q (some 44) none (.mov (.t 8)),
 .q (some 45) none (.bin 0 .eql (.t 44) (.c (.int .i64 0)))]) <|
 .cond (.t 45) (.exit 0) <|
 .skip) <|
 .plan [6, 5] <|
 .one 0 [] (.q (some 46) none (.mov (.t 6))) <|
 .one 1 [] (.q (some 47) none (.mov (.t 7))) <|
 .one 4 [] (.q (some 50) none (.mov (.t 5))) <|
 .one 5 [] (.q (some 51) none (.mov (.t 8))) <|
 .one 6 [] (.q (some 52) none (.slc 1 (.t 50) (some (.t 51)) none none)) <|
 .late [] <|
 .one 2 [] (.l (some 48) none (.bslice 1 1 [.int .i32 0] [(0, (.t 47))])) <|
 .late [] <|
 .one 3 [] (.l (some 49) none (.append 1 4 (.t 46) (.t 48))) <|
 .one 7 [] (.q (some 6) none (.mov (.t 49))) <|
 .one 8 [] (.q (some 5) none (.mov (.t 52))) <|
 .done) <|
 .seq (.ins [] [.q (some 53) none (.mov (.t 0)),
 .q (some 54) none (.mov (.t 0)),
 .q (some 55) none (.nilc (.t 54)),
 .q (some 56) none (.faddr 1 (.t 55)),
 .q (some 57) none (.slcA 1 4 (.t 56) none none none),
 .q (some 58) none (.mov (.t 5)),
 .l (some 59) none (.copy 1 (.t 57) (.t 58)),
 .q (some 60) none (.nilc (.t 53)),
 .q (some 61) none (.faddr 5 (.t 60)),
 .l none none (.store 1 (.t 61) (.t 59))]) <|
 .seq (.ins [4] [.q (some 62) none (.mov (.t 6)),
 .q (some 4) none (.mov (.t 62))]) <|
 .ret, [.t 4], [0, 10, 1, 5, 38, 8, 45, 6, 7, 4], [0, 10, 1, 5, 38, 8, 45, 6, 7, 4], 63⟩
theorem ok48 : FnOkK Tryz.prog 48 E48 := ⟨Tryz.f48, Tryz.func48, by kernel_rfl, by kernel_rfl, by kernel_rfl, by kernel_rfl⟩
/- (*wayfarer/vt.Parser).Take : 122 -/
def E49 : FnK := ⟨.seq (.ins [4] [.q (some 4) none (.mov (.c (.s 0 (0, 0) 0 0 0 0)))]) <|
 .seq (.seq (.ins [8] [.q (some 6) none (.mov (.t 0)),
 .l (some 7) none (.call 86 [.t 6]),
 .q (some 8) none (.un .not (.t 7))]) <|
 .cond (.t 8) (.seq (.ins [4] [.q (some 4) none (.mov (.c (.s 0 (0, 0) 0 0 0 0)))]) <|
 .ret) <|
 .skip) <|
 .seq (.seq (.ins [10] [.q (some 9) none (.mov (.t 1)),
 .q (some 10) none (.bin 0 .lss (.t 9) (.c (.int .i32 0)))]) <|
 .cond (.t 10) (.ins [1] [.q (some 1) none (.mov (.c (.int .i32 127)))]) <|
 .skip) <|
 .seq (.seq (.ins [20] [.q (some 11) none (.mov (.t 1)),
 .q (some 12) none (.bin 0 .eql (.t 11) (.c (.int .i32 27))),
 .q (some 13) none (.mov (.t 12)),
 .q (some 14) (some (13, false)) (.mov (.t 1)),
 .q (some 15) (some (13, false)) (.bin 0 .eql (.t 14) (.c (.int .i32 24))),
 .q (some 16) none (.pick (.t 13) (.c (.bool true)) (.t 15)),
 .q (some 17) none (.mov (.t 16)),
 .q (some 18) (some (17, false)) (.mov (.t 1)),
 .q (some 19) (some (17, false)) (.bin 0 .eql (.t 18) (.c (.int .i32 26))),
 .q (some 20) none (.pick (.t 17) (.c (.bool true)) (.t 19))]) <|
 .cond (.t 20) (.seq (.ins [5] [.q (some 5) none (.mov (.c (.s 0 (0, 0) 0 0 0 0)))]) <|
 .seq (.seq (.ins [29] [.q (some 21) none (.mov (.t 0)),
 .q (some 22) none (.nilc (.t 21)),
 .q (some 23) none (.faddr 0 (.t 22)),
 .q (some 24) none (.load 1 false (.t 23)),
 .q (some 25) none (.bin 0 .eql (.t 24) (.c (.int .u8 5))),
 .q (some 26) none (.mov (.t 25)),
 .q (some 27) (some (26, true)) (.mov (.t 1)),
 .q (some 28) (some (26, true)) (.bin 0 .eql (.t 27) (.c (.int .i32 27))),
 .q (some 29) none (.pick (.t 26) (.t 28) (.c (.bool false)))]) <|
 .cond (.t 29) (.ins [5] [.q (some 30) none (.mov (.t 5)),
 .q (some 31) none (.mov (.t 0)),
 .l (some 32) none (.call 87 [.t 31]),
 .l (some 33) none (.bslice 7 1 [.int .u8 0, .int .i32 0, .int .u8 0, .int .u8 0, .s 0 (0, 0) 0 0 0 0, .s 0 (0, 0) 0 0 0 0, .s 0 (0, 0) 0 0 0 0] [(0, (.t 32))]),
 .l (some 34) none (.append 7 88 (.t 30) (.t 33)),
 .q (some 5) none (.mov (.t 34))]) <|
 .skip) <|
 .seq (.ins [] [.q (some 35) none (.mov (.t 0)),
 .l (some 36) none (.call 88 [.t 35, .c (.int .u8 1)])]) <|
 .seq (.seq (.ins [38] [.q (some 37) none (.mov (.t 1)),
 .q (some 38) none (.bin 0 .eql (.t 37) (.c (.int .i32 27)))]) <|
 .cond (.t 38) (.ins [] [.q (some 39) none (.mov (.t 0)),
 .l (some 40) none (.call 88 [.t 39, .c (.int .u8 2)])]) <|
 .skip) <|
 .seq (.ins [4] [.q (some 41) none (.mov (.t 5)),
 .q (some 4) none (.mov (.t 41))]) <|
 .ret) <|
 .skip) <|
 .seq (.seq (.ins [57] [.q (some 42) none (.mov (.t 1)),
 .q (some 43) none (.bin 0 .lss (.t 42) (.c (.int .i32 32))),
 .q (some 44) none (.mov (.t 43)),
 .q (some 45) (some (44, true)) (.mov (.t 0)),
 .q (some 46) (some (44, true)) (.nilc (.t 45)),
 .q (some 47) (some (44, true)) (.faddr 0 (.t 46)),
 .q (some 48) (some (44, true)) (.load 1 false (.t 47)),
 .q (some 49) (some (44, true)) (.bin 0 .neq (.t 48) (.c (.int .u8 5))),
 .q (some 50) none (.pick (.t 44) (.t 49) (.c (.bool false))),
 .q (some 51) none (.mov (.t 50)),
 .q (some 52) (some (51, true)) (.mov (.t 0)),
 .q (some 53) (some (51, true)) (.nilc (.t 52)),
 .q (some 54) (some (51, true)) (.faddr 0 (.t 53)),
 .q (some 55) (some (51, true)) (.load 1 false (.t 54)),
 .q (some 56) (some (51, true)) (.bin 0 .neq (.t 55) (.c (.int .u8 6))),
 .q (some 57) none (.pick (.t 51) (.t 56) (.c (.bool false)))]) <|
 .cond (.t 57) (.seq (.ins [4] [.q (some 58) none (.mov (.t 1)),
 .q (some 59) none (.build [.int .u8 0, .int .i32 0, .int .u8 0, .int .u8 0, .s 0 (0, 0) 0 0 0 0, .s 0 (0, 0) 0 0 0 0, .s 0 (0, 0) 0 0 0 0] [(0, 1, (.c (.int .u8 2))), (1, 1, (.t 58))]),
 .l (some 60) none (.bslice 7 1 [.int .u8 0, .int .i32 0, .int .u8 0, .int .u8 0, .s 0 (0, 0) 0 0 0 0, .s 0 (0, 0) 0 0 0 0, .s 0 (0, 0) 0 0 0 0] [(0, (.t 59))]),
 .q (some 4) none (.mov (.t 60))]) <|
 .ret) <|
 .skip) <|
 .seq (.seq (.ins [64] [.q (some 61) none (.mov (.t 0)),
 .q (some 62) none (.nilc (.t 61)),
 .q (some 63) none (.faddr 0 (.t 62)),
 .q (some 64) none (.load 1 false (.t 63))]) <|
 .block 0 <|
 .seq (.ins [65] [.q (some 66) none (.bin 0 .eql (.t 64) (.c (.int .u8 1))),
 .q (some 65) none (.mov (.t 66))]) <|
 .cond (.t 65) (.seq (.ins [72] [.q (some 67) none (.mov (.t 1)),
 .q (some 68) none (.bin 0 .lss (.t 67) (.c (.int .i32 127))),
 .q (some 69) none (.mov (.t 68)),
 .q (some 70) (some (69, false)) (.mov (.t 1)),
 .q (some 71) (some (69, false)) (.bin 0 .geq (.t 70) (.c (.int .i32 160))),
 .q (some 72) none (.pick (.t 69) (.c (.bool true)) (.t 71))]) <|
 .cond (.t 72) (.seq (.ins [4] [.q (some 73) none (.mov (.t 1)),
 .q (some 74) none (.build [.int .u8 0, .int .i32 0, .int .u8 0, .int .u8 0, .s 0 (0, 0) 0 0 0 0, .s 0 (0, 0) 0 0 0 0, .s 0 (0, 0) 0 0 0 0] [(0, 1, (.c (.int .u8 1))), (1, 1, (.t 73))]),
 .l (some 75) none (.bslice 7 1 [.int .u8 0, .int .i32 0, .int .u8 0, .int .u8 0, .s 0 (0, 0) 0 0 0 0, .s 0 (0, 0) 0 0 0 0, .s 0 (0, 0) 0 0 0 0] [(0, (.t 74))]),
 .q (some 4) none (.mov (.t 75))]) <|
 .ret) <|
 .skip) <|
 .seq (.seq (.ins [76] [.q (some 77) none (.bin 0 .eql (.t 64) (.c (.int .u8 2))),
 .q (some 76) none (.mov (.t 77))]) <|
 .cond (.t 76) (.skip) <|
 .ins [76] [.q (some 78) none (.bin 0 .eql (.t 64) (.c (.int .u8 3))),
 .q (some 76) none (.mov (.t 78))]) <|
 .cond (.t 76) (.seq (.ins [4] [.q (some 79) none (.mov (.t 0)),
 .q (some 80) none (.mov (.t 1)),
 .l (some 81) none (.call 89 [.t 79, .t 80]),
 .q (some 4) none (.mov (.t 81))]) <|
 .ret) <|
 .seq (.ins [82] [.q (some 83) none (.bin 0 .eql (.t 64) (.c (.int .u8 4))),
 .q (some 82) none (.mov (.t 83))]) <|
 .cond (.t 82) (.seq (.ins [4] [.q (some 84) none (.mov (.t 0)),
 .q (some 85) none (.mov (.t 1)),
 .l (some 86) none (.call 90 [.t 84, .t 85]),
 .q (some 4) none (.mov (.t 86))]) <|
 .ret) <|
 .seq (.ins [87] [.q (some 88) none (.bin 0 .eql (.t 64) (.c (.int .u8 5))),
 .q (some 87) none (.mov (.t 88))]) <|
 .cond (.t 87) (.seq (.seq (.ins [90] [.q (some 89) none (.mov (.t 1)),
 .q (some 90) none (.bin 0 .eql (.t 89) (.c (.int .i32 7)))]) <|
 .cond (.t 90) (.seq (.ins [4] [.q (some 91) none (.mov (.t 0)),
 .q (some 92) none (.mov (.t 0)),
 .l (some 93) none (.call 87 [.t 92]),
 .l (some 94) none (.call 91 [.t 91, .t 93]),
 .q (some 4) none (.mov (.t 94))]) <|
 .ret) <|
 .skip) <|
 .seq (.ins [109] [.q (some 95) none (.mov (.t 1)),
 .q (some 96) none (.bin 0 .geq (.t 95) (.c (.int .i32 32))),
 .q (some 97) none (.mov (.t 96)),
 .q (some 98) (some (97, true)) (.mov (.t 1)),
 .q (some 99) (some (97, true)) (.bin 0 .neq (.t 98) (.c (.int .i32 127))),
 .q (some 100) none (.pick (.t 97) (.t 99) (.c (.bool false))),
 .q (some 101) none (.mov (.t 100)),
 .q (some 102) (some (101, true)) (.mov (.t 0)),
 .q (some 103) (some (101, true)) (.nilc (.t 102)),
 .q (some 104) (some (101, true)) (.faddr 1 (.t 103)),
 .q (some 105) (some (101, true)) (.faddr 3 (.t 104)),
 .q (some 106) (some (101, true)) (.load 1 false (.t 105)),
 .q (some 107) (some (101, true)) (.len (.t 106)),
 .q (some 108) (some (101, true)) (.bin 0 .lss (.t 107) (.c (.int .i64 256))),
 .q (some 109) none (.pick (.t 101) (.t 108) (.c (.bool false)))]) <|
 .cond (.t 109) (.ins [] [.q (some 110) none (.mov (.t 0)),
 .q (some 111) none (.mov (.t 0)),
 .q (some 112) none (.nilc (.t 111)),
 .q (some 113) none (.faddr 1 (.t 112)),
 .q (some 114) none (.faddr 3 (.t 113)),
 .q (some 115) none (.load 1 false (.t 114)),
 .q (some 116) none (.mov (.t 1)),
 .l (some 117) none (.bslice 1 1 [.int .i32 0] [(0, (.t 116))]),
 .l (some 118) none (.append 1 4 (.t 115) (.t 117)),
 .q (some 119) none (.nilc (.t 110)),
 .q (some 120) none (.faddr 1 (.t 119)),
 .q (some 121) none (.faddr 3 (.t 120)),
 .l none none (.store 1 (.t 121) (.t 118))]) <|
 .skip) <|
 .skip) <|
 .seq (.ins [4] [.q (some 4) none (.mov (.c (.s 0 (0, 0) 0 0 0 0)))]) <|
 .ret, [.t 4], [0, 8, 1, 10, 20, 29, 5, 38, 57, 64, 65, 72, 76, 82, 87, 90, 109, 4], [0, 8, 1, 10, 20, 29, 5, 38, 57, 64, 65, 72, 76, 82, 87, 90, 109, 4], 122⟩
theorem ok49 : FnOkK Tryz.prog 49 E49 := ⟨Tryz.f49, Tryz.func49, by kernel_rfl, by kernel_rfl, by kernel_rfl, by kernel_rfl⟩
end Go.Proofs.YtebjldkkdapbeaaGreatDoor.Eng
