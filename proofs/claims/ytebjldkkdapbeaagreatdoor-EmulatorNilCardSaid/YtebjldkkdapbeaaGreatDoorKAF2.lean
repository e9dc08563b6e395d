/- What the functions' code comes to, read off the loaded program. Printed by a program of this session. -/
import Derived.Test.YtebjldkkdapbeaaGreatDoorChecked
import Derived.Test.YtebjldkkdapbeaaGreatDoorEngV6
namespace Go.Proofs.YtebjldkkdapbeaaGreatDoor.Eng
open Go
set_option maxRecDepth 100000
/- wayfarer/grid.made : 20 -/
def E147 : FnK := ⟨.seq (.ins [5, 6] [.l (some 5) none (.box (.t 2)),
 .l (some 6) none (.alloc [.int .i64 0, .int .i64 0, .s 0 (0, 0) 0 0 0 0])]) <|
 .seq (.ins [7] [.q (some 8) none (.mov (.t 0)),
 .q (some 9) none (.mov (.t 1)),
 .q (some 10) none (.mov (.t 0)),
 .q (some 11) none (.mov (.t 1)),
 .q (some 12) none (.bin 0 .mul (.t 10) (.t 11)),
 .l (some 13) none (.mkslice 15 48 [.int .i32 0, .int .i32 0, .int .i32 0, .int .i32 0, .int .u8 0, .int .i64 0, .int .i64 0, .bool false, .bool false, .bool false, .bool false, .bool false, .bool false, .bool false, .bool false] (.t 12) (.t 12)),
 .q (some 14) none (.build [.int .i64 0, .int .i64 0, .s 0 (0, 0) 0 0 0 0] [(0, 1, (.t 8)), (1, 1, (.t 9)), (2, 1, (.t 13))]),
 .l (some 7) none (.alloc [.int .i64 0, .int .i64 0, .s 0 (0, 0) 0 0 0 0]),
 .l none none (.store 3 (.t 7) (.t 14))]) <|
 .seq (.ins [] [.q (some 15) none (.faddr 2 (.t 7)),
 .q (some 16) none (.load 1 false (.t 15)),
 .q (some 17) none (.load 10 true (.t 5)),
 .l (some 18) none (.call 198 [.t 16, .t 17])]) <|
 .seq (.ins [] [.q (some 19) none (.load 3 true (.t 7)),
 .l none none (.store 3 (.t 6) (.t 19))]) <|
 .ret, [.cell 6 3 true], [2, 0, 1, 7, 5, 6], [2, 0, 1, 7, 5, 6], 20⟩
theorem ok147 : FnOkK Tryz.prog 147 E147 := ⟨Tryz.f147, Tryz.func147, by kernel_rfl, by kernel_rfl, by kernel_rfl, by kernel_rfl⟩
/- wayfarer/utf.begun : 46 -/
def E148 : FnK := ⟨.seq (.ins [2, 3] [.q (some 2) none (.mov (.c (.int .i64 0))),
 .q (some 3) none (.mov (.c (.int .i64 0)))]) <|
 .seq (.ins [4, 3] [.q (some 6) none (.mov (.t 0)),
 .q (some 7) none (.iaddr 1 (.t 6) (.c (.int .i64 0))),
 .q (some 8) none (.load 1 false (.t 7)),
 .l (some 9) none (.call 199 [.t 8]),
 .q (some 5) none (.mov (.t 9)),
 .q (some 10) none (.ext 0 (.t 5)),
 .q (some 11) none (.ext 1 (.t 5)),
 .l (some 4) none (.alloc [.int .u8 0, .int .u8 0]),
 .q (some 3) none (.mov (.t 10)),
 .l none none (.store 2 (.t 4) (.t 11))]) <|
 .seq (.seq (.ins [13] [.q (some 12) none (.mov (.t 3)),
 .q (some 13) none (.bin 0 .eql (.t 12) (.c (.int .i64 0)))]) <|
 .cond (.t 13) (.seq (.ins [2, 3] [.q (some 2) none (.mov (.c (.int .i64 0))),
 .q (some 3) none (.mov (.c (.int .i64 0)))]) <|
 .ret) <|
 .skip) <|
 .seq (.ins [2] [.q (some 2) none (.mov (.c (.int .i64 1)))]) <|
 .seq (.block 0 <|
 .loop <|
 .seq (.seq (.plan [40] <|
 .one 0 [] (.q (some 14) none (.mov (.t 2))) <|
 .one 1 [] (.q (some 15) none (.mov (.t 3))) <|
 .one 2 [] (.q (some 16) none (.bin 0 .lss (.t 14) (.t 15))) <|
 .one 3 [] (.q (some 17) none (.mov (.t 16))) <|
 .one 4 [] (.q (some 18) (some (17, true)) (.mov (.t 2))) <|
 .one 5 [] (.q (some 19) (some (17, true)) (.mov (.t 0))) <|
 .one 6 [] (.q (some 20) (some (17, true)) (.len (.t 19))) <|
 .one 7 [] (.q (some 21) (some (17, true)) (.bin 0 .lss (.t 18) (.t 20))) <|
 .one 8 [] (.q (some 22) none (.pick (.t 17) (.t 21) (.c (.bool false)))) <|
 .one 9 [] (.q (some 23) none (.mov (.t 22))) <|
 .one 10 [] (.q (some 24) (some (23, true)) (.mov (.t 0))) <|
 .one 11 [] (.q (some 25) (some (23, true)) (.mov (.t 2))) <|
 .one 12 [] (.q (some 26) (some (23, true)) (.iaddr 1 (.t 24) (.t 25))) <|
 .one 13 [] (.q (some 27) (some (23, true)) (.load 1 false (.t 26))) <|
 .one 14 [] (.q (some 28) (some (23, true)) (.iaddrA 1 2 (.t 4) (.c (.int .i64 0)))) <|
 .one 15 [] (.q (some 29) (some (23, true)) (.load 1 false (.t 28))) <|
 .one 16 [] (.q (some 30) (some (23, true)) (.bin 0 .geq (.t 27) (.t 29))) <|
 .one 17 [] (.q (some 31) none (.pick (.t 23) (.t 30) (.c (.bool false)))) <|
 .one 18 [] (.q (some 32) none (.mov (.t 31))) <|
 .one 19 [] (.q (some 33) (some (32, true)) (.mov (.t 0))) <|
 .one 20 [] (.q (some 34) (some (32, true)) (.mov (.t 2))) <|
 .one 21 [] (.q (some 35) (some (32, true)) (.iaddr 1 (.t 33) (.t 34))) <|
 .one 22 [] (.q (some 36) (some (32, true)) (.load 1 false (.t 35))) <|
 .one 23 [] (.q (some 37) (some (32, true)) (.iaddrA 1 2 (.t 4) (.c (.int .i64 1)))) <|
 .one 24 [] (.q (some 38) (some (32, true)) (.load 1 false (.t 37))) <|
 .one 25 [] (.q (some 39) (some (32, true)) (.bin 0 .leq (.t 36) (.t 38))) <|
 .one 26 [] (.q (some 40) none (.pick (.t 32) (.t 39) (.c (.bool false)))) <|
 .done) <|
 .cond (.t 40) (.skip) <|
 .exit 0) <|
 .block 1 <|
 .seq (.ins [2] [.q (some 41) none (.mov (.t 2)),
 .q (some 42) none (.bin 0 .add (.t 41) (.c (.int .i64 1))),
 .q (some 2) none (.mov (.t 42))]) <|
 .ins [] [.q (some 43) none (.build [.int .u8 0, .int .u8 0] [(0, 1, (.c (.int .u8 128))), (1, 1, (.c (.int .u8 191)))]),
 .l none none (.store 2 (.t 4) (.t 43))]) <|
 .seq (.ins [2, 3] [.q (some 44) none (.mov (.t 2)),
 .q (some 45) none (.mov (.t 3)),
 .q (some 2) none (.mov (.t 44)),
 .q (some 3) none (.mov (.t 45))]) <|
 .ret, [.t 2, .t 3], [0, 3, 13, 2, 4, 40], [0, 3, 13, 2, 4, 40], 46⟩
theorem ok148 : FnOkK Tryz.prog 148 E148 := ⟨Tryz.f148, Tryz.func148, by kernel_rfl, by kernel_rfl, by kernel_rfl, by kernel_rfl⟩
/- wayfarer/utf.character : 38 -/
def E149 : FnK := ⟨.seq (.ins [2] [.q (some 2) none (.mov (.c (.int .i32 0)))]) <|
 .seq (.seq (.ins [8] [.q (some 6) none (.mov (.t 0)),
 .q (some 7) none (.len (.t 6)),
 .q (some 8) none (.bin 0 .eql (.t 7) (.c (.int .i64 1)))]) <|
 .cond (.t 8) (.seq (.ins [2] [.q (some 9) none (.mov (.t 0)),
 .q (some 10) none (.iaddr 1 (.t 9) (.c (.int .i64 0))),
 .q (some 11) none (.load 1 false (.t 10)),
 .q (some 12) none (.conv .i32 (.t 11)),
 .q (some 2) none (.mov (.t 12))]) <|
 .ret) <|
 .skip) <|
 .seq (.plan [3] <|
 .one 0 [] (.q (some 13) none (.mov (.t 0))) <|
 .one 1 [] (.q (some 14) none (.iaddr 1 (.t 13) (.c (.int .i64 0)))) <|
 .one 2 [] (.q (some 15) none (.load 1 false (.t 14))) <|
 .one 3 [] (.q (some 16) none (.conv .i32 (.t 15))) <|
 .one 4 [] (.q (some 17) none (.mov (.t 0))) <|
 .one 5 [] (.q (some 18) none (.len (.t 17))) <|
 .one 6 [] (.q (some 19) none (.bin 0 .sub (.c (.int .i64 7)) (.t 18))) <|
 .one 7 [] (.q (some 20) none (.bin 0 .shl (.c (.int .i32 1)) (.t 19))) <|
 .one 8 [] (.q (some 21) none (.bin 0 .sub (.t 20) (.c (.int .i32 1)))) <|
 .one 9 [] (.q (some 22) none (.bin 0 .and (.t 16) (.t 21))) <|
 .one 10 [] (.q (some 3) none (.mov (.t 22))) <|
 .done) <|
 .seq (.seq (.ins [24, 25, 26] [.q (some 23) none (.mov (.t 0)),
 .q (some 24) none (.slc 1 (.t 23) (some (.c (.int .i64 1))) none none),
 .q (some 25) none (.len (.t 24)),
 .q (some 26) none (.mov (.c (.int .i64 0)))]) <|
 .block 0 <|
 .loop <|
 .seq (.ins [27] [.q (some 27) none (.bin 0 .lss (.t 26) (.t 25))]) <|
 .seq (.cond (.t 27) (.skip) <|
 .exit 0) <|
 .seq (.block 1 <|
 .seq (.ins [5] [.q (some 28) none (.iaddr 1 (.t 24) (.t 26)),
 .q (some 29) none (.load 1 false (.t 28)),
 .q (some 5) none (.mov (.t 29))]) <|
 .ins [3] [.q (some 30) none (.mov (.t 3)),
 .q (some 31) none (.bin 0 .shl (.t 30) (.c (.int .u64 6))),
 .q (some 32) none (.mov (.t 5)),
 .q (some 33) none (.bin 0 .and (.t 32) (.c (.int .u8 63))),
 .q (some 34) none (.conv .i32 (.t 33)),
 .q (some 35) none (.bin 0 .or (.t 31) (.t 34)),
 .q (some 3) none (.mov (.t 35))]) <|
 .ins [26] [.q (some 36) none (.bin 0 .add (.t 26) (.c (.int .i64 1))),
 .q (some 26) none (.mov (.t 36))]) <|
 .seq (.ins [2] [.q (some 37) none (.mov (.t 3)),
 .q (some 2) none (.mov (.t 37))]) <|
 .ret, [.t 2], [0, 8, 26, 25, 27, 24, 3, 5, 2], [0, 8, 26, 25, 27, 24, 3, 5, 2], 38⟩
theorem ok149 : FnOkK Tryz.prog 149 E149 := ⟨Tryz.f149, Tryz.func149, by kernel_rfl, by kernel_rfl, by kernel_rfl, by kernel_rfl⟩
/- (*wayfarer/vt.Parser).digit : 51 -/
def E152 : FnK := ⟨.seq (.seq (.ins [11] [.q (some 5) none (.mov (.t 0)),
 .q (some 6) none (.nilc (.t 5)),
 .q (some 7) none (.faddr 1 (.t 6)),
 .q (some 8) none (.faddr 2 (.t 7)),
 .q (some 9) none (.load 1 false (.t 8)),
 .q (some 10) none (.len (.t 9)),
 .q (some 11) none (.bin 0 .eql (.t 10) (.c (.int .i64 0)))]) <|
 .cond (.t 11) (.ins [] [.q (some 12) none (.mov (.t 0)),
 .q (some 13) none (.mov (.t 0)),
 .q (some 14) none (.nilc (.t 13)),
 .q (some 15) none (.faddr 1 (.t 14)),
 .q (some 16) none (.faddr 2 (.t 15)),
 .q (some 17) none (.load 1 false (.t 16)),
 .l (some 18) none (.bslice 1 1 [.int .i64 0] [(0, (.c (.int .i64 0)))]),
 .l (some 19) none (.append 1 8 (.t 17) (.t 18)),
 .q (some 20) none (.nilc (.t 12)),
 .q (some 21) none (.faddr 1 (.t 20)),
 .q (some 22) none (.faddr 2 (.t 21)),
 .l none none (.store 1 (.t 22) (.t 19))]) <|
 .skip) <|
 .seq (.ins [28] [.q (some 23) none (.mov (.t 0)),
 .q (some 24) none (.nilc (.t 23)),
 .q (some 25) none (.faddr 1 (.t 24)),
 .q (some 26) none (.faddr 5 (.t 25)),
 .q (some 27) none (.load 1 false (.t 26)),
 .q (some 28) none (.un .not (.t 27))]) <|
 .cond (.t 28) (.seq (.plan [4] <|
 .one 0 [] (.q (some 29) none (.mov (.t 0))) <|
 .one 1 [] (.q (some 30) none (.nilc (.t 29))) <|
 .one 2 [] (.q (some 31) none (.faddr 1 (.t 30))) <|
 .one 3 [] (.q (some 32) none (.faddr 2 (.t 31))) <|
 .one 4 [] (.q (some 33) none (.load 1 false (.t 32))) <|
 .one 5 [] (.q (some 34) none (.mov (.t 0))) <|
 .one 6 [] (.q (some 35) none (.nilc (.t 34))) <|
 .one 7 [] (.q (some 36) none (.faddr 1 (.t 35))) <|
 .one 8 [] (.q (some 37) none (.faddr 2 (.t 36))) <|
 .one 9 [] (.q (some 38) none (.load 1 false (.t 37))) <|
 .one 10 [] (.q (some 39) none (.len (.t 38))) <|
 .one 11 [] (.q (some 40) none (.bin 0 .sub (.t 39) (.c (.int .i64 1)))) <|
 .one 12 [] (.q (some 41) none (.iaddr 1 (.t 33) (.t 40))) <|
 .one 13 [] (.q (some 4) none (.mov (.t 41))) <|
 .done) <|
 .ins [] [.q (some 42) none (.mov (.t 4)),
 .q (some 43) none (.mov (.t 4)),
 .q (some 44) none (.nilc (.t 43)),
 .q (some 45) none (.load 1 false (.t 44)),
 .q (some 46) none (.bin 0 .mul (.c (.int .i64 10)) (.t 45)),
 .q (some 47) none (.mov (.t 1)),
 .q (some 48) none (.bin 0 .add (.t 46) (.t 47)),
 .q (some 49) none (.mn (.t 48) (.c (.int .i64 9999))),
 .q (some 50) none (.nilc (.t 42)),
 .l none none (.store 1 (.t 50) (.t 49))]) <|
 .skip, [], [0, 11, 28, 4, 1], [0, 11, 28, 4, 1], 51⟩
theorem ok152 : FnOkK Tryz.prog 152 E152 := ⟨Tryz.f152, Tryz.func152, by kernel_rfl, by kernel_rfl, by kernel_rfl, by kernel_rfl⟩
/- (*wayfarer/vt.Parser).another : 42 -/
def E153 : FnK := ⟨.seq (.seq (.ins [8] [.q (some 2) none (.mov (.t 0)),
 .q (some 3) none (.nilc (.t 2)),
 .q (some 4) none (.faddr 1 (.t 3)),
 .q (some 5) none (.faddr 2 (.t 4)),
 .q (some 6) none (.load 1 false (.t 5)),
 .q (some 7) none (.len (.t 6)),
 .q (some 8) none (.bin 0 .eql (.t 7) (.c (.int .i64 0)))]) <|
 .cond (.t 8) (.ins [] [.q (some 9) none (.mov (.t 0)),
 .q (some 10) none (.mov (.t 0)),
 .q (some 11) none (.nilc (.t 10)),
 .q (some 12) none (.faddr 1 (.t 11)),
 .q (some 13) none (.faddr 2 (.t 12)),
 .q (some 14) none (.load 1 false (.t 13)),
 .l (some 15) none (.bslice 1 1 [.int .i64 0] [(0, (.c (.int .i64 0)))]),
 .l (some 16) none (.append 1 8 (.t 14) (.t 15)),
 .q (some 17) none (.nilc (.t 9)),
 .q (some 18) none (.faddr 1 (.t 17)),
 .q (some 19) none (.faddr 2 (.t 18)),
 .l none none (.store 1 (.t 19) (.t 16))]) <|
 .skip) <|
 .seq (.seq (.ins [26] [.q (some 20) none (.mov (.t 0)),
 .q (some 21) none (.nilc (.t 20)),
 .q (some 22) none (.faddr 1 (.t 21)),
 .q (some 23) none (.faddr 2 (.t 22)),
 .q (some 24) none (.load 1 false (.t 23)),
 .q (some 25) none (.len (.t 24)),
 .q (some 26) none (.bin 0 .geq (.t 25) (.c (.int .i64 16)))]) <|
 .cond (.t 26) (.seq (.ins [] [.q (some 27) none (.mov (.t 0)),
 .q (some 28) none (.nilc (.t 27)),
 .q (some 29) none (.faddr 1 (.t 28)),
 .q (some 30) none (.faddr 5 (.t 29)),
 .l none none (.store 1 (.t 30) (.c (.bool true)))]) <|
 .ret) <|
 .skip) <|
 .ins [] [.q (some 31) none (.mov (.t 0)),
 .q (some 32) none (.mov (.t 0)),
 .q (some 33) none (.nilc (.t 32)),
 .q (some 34) none (.faddr 1 (.t 33)),
 .q (some 35) none (.faddr 2 (.t 34)),
 .q (some 36) none (.load 1 false (.t 35)),
 .l (some 37) none (.bslice 1 1 [.int .i64 0] [(0, (.c (.int .i64 0)))]),
 .l (some 38) none (.append 1 8 (.t 36) (.t 37)),
 .q (some 39) none (.nilc (.t 31)),
 .q (some 40) none (.faddr 1 (.t 39)),
 .q (some 41) none (.faddr 2 (.t 40)),
 .l none none (.store 1 (.t 41) (.t 38))], [], [0, 8, 26], [0, 8, 26], 42⟩
theorem ok153 : FnOkK Tryz.prog 153 E153 := ⟨Tryz.f153, Tryz.func153, by kernel_rfl, by kernel_rfl, by kernel_rfl, by kernel_rfl⟩
/- wayfarer/width.Of : 38 -/
def E154 : FnK := ⟨.seq (.ins [2] [.q (some 2) none (.mov (.c (.int .i64 0)))]) <|
 .seq (.ins [3, 4] [.l (some 5) none (.call 201 []),
 .l (some 6) none (.call 202 []),
 .l (some 3) none (.alloc [.int .i32 0, .int .i32 0, .int .i32 0, .int .i32 0, .int .i32 0, .int .i32 0, .int .i32 0, .int .i32 0, .int .i32 0, .int .i32 0, .int .i32 0, .int .i32 0, .int .i32 0, .int .i32 0, .int .i32 0, .int .i32 0, .int .i32 0, .int .i32 0, .int .i32 0, .int .i32 0, .int .i32 0, .int .i32 0, .int .i32 0, .int .i32 0, .int .i32 0, .int .i32 0, .int .i32 0, .int .i32 0, .int .i32 0, .int .i32 0, .int .i32 0, .int .i32 0, .int .i32 0, .int .i32 0, .int .i32 0, .int .i32 0, .int .i32 0, .int .i32 0, .int .i32 0, .int .i32 0, .int .i32 0, .int .i32 0, .int .i32 0, .int .i32 0, .int .i32 0, .int .i32 0, .int .i32 0, .int .i32 0, .int .i32 0, .int .i32 0, .int .i32 0, .int .i32 0, .int .i32 0, .int .i32 0, .int .i32 0, .int .i32 0, .int .i32 0, .int .i32 0, .int .i32 0, .int .i32 0, .int .i32 0, .int .i32 0, .int .i32 0, .int .i32 0, .int .i32 0, .int .i32 0, .int .i32 0, .int .i32 0, .int .i32 0, .int .i32 0, .int .i32 0, .int .i32 0, .int .i32 0, .int .i32 0]),
 .l (some 4) none (.alloc [.int .i32 0, .int .i32 0, .int .i32 0, .int .i32 0, .int .i32 0, .int .i32 0, .int .i32 0, .int .i32 0, .int .i32 0, .int .i32 0, .int .i32 0, .int .i32 0, .int .i32 0, .int .i32 0, .int .i32 0, .int .i32 0, .int .i32 0, .int .i32 0, .int .i32 0, .int .i32 0, .int .i32 0, .int .i32 0, .int .i32 0, .int .i32 0, .int .i32 0, .int .i32 0, .int .i32 0, .int .i32 0, .int .i32 0, .int .i32 0, .int .i32 0, .int .i32 0, .int .i32 0, .int .i32 0, .int .i32 0, .int .i32 0, .int .i32 0, .int .i32 0, .int .i32 0, .int .i32 0, .int .i32 0, .int .i32 0, .int .i32 0, .int .i32 0, .int .i32 0, .int .i32 0, .int .i32 0, .int .i32 0, .int .i32 0, .int .i32 0, .int .i32 0, .int .i32 0]),
 .l none none (.store 74 (.t 3) (.t 5)),
 .l none none (.store 52 (.t 4) (.t 6))]) <|
 .seq (.block 0 <|
 .seq (.ins [7] [.q (some 8) none (.mov (.t 0)),
 .q (some 9) none (.bin 0 .lss (.t 8) (.c (.int .i32 32))),
 .q (some 10) none (.mov (.t 9)),
 .q (some 11) (some (10, false)) (.mov (.t 0)),
 .q (some 12) (some (10, false)) (.bin 0 .geq (.t 11) (.c (.int .i32 127))),
 .q (some 13) (some (10, false)) (.mov (.t 12)),
 .q (some 14) (some (13, true)) (.mov (.t 0)),
 .q (some 15) (some (13, true)) (.bin 0 .leq (.t 14) (.c (.int .i32 159))),
 .q (some 16) (some (10, false)) (.pick (.t 13) (.t 15) (.c (.bool false))),
 .q (some 17) none (.pick (.t 10) (.c (.bool true)) (.t 16)),
 .q (some 18) none (.mov (.t 17)),
 .q (some 19) (some (18, false)) (.mov (.t 0)),
 .q (some 20) (some (18, false)) (.bin 0 .gtr (.t 19) (.c (.int .i32 1114111))),
 .q (some 21) none (.pick (.t 18) (.c (.bool true)) (.t 20)),
 .q (some 22) none (.mov (.t 21)),
 .q (some 23) (some (22, false)) (.mov (.t 0)),
 .q (some 24) (some (22, false)) (.bin 0 .geq (.t 23) (.c (.int .i32 55296))),
 .q (some 25) (some (22, false)) (.mov (.t 24)),
 .q (some 26) (some (25, true)) (.mov (.t 0)),
 .q (some 27) (some (25, true)) (.bin 0 .leq (.t 26) (.c (.int .i32 57343))),
 .q (some 28) (some (22, false)) (.pick (.t 25) (.t 27) (.c (.bool false))),
 .q (some 29) none (.pick (.t 22) (.c (.bool true)) (.t 28)),
 .q (some 7) none (.mov (.t 29))]) <|
 .cond (.t 7) (.seq (.ins [2] [.q (some 2) none (.mov (.c (.int .i64 (-1))))]) <|
 .ret) <|
 .seq (.ins [30] [.q (some 31) none (.slcA 2 26 (.t 4) none none none),
 .q (some 32) none (.mov (.t 0)),
 .l (some 33) none (.call 203 [.t 31, .t 32]),
 .q (some 30) none (.mov (.t 33))]) <|
 .cond (.t 30) (.seq (.ins [2] [.q (some 2) none (.mov (.c (.int .i64 0)))]) <|
 .ret) <|
 .seq (.ins [34] [.q (some 35) none (.slcA 2 37 (.t 3) none none none),
 .q (some 36) none (.mov (.t 0)),
 .l (some 37) none (.call 203 [.t 35, .t 36]),
 .q (some 34) none (.mov (.t 37))]) <|
 .cond (.t 34) (.seq (.ins [2] [.q (some 2) none (.mov (.c (.int .i64 2)))]) <|
 .ret) <|
 .skip) <|
 .seq (.ins [2] [.q (some 2) none (.mov (.c (.int .i64 1)))]) <|
 .ret, [.t 2], [0, 7, 4, 30, 3, 34, 2], [0, 7, 4, 30, 3, 34, 2], 38⟩
theorem ok154 : FnOkK Tryz.prog 154 E154 := ⟨Tryz.f154, Tryz.func154, by kernel_rfl, by kernel_rfl, by kernel_rfl, by kernel_rfl⟩
/- (wayfarer/screen.Live).last : 10 -/
def E157 : FnK := ⟨.seq (.ins [1, 2] [.l (some 1) none (.box (.t 0)),
 .q (some 2) none (.mov (.c (.int .i64 0)))]) <|
 .seq (.ins [2] [.q (some 3) none (.faddr 0 (.t 1)),
 .q (some 4) none (.load 1 false (.t 3)),
 .q (some 5) none (.nilc (.t 4)),
 .q (some 6) none (.faddr 0 (.t 5)),
 .q (some 7) none (.faddr 0 (.t 6)),
 .q (some 8) none (.load 1 false (.t 7)),
 .q (some 9) none (.bin 0 .sub (.t 8) (.c (.int .i64 1))),
 .q (some 2) none (.mov (.t 9))]) <|
 .ret, [.t 2], [0, 1, 2], [0, 1, 2], 10⟩
theorem ok157 : FnOkK Tryz.prog 157 E157 := ⟨Tryz.f157, Tryz.func157, by kernel_rfl, by kernel_rfl, by kernel_rfl, by kernel_rfl⟩
/- (wayfarer/screen.Live).row : 13 -/
def E158 : FnK := ⟨.seq (.ins [1, 2] [.l (some 1) none (.box (.t 0)),
 .q (some 2) none (.mov (.c (.s 0 (0, 0) 0 0 0 0)))]) <|
 .seq (.plan [2] <|
 .one 0 [] (.q (some 3) none (.faddr 0 (.t 1))) <|
 .one 1 [] (.q (some 4) none (.load 1 false (.t 3))) <|
 .one 2 [] (.q (some 5) none (.nilc (.t 4))) <|
 .one 3 [] (.q (some 6) none (.faddr 0 (.t 5))) <|
 .one 4 [] (.q (some 7) none (.faddr 0 (.t 1))) <|
 .one 5 [] (.q (some 8) none (.load 1 false (.t 7))) <|
 .one 6 [] (.q (some 9) none (.nilc (.t 8))) <|
 .one 7 [] (.q (some 10) none (.faddr 3 (.t 9))) <|
 .one 8 [] (.q (some 11) none (.load 1 false (.t 10))) <|
 .late [] <|
 .one 9 [1, 5, 8] (.l (some 12) none (.call 74 [.t 6, .t 11])) <|
 .one 10 [] (.q (some 2) none (.mov (.t 12))) <|
 .done) <|
 .ret, [.t 2], [0, 1, 2], [0, 1, 2], 13⟩
theorem ok158 : FnOkK Tryz.prog 158 E158 := ⟨Tryz.f158, Tryz.func158, by kernel_rfl, by kernel_rfl, by kernel_rfl, by kernel_rfl⟩
/- (wayfarer/grid.Row).Put : 13 -/
def E160 : FnK := ⟨.seq (.ins [] [.q (some 6) none (.mov (.t 0)),
 .q (some 7) none (.mov (.t 1)),
 .q (some 8) none (.slc 15 (.t 6) (some (.t 7)) none none),
 .q (some 9) none (.mov (.t 2)),
 .l (some 10) none (.copy 15 (.t 8) (.t 9))]) <|
 .ins [] [.q (some 11) none (.mov (.t 0)),
 .l (some 12) none (.call 196 [.t 11])], [], [0, 1, 2], [0, 1, 2], 13⟩
theorem ok160 : FnOkK Tryz.prog 160 E160 := ⟨Tryz.f160, Tryz.func160, by kernel_rfl, by kernel_rfl, by kernel_rfl, by kernel_rfl⟩
/- wayfarer/cell.Put : 25 -/
def E161 : FnK := ⟨.seq (.ins [3, 4] [.l (some 3) none (.box (.t 1)),
 .q (some 4) none (.mov (.c (.s 0 (0, 0) 0 0 0 0)))]) <|
 .seq (.ins [5] [.q (some 7) none (.mov (.t 0)),
 .q (some 8) none (.load 10 true (.t 3)),
 .q (some 9) none (.build [.int .i32 0, .int .i32 0, .int .i32 0, .int .i32 0, .int .u8 0, .int .i64 0, .int .i64 0, .bool false, .bool false, .bool false, .bool false, .bool false, .bool false, .bool false, .bool false] [(0, 1, (.t 7)), (5, 10, (.t 8))]),
 .l (some 5) none (.alloc [.int .i32 0, .int .i32 0, .int .i32 0, .int .i32 0, .int .u8 0, .int .i64 0, .int .i64 0, .bool false, .bool false, .bool false, .bool false, .bool false, .bool false, .bool false, .bool false]),
 .l none none (.store 15 (.t 5) (.t 9))]) <|
 .seq (.seq (.ins [6] [.q (some 10) none (.mov (.t 0)),
 .l (some 11) none (.call 154 [.t 10]),
 .q (some 6) none (.mov (.t 11))]) <|
 .seq (.ins [12] [.q (some 12) none (.mov (.t 6))]) <|
 .block 0 <|
 .seq (.seq (.ins [13] [.q (some 14) none (.bin 0 .eql (.t 12) (.c (.int .i64 1))),
 .q (some 13) none (.mov (.t 14))]) <|
 .cond (.t 13) (.skip) <|
 .ins [13] [.q (some 15) none (.bin 0 .eql (.t 12) (.c (.int .i64 2))),
 .q (some 13) none (.mov (.t 15))]) <|
 .cond (.t 13) (.seq (.ins [] [.q (some 16) none (.mov (.t 6)),
 .q (some 17) none (.conv .u8 (.t 16)),
 .q (some 18) none (.faddr 4 (.t 5)),
 .l none none (.store 1 (.t 18) (.t 17))]) <|
 .seq (.plan [4] <|
 .one 0 [] (.q (some 19) none (.load 15 true (.t 5))) <|
 .one 2 [] (.q (some 21) none (.load 10 true (.t 3))) <|
 .one 3 [] (.q (some 22) none (.mov (.t 6))) <|
 .late [((some 20), .bslice 15 1 [.int .i32 0, .int .i32 0, .int .i32 0, .int .i32 0, .int .u8 0, .int .i64 0, .int .i64 0, .bool false, .bool false, .bool false, .bool false, .bool false, .bool false, .bool false, .bool false] [(0, (.t 19))])] <|
 .one 4 [2] (.l (some 23) none (.call 206 [.t 21, .t 22])) <|
 .late [] <|
 .one 1 [0] (.l (some 20) none (.bslice 15 1 [.int .i32 0, .int .i32 0, .int .i32 0, .int .i32 0, .int .u8 0, .int .i64 0, .int .i64 0, .bool false, .bool false, .bool false, .bool false, .bool false, .bool false, .bool false, .bool false] [(0, (.t 19))])) <|
 .late [] <|
 .one 5 [0, 2] (.l (some 24) none (.append 15 48 (.t 20) (.t 23))) <|
 .one 6 [] (.q (some 4) none (.mov (.t 24))) <|
 .done) <|
 .ret) <|
 .skip) <|
 .seq (.ins [4] [.q (some 4) none (.mov (.c (.s 0 (0, 0) 0 0 0 0)))]) <|
 .ret, [.t 4], [1, 0, 3, 6, 12, 13, 5, 4], [1, 0, 3, 6, 12, 13, 5, 4], 25⟩
theorem ok161 : FnOkK Tryz.prog 161 E161 := ⟨Tryz.f161, Tryz.func161, by kernel_rfl, by kernel_rfl, by kernel_rfl, by kernel_rfl⟩
/- wayfarer/emulator.count : 12 -/
def E166 : FnK := ⟨.seq (.ins [2, 4] [.l (some 2) none (.box (.t 0)),
 .q (some 4) none (.mov (.c (.int .i64 0)))]) <|
 .seq (.seq (.ins [5] [.q (some 6) none (.load 7 true (.t 2)),
 .q (some 7) none (.mov (.t 1)),
 .l (some 8) none (.call 167 [.t 6, .t 7]),
 .q (some 5) none (.mov (.t 8))]) <|
 .seq (.ins [10] [.q (some 9) none (.mov (.t 5)),
 .q (some 10) none (.bin 0 .neq (.t 9) (.c (.int .i64 0)))]) <|
 .cond (.t 10) (.seq (.ins [4] [.q (some 11) none (.mov (.t 5)),
 .q (some 4) none (.mov (.t 11))]) <|
 .ret) <|
 .skip) <|
 .seq (.ins [4] [.q (some 4) none (.mov (.c (.int .i64 1)))]) <|
 .ret, [.t 4], [0, 2, 1, 5, 10, 4], [0, 2, 1, 5, 10, 4], 12⟩
theorem ok166 : FnOkK Tryz.prog 166 E166 := ⟨Tryz.f166, Tryz.func166, by kernel_rfl, by kernel_rfl, by kernel_rfl, by kernel_rfl⟩
/- wayfarer/emulator.at : 17 -/
def E167 : FnK := ⟨.seq (.ins [2, 4] [.l (some 2) none (.box (.t 0)),
 .q (some 4) none (.mov (.c (.int .i64 0)))]) <|
 .seq (.seq (.ins [9] [.q (some 5) none (.mov (.t 1)),
 .q (some 6) none (.faddr 5 (.t 2)),
 .q (some 7) none (.load 1 false (.t 6)),
 .q (some 8) none (.len (.t 7)),
 .q (some 9) none (.bin 0 .geq (.t 5) (.t 8))]) <|
 .cond (.t 9) (.seq (.ins [4] [.q (some 4) none (.mov (.c (.int .i64 0)))]) <|
 .ret) <|
 .skip) <|
 .seq (.ins [4] [.q (some 10) none (.faddr 5 (.t 2)),
 .q (some 11) none (.load 1 false (.t 10)),
 .q (some 12) none (.mov (.t 1)),
 .q (some 13) none (.iaddr 1 (.t 11) (.t 12)),
 .q (some 14) none (.load 1 false (.t 13)),
 .q (some 15) none (.mn (.t 14) (.c (.int .i64 1099511627776))),
 .q (some 16) none (.mx (.c (.int .i64 (-1099511627776))) (.t 15)),
 .q (some 4) none (.mov (.t 16))]) <|
 .ret, [.t 4], [0, 1, 2, 9, 4], [0, 1, 2, 9, 4], 17⟩
theorem ok167 : FnOkK Tryz.prog 167 E167 := ⟨Tryz.f167, Tryz.func167, by kernel_rfl, by kernel_rfl, by kernel_rfl, by kernel_rfl⟩
/- (wayfarer/screen.Live).Move : 81 -/
def E168 : FnK := ⟨.seq (.ins [3] [.l (some 3) none (.box (.t 0))]) <|
 .seq (.plan [6, 7] <|
 .one 0 [] (.q (some 8) none (.faddr 0 (.t 3))) <|
 .one 1 [] (.q (some 9) none (.load 1 false (.t 8))) <|
 .one 2 [] (.q (some 10) none (.nilc (.t 9))) <|
 .one 3 [] (.q (some 11) none (.faddr 0 (.t 10))) <|
 .one 4 [] (.q (some 12) none (.faddr 1 (.t 11))) <|
 .one 5 [] (.q (some 13) none (.load 1 false (.t 12))) <|
 .one 6 [] (.q (some 14) none (.bin 0 .sub (.t 13) (.c (.int .i64 1)))) <|
 .one 7 [] (.q (some 6) none (.mov (.c (.int .i64 0)))) <|
 .one 8 [] (.q (some 7) none (.mov (.t 14))) <|
 .done) <|
 .seq (.seq (.plan [25] <|
 .one 0 [] (.q (some 15) none (.faddr 0 (.t 3))) <|
 .one 1 [] (.q (some 16) none (.load 1 false (.t 15))) <|
 .one 2 [] (.q (some 17) none (.nilc (.t 16))) <|
 .one 3 [] (.q (some 18) none (.faddr 3 (.t 17))) <|
 .one 4 [] (.q (some 19) none (.load 1 false (.t 18))) <|
 .one 5 [] (.q (some 20) none (.faddr 0 (.t 3))) <|
 .one 6 [] (.q (some 21) none (.load 1 false (.t 20))) <|
 .one 7 [] (.q (some 22) none (.nilc (.t 21))) <|
 .one 8 [] (.q (some 23) none (.faddr 17 (.t 22))) <|
 .one 9 [] (.q (some 24) none (.load 1 false (.t 23))) <|
 .one 10 [] (.q (some 25) none (.bin 0 .leq (.t 19) (.t 24))) <|
 .done) <|
 .cond (.t 25) (.ins [7] [.q (some 26) none (.faddr 0 (.t 3)),
 .q (some 27) none (.load 1 false (.t 26)),
 .q (some 28) none (.nilc (.t 27)),
 .q (some 29) none (.faddr 17 (.t 28)),
 .q (some 30) none (.load 1 false (.t 29)),
 .q (some 7) none (.mov (.t 30))]) <|
 .skip) <|
 .seq (.seq (.plan [41] <|
 .one 0 [] (.q (some 31) none (.faddr 0 (.t 3))) <|
 .one 1 [] (.q (some 32) none (.load 1 false (.t 31))) <|
 .one 2 [] (.q (some 33) none (.nilc (.t 32))) <|
 .one 3 [] (.q (some 34) none (.faddr 3 (.t 33))) <|
 .one 4 [] (.q (some 35) none (.load 1 false (.t 34))) <|
 .one 5 [] (.q (some 36) none (.faddr 0 (.t 3))) <|
 .one 6 [] (.q (some 37) none (.load 1 false (.t 36))) <|
 .one 7 [] (.q (some 38) none (.nilc (.t 37))) <|
 .one 8 [] (.q (some 39) none (.faddr 16 (.t 38))) <|
 .one 9 [] (.q (some 40) none (.load 1 false (.t 39))) <|
 .one 10 [] (.q (some 41) none (.bin 0 .geq (.t 35) (.t 40))) <|
 .done) <|
 .cond (.t 41) (.ins [6] [.q (some 42) none (.faddr 0 (.t 3)),
 .q (some 43) none (.load 1 false (.t 42)),
 .q (some 44) none (.nilc (.t 43)),
 .q (some 45) none (.faddr 16 (.t 44)),
 .q (some 46) none (.load 1 false (.t 45)),
 .q (some 6) none (.mov (.t 46))]) <|
 .skip) <|
 .seq (.plan [] <|
 .one 0 [] (.q (some 47) none (.faddr 0 (.t 3))) <|
 .one 1 [] (.q (some 48) none (.load 1 false (.t 47))) <|
 .one 2 [] (.q (some 49) none (.faddr 0 (.t 3))) <|
 .one 3 [] (.q (some 50) none (.load 1 false (.t 49))) <|
 .one 4 [] (.q (some 51) none (.nilc (.t 50))) <|
 .one 5 [] (.q (some 52) none (.faddr 3 (.t 51))) <|
 .one 6 [] (.q (some 53) none (.load 1 false (.t 52))) <|
 .one 7 [] (.q (some 54) none (.mov (.t 1))) <|
 .one 10 [] (.q (some 57) none (.mov (.t 6))) <|
 .one 11 [] (.q (some 58) none (.mov (.t 7))) <|
 .late [] <|
 .one 8 [] (.l (some 55) none (.call 212 [.t 54])) <|
 .one 9 [] (.q (some 56) none (.bin 0 .add (.t 53) (.t 55))) <|
 .late [] <|
 .one 12 [3, 6] (.l (some 59) none (.call 211 [.t 56, .t 57, .t 58])) <|
 .one 13 [] (.q (some 60) none (.nilc (.t 48))) <|
 .one 14 [] (.q (some 61) none (.faddr 3 (.t 60))) <|
 .late [] <|
 .one 15 [1, 3, 6] (.l none none (.store 1 (.t 61) (.t 59))) <|
 .done) <|
 .seq (.plan [] <|
 .one 0 [] (.q (some 62) none (.faddr 0 (.t 3))) <|
 .one 1 [] (.q (some 63) none (.load 1 false (.t 62))) <|
 .one 2 [] (.q (some 64) none (.faddr 0 (.t 3))) <|
 .one 3 [] (.q (some 65) none (.load 1 false (.t 64))) <|
 .one 4 [] (.q (some 66) none (.nilc (.t 65))) <|
 .one 5 [] (.q (some 67) none (.faddr 4 (.t 66))) <|
 .one 6 [] (.q (some 68) none (.load 1 false (.t 67))) <|
 .one 7 [] (.q (some 69) none (.mov (.t 2))) <|
 .one 10 [] (.q (some 72) none (.load 1 true (.t 3))) <|
 .late [] <|
 .one 8 [] (.l (some 70) none (.call 212 [.t 69])) <|
 .one 9 [] (.q (some 71) none (.bin 0 .add (.t 68) (.t 70))) <|
 .late [] <|
 .one 11 [10] (.l (some 73) none (.call 157 [.t 72])) <|
 .late [] <|
 .one 12 [3, 6, 10] (.l (some 74) none (.call 211 [.t 71, .c (.int .i64 0), .t 73])) <|
 .one 13 [] (.q (some 75) none (.nilc (.t 63))) <|
 .one 14 [] (.q (some 76) none (.faddr 4 (.t 75))) <|
 .late [] <|
 .one 15 [1, 3, 6, 10] (.l none none (.store 1 (.t 76) (.t 74))) <|
 .done) <|
 .ins [] [.q (some 77) none (.faddr 0 (.t 3)),
 .q (some 78) none (.load 1 false (.t 77)),
 .q (some 79) none (.nilc (.t 78)),
 .q (some 80) none (.faddr 5 (.t 79)),
 .l none none (.store 1 (.t 80) (.c (.bool false)))], [], [0, 3, 25, 41, 1, 6, 7, 2], [0, 3, 25, 41, 1, 6, 7, 2], 81⟩
theorem ok168 : FnOkK Tryz.prog 168 E168 := ⟨Tryz.f168, Tryz.func168, by kernel_rfl, by kernel_rfl, by kernel_rfl, by kernel_rfl⟩
/- (wayfarer/screen.Live).Place : 53 -/
def E169 : FnK := ⟨.seq (.ins [3] [.l (some 3) none (.box (.t 0))]) <|
 .seq (.plan [6, 7] <|
 .one 0 [] (.q (some 8) none (.faddr 0 (.t 3))) <|
 .one 1 [] (.q (some 9) none (.load 1 false (.t 8))) <|
 .one 2 [] (.q (some 10) none (.nilc (.t 9))) <|
 .one 3 [] (.q (some 11) none (.faddr 0 (.t 10))) <|
 .one 4 [] (.q (some 12) none (.faddr 1 (.t 11))) <|
 .one 5 [] (.q (some 13) none (.load 1 false (.t 12))) <|
 .one 6 [] (.q (some 14) none (.bin 0 .sub (.t 13) (.c (.int .i64 1)))) <|
 .one 7 [] (.q (some 6) none (.mov (.c (.int .i64 0)))) <|
 .one 8 [] (.q (some 7) none (.mov (.t 14))) <|
 .done) <|
 .seq (.seq (.ins [19] [.q (some 15) none (.faddr 0 (.t 3)),
 .q (some 16) none (.load 1 false (.t 15)),
 .q (some 17) none (.nilc (.t 16)),
 .q (some 18) none (.faddr 20 (.t 17)),
 .q (some 19) none (.load 1 false (.t 18))]) <|
 .cond (.t 19) (.plan [6, 7] <|
 .one 0 [] (.q (some 20) none (.faddr 0 (.t 3))) <|
 .one 1 [] (.q (some 21) none (.load 1 false (.t 20))) <|
 .one 2 [] (.q (some 22) none (.nilc (.t 21))) <|
 .one 3 [] (.q (some 23) none (.faddr 16 (.t 22))) <|
 .one 4 [] (.q (some 24) none (.load 1 false (.t 23))) <|
 .one 5 [] (.q (some 25) none (.faddr 0 (.t 3))) <|
 .one 6 [] (.q (some 26) none (.load 1 false (.t 25))) <|
 .one 7 [] (.q (some 27) none (.nilc (.t 26))) <|
 .one 8 [] (.q (some 28) none (.faddr 17 (.t 27))) <|
 .one 9 [] (.q (some 29) none (.load 1 false (.t 28))) <|
 .one 10 [] (.q (some 6) none (.mov (.t 24))) <|
 .one 11 [] (.q (some 7) none (.mov (.t 29))) <|
 .done) <|
 .skip) <|
 .seq (.plan [] <|
 .one 0 [] (.q (some 30) none (.faddr 0 (.t 3))) <|
 .one 1 [] (.q (some 31) none (.load 1 false (.t 30))) <|
 .one 2 [] (.q (some 32) none (.mov (.t 6))) <|
 .one 3 [] (.q (some 33) none (.mov (.t 1))) <|
 .one 6 [] (.q (some 36) none (.mov (.t 6))) <|
 .one 7 [] (.q (some 37) none (.mov (.t 7))) <|
 .late [] <|
 .one 4 [] (.l (some 34) none (.call 212 [.t 33])) <|
 .one 5 [] (.q (some 35) none (.bin 0 .add (.t 32) (.t 34))) <|
 .late [] <|
 .one 8 [] (.l (some 38) none (.call 211 [.t 35, .t 36, .t 37])) <|
 .one 9 [] (.q (some 39) none (.nilc (.t 31))) <|
 .one 10 [] (.q (some 40) none (.faddr 3 (.t 39))) <|
 .late [] <|
 .one 11 [1] (.l none none (.store 1 (.t 40) (.t 38))) <|
 .done) <|
 .seq (.plan [] <|
 .one 0 [] (.q (some 41) none (.faddr 0 (.t 3))) <|
 .one 1 [] (.q (some 42) none (.load 1 false (.t 41))) <|
 .one 2 [] (.q (some 43) none (.mov (.t 2))) <|
 .one 3 [] (.q (some 44) none (.load 1 true (.t 3))) <|
 .late [] <|
 .one 4 [3] (.l (some 45) none (.call 157 [.t 44])) <|
 .late [] <|
 .one 5 [3] (.l (some 46) none (.call 211 [.t 43, .c (.int .i64 0), .t 45])) <|
 .one 6 [] (.q (some 47) none (.nilc (.t 42))) <|
 .one 7 [] (.q (some 48) none (.faddr 4 (.t 47))) <|
 .late [] <|
 .one 8 [1, 3] (.l none none (.store 1 (.t 48) (.t 46))) <|
 .done) <|
 .ins [] [.q (some 49) none (.faddr 0 (.t 3)),
 .q (some 50) none (.load 1 false (.t 49)),
 .q (some 51) none (.nilc (.t 50)),
 .q (some 52) none (.faddr 5 (.t 51)),
 .l none none (.store 1 (.t 52) (.c (.bool false)))], [], [0, 3, 19, 6, 1, 7, 2], [0, 3, 19, 6, 1, 7, 2], 53⟩
theorem ok169 : FnOkK Tryz.prog 169 E169 := ⟨Tryz.f169, Tryz.func169, by kernel_rfl, by kernel_rfl, by kernel_rfl, by kernel_rfl⟩
/- wayfarer/emulator.status : 45 -/
def E177 : FnK := ⟨.seq (.ins [2, 4] [.l (some 2) none (.box (.t 0)),
 .q (some 4) none (.mov (.c (.s 0 (0, 0) 0 0 0 0)))]) <|
 .seq (.seq (.ins [6] [.q (some 6) none (.mov (.t 1))]) <|
 .block 0 <|
 .seq (.ins [7] [.q (some 8) none (.bin 0 .eql (.t 6) (.c (.int .i64 5))),
 .q (some 7) none (.mov (.t 8))]) <|
 .cond (.t 7) (.seq (.ins [4] [.l (some 9) none (.bslice 1 4 [.int .u8 0] [(0, (.c (.int .u8 27))), (1, (.c (.int .u8 91))), (2, (.c (.int .u8 48))), (3, (.c (.int .u8 110)))]),
 .l (some 10) none (.mark (.t 9)),
 .q (some 4) none (.mov (.t 10))]) <|
 .ret) <|
 .seq (.ins [11] [.q (some 12) none (.bin 0 .eql (.t 6) (.c (.int .i64 6))),
 .q (some 11) none (.mov (.t 12))]) <|
 .cond (.t 11) (.seq (.ins [5] [.q (some 13) none (.faddr 0 (.t 2)),
 .q (some 14) none (.load 1 false (.t 13)),
 .q (some 15) none (.nilc (.t 14)),
 .q (some 16) none (.faddr 3 (.t 15)),
 .q (some 17) none (.load 1 false (.t 16)),
 .q (some 5) none (.mov (.t 17))]) <|
 .seq (.seq (.ins [22] [.q (some 18) none (.faddr 0 (.t 2)),
 .q (some 19) none (.load 1 false (.t 18)),
 .q (some 20) none (.nilc (.t 19)),
 .q (some 21) none (.faddr 20 (.t 20)),
 .q (some 22) none (.load 1 false (.t 21))]) <|
 .cond (.t 22) (.ins [5] [.q (some 23) none (.mov (.t 5)),
 .q (some 24) none (.faddr 0 (.t 2)),
 .q (some 25) none (.load 1 false (.t 24)),
 .q (some 26) none (.nilc (.t 25)),
 .q (some 27) none (.faddr 16 (.t 26)),
 .q (some 28) none (.load 1 false (.t 27)),
 .q (some 29) none (.bin 0 .sub (.t 23) (.t 28)),
 .q (some 5) none (.mov (.t 29))]) <|
 .skip) <|
 .seq (.plan [4] <|
 .one 0 [] (.q (some 30) none (.mov (.t 5))) <|
 .one 1 [] (.q (some 31) none (.bin 0 .add (.t 30) (.c (.int .i64 1)))) <|
 .one 5 [] (.q (some 35) none (.faddr 0 (.t 2))) <|
 .one 6 [] (.q (some 36) none (.load 1 false (.t 35))) <|
 .one 7 [] (.q (some 37) none (.nilc (.t 36))) <|
 .one 8 [] (.q (some 38) none (.faddr 4 (.t 37))) <|
 .one 9 [] (.q (some 39) none (.load 1 false (.t 38))) <|
 .one 10 [] (.q (some 40) none (.bin 0 .add (.t 39) (.c (.int .i64 1)))) <|
 .late [] <|
 .one 2 [] (.l (some 32) none (.call 136 [.t 31])) <|
 .one 3 [] (.q (some 33) none (.sbin .add (.c (.v (.string ⟨#[27, 91]⟩))) (.t 32))) <|
 .one 4 [] (.q (some 34) none (.sbin .add (.t 33) (.c (.v (.string ⟨#[59]⟩))))) <|
 .late [] <|
 .one 11 [6, 9] (.l (some 41) none (.call 136 [.t 40])) <|
 .one 12 [] (.q (some 42) none (.sbin .add (.t 34) (.t 41))) <|
 .one 13 [] (.q (some 43) none (.sbin .add (.t 42) (.c (.v (.string ⟨#[82]⟩))))) <|
 .late [] <|
 .one 14 [6, 9] (.l (some 44) none (.s2b (.t 43))) <|
 .one 15 [] (.q (some 4) none (.mov (.t 44))) <|
 .done) <|
 .ret) <|
 .skip) <|
 .seq (.ins [4] [.q (some 4) none (.mov (.c (.s 0 (0, 0) 0 0 0 0)))]) <|
 .ret, [.t 4], [0, 1, 6, 7, 11, 2, 22, 5, 4], [0, 1, 6, 7, 11, 2, 22, 5, 4], 45⟩
theorem ok177 : FnOkK Tryz.prog 177 E177 := ⟨Tryz.f177, Tryz.func177, by kernel_rfl, by kernel_rfl, by kernel_rfl, by kernel_rfl⟩
/- slices.Clone[[]wayfarer/api.Cell,wayfarer/api.Cell] : 8 -/
def E181 : FnK := ⟨.seq (.ins [2] [.q (some 2) none (.mov (.c (.s 0 (0, 0) 0 0 0 0)))]) <|
 .seq (.seq (.ins [4] [.q (some 3) none (.mov (.t 0)),
 .q (some 4) none (.eqnil false (.t 3))]) <|
 .cond (.t 4) (.seq (.ins [2] [.q (some 2) none (.mov (.c (.s 0 (0, 0) 0 0 0 0)))]) <|
 .ret) <|
 .skip) <|
 .seq (.ins [2] [.l (some 5) none (.bslice 15 0 [.int .i32 0, .int .i32 0, .int .i32 0, .int .i32 0, .int .u8 0, .int .i64 0, .int .i64 0, .bool false, .bool false, .bool false, .bool false, .bool false, .bool false, .bool false, .bool false] []),
 .q (some 6) none (.mov (.t 0)),
 .l (some 7) none (.append 15 48 (.t 5) (.t 6)),
 .q (some 2) none (.mov (.t 7))]) <|
 .ret, [.t 2], [0, 4, 2], [0, 4, 2], 8⟩
theorem ok181 : FnOkK Tryz.prog 181 E181 := ⟨Tryz.f181, Tryz.func181, by kernel_rfl, by kernel_rfl, by kernel_rfl, by kernel_rfl⟩
/- wayfarer/cell.color : 9 -/
def E184 : FnK := ⟨.seq (.ins [2] [.q (some 2) none (.mov (.c (.bool false)))]) <|
 .seq (.ins [2] [.q (some 3) none (.mov (.t 0)),
 .q (some 4) none (.bin 0 .geq (.t 3) (.c (.int .i64 (-1)))),
 .q (some 5) none (.mov (.t 4)),
 .q (some 6) (some (5, true)) (.mov (.t 0)),
 .q (some 7) (some (5, true)) (.bin 0 .leq (.t 6) (.c (.int .i64 255))),
 .q (some 8) none (.pick (.t 5) (.t 7) (.c (.bool false))),
 .q (some 2) none (.mov (.t 8))]) <|
 .ret, [.t 2], [0, 2], [0, 2], 9⟩
theorem ok184 : FnOkK Tryz.prog 184 E184 := ⟨Tryz.f184, Tryz.func184, by kernel_rfl, by kernel_rfl, by kernel_rfl, by kernel_rfl⟩
/- internal/strconv.Itoa : 5 -/
def E195 : FnK := ⟨.seq (.ins [2] [.q (some 2) none (.mov (.c (.v (.string ⟨#[]⟩))))]) <|
 .seq (.ins [2] [.q (some 3) none (.mov (.t 0)),
 .l (some 4) none (.call 221 [.t 3, .c (.int .i64 10)]),
 .q (some 2) none (.mov (.t 4))]) <|
 .ret, [.t 2], [0, 2], [0, 2], 5⟩
theorem ok195 : FnOkK Tryz.prog 195 E195 := ⟨Tryz.f195, Tryz.func195, by kernel_rfl, by kernel_rfl, by kernel_rfl, by kernel_rfl⟩
/- (wayfarer/grid.Row).Mend : 46 -/
def E196 : FnK := ⟨.seq (.ins [1] [.l (some 1) none (.box (.t 0))]) <|
 .seq (.ins [2] [.q (some 5) none (.mkf 222 [.t 1]),
 .q (some 2) none (.mov (.t 5))]) <|
 .seq (.ins [6, 7, 8] [.q (some 6) none (.load 1 false (.t 1)),
 .q (some 7) none (.len (.t 6)),
 .q (some 8) none (.mov (.c (.int .i64 0)))]) <|
 .block 0 <|
 .loop <|
 .seq (.ins [9] [.q (some 9) none (.bin 0 .lss (.t 8) (.t 7))]) <|
 .seq (.cond (.t 9) (.skip) <|
 .exit 0) <|
 .seq (.block 1 <|
 .seq (.ins [4, 3] [.q (some 10) none (.mov (.t 8)),
 .q (some 11) none (.iaddr 15 (.t 6) (.t 8)),
 .q (some 12) none (.load 15 true (.t 11)),
 .l (some 4) none (.alloc [.int .i32 0, .int .i32 0, .int .i32 0, .int .i32 0, .int .u8 0, .int .i64 0, .int .i64 0, .bool false, .bool false, .bool false, .bool false, .bool false, .bool false, .bool false, .bool false]),
 .q (some 3) none (.mov (.t 10)),
 .l none none (.store 15 (.t 4) (.t 12))]) <|
 .seq (.ins [38] [.q (some 13) none (.faddr 4 (.t 4)),
 .q (some 14) none (.load 1 false (.t 13)),
 .q (some 15) none (.bin 0 .eql (.t 14) (.c (.int .u8 2))),
 .q (some 16) none (.mov (.t 15)),
 .q (some 17) (some (16, true)) (.mov (.t 2)),
 .q (some 18) (some (16, true)) (.mov (.t 3)),
 .q (some 19) (some (16, true)) (.bin 0 .add (.t 18) (.c (.int .i64 1))),
 .q (some 20) (some (16, true)) (.faddr 5 (.t 4)),
 .q (some 21) (some (16, true)) (.load 10 true (.t 20)),
 .l (some 22) (some (16, true)) (.callv (.t 17) [.t 19, .c (.int .u8 0), .t 21]),
 .q (some 23) (some (16, true)) (.un .not (.t 22)),
 .q (some 24) none (.pick (.t 16) (.t 23) (.c (.bool false))),
 .q (some 25) none (.mov (.t 24)),
 .q (some 26) (some (25, false)) (.faddr 4 (.t 4)),
 .q (some 27) (some (25, false)) (.load 1 false (.t 26)),
 .q (some 28) (some (25, false)) (.bin 0 .eql (.t 27) (.c (.int .u8 0))),
 .q (some 29) (some (25, false)) (.mov (.t 28)),
 .q (some 30) (some (29, true)) (.mov (.t 2)),
 .q (some 31) (some (29, true)) (.mov (.t 3)),
 .q (some 32) (some (29, true)) (.bin 0 .sub (.t 31) (.c (.int .i64 1))),
 .q (some 33) (some (29, true)) (.faddr 5 (.t 4)),
 .q (some 34) (some (29, true)) (.load 10 true (.t 33)),
 .l (some 35) (some (29, true)) (.callv (.t 30) [.t 32, .c (.int .u8 2), .t 34]),
 .q (some 36) (some (29, true)) (.un .not (.t 35)),
 .q (some 37) (some (25, false)) (.pick (.t 29) (.t 36) (.c (.bool false))),
 .q (some 38) none (.pick (.t 25) (.c (.bool true)) (.t 37))]) <|
 .cond (.t 38) (.plan [] <|
 .one 0 [] (.q (some 39) none (.load 1 false (.t 1))) <|
 .one 1 [] (.q (some 40) none (.mov (.t 3))) <|
 .one 2 [] (.q (some 41) none (.faddr 5 (.t 4))) <|
 .one 3 [] (.q (some 42) none (.load 10 true (.t 41))) <|
 .late [] <|
 .one 4 [3] (.l (some 43) none (.call 223 [.t 42])) <|
 .one 5 [] (.q (some 44) none (.iaddr 15 (.t 39) (.t 40))) <|
 .late [] <|
 .one 6 [0, 3] (.l none none (.store 15 (.t 44) (.t 43))) <|
 .done) <|
 .skip) <|
 .ins [8] [.q (some 45) none (.bin 0 .add (.t 8) (.c (.int .i64 1))),
 .q (some 8) none (.mov (.t 45))], [], [0, 1, 8, 7, 9, 6, 4, 2, 3, 38], [0, 1, 8, 7, 9, 6, 4, 2, 3, 38], 46⟩
theorem ok196 : FnOkK Tryz.prog 196 E196 := ⟨Tryz.f196, Tryz.func196, by kernel_rfl, by kernel_rfl, by kernel_rfl, by kernel_rfl⟩
/- wayfarer/grid.fill : 18 -/
def E198 : FnK := ⟨.seq (.ins [3] [.l (some 3) none (.box (.t 1))]) <|
 .seq (.ins [4] [.q (some 6) none (.load 10 true (.t 3)),
 .l (some 7) none (.call 223 [.t 6]),
 .l (some 4) none (.alloc [.int .i32 0, .int .i32 0, .int .i32 0, .int .i32 0, .int .u8 0, .int .i64 0, .int .i64 0, .bool false, .bool false, .bool false, .bool false, .bool false, .bool false, .bool false, .bool false]),
 .l none none (.store 15 (.t 4) (.t 7))]) <|
 .seq (.ins [9, 10] [.q (some 8) none (.mov (.t 0)),
 .q (some 9) none (.len (.t 8)),
 .q (some 10) none (.mov (.c (.int .i64 0)))]) <|
 .block 0 <|
 .loop <|
 .seq (.ins [11] [.q (some 11) none (.bin 0 .lss (.t 10) (.t 9))]) <|
 .seq (.cond (.t 11) (.skip) <|
 .exit 0) <|
 .seq (.block 1 <|
 .seq (.ins [5] [.q (some 12) none (.mov (.t 10)),
 .q (some 5) none (.mov (.t 12))]) <|
 .ins [] [.q (some 13) none (.mov (.t 0)),
 .q (some 14) none (.mov (.t 5)),
 .q (some 15) none (.load 15 true (.t 4)),
 .q (some 16) none (.iaddr 15 (.t 13) (.t 14)),
 .l none none (.store 15 (.t 16) (.t 15))]) <|
 .ins [10] [.q (some 17) none (.bin 0 .add (.t 10) (.c (.int .i64 1))),
 .q (some 10) none (.mov (.t 17))], [], [1, 3, 0, 10, 9, 11, 5, 4], [1, 3, 0, 10, 9, 11, 5, 4], 18⟩
theorem ok198 : FnOkK Tryz.prog 198 E198 := ⟨Tryz.f198, Tryz.func198, by kernel_rfl, by kernel_rfl, by kernel_rfl, by kernel_rfl⟩
/- wayfarer/utf.bounds : 39 -/
def E199 : FnK := ⟨.seq (.ins [2, 3] [.q (some 2) none (.mov (.c (.int .i64 0))),
 .l (some 3) none (.alloc [.int .u8 0, .int .u8 0])]) <|
 .seq (.ins [] [.q (some 4) none (.build [.int .u8 0, .int .u8 0] [(0, 1, (.c (.int .u8 128))), (1, 1, (.c (.int .u8 191)))]),
 .l none none (.store 2 (.t 3) (.t 4))]) <|
 .seq (.block 0 <|
 .seq (.ins [5] [.q (some 6) none (.mov (.t 0)),
 .q (some 7) none (.bin 0 .lss (.t 6) (.c (.int .u8 128))),
 .q (some 5) none (.mov (.t 7))]) <|
 .cond (.t 5) (.seq (.plan [2] <|
 .one 0 [] (.q (some 8) none (.load 2 true (.t 3))) <|
 .one 1 [] (.q (some 2) none (.mov (.c (.int .i64 1)))) <|
 .late [] <|
 .one 2 [0] (.l none none (.store 2 (.t 3) (.t 8))) <|
 .done) <|
 .ret) <|
 .seq (.ins [9] [.q (some 10) none (.mov (.t 0)),
 .q (some 11) none (.bin 0 .lss (.t 10) (.c (.int .u8 194))),
 .q (some 12) none (.mov (.t 11)),
 .q (some 13) (some (12, false)) (.mov (.t 0)),
 .q (some 14) (some (12, false)) (.bin 0 .gtr (.t 13) (.c (.int .u8 244))),
 .q (some 15) none (.pick (.t 12) (.c (.bool true)) (.t 14)),
 .q (some 9) none (.mov (.t 15))]) <|
 .cond (.t 9) (.seq (.plan [2] <|
 .one 0 [] (.q (some 16) none (.load 2 true (.t 3))) <|
 .one 1 [] (.q (some 2) none (.mov (.c (.int .i64 0)))) <|
 .late [] <|
 .one 2 [0] (.l none none (.store 2 (.t 3) (.t 16))) <|
 .done) <|
 .ret) <|
 .seq (.ins [17] [.q (some 18) none (.mov (.t 0)),
 .q (some 19) none (.bin 0 .lss (.t 18) (.c (.int .u8 224))),
 .q (some 17) none (.mov (.t 19))]) <|
 .cond (.t 17) (.seq (.plan [2] <|
 .one 0 [] (.q (some 20) none (.load 2 true (.t 3))) <|
 .one 1 [] (.q (some 2) none (.mov (.c (.int .i64 2)))) <|
 .late [] <|
 .one 2 [0] (.l none none (.store 2 (.t 3) (.t 20))) <|
 .done) <|
 .ret) <|
 .seq (.ins [21] [.q (some 22) none (.mov (.t 0)),
 .q (some 23) none (.bin 0 .lss (.t 22) (.c (.int .u8 240))),
 .q (some 21) none (.mov (.t 23))]) <|
 .cond (.t 21) (.ins [2] [.q (some 2) none (.mov (.c (.int .i64 3)))]) <|
 .ins [2] [.q (some 2) none (.mov (.c (.int .i64 4)))]) <|
 .seq (.seq (.ins [24] [.q (some 24) none (.mov (.t 0))]) <|
 .block 1 <|
 .seq (.ins [25] [.q (some 26) none (.bin 0 .eql (.t 24) (.c (.int .u8 224))),
 .q (some 25) none (.mov (.t 26))]) <|
 .cond (.t 25) (.ins [] [.q (some 27) none (.iaddrA 1 2 (.t 3) (.c (.int .i64 0))),
 .l none none (.store 1 (.t 27) (.c (.int .u8 160)))]) <|
 .seq (.ins [28] [.q (some 29) none (.bin 0 .eql (.t 24) (.c (.int .u8 237))),
 .q (some 28) none (.mov (.t 29))]) <|
 .cond (.t 28) (.ins [] [.q (some 30) none (.iaddrA 1 2 (.t 3) (.c (.int .i64 1))),
 .l none none (.store 1 (.t 30) (.c (.int .u8 159)))]) <|
 .seq (.ins [31] [.q (some 32) none (.bin 0 .eql (.t 24) (.c (.int .u8 240))),
 .q (some 31) none (.mov (.t 32))]) <|
 .cond (.t 31) (.ins [] [.q (some 33) none (.iaddrA 1 2 (.t 3) (.c (.int .i64 0))),
 .l none none (.store 1 (.t 33) (.c (.int .u8 144)))]) <|
 .seq (.ins [34] [.q (some 35) none (.bin 0 .eql (.t 24) (.c (.int .u8 244))),
 .q (some 34) none (.mov (.t 35))]) <|
 .cond (.t 34) (.ins [] [.q (some 36) none (.iaddrA 1 2 (.t 3) (.c (.int .i64 1))),
 .l none none (.store 1 (.t 36) (.c (.int .u8 143)))]) <|
 .skip) <|
 .seq (.plan [2] <|
 .one 0 [] (.q (some 37) none (.mov (.t 2))) <|
 .one 1 [] (.q (some 38) none (.load 2 true (.t 3))) <|
 .one 2 [] (.q (some 2) none (.mov (.t 37))) <|
 .late [] <|
 .one 3 [1] (.l none none (.store 2 (.t 3) (.t 38))) <|
 .done) <|
 .ret, [.t 2, .cell 3 2 true], [3, 0, 5, 9, 17, 21, 24, 25, 28, 31, 34, 2], [3, 0, 5, 9, 17, 21, 24, 25, 28, 31, 34, 2], 39⟩
theorem ok199 : FnOkK Tryz.prog 199 E199 := ⟨Tryz.f199, Tryz.func199, by kernel_rfl, by kernel_rfl, by kernel_rfl, by kernel_rfl⟩
/- wayfarer/width.wides : 39 -/
def E201 : FnK := ⟨.seq (.ins [0] [.l (some 0) none (.alloc [.int .i32 0, .int .i32 0, .int .i32 0, .int .i32 0, .int .i32 0, .int .i32 0, .int .i32 0, .int .i32 0, .int .i32 0, .int .i32 0, .int .i32 0, .int .i32 0, .int .i32 0, .int .i32 0, .int .i32 0, .int .i32 0, .int .i32 0, .int .i32 0, .int .i32 0, .int .i32 0, .int .i32 0, .int .i32 0, .int .i32 0, .int .i32 0, .int .i32 0, .int .i32 0, .int .i32 0, .int .i32 0, .int .i32 0, .int .i32 0, .int .i32 0, .int .i32 0, .int .i32 0, .int .i32 0, .int .i32 0, .int .i32 0, .int .i32 0, .int .i32 0, .int .i32 0, .int .i32 0, .int .i32 0, .int .i32 0, .int .i32 0, .int .i32 0, .int .i32 0, .int .i32 0, .int .i32 0, .int .i32 0, .int .i32 0, .int .i32 0, .int .i32 0, .int .i32 0, .int .i32 0, .int .i32 0, .int .i32 0, .int .i32 0, .int .i32 0, .int .i32 0, .int .i32 0, .int .i32 0, .int .i32 0, .int .i32 0, .int .i32 0, .int .i32 0, .int .i32 0, .int .i32 0, .int .i32 0, .int .i32 0, .int .i32 0, .int .i32 0, .int .i32 0, .int .i32 0, .int .i32 0, .int .i32 0])]) <|
 .seq (.ins [] [.q (some 1) none (.build [.int .i32 0, .int .i32 0] [(0, 1, (.c (.int .i32 4352))), (1, 1, (.c (.int .i32 4447)))]),
 .q (some 2) none (.build [.int .i32 0, .int .i32 0] [(0, 1, (.c (.int .i32 8986))), (1, 1, (.c (.int .i32 8987)))]),
 .q (some 3) none (.build [.int .i32 0, .int .i32 0] [(0, 1, (.c (.int .i32 9001))), (1, 1, (.c (.int .i32 9002)))]),
 .q (some 4) none (.build [.int .i32 0, .int .i32 0] [(0, 1, (.c (.int .i32 9193))), (1, 1, (.c (.int .i32 9196)))]),
 .q (some 5) none (.build [.int .i32 0, .int .i32 0] [(0, 1, (.c (.int .i32 9725))), (1, 1, (.c (.int .i32 9726)))]),
 .q (some 6) none (.build [.int .i32 0, .int .i32 0] [(0, 1, (.c (.int .i32 9748))), (1, 1, (.c (.int .i32 9749)))]),
 .q (some 7) none (.build [.int .i32 0, .int .i32 0] [(0, 1, (.c (.int .i32 9800))), (1, 1, (.c (.int .i32 9811)))]),
 .q (some 8) none (.build [.int .i32 0, .int .i32 0] [(0, 1, (.c (.int .i32 9889))), (1, 1, (.c (.int .i32 9889)))]),
 .q (some 9) none (.build [.int .i32 0, .int .i32 0] [(0, 1, (.c (.int .i32 9917))), (1, 1, (.c (.int .i32 9918)))]),
 .q (some 10) none (.build [.int .i32 0, .int .i32 0] [(0, 1, (.c (.int .i32 9989))), (1, 1, (.c (.int .i32 9989)))]),
 .q (some 11) none (.build [.int .i32 0, .int .i32 0] [(0, 1, (.c (.int .i32 10024))), (1, 1, (.c (.int .i32 10024)))]),
 .q (some 12) none (.build [.int .i32 0, .int .i32 0] [(0, 1, (.c (.int .i32 10060))), (1, 1, (.c (.int .i32 10060)))]),
 .q (some 13) none (.build [.int .i32 0, .int .i32 0] [(0, 1, (.c (.int .i32 10067))), (1, 1, (.c (.int .i32 10069)))]),
 .q (some 14) none (.build [.int .i32 0, .int .i32 0] [(0, 1, (.c (.int .i32 10133))), (1, 1, (.c (.int .i32 10135)))]),
 .q (some 15) none (.build [.int .i32 0, .int .i32 0] [(0, 1, (.c (.int .i32 11035))), (1, 1, (.c (.int .i32 11036)))]),
 .q (some 16) none (.build [.int .i32 0, .int .i32 0] [(0, 1, (.c (.int .i32 11088))), (1, 1, (.c (.int .i32 11088)))]),
 .q (some 17) none (.build [.int .i32 0, .int .i32 0] [(0, 1, (.c (.int .i32 11904))), (1, 1, (.c (.int .i32 12350)))]),
 .q (some 18) none (.build [.int .i32 0, .int .i32 0] [(0, 1, (.c (.int .i32 12353))), (1, 1, (.c (.int .i32 13311)))]),
 .q (some 19) none (.build [.int .i32 0, .int .i32 0] [(0, 1, (.c (.int .i32 13312))), (1, 1, (.c (.int .i32 19903)))]),
 .q (some 20) none (.build [.int .i32 0, .int .i32 0] [(0, 1, (.c (.int .i32 19968))), (1, 1, (.c (.int .i32 40959)))]),
 .q (some 21) none (.build [.int .i32 0, .int .i32 0] [(0, 1, (.c (.int .i32 40960))), (1, 1, (.c (.int .i32 42191)))]),
 .q (some 22) none (.build [.int .i32 0, .int .i32 0] [(0, 1, (.c (.int .i32 44032))), (1, 1, (.c (.int .i32 55203)))]),
 .q (some 23) none (.build [.int .i32 0, .int .i32 0] [(0, 1, (.c (.int .i32 63744))), (1, 1, (.c (.int .i32 64255)))]),
 .q (some 24) none (.build [.int .i32 0, .int .i32 0] [(0, 1, (.c (.int .i32 65072))), (1, 1, (.c (.int .i32 65135)))]),
 .q (some 25) none (.build [.int .i32 0, .int .i32 0] [(0, 1, (.c (.int .i32 65281))), (1, 1, (.c (.int .i32 65376)))]),
 .q (some 26) none (.build [.int .i32 0, .int .i32 0] [(0, 1, (.c (.int .i32 65504))), (1, 1, (.c (.int .i32 65510)))]),
 .q (some 27) none (.build [.int .i32 0, .int .i32 0] [(0, 1, (.c (.int .i32 127744))), (1, 1, (.c (.int .i32 127776)))]),
 .q (some 28) none (.build [.int .i32 0, .int .i32 0] [(0, 1, (.c (.int .i32 127789))), (1, 1, (.c (.int .i32 127797)))]),
 .q (some 29) none (.build [.int .i32 0, .int .i32 0] [(0, 1, (.c (.int .i32 127799))), (1, 1, (.c (.int .i32 127868)))]),
 .q (some 30) none (.build [.int .i32 0, .int .i32 0] [(0, 1, (.c (.int .i32 128000))), (1, 1, (.c (.int .i32 128062)))]),
 .q (some 31) none (.build [.int .i32 0, .int .i32 0] [(0, 1, (.c (.int .i32 128064))), (1, 1, (.c (.int .i32 128064)))]),
 .q (some 32) none (.build [.int .i32 0, .int .i32 0] [(0, 1, (.c (.int .i32 128066))), (1, 1, (.c (.int .i32 128252)))]),
 .q (some 33) none (.build [.int .i32 0, .int .i32 0] [(0, 1, (.c (.int .i32 128512))), (1, 1, (.c (.int .i32 128591)))]),
 .q (some 34) none (.build [.int .i32 0, .int .i32 0] [(0, 1, (.c (.int .i32 128640))), (1, 1, (.c (.int .i32 128709)))]),
 .q (some 35) none (.build [.int .i32 0, .int .i32 0] [(0, 1, (.c (.int .i32 129280))), (1, 1, (.c (.int .i32 129535)))]),
 .q (some 36) none (.build [.int .i32 0, .int .i32 0] [(0, 1, (.c (.int .i32 131072))), (1, 1, (.c (.int .i32 196605)))]),
 .q (some 37) none (.build [.int .i32 0, .int .i32 0] [(0, 1, (.c (.int .i32 196608))), (1, 1, (.c (.int .i32 262141)))]),
 .q (some 38) none (.build [.int .i32 0, .int .i32 0, .int .i32 0, .int .i32 0, .int .i32 0, .int .i32 0, .int .i32 0, .int .i32 0, .int .i32 0, .int .i32 0, .int .i32 0, .int .i32 0, .int .i32 0, .int .i32 0, .int .i32 0, .int .i32 0, .int .i32 0, .int .i32 0, .int .i32 0, .int .i32 0, .int .i32 0, .int .i32 0, .int .i32 0, .int .i32 0, .int .i32 0, .int .i32 0, .int .i32 0, .int .i32 0, .int .i32 0, .int .i32 0, .int .i32 0, .int .i32 0, .int .i32 0, .int .i32 0, .int .i32 0, .int .i32 0, .int .i32 0, .int .i32 0, .int .i32 0, .int .i32 0, .int .i32 0, .int .i32 0, .int .i32 0, .int .i32 0, .int .i32 0, .int .i32 0, .int .i32 0, .int .i32 0, .int .i32 0, .int .i32 0, .int .i32 0, .int .i32 0, .int .i32 0, .int .i32 0, .int .i32 0, .int .i32 0, .int .i32 0, .int .i32 0, .int .i32 0, .int .i32 0, .int .i32 0, .int .i32 0, .int .i32 0, .int .i32 0, .int .i32 0, .int .i32 0, .int .i32 0, .int .i32 0, .int .i32 0, .int .i32 0, .int .i32 0, .int .i32 0, .int .i32 0, .int .i32 0] [(0, 2, (.t 1)), (2, 2, (.t 2)), (4, 2, (.t 3)), (6, 2, (.t 4)), (8, 2, (.t 5)), (10, 2, (.t 6)), (12, 2, (.t 7)), (14, 2, (.t 8)), (16, 2, (.t 9)), (18, 2, (.t 10)), (20, 2, (.t 11)), (22, 2, (.t 12)), (24, 2, (.t 13)), (26, 2, (.t 14)), (28, 2, (.t 15)), (30, 2, (.t 16)), (32, 2, (.t 17)), (34, 2, (.t 18)), (36, 2, (.t 19)), (38, 2, (.t 20)), (40, 2, (.t 21)), (42, 2, (.t 22)), (44, 2, (.t 23)), (46, 2, (.t 24)), (48, 2, (.t 25)), (50, 2, (.t 26)), (52, 2, (.t 27)), (54, 2, (.t 28)), (56, 2, (.t 29)), (58, 2, (.t 30)), (60, 2, (.t 31)), (62, 2, (.t 32)), (64, 2, (.t 33)), (66, 2, (.t 34)), (68, 2, (.t 35)), (70, 2, (.t 36)), (72, 2, (.t 37))]),
 .l none none (.store 74 (.t 0) (.t 38))]) <|
 .ret, [.cell 0 74 true], [0], [0], 39⟩
theorem ok201 : FnOkK Tryz.prog 201 E201 := ⟨Tryz.f201, Tryz.func201, by kernel_rfl, by kernel_rfl, by kernel_rfl, by kernel_rfl⟩
/- wayfarer/width.zeros : 28 -/
def E202 : FnK := ⟨.seq (.ins [0] [.l (some 0) none (.alloc [.int .i32 0, .int .i32 0, .int .i32 0, .int .i32 0, .int .i32 0, .int .i32 0, .int .i32 0, .int .i32 0, .int .i32 0, .int .i32 0, .int .i32 0, .int .i32 0, .int .i32 0, .int .i32 0, .int .i32 0, .int .i32 0, .int .i32 0, .int .i32 0, .int .i32 0, .int .i32 0, .int .i32 0, .int .i32 0, .int .i32 0, .int .i32 0, .int .i32 0, .int .i32 0, .int .i32 0, .int .i32 0, .int .i32 0, .int .i32 0, .int .i32 0, .int .i32 0, .int .i32 0, .int .i32 0, .int .i32 0, .int .i32 0, .int .i32 0, .int .i32 0, .int .i32 0, .int .i32 0, .int .i32 0, .int .i32 0, .int .i32 0, .int .i32 0, .int .i32 0, .int .i32 0, .int .i32 0, .int .i32 0, .int .i32 0, .int .i32 0, .int .i32 0, .int .i32 0])]) <|
 .seq (.ins [] [.q (some 1) none (.build [.int .i32 0, .int .i32 0] [(0, 1, (.c (.int .i32 768))), (1, 1, (.c (.int .i32 879)))]),
 .q (some 2) none (.build [.int .i32 0, .int .i32 0] [(0, 1, (.c (.int .i32 1155))), (1, 1, (.c (.int .i32 1161)))]),
 .q (some 3) none (.build [.int .i32 0, .int .i32 0] [(0, 1, (.c (.int .i32 1425))), (1, 1, (.c (.int .i32 1469)))]),
 .q (some 4) none (.build [.int .i32 0, .int .i32 0] [(0, 1, (.c (.int .i32 1471))), (1, 1, (.c (.int .i32 1471)))]),
 .q (some 5) none (.build [.int .i32 0, .int .i32 0] [(0, 1, (.c (.int .i32 1473))), (1, 1, (.c (.int .i32 1474)))]),
 .q (some 6) none (.build [.int .i32 0, .int .i32 0] [(0, 1, (.c (.int .i32 1552))), (1, 1, (.c (.int .i32 1562)))]),
 .q (some 7) none (.build [.int .i32 0, .int .i32 0] [(0, 1, (.c (.int .i32 1611))), (1, 1, (.c (.int .i32 1631)))]),
 .q (some 8) none (.build [.int .i32 0, .int .i32 0] [(0, 1, (.c (.int .i32 1750))), (1, 1, (.c (.int .i32 1756)))]),
 .q (some 9) none (.build [.int .i32 0, .int .i32 0] [(0, 1, (.c (.int .i32 2304))), (1, 1, (.c (.int .i32 2306)))]),
 .q (some 10) none (.build [.int .i32 0, .int .i32 0] [(0, 1, (.c (.int .i32 2364))), (1, 1, (.c (.int .i32 2364)))]),
 .q (some 11) none (.build [.int .i32 0, .int .i32 0] [(0, 1, (.c (.int .i32 2369))), (1, 1, (.c (.int .i32 2376)))]),
 .q (some 12) none (.build [.int .i32 0, .int .i32 0] [(0, 1, (.c (.int .i32 2381))), (1, 1, (.c (.int .i32 2381)))]),
 .q (some 13) none (.build [.int .i32 0, .int .i32 0] [(0, 1, (.c (.int .i32 3633))), (1, 1, (.c (.int .i32 3633)))]),
 .q (some 14) none (.build [.int .i32 0, .int .i32 0] [(0, 1, (.c (.int .i32 3636))), (1, 1, (.c (.int .i32 3642)))]),
 .q (some 15) none (.build [.int .i32 0, .int .i32 0] [(0, 1, (.c (.int .i32 6832))), (1, 1, (.c (.int .i32 6911)))]),
 .q (some 16) none (.build [.int .i32 0, .int .i32 0] [(0, 1, (.c (.int .i32 7616))), (1, 1, (.c (.int .i32 7679)))]),
 .q (some 17) none (.build [.int .i32 0, .int .i32 0] [(0, 1, (.c (.int .i32 8203))), (1, 1, (.c (.int .i32 8207)))]),
 .q (some 18) none (.build [.int .i32 0, .int .i32 0] [(0, 1, (.c (.int .i32 8234))), (1, 1, (.c (.int .i32 8238)))]),
 .q (some 19) none (.build [.int .i32 0, .int .i32 0] [(0, 1, (.c (.int .i32 8288))), (1, 1, (.c (.int .i32 8292)))]),
 .q (some 20) none (.build [.int .i32 0, .int .i32 0] [(0, 1, (.c (.int .i32 8400))), (1, 1, (.c (.int .i32 8447)))]),
 .q (some 21) none (.build [.int .i32 0, .int .i32 0] [(0, 1, (.c (.int .i32 12330))), (1, 1, (.c (.int .i32 12333)))]),
 .q (some 22) none (.build [.int .i32 0, .int .i32 0] [(0, 1, (.c (.int .i32 12441))), (1, 1, (.c (.int .i32 12442)))]),
 .q (some 23) none (.build [.int .i32 0, .int .i32 0] [(0, 1, (.c (.int .i32 65024))), (1, 1, (.c (.int .i32 65039)))]),
 .q (some 24) none (.build [.int .i32 0, .int .i32 0] [(0, 1, (.c (.int .i32 65056))), (1, 1, (.c (.int .i32 65071)))]),
 .q (some 25) none (.build [.int .i32 0, .int .i32 0] [(0, 1, (.c (.int .i32 65279))), (1, 1, (.c (.int .i32 65279)))]),
 .q (some 26) none (.build [.int .i32 0, .int .i32 0] [(0, 1, (.c (.int .i32 917760))), (1, 1, (.c (.int .i32 917999)))]),
 .q (some 27) none (.build [.int .i32 0, .int .i32 0, .int .i32 0, .int .i32 0, .int .i32 0, .int .i32 0, .int .i32 0, .int .i32 0, .int .i32 0, .int .i32 0, .int .i32 0, .int .i32 0, .int .i32 0, .int .i32 0, .int .i32 0, .int .i32 0, .int .i32 0, .int .i32 0, .int .i32 0, .int .i32 0, .int .i32 0, .int .i32 0, .int .i32 0, .int .i32 0, .int .i32 0, .int .i32 0, .int .i32 0, .int .i32 0, .int .i32 0, .int .i32 0, .int .i32 0, .int .i32 0, .int .i32 0, .int .i32 0, .int .i32 0, .int .i32 0, .int .i32 0, .int .i32 0, .int .i32 0, .int .i32 0, .int .i32 0, .int .i32 0, .int .i32 0, .int .i32 0, .int .i32 0, .int .i32 0, .int .i32 0, .int .i32 0, .int .i32 0, .int .i32 0, .int .i32 0, .int .i32 0] [(0, 2, (.t 1)), (2, 2, (.t 2)), (4, 2, (.t 3)), (6, 2, (.t 4)), (8, 2, (.t 5)), (10, 2, (.t 6)), (12, 2, (.t 7)), (14, 2, (.t 8)), (16, 2, (.t 9)), (18, 2, (.t 10)), (20, 2, (.t 11)), (22, 2, (.t 12)), (24, 2, (.t 13)), (26, 2, (.t 14)), (28, 2, (.t 15)), (30, 2, (.t 16)), (32, 2, (.t 17)), (34, 2, (.t 18)), (36, 2, (.t 19)), (38, 2, (.t 20)), (40, 2, (.t 21)), (42, 2, (.t 22)), (44, 2, (.t 23)), (46, 2, (.t 24)), (48, 2, (.t 25)), (50, 2, (.t 26))]),
 .l none none (.store 52 (.t 0) (.t 27))]) <|
 .ret, [.cell 0 52 true], [0], [0], 28⟩
theorem ok202 : FnOkK Tryz.prog 202 E202 := ⟨Tryz.f202, Tryz.func202, by kernel_rfl, by kernel_rfl, by kernel_rfl, by kernel_rfl⟩
/- wayfarer/width.stands : 37 -/
def E203 : FnK := ⟨.seq (.ins [4] [.q (some 4) none (.mov (.c (.bool false)))]) <|
 .seq (.ins [5, 6] [.q (some 8) none (.mov (.t 0)),
 .q (some 9) none (.len (.t 8)),
 .q (some 10) none (.conv .u64 (.t 9)),
 .q (some 5) none (.mov (.c (.int .u64 0))),
 .q (some 6) none (.mov (.t 10))]) <|
 .seq (.block 0 <|
 .loop <|
 .seq (.seq (.ins [13] [.q (some 11) none (.mov (.t 5)),
 .q (some 12) none (.mov (.t 6)),
 .q (some 13) none (.bin 0 .lss (.t 11) (.t 12))]) <|
 .cond (.t 13) (.skip) <|
 .exit 0) <|
 .block 1 <|
 .seq (.ins [7] [.q (some 14) none (.mov (.t 5)),
 .q (some 15) none (.mov (.t 6)),
 .q (some 16) none (.bin 0 .add (.t 14) (.t 15)),
 .q (some 17) none (.bin 0 .shr (.t 16) (.c (.int .u64 1))),
 .q (some 7) none (.mov (.t 17))]) <|
 .block 2 <|
 .seq (.ins [18] [.q (some 19) none (.mov (.t 1)),
 .q (some 20) none (.mov (.t 0)),
 .q (some 21) none (.mov (.t 7)),
 .q (some 22) none (.iaddr 2 (.t 20) (.t 21)),
 .q (some 23) none (.iaddrA 1 2 (.t 22) (.c (.int .i64 0))),
 .q (some 24) none (.load 1 false (.t 23)),
 .q (some 25) none (.bin 0 .lss (.t 19) (.t 24)),
 .q (some 18) none (.mov (.t 25))]) <|
 .cond (.t 18) (.ins [6] [.q (some 26) none (.mov (.t 7)),
 .q (some 6) none (.mov (.t 26))]) <|
 .seq (.ins [27] [.q (some 28) none (.mov (.t 1)),
 .q (some 29) none (.mov (.t 0)),
 .q (some 30) none (.mov (.t 7)),
 .q (some 31) none (.iaddr 2 (.t 29) (.t 30)),
 .q (some 32) none (.iaddrA 1 2 (.t 31) (.c (.int .i64 1))),
 .q (some 33) none (.load 1 false (.t 32)),
 .q (some 34) none (.bin 0 .gtr (.t 28) (.t 33)),
 .q (some 27) none (.mov (.t 34))]) <|
 .cond (.t 27) (.ins [5] [.q (some 35) none (.mov (.t 7)),
 .q (some 36) none (.bin 0 .add (.t 35) (.c (.int .u64 1))),
 .q (some 5) none (.mov (.t 36))]) <|
 .seq (.ins [4] [.q (some 4) none (.mov (.c (.bool true)))]) <|
 .ret) <|
 .seq (.ins [4] [.q (some 4) none (.mov (.c (.bool false)))]) <|
 .ret, [.t 4], [0, 5, 6, 13, 1, 7, 18, 27, 4], [0, 5, 6, 13, 1, 7, 18, 27, 4], 37⟩
theorem ok203 : FnOkK Tryz.prog 203 E203 := ⟨Tryz.f203, Tryz.func203, by kernel_rfl, by kernel_rfl, by kernel_rfl, by kernel_rfl⟩
end Go.Proofs.YtebjldkkdapbeaaGreatDoor.Eng
