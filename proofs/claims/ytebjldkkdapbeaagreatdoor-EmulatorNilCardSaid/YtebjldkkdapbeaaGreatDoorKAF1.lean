/- What the functions' code comes to, read off the loaded program. Printed by a program of this session. -/
import Derived.Test.YtebjldkkdapbeaaGreatDoorChecked
import Derived.Test.YtebjldkkdapbeaaGreatDoorEngV6
namespace Go.Proofs.YtebjldkkdapbeaaGreatDoor.Eng
open Go
set_option maxRecDepth 100000
/- wayfarer/emulator.act : 103 -/
def E50 : FnK := ⟨.seq (.ins [2, 3, 4] [.l (some 2) none (.box (.t 0)),
 .l (some 3) none (.box (.t 1)),
 .q (some 4) none (.mov (.c (.s 0 (0, 0) 0 0 0 0)))]) <|
 .seq (.block 0 <|
 .seq (.ins [7] [.q (some 8) none (.faddr 0 (.t 3)),
 .q (some 9) none (.load 1 false (.t 8)),
 .q (some 10) none (.bin 0 .eql (.t 9) (.c (.int .u8 1))),
 .q (some 7) none (.mov (.t 10))]) <|
 .cond (.t 7) (.ins [] [.q (some 11) none (.load 1 true (.t 2)),
 .q (some 12) none (.faddr 1 (.t 3)),
 .q (some 13) none (.load 1 false (.t 12)),
 .l (some 14) none (.call 92 [.t 11, .t 13])]) <|
 .seq (.ins [15] [.q (some 16) none (.faddr 0 (.t 3)),
 .q (some 17) none (.load 1 false (.t 16)),
 .q (some 18) none (.bin 0 .eql (.t 17) (.c (.int .u8 2))),
 .q (some 19) none (.mov (.t 18)),
 .q (some 20) (some (19, true)) (.faddr 1 (.t 3)),
 .q (some 21) (some (19, true)) (.load 1 false (.t 20)),
 .q (some 22) (some (19, true)) (.bin 0 .geq (.t 21) (.c (.int .i32 8))),
 .q (some 23) none (.pick (.t 19) (.t 22) (.c (.bool false))),
 .q (some 24) none (.mov (.t 23)),
 .q (some 25) (some (24, true)) (.faddr 1 (.t 3)),
 .q (some 26) (some (24, true)) (.load 1 false (.t 25)),
 .q (some 27) (some (24, true)) (.bin 0 .leq (.t 26) (.c (.int .i32 13))),
 .q (some 28) none (.pick (.t 24) (.t 27) (.c (.bool false))),
 .q (some 15) none (.mov (.t 28))]) <|
 .cond (.t 15) (.ins [] [.q (some 29) none (.load 1 true (.t 2)),
 .q (some 30) none (.faddr 1 (.t 3)),
 .q (some 31) none (.load 1 false (.t 30)),
 .l (some 32) none (.call 93 [.t 29, .t 31])]) <|
 .seq (.ins [33] [.q (some 34) none (.faddr 0 (.t 3)),
 .q (some 35) none (.load 1 false (.t 34)),
 .q (some 36) none (.bin 0 .eql (.t 35) (.c (.int .u8 3))),
 .q (some 37) none (.mov (.t 36)),
 .q (some 38) (some (37, true)) (.faddr 4 (.t 3)),
 .q (some 39) (some (37, true)) (.load 1 false (.t 38)),
 .q (some 40) (some (37, true)) (.len (.t 39)),
 .q (some 41) (some (37, true)) (.bin 0 .eql (.t 40) (.c (.int .i64 0))),
 .q (some 42) none (.pick (.t 37) (.t 41) (.c (.bool false))),
 .q (some 33) none (.mov (.t 42))]) <|
 .cond (.t 33) (.ins [] [.q (some 43) none (.load 1 true (.t 2)),
 .q (some 44) none (.faddr 3 (.t 3)),
 .q (some 45) none (.load 1 false (.t 44)),
 .l (some 46) none (.call 94 [.t 43, .t 45])]) <|
 .seq (.ins [47] [.q (some 48) none (.faddr 0 (.t 3)),
 .q (some 49) none (.load 1 false (.t 48)),
 .q (some 50) none (.bin 0 .eql (.t 49) (.c (.int .u8 4))),
 .q (some 51) none (.mov (.t 50)),
 .q (some 52) (some (51, true)) (.faddr 4 (.t 3)),
 .q (some 53) (some (51, true)) (.load 1 false (.t 52)),
 .q (some 54) (some (51, true)) (.len (.t 53)),
 .q (some 55) (some (51, true)) (.bin 0 .eql (.t 54) (.c (.int .i64 0))),
 .q (some 56) none (.pick (.t 51) (.t 55) (.c (.bool false))),
 .q (some 57) none (.mov (.t 56)),
 .q (some 58) (some (57, true)) (.faddr 2 (.t 3)),
 .q (some 59) (some (57, true)) (.load 1 false (.t 58)),
 .q (some 60) (some (57, true)) (.bin 0 .eql (.t 59) (.c (.int .u8 0))),
 .q (some 61) none (.pick (.t 57) (.t 60) (.c (.bool false))),
 .q (some 47) none (.mov (.t 61))]) <|
 .cond (.t 47) (.seq (.ins [65] [.q (some 62) none (.load 1 true (.t 2)),
 .q (some 63) none (.load 7 true (.t 3)),
 .l (some 64) none (.call 95 [.t 62, .t 63]),
 .q (some 65) none (.un .not (.t 64))]) <|
 .cond (.t 65) (.seq (.ins [4] [.q (some 66) none (.load 1 true (.t 2)),
 .q (some 67) none (.load 7 true (.t 3)),
 .l (some 68) none (.call 96 [.t 66, .t 67]),
 .q (some 4) none (.mov (.t 68))]) <|
 .ret) <|
 .skip) <|
 .seq (.ins [69] [.q (some 70) none (.faddr 0 (.t 3)),
 .q (some 71) none (.load 1 false (.t 70)),
 .q (some 72) none (.bin 0 .eql (.t 71) (.c (.int .u8 4))),
 .q (some 73) none (.mov (.t 72)),
 .q (some 74) (some (73, true)) (.faddr 4 (.t 3)),
 .q (some 75) (some (73, true)) (.load 1 false (.t 74)),
 .q (some 76) (some (73, true)) (.len (.t 75)),
 .q (some 77) (some (73, true)) (.bin 0 .eql (.t 76) (.c (.int .i64 0))),
 .q (some 78) none (.pick (.t 73) (.t 77) (.c (.bool false))),
 .q (some 79) none (.mov (.t 78)),
 .q (some 80) (some (79, true)) (.faddr 2 (.t 3)),
 .q (some 81) (some (79, true)) (.load 1 false (.t 80)),
 .q (some 82) (some (79, true)) (.bin 0 .eql (.t 81) (.c (.int .u8 63))),
 .q (some 83) none (.pick (.t 79) (.t 82) (.c (.bool false))),
 .q (some 69) none (.mov (.t 83))]) <|
 .cond (.t 69) (.ins [] [.q (some 84) none (.load 1 true (.t 2)),
 .q (some 85) none (.load 7 true (.t 3)),
 .l (some 86) none (.call 97 [.t 84, .t 85, .c (.bool true)])]) <|
 .seq (.ins [87] [.q (some 88) none (.faddr 0 (.t 3)),
 .q (some 89) none (.load 1 false (.t 88)),
 .q (some 90) none (.bin 0 .eql (.t 89) (.c (.int .u8 5))),
 .q (some 87) none (.mov (.t 90))]) <|
 .cond (.t 87) (.seq (.ins [5, 6] [.q (some 92) none (.faddr 6 (.t 3)),
 .q (some 93) none (.load 1 false (.t 92)),
 .l (some 94) none (.call 98 [.t 93]),
 .q (some 91) none (.mov (.t 94)),
 .q (some 95) none (.ext 0 (.t 91)),
 .q (some 96) none (.ext 1 (.t 91)),
 .q (some 5) none (.mov (.t 95)),
 .q (some 6) none (.mov (.t 96))]) <|
 .seq (.ins [97] [.q (some 97) none (.mov (.t 6))]) <|
 .cond (.t 97) (.ins [] [.q (some 98) none (.faddr 0 (.t 2)),
 .q (some 99) none (.load 1 false (.t 98)),
 .q (some 100) none (.mov (.t 5)),
 .q (some 101) none (.nilc (.t 99)),
 .q (some 102) none (.faddr 43 (.t 101)),
 .l none none (.store 1 (.t 102) (.t 100))]) <|
 .skip) <|
 .skip) <|
 .seq (.ins [4] [.q (some 4) none (.mov (.c (.s 0 (0, 0) 0 0 0 0)))]) <|
 .ret, [.t 4], [0, 1, 3, 7, 2, 15, 33, 47, 65, 69, 87, 6, 97, 5, 4], [0, 1, 3, 7, 2, 15, 33, 47, 65, 69, 87, 6, 97, 5, 4], 103⟩
theorem ok50 : FnOkK Tryz.prog 50 E50 := ⟨Tryz.f50, Tryz.func50, by kernel_rfl, by kernel_rfl, by kernel_rfl, by kernel_rfl⟩
/- wayfarer/screen.Copy : 20 -/
def E51 : FnK := ⟨.seq (.ins [1, 2] [.l (some 1) none (.box (.t 0)),
 .l (some 2) none (.alloc [.int .i64 0, .int .i64 0, .s 0 (0, 0) 0 0 0 0, .int .i64 0, .int .i64 0, .bool false, .int .i64 0, .int .i64 0, .bool false, .bool false, .bool false, .bool false, .bool false, .bool false, .bool false, .bool false, .int .i64 0, .int .i64 0, .s 0 (0, 0) 0 0 0 0, .bool false, .bool false, .bool false, .bool false, .bool false, .bool false, .int .i64 0, .int .i64 0, .bool false, .bool false, .int .i64 0, .int .i64 0, .bool false, .bool false, .bool false, .bool false, .bool false, .bool false, .bool false, .bool false, .bool false, .int .i64 0, .int .i64 0, .s 0 (0, 0) 0 0 0 0, .s 0 (0, 0) 0 0 0 0])]) <|
 .seq (.plan [] <|
 .one 0 [] (.q (some 3) none (.faddr 0 (.t 1))) <|
 .one 1 [] (.q (some 4) none (.load 3 true (.t 3))) <|
 .one 3 [] (.q (some 6) none (.faddr 40 (.t 1))) <|
 .one 4 [] (.q (some 7) none (.load 3 true (.t 6))) <|
 .late [] <|
 .one 2 [1] (.l (some 5) none (.call 99 [.t 4])) <|
 .one 6 [] (.q (some 9) none (.faddr 0 (.t 1))) <|
 .late [] <|
 .one 5 [1, 4] (.l (some 8) none (.call 99 [.t 7])) <|
 .late [] <|
 .one 7 [1, 4] (.l none none (.store 3 (.t 9) (.t 5))) <|
 .one 8 [] (.q (some 10) none (.faddr 40 (.t 1))) <|
 .late [] <|
 .one 9 [1, 4] (.l none none (.store 3 (.t 10) (.t 8))) <|
 .done) <|
 .seq (.plan [] <|
 .one 0 [] (.q (some 11) none (.faddr 18 (.t 1))) <|
 .one 1 [] (.q (some 12) none (.load 1 false (.t 11))) <|
 .one 3 [] (.q (some 14) none (.faddr 43 (.t 1))) <|
 .one 4 [] (.q (some 15) none (.load 1 false (.t 14))) <|
 .late [] <|
 .one 2 [1] (.l (some 13) none (.call 100 [.t 12])) <|
 .one 6 [] (.q (some 17) none (.faddr 18 (.t 1))) <|
 .late [] <|
 .one 5 [1, 4] (.l (some 16) none (.call 101 [.t 15])) <|
 .late [] <|
 .one 7 [1, 4] (.l none none (.store 1 (.t 17) (.t 13))) <|
 .one 8 [] (.q (some 18) none (.faddr 43 (.t 1))) <|
 .late [] <|
 .one 9 [1, 4] (.l none none (.store 1 (.t 18) (.t 16))) <|
 .done) <|
 .seq (.ins [] [.q (some 19) none (.load 44 true (.t 1)),
 .l none none (.store 44 (.t 2) (.t 19))]) <|
 .ret, [.cell 2 44 true], [0, 1, 2], [0, 1, 2], 20⟩
theorem ok51 : FnOkK Tryz.prog 51 E51 := ⟨Tryz.f51, Tryz.func51, by kernel_rfl, by kernel_rfl, by kernel_rfl, by kernel_rfl⟩
/- wayfarer/grid.At : 30 -/
def E74 : FnK := ⟨.seq (.ins [4] [.q (some 4) none (.mov (.c (.s 0 (0, 0) 0 0 0 0)))]) <|
 .seq (.ins [5] [.q (some 6) none (.mov (.t 1)),
 .q (some 7) none (.mov (.t 0)),
 .q (some 8) none (.nilc (.t 7)),
 .q (some 9) none (.faddr 0 (.t 8)),
 .q (some 10) none (.load 1 false (.t 9)),
 .q (some 11) none (.bin 0 .mul (.t 6) (.t 10)),
 .q (some 5) none (.mov (.t 11))]) <|
 .seq (.plan [4] <|
 .one 0 [] (.q (some 12) none (.mov (.t 0))) <|
 .one 1 [] (.q (some 13) none (.nilc (.t 12))) <|
 .one 2 [] (.q (some 14) none (.faddr 2 (.t 13))) <|
 .one 3 [] (.q (some 15) none (.load 1 false (.t 14))) <|
 .one 4 [] (.q (some 16) none (.mov (.t 5))) <|
 .one 5 [] (.q (some 17) none (.mov (.t 5))) <|
 .one 6 [] (.q (some 18) none (.mov (.t 0))) <|
 .one 7 [] (.q (some 19) none (.nilc (.t 18))) <|
 .one 8 [] (.q (some 20) none (.faddr 0 (.t 19))) <|
 .one 9 [] (.q (some 21) none (.load 1 false (.t 20))) <|
 .one 10 [] (.q (some 22) none (.bin 0 .add (.t 17) (.t 21))) <|
 .one 11 [] (.q (some 23) none (.mov (.t 5))) <|
 .one 12 [] (.q (some 24) none (.mov (.t 0))) <|
 .one 13 [] (.q (some 25) none (.nilc (.t 24))) <|
 .one 14 [] (.q (some 26) none (.faddr 0 (.t 25))) <|
 .one 15 [] (.q (some 27) none (.load 1 false (.t 26))) <|
 .one 16 [] (.q (some 28) none (.bin 0 .add (.t 23) (.t 27))) <|
 .one 17 [] (.q (some 29) none (.slc 15 (.t 15) (some (.t 16)) (some (.t 22)) (some (.t 28)))) <|
 .one 18 [] (.q (some 4) none (.mov (.t 29))) <|
 .done) <|
 .ret, [.t 4], [1, 0, 5, 4], [1, 0, 5, 4], 30⟩
theorem ok74 : FnOkK Tryz.prog 74 E74 := ⟨Tryz.f74, Tryz.func74, by kernel_rfl, by kernel_rfl, by kernel_rfl, by kernel_rfl⟩
/- wayfarer/cell.Plain : 2 -/
def E77 : FnK := ⟨.seq (.ins [0] [.l (some 0) none (.alloc [.int .i64 0, .int .i64 0, .bool false, .bool false, .bool false, .bool false, .bool false, .bool false, .bool false, .bool false])]) <|
 .seq (.ins [] [.q (some 1) none (.build [.int .i64 0, .int .i64 0, .bool false, .bool false, .bool false, .bool false, .bool false, .bool false, .bool false, .bool false] [(0, 1, (.c (.int .i64 (-1)))), (1, 1, (.c (.int .i64 (-1))))]),
 .l none none (.store 10 (.t 0) (.t 1))]) <|
 .ret, [.cell 0 10 true], [0], [0], 2⟩
theorem ok77 : FnOkK Tryz.prog 77 E77 := ⟨Tryz.f77, Tryz.func77, by kernel_rfl, by kernel_rfl, by kernel_rfl, by kernel_rfl⟩
/- wayfarer/grid.New : 22 -/
def E81 : FnK := ⟨.seq (.ins [5, 6, 7] [.l (some 5) none (.box (.t 2)),
 .l (some 6) none (.alloc [.int .i64 0, .int .i64 0, .s 0 (0, 0) 0 0 0 0]),
 .q (some 7) none (.mov (.c (.int .i64 0)))]) <|
 .seq (.seq (.ins [16] [.q (some 8) none (.mov (.t 0)),
 .q (some 9) none (.mov (.t 1)),
 .l (some 10) none (.call 144 [.t 8, .t 9]),
 .q (some 11) none (.un .not (.t 10)),
 .q (some 12) none (.mov (.t 11)),
 .q (some 13) (some (12, false)) (.load 10 true (.t 5)),
 .l (some 14) (some (12, false)) (.call 111 [.t 13]),
 .q (some 15) (some (12, false)) (.un .not (.t 14)),
 .q (some 16) none (.pick (.t 12) (.c (.bool true)) (.t 15))]) <|
 .cond (.t 16) (.seq (.ins [7] [.q (some 17) none (.build [.int .i64 0, .int .i64 0, .s 0 (0, 0) 0 0 0 0] []),
 .l none none (.store 3 (.t 6) (.t 17)),
 .q (some 7) none (.mov (.c (.int .i64 2)))]) <|
 .ret) <|
 .skip) <|
 .seq (.ins [7] [.q (some 18) none (.mov (.t 0)),
 .q (some 19) none (.mov (.t 1)),
 .q (some 20) none (.load 10 true (.t 5)),
 .l (some 21) none (.call 147 [.t 18, .t 19, .t 20]),
 .l none none (.store 3 (.t 6) (.t 21)),
 .q (some 7) none (.mov (.c (.int .i64 0)))]) <|
 .ret, [.cell 6 3 true, .t 7], [2, 0, 1, 5, 16, 6, 7], [2, 0, 1, 5, 16, 6, 7], 22⟩
theorem ok81 : FnOkK Tryz.prog 81 E81 := ⟨Tryz.f81, Tryz.func81, by kernel_rfl, by kernel_rfl, by kernel_rfl, by kernel_rfl⟩
/- wayfarer/screen.stops : 15 -/
def E82 : FnK := ⟨.seq (.ins [2] [.q (some 2) none (.mov (.c (.s 0 (0, 0) 0 0 0 0)))]) <|
 .seq (.ins [3] [.q (some 3) none (.mov (.c (.s 0 (0, 0) 0 0 0 0)))]) <|
 .seq (.seq (.ins [4] [.q (some 4) none (.mov (.c (.int .i64 8)))]) <|
 .block 0 <|
 .loop <|
 .seq (.seq (.ins [7] [.q (some 5) none (.mov (.t 4)),
 .q (some 6) none (.mov (.t 0)),
 .q (some 7) none (.bin 0 .lss (.t 5) (.t 6))]) <|
 .cond (.t 7) (.skip) <|
 .exit 0) <|
 .seq (.block 1 <|
 .ins [3] [.q (some 10) none (.mov (.t 3)),
 .q (some 11) none (.mov (.t 4)),
 .l (some 12) none (.bslice 1 1 [.int .i64 0] [(0, (.t 11))]),
 .l (some 13) none (.append 1 8 (.t 10) (.t 12)),
 .q (some 3) none (.mov (.t 13))]) <|
 .ins [4] [.q (some 8) none (.mov (.t 4)),
 .q (some 9) none (.bin 0 .add (.t 8) (.c (.int .i64 8))),
 .q (some 4) none (.mov (.t 9))]) <|
 .seq (.ins [2] [.q (some 14) none (.mov (.t 3)),
 .q (some 2) none (.mov (.t 14))]) <|
 .ret, [.t 2], [4, 0, 7, 3, 2], [4, 0, 7, 3, 2], 15⟩
theorem ok82 : FnOkK Tryz.prog 82 E82 := ⟨Tryz.f82, Tryz.func82, by kernel_rfl, by kernel_rfl, by kernel_rfl, by kernel_rfl⟩
/- (*wayfarer/utf.Reader).none : 12 -/
def E83 : FnK := ⟨.seq (.ins [2] [.q (some 2) none (.mov (.c (.bool false)))]) <|
 .seq (.ins [2] [.q (some 3) none (.mov (.t 0)),
 .q (some 4) none (.bin 2 .eql (.t 3) (.c (.v (.pointer none)))),
 .q (some 5) none (.mov (.t 4)),
 .q (some 6) (some (5, false)) (.mov (.t 0)),
 .q (some 7) (some (5, false)) (.nilc (.t 6)),
 .q (some 8) (some (5, false)) (.faddr 0 (.t 7)),
 .q (some 9) (some (5, false)) (.load 1 false (.t 8)),
 .q (some 10) (some (5, false)) (.un .not (.t 9)),
 .q (some 11) none (.pick (.t 5) (.c (.bool true)) (.t 10)),
 .q (some 2) none (.mov (.t 11))]) <|
 .ret, [.t 2], [0, 2], [0, 2], 12⟩
theorem ok83 : FnOkK Tryz.prog 83 E83 := ⟨Tryz.f83, Tryz.func83, by kernel_rfl, by kernel_rfl, by kernel_rfl, by kernel_rfl⟩
/- slices.Clone[[]byte,byte] : 8 -/
def E84 : FnK := ⟨.seq (.ins [2] [.q (some 2) none (.mov (.c (.s 0 (0, 0) 0 0 0 0)))]) <|
 .seq (.seq (.ins [4] [.q (some 3) none (.mov (.t 0)),
 .q (some 4) none (.eqnil false (.t 3))]) <|
 .cond (.t 4) (.seq (.ins [2] [.q (some 2) none (.mov (.c (.s 0 (0, 0) 0 0 0 0)))]) <|
 .ret) <|
 .skip) <|
 .seq (.ins [2] [.l (some 5) none (.bslice 1 0 [.int .u8 0] []),
 .q (some 6) none (.mov (.t 0)),
 .l (some 7) none (.append 1 1 (.t 5) (.t 6)),
 .q (some 2) none (.mov (.t 7))]) <|
 .ret, [.t 2], [0, 4, 2], [0, 4, 2], 8⟩
theorem ok84 : FnOkK Tryz.prog 84 E84 := ⟨Tryz.f84, Tryz.func84, by kernel_rfl, by kernel_rfl, by kernel_rfl, by kernel_rfl⟩
/- wayfarer/utf.next : 36 -/
def E85 : FnK := ⟨.seq (.ins [4, 5] [.q (some 4) none (.mov (.c (.int .i32 0))),
 .q (some 5) none (.mov (.c (.int .i64 0)))]) <|
 .seq (.ins [5, 6] [.q (some 8) none (.mov (.t 0)),
 .l (some 9) none (.call 148 [.t 8]),
 .q (some 7) none (.mov (.t 9)),
 .q (some 10) none (.ext 0 (.t 7)),
 .q (some 11) none (.ext 1 (.t 7)),
 .q (some 5) none (.mov (.t 10)),
 .q (some 6) none (.mov (.t 11))]) <|
 .seq (.block 0 <|
 .seq (.ins [12] [.q (some 13) none (.mov (.t 5)),
 .q (some 14) none (.mov (.t 6)),
 .q (some 15) none (.bin 0 .eql (.t 13) (.t 14)),
 .q (some 16) none (.mov (.t 15)),
 .q (some 17) (some (16, true)) (.mov (.t 5)),
 .q (some 18) (some (16, true)) (.bin 0 .gtr (.t 17) (.c (.int .i64 0))),
 .q (some 19) none (.pick (.t 16) (.t 18) (.c (.bool false))),
 .q (some 12) none (.mov (.t 19))]) <|
 .cond (.t 12) (.seq (.ins [4, 5] [.q (some 20) none (.mov (.t 0)),
 .q (some 21) none (.mov (.t 5)),
 .q (some 22) none (.slc 1 (.t 20) none (some (.t 21)) none),
 .l (some 23) none (.call 149 [.t 22]),
 .q (some 24) none (.mov (.t 5)),
 .q (some 4) none (.mov (.t 23)),
 .q (some 5) none (.mov (.t 24))]) <|
 .ret) <|
 .seq (.ins [25] [.q (some 26) none (.mov (.t 5)),
 .q (some 27) none (.mov (.t 0)),
 .q (some 28) none (.len (.t 27)),
 .q (some 29) none (.bin 0 .eql (.t 26) (.t 28)),
 .q (some 30) none (.mov (.t 29)),
 .q (some 31) (some (30, true)) (.mov (.t 1)),
 .q (some 32) (some (30, true)) (.un .not (.t 31)),
 .q (some 33) none (.pick (.t 30) (.t 32) (.c (.bool false))),
 .q (some 25) none (.mov (.t 33))]) <|
 .cond (.t 25) (.seq (.ins [4, 5] [.q (some 4) none (.mov (.c (.int .i32 0))),
 .q (some 5) none (.mov (.c (.int .i64 0)))]) <|
 .ret) <|
 .skip) <|
 .seq (.ins [4, 5] [.q (some 34) none (.mov (.t 5)),
 .q (some 35) none (.mx (.t 34) (.c (.int .i64 1))),
 .q (some 4) none (.mov (.c (.int .i32 65533))),
 .q (some 5) none (.mov (.t 35))]) <|
 .ret, [.t 4, .t 5], [0, 5, 6, 12, 1, 25, 4], [0, 5, 6, 12, 1, 25, 4], 36⟩
theorem ok85 : FnOkK Tryz.prog 85 E85 := ⟨Tryz.f85, Tryz.func85, by kernel_rfl, by kernel_rfl, by kernel_rfl, by kernel_rfl⟩
/- (*wayfarer/vt.Parser).there : 12 -/
def E86 : FnK := ⟨.seq (.ins [2] [.q (some 2) none (.mov (.c (.bool false)))]) <|
 .seq (.ins [2] [.q (some 3) none (.mov (.t 0)),
 .q (some 4) none (.bin 2 .neq (.t 3) (.c (.v (.pointer none)))),
 .q (some 5) none (.mov (.t 4)),
 .q (some 6) (some (5, true)) (.mov (.t 0)),
 .q (some 7) (some (5, true)) (.nilc (.t 6)),
 .q (some 8) (some (5, true)) (.faddr 0 (.t 7)),
 .q (some 9) (some (5, true)) (.load 1 false (.t 8)),
 .q (some 10) (some (5, true)) (.bin 0 .neq (.t 9) (.c (.int .u8 0))),
 .q (some 11) none (.pick (.t 5) (.t 10) (.c (.bool false))),
 .q (some 2) none (.mov (.t 11))]) <|
 .ret, [.t 2], [0, 2], [0, 2], 12⟩
theorem ok86 : FnOkK Tryz.prog 86 E86 := ⟨Tryz.f86, Tryz.func86, by kernel_rfl, by kernel_rfl, by kernel_rfl, by kernel_rfl⟩
/- (*wayfarer/vt.Parser).to : 8 -/
def E88 : FnK := ⟨.ins [] [.q (some 4) none (.mov (.t 0)),
 .q (some 5) none (.mov (.t 1)),
 .q (some 6) none (.build [.int .u8 0, .int .u8 0, .s 0 (0, 0) 0 0 0 0, .s 0 (0, 0) 0 0 0 0, .s 0 (0, 0) 0 0 0 0, .bool false, .bool false] [(0, 1, (.t 5))]),
 .q (some 7) none (.nilc (.t 4)),
 .l none none (.store 7 (.t 7) (.t 6))], [], [0, 1], [0, 1], 8⟩
theorem ok88 : FnOkK Tryz.prog 88 E88 := ⟨Tryz.f88, Tryz.func88, by kernel_rfl, by kernel_rfl, by kernel_rfl, by kernel_rfl⟩
/- (*wayfarer/vt.Parser).escaped : 77 -/
def E89 : FnK := ⟨.seq (.ins [4] [.q (some 4) none (.mov (.c (.s 0 (0, 0) 0 0 0 0)))]) <|
 .seq (.block 0 <|
 .seq (.ins [5] [.q (some 6) none (.mov (.t 1)),
 .q (some 7) none (.bin 0 .geq (.t 6) (.c (.int .i32 32))),
 .q (some 8) none (.mov (.t 7)),
 .q (some 9) (some (8, true)) (.mov (.t 1)),
 .q (some 10) (some (8, true)) (.bin 0 .lss (.t 9) (.c (.int .i32 48))),
 .q (some 11) none (.pick (.t 8) (.t 10) (.c (.bool false))),
 .q (some 5) none (.mov (.t 11))]) <|
 .cond (.t 5) (.seq (.ins [] [.q (some 12) none (.mov (.t 0)),
 .q (some 13) none (.nilc (.t 12)),
 .q (some 14) none (.faddr 0 (.t 13)),
 .l none none (.store 1 (.t 14) (.c (.int .u8 3)))]) <|
 .ins [] [.q (some 15) none (.mov (.t 0)),
 .q (some 16) none (.mov (.t 1)),
 .l (some 17) none (.call 150 [.t 15, .t 16])]) <|
 .seq (.ins [18] [.q (some 19) none (.mov (.t 0)),
 .q (some 20) none (.nilc (.t 19)),
 .q (some 21) none (.faddr 0 (.t 20)),
 .q (some 22) none (.load 1 false (.t 21)),
 .q (some 23) none (.bin 0 .eql (.t 22) (.c (.int .u8 2))),
 .q (some 24) none (.mov (.t 23)),
 .q (some 25) (some (24, true)) (.mov (.t 1)),
 .q (some 26) (some (24, true)) (.bin 0 .eql (.t 25) (.c (.int .i32 91))),
 .q (some 27) none (.pick (.t 24) (.t 26) (.c (.bool false))),
 .q (some 18) none (.mov (.t 27))]) <|
 .cond (.t 18) (.ins [] [.q (some 28) none (.mov (.t 0)),
 .l (some 29) none (.call 88 [.t 28, .c (.int .u8 4)])]) <|
 .seq (.ins [30] [.q (some 31) none (.mov (.t 0)),
 .q (some 32) none (.nilc (.t 31)),
 .q (some 33) none (.faddr 0 (.t 32)),
 .q (some 34) none (.load 1 false (.t 33)),
 .q (some 35) none (.bin 0 .eql (.t 34) (.c (.int .u8 2))),
 .q (some 36) none (.mov (.t 35)),
 .q (some 37) (some (36, true)) (.mov (.t 1)),
 .q (some 38) (some (36, true)) (.bin 0 .eql (.t 37) (.c (.int .i32 93))),
 .q (some 39) none (.pick (.t 36) (.t 38) (.c (.bool false))),
 .q (some 30) none (.mov (.t 39))]) <|
 .cond (.t 30) (.ins [] [.q (some 40) none (.mov (.t 0)),
 .l (some 41) none (.call 88 [.t 40, .c (.int .u8 5)])]) <|
 .seq (.ins [42] [.q (some 43) none (.mov (.t 0)),
 .q (some 44) none (.nilc (.t 43)),
 .q (some 45) none (.faddr 0 (.t 44)),
 .q (some 46) none (.load 1 false (.t 45)),
 .q (some 47) none (.bin 0 .eql (.t 46) (.c (.int .u8 2))),
 .q (some 48) none (.mov (.t 47)),
 .l (some 49) (some (48, true)) (.bslice 1 4 [.int .i32 0] [(0, (.c (.int .i32 80))), (1, (.c (.int .i32 88))), (2, (.c (.int .i32 94))), (3, (.c (.int .i32 95)))]),
 .q (some 50) (some (48, true)) (.mov (.t 1)),
 .l (some 51) (some (48, true)) (.call 151 [.t 49, .t 50]),
 .q (some 52) none (.pick (.t 48) (.t 51) (.c (.bool false))),
 .q (some 42) none (.mov (.t 52))]) <|
 .cond (.t 42) (.ins [] [.q (some 53) none (.mov (.t 0)),
 .l (some 54) none (.call 88 [.t 53, .c (.int .u8 6)])]) <|
 .seq (.ins [55] [.q (some 56) none (.mov (.t 1)),
 .q (some 57) none (.bin 0 .geq (.t 56) (.c (.int .i32 48))),
 .q (some 58) none (.mov (.t 57)),
 .q (some 59) (some (58, true)) (.mov (.t 1)),
 .q (some 60) (some (58, true)) (.bin 0 .lss (.t 59) (.c (.int .i32 127))),
 .q (some 61) none (.pick (.t 58) (.t 60) (.c (.bool false))),
 .q (some 55) none (.mov (.t 61))]) <|
 .cond (.t 55) (.seq (.ins [4] [.q (some 62) none (.mov (.t 0)),
 .q (some 63) none (.mov (.t 0)),
 .q (some 64) none (.nilc (.t 63)),
 .q (some 65) none (.faddr 1 (.t 64)),
 .q (some 66) none (.faddr 1 (.t 65)),
 .q (some 67) none (.load 1 false (.t 66)),
 .q (some 68) none (.mov (.t 1)),
 .q (some 69) none (.conv .u8 (.t 68)),
 .q (some 70) none (.build [.int .u8 0, .int .i32 0, .int .u8 0, .int .u8 0, .s 0 (0, 0) 0 0 0 0, .s 0 (0, 0) 0 0 0 0, .s 0 (0, 0) 0 0 0 0] [(0, 1, (.c (.int .u8 3))), (4, 1, (.t 67)), (3, 1, (.t 69))]),
 .l (some 71) none (.call 91 [.t 62, .t 70]),
 .q (some 4) none (.mov (.t 71))]) <|
 .ret) <|
 .seq (.ins [72] [.q (some 73) none (.mov (.t 1)),
 .q (some 74) none (.bin 0 .geq (.t 73) (.c (.int .i32 128))),
 .q (some 72) none (.mov (.t 74))]) <|
 .cond (.t 72) (.ins [] [.q (some 75) none (.mov (.t 0)),
 .l (some 76) none (.call 88 [.t 75, .c (.int .u8 1)])]) <|
 .skip) <|
 .seq (.ins [4] [.q (some 4) none (.mov (.c (.s 0 (0, 0) 0 0 0 0)))]) <|
 .ret, [.t 4], [1, 5, 0, 18, 30, 42, 55, 72, 4], [1, 5, 0, 18, 30, 42, 55, 72, 4], 77⟩
theorem ok89 : FnOkK Tryz.prog 89 E89 := ⟨Tryz.f89, Tryz.func89, by kernel_rfl, by kernel_rfl, by kernel_rfl, by kernel_rfl⟩
/- (*wayfarer/vt.Parser).control : 174 -/
def E90 : FnK := ⟨.seq (.ins [4] [.q (some 4) none (.mov (.c (.s 0 (0, 0) 0 0 0 0)))]) <|
 .seq (.block 0 <|
 .seq (.ins [5] [.q (some 6) none (.mov (.t 1)),
 .q (some 7) none (.bin 0 .geq (.t 6) (.c (.int .i32 48))),
 .q (some 8) none (.mov (.t 7)),
 .q (some 9) (some (8, true)) (.mov (.t 1)),
 .q (some 10) (some (8, true)) (.bin 0 .leq (.t 9) (.c (.int .i32 57))),
 .q (some 11) none (.pick (.t 8) (.t 10) (.c (.bool false))),
 .q (some 5) none (.mov (.t 11))]) <|
 .cond (.t 5) (.seq (.ins [] [.q (some 12) none (.mov (.t 0)),
 .q (some 13) none (.mov (.t 0)),
 .q (some 14) none (.nilc (.t 13)),
 .q (some 15) none (.faddr 1 (.t 14)),
 .q (some 16) none (.faddr 4 (.t 15)),
 .q (some 17) none (.load 1 false (.t 16)),
 .q (some 18) none (.mov (.t 17)),
 .q (some 19) (some (18, false)) (.mov (.t 0)),
 .q (some 20) (some (18, false)) (.nilc (.t 19)),
 .q (some 21) (some (18, false)) (.faddr 1 (.t 20)),
 .q (some 22) (some (18, false)) (.faddr 1 (.t 21)),
 .q (some 23) (some (18, false)) (.load 1 false (.t 22)),
 .q (some 24) (some (18, false)) (.len (.t 23)),
 .q (some 25) (some (18, false)) (.bin 0 .gtr (.t 24) (.c (.int .i64 0))),
 .q (some 26) none (.pick (.t 18) (.c (.bool true)) (.t 25)),
 .q (some 27) none (.nilc (.t 12)),
 .q (some 28) none (.faddr 1 (.t 27)),
 .q (some 29) none (.faddr 4 (.t 28)),
 .l none none (.store 1 (.t 29) (.t 26))]) <|
 .ins [] [.q (some 30) none (.mov (.t 0)),
 .q (some 31) none (.mov (.t 1)),
 .q (some 32) none (.bin 0 .sub (.t 31) (.c (.int .i32 48))),
 .q (some 33) none (.conv .i64 (.t 32)),
 .l (some 34) none (.call 152 [.t 30, .t 33])]) <|
 .seq (.ins [35] [.q (some 36) none (.mov (.t 1)),
 .q (some 37) none (.bin 0 .eql (.t 36) (.c (.int .i32 59))),
 .q (some 35) none (.mov (.t 37))]) <|
 .cond (.t 35) (.seq (.ins [] [.q (some 38) none (.mov (.t 0)),
 .q (some 39) none (.mov (.t 0)),
 .q (some 40) none (.nilc (.t 39)),
 .q (some 41) none (.faddr 1 (.t 40)),
 .q (some 42) none (.faddr 4 (.t 41)),
 .q (some 43) none (.load 1 false (.t 42)),
 .q (some 44) none (.mov (.t 43)),
 .q (some 45) (some (44, false)) (.mov (.t 0)),
 .q (some 46) (some (44, false)) (.nilc (.t 45)),
 .q (some 47) (some (44, false)) (.faddr 1 (.t 46)),
 .q (some 48) (some (44, false)) (.faddr 1 (.t 47)),
 .q (some 49) (some (44, false)) (.load 1 false (.t 48)),
 .q (some 50) (some (44, false)) (.len (.t 49)),
 .q (some 51) (some (44, false)) (.bin 0 .gtr (.t 50) (.c (.int .i64 0))),
 .q (some 52) none (.pick (.t 44) (.c (.bool true)) (.t 51)),
 .q (some 53) none (.nilc (.t 38)),
 .q (some 54) none (.faddr 1 (.t 53)),
 .q (some 55) none (.faddr 4 (.t 54)),
 .l none none (.store 1 (.t 55) (.t 52))]) <|
 .ins [] [.q (some 56) none (.mov (.t 0)),
 .l (some 57) none (.call 153 [.t 56])]) <|
 .seq (.ins [58] [.q (some 59) none (.mov (.t 1)),
 .q (some 60) none (.bin 0 .eql (.t 59) (.c (.int .i32 58))),
 .q (some 58) none (.mov (.t 60))]) <|
 .cond (.t 58) (.ins [] [.q (some 61) none (.mov (.t 0)),
 .q (some 62) none (.nilc (.t 61)),
 .q (some 63) none (.faddr 1 (.t 62)),
 .q (some 64) none (.faddr 4 (.t 63)),
 .l none none (.store 1 (.t 64) (.c (.bool true)))]) <|
 .seq (.ins [65] [.q (some 66) none (.mov (.t 1)),
 .q (some 67) none (.bin 0 .geq (.t 66) (.c (.int .i32 60))),
 .q (some 68) none (.mov (.t 67)),
 .q (some 69) (some (68, true)) (.mov (.t 1)),
 .q (some 70) (some (68, true)) (.bin 0 .leq (.t 69) (.c (.int .i32 63))),
 .q (some 71) none (.pick (.t 68) (.t 70) (.c (.bool false))),
 .q (some 65) none (.mov (.t 71))]) <|
 .cond (.t 65) (.seq (.seq (.ins [95] [.q (some 72) none (.mov (.t 0)),
 .q (some 73) none (.nilc (.t 72)),
 .q (some 74) none (.faddr 1 (.t 73)),
 .q (some 75) none (.faddr 0 (.t 74)),
 .q (some 76) none (.load 1 false (.t 75)),
 .q (some 77) none (.bin 0 .neq (.t 76) (.c (.int .u8 0))),
 .q (some 78) none (.mov (.t 77)),
 .q (some 79) (some (78, false)) (.mov (.t 0)),
 .q (some 80) (some (78, false)) (.nilc (.t 79)),
 .q (some 81) (some (78, false)) (.faddr 1 (.t 80)),
 .q (some 82) (some (78, false)) (.faddr 1 (.t 81)),
 .q (some 83) (some (78, false)) (.load 1 false (.t 82)),
 .q (some 84) (some (78, false)) (.len (.t 83)),
 .q (some 85) (some (78, false)) (.bin 0 .gtr (.t 84) (.c (.int .i64 0))),
 .q (some 86) none (.pick (.t 78) (.c (.bool true)) (.t 85)),
 .q (some 87) none (.mov (.t 86)),
 .q (some 88) (some (87, false)) (.mov (.t 0)),
 .q (some 89) (some (87, false)) (.nilc (.t 88)),
 .q (some 90) (some (87, false)) (.faddr 1 (.t 89)),
 .q (some 91) (some (87, false)) (.faddr 2 (.t 90)),
 .q (some 92) (some (87, false)) (.load 1 false (.t 91)),
 .q (some 93) (some (87, false)) (.len (.t 92)),
 .q (some 94) (some (87, false)) (.bin 0 .gtr (.t 93) (.c (.int .i64 0))),
 .q (some 95) none (.pick (.t 87) (.c (.bool true)) (.t 94))]) <|
 .cond (.t 95) (.ins [] [.q (some 96) none (.mov (.t 0)),
 .q (some 97) none (.nilc (.t 96)),
 .q (some 98) none (.faddr 1 (.t 97)),
 .q (some 99) none (.faddr 4 (.t 98)),
 .l none none (.store 1 (.t 99) (.c (.bool true)))]) <|
 .skip) <|
 .ins [] [.q (some 100) none (.mov (.t 0)),
 .q (some 101) none (.mov (.t 1)),
 .q (some 102) none (.conv .u8 (.t 101)),
 .q (some 103) none (.nilc (.t 100)),
 .q (some 104) none (.faddr 1 (.t 103)),
 .q (some 105) none (.faddr 0 (.t 104)),
 .l none none (.store 1 (.t 105) (.t 102))]) <|
 .seq (.ins [106] [.q (some 107) none (.mov (.t 1)),
 .q (some 108) none (.bin 0 .geq (.t 107) (.c (.int .i32 32))),
 .q (some 109) none (.mov (.t 108)),
 .q (some 110) (some (109, true)) (.mov (.t 1)),
 .q (some 111) (some (109, true)) (.bin 0 .lss (.t 110) (.c (.int .i32 48))),
 .q (some 112) none (.pick (.t 109) (.t 111) (.c (.bool false))),
 .q (some 106) none (.mov (.t 112))]) <|
 .cond (.t 106) (.ins [] [.q (some 113) none (.mov (.t 0)),
 .q (some 114) none (.mov (.t 1)),
 .l (some 115) none (.call 150 [.t 113, .t 114])]) <|
 .seq (.ins [116] [.q (some 117) none (.mov (.t 1)),
 .q (some 118) none (.bin 0 .geq (.t 117) (.c (.int .i32 64))),
 .q (some 119) none (.mov (.t 118)),
 .q (some 120) (some (119, true)) (.mov (.t 1)),
 .q (some 121) (some (119, true)) (.bin 0 .lss (.t 120) (.c (.int .i32 127))),
 .q (some 122) none (.pick (.t 119) (.t 121) (.c (.bool false))),
 .q (some 116) none (.mov (.t 122))]) <|
 .cond (.t 116) (.seq (.plan [4] <|
 .one 0 [] (.q (some 123) none (.mov (.t 0))) <|
 .one 1 [] (.q (some 124) none (.mov (.t 0))) <|
 .one 2 [] (.q (some 125) none (.nilc (.t 124))) <|
 .one 3 [] (.q (some 126) none (.faddr 1 (.t 125))) <|
 .one 4 [] (.q (some 127) none (.faddr 0 (.t 126))) <|
 .one 5 [] (.q (some 128) none (.load 1 false (.t 127))) <|
 .one 6 [] (.q (some 129) none (.mov (.t 0))) <|
 .one 7 [] (.q (some 130) none (.nilc (.t 129))) <|
 .one 8 [] (.q (some 131) none (.faddr 1 (.t 130))) <|
 .one 9 [] (.q (some 132) none (.faddr 2 (.t 131))) <|
 .one 10 [] (.q (some 133) none (.load 1 false (.t 132))) <|
 .one 11 [] (.q (some 134) none (.mov (.t 0))) <|
 .one 12 [] (.q (some 135) none (.nilc (.t 134))) <|
 .one 13 [] (.q (some 136) none (.faddr 1 (.t 135))) <|
 .one 14 [] (.q (some 137) none (.faddr 2 (.t 136))) <|
 .one 15 [] (.q (some 138) none (.load 1 false (.t 137))) <|
 .one 16 [] (.q (some 139) none (.len (.t 138))) <|
 .one 17 [] (.q (some 140) none (.mov (.t 0))) <|
 .one 18 [] (.q (some 141) none (.nilc (.t 140))) <|
 .one 19 [] (.q (some 142) none (.faddr 1 (.t 141))) <|
 .one 20 [] (.q (some 143) none (.faddr 2 (.t 142))) <|
 .one 21 [] (.q (some 144) none (.load 1 false (.t 143))) <|
 .one 22 [] (.q (some 145) none (.len (.t 144))) <|
 .one 23 [] (.q (some 146) none (.slc 1 (.t 133) none (some (.t 139)) (some (.t 145)))) <|
 .one 24 [] (.q (some 147) none (.mov (.t 0))) <|
 .one 25 [] (.q (some 148) none (.nilc (.t 147))) <|
 .one 26 [] (.q (some 149) none (.faddr 1 (.t 148))) <|
 .one 27 [] (.q (some 150) none (.faddr 1 (.t 149))) <|
 .one 28 [] (.q (some 151) none (.load 1 false (.t 150))) <|
 .one 29 [] (.q (some 152) none (.mov (.t 0))) <|
 .one 30 [] (.q (some 153) none (.nilc (.t 152))) <|
 .one 31 [] (.q (some 154) none (.faddr 1 (.t 153))) <|
 .one 32 [] (.q (some 155) none (.faddr 1 (.t 154))) <|
 .one 33 [] (.q (some 156) none (.load 1 false (.t 155))) <|
 .one 34 [] (.q (some 157) none (.len (.t 156))) <|
 .one 35 [] (.q (some 158) none (.mov (.t 0))) <|
 .one 36 [] (.q (some 159) none (.nilc (.t 158))) <|
 .one 37 [] (.q (some 160) none (.faddr 1 (.t 159))) <|
 .one 38 [] (.q (some 161) none (.faddr 1 (.t 160))) <|
 .one 39 [] (.q (some 162) none (.load 1 false (.t 161))) <|
 .one 40 [] (.q (some 163) none (.len (.t 162))) <|
 .one 41 [] (.q (some 164) none (.slc 1 (.t 151) none (some (.t 157)) (some (.t 163)))) <|
 .one 42 [] (.q (some 165) none (.mov (.t 1))) <|
 .one 43 [] (.q (some 166) none (.conv .u8 (.t 165))) <|
 .one 44 [] (.q (some 167) none (.build [.int .u8 0, .int .i32 0, .int .u8 0, .int .u8 0, .s 0 (0, 0) 0 0 0 0, .s 0 (0, 0) 0 0 0 0, .s 0 (0, 0) 0 0 0 0] [(0, 1, (.c (.int .u8 4))), (2, 1, (.t 128)), (5, 1, (.t 146)), (4, 1, (.t 164)), (3, 1, (.t 166))])) <|
 .late [] <|
 .one 45 [5, 10, 15, 21, 28, 33, 39] (.l (some 168) none (.call 91 [.t 123, .t 167])) <|
 .one 46 [] (.q (some 4) none (.mov (.t 168))) <|
 .done) <|
 .ret) <|
 .seq (.ins [169] [.q (some 170) none (.mov (.t 1)),
 .q (some 171) none (.bin 0 .geq (.t 170) (.c (.int .i32 128))),
 .q (some 169) none (.mov (.t 171))]) <|
 .cond (.t 169) (.ins [] [.q (some 172) none (.mov (.t 0)),
 .l (some 173) none (.call 88 [.t 172, .c (.int .u8 1)])]) <|
 .skip) <|
 .seq (.ins [4] [.q (some 4) none (.mov (.c (.s 0 (0, 0) 0 0 0 0)))]) <|
 .ret, [.t 4], [1, 5, 0, 35, 58, 65, 95, 106, 116, 169, 4], [1, 5, 0, 35, 58, 65, 95, 106, 116, 169, 4], 174⟩
theorem ok90 : FnOkK Tryz.prog 90 E90 := ⟨Tryz.f90, Tryz.func90, by kernel_rfl, by kernel_rfl, by kernel_rfl, by kernel_rfl⟩
/- (*wayfarer/vt.Parser).end : 16 -/
def E91 : FnK := ⟨.seq (.ins [3, 4] [.l (some 3) none (.box (.t 1)),
 .q (some 4) none (.mov (.c (.s 0 (0, 0) 0 0 0 0)))]) <|
 .seq (.ins [5] [.q (some 6) none (.mov (.t 0)),
 .q (some 7) none (.nilc (.t 6)),
 .q (some 8) none (.faddr 1 (.t 7)),
 .q (some 9) none (.faddr 4 (.t 8)),
 .q (some 10) none (.load 1 false (.t 9)),
 .q (some 5) none (.mov (.t 10))]) <|
 .seq (.ins [] [.q (some 11) none (.mov (.t 0)),
 .l (some 12) none (.call 88 [.t 11, .c (.int .u8 1)])]) <|
 .seq (.seq (.ins [13] [.q (some 13) none (.mov (.t 5))]) <|
 .cond (.t 13) (.seq (.ins [4] [.q (some 4) none (.mov (.c (.s 0 (0, 0) 0 0 0 0)))]) <|
 .ret) <|
 .skip) <|
 .seq (.ins [4] [.q (some 14) none (.load 7 true (.t 3)),
 .l (some 15) none (.bslice 7 1 [.int .u8 0, .int .i32 0, .int .u8 0, .int .u8 0, .s 0 (0, 0) 0 0 0 0, .s 0 (0, 0) 0 0 0 0, .s 0 (0, 0) 0 0 0 0] [(0, (.t 14))]),
 .q (some 4) none (.mov (.t 15))]) <|
 .ret, [.t 4], [1, 0, 5, 13, 3, 4], [1, 0, 5, 13, 3, 4], 16⟩
theorem ok91 : FnOkK Tryz.prog 91 E91 := ⟨Tryz.f91, Tryz.func91, by kernel_rfl, by kernel_rfl, by kernel_rfl, by kernel_rfl⟩
/- (wayfarer/screen.Live).Print : 127 -/
def E92 : FnK := ⟨.seq (.ins [2] [.l (some 2) none (.box (.t 0))]) <|
 .seq (.ins [4] [.q (some 6) none (.mov (.t 1)),
 .l (some 7) none (.call 154 [.t 6]),
 .q (some 4) none (.mov (.t 7))]) <|
 .seq (.seq (.ins [9] [.q (some 8) none (.mov (.t 4)),
 .q (some 9) none (.bin 0 .leq (.t 8) (.c (.int .i64 0)))]) <|
 .cond (.t 9) (.seq (.seq (.ins [11] [.q (some 10) none (.mov (.t 4)),
 .q (some 11) none (.bin 0 .eql (.t 10) (.c (.int .i64 0)))]) <|
 .cond (.t 11) (.ins [] [.q (some 12) none (.load 1 true (.t 2)),
 .q (some 13) none (.mov (.t 1)),
 .l (some 14) none (.call 155 [.t 12, .t 13])]) <|
 .skip) <|
 .ret) <|
 .skip) <|
 .seq (.seq (.ins [26] [.q (some 15) none (.faddr 0 (.t 2)),
 .q (some 16) none (.load 1 false (.t 15)),
 .q (some 17) none (.nilc (.t 16)),
 .q (some 18) none (.faddr 5 (.t 17)),
 .q (some 19) none (.load 1 false (.t 18)),
 .q (some 20) none (.mov (.t 19)),
 .q (some 21) (some (20, true)) (.faddr 0 (.t 2)),
 .q (some 22) (some (20, true)) (.load 1 false (.t 21)),
 .q (some 23) (some (20, true)) (.nilc (.t 22)),
 .q (some 24) (some (20, true)) (.faddr 19 (.t 23)),
 .q (some 25) (some (20, true)) (.load 1 false (.t 24)),
 .q (some 26) none (.pick (.t 20) (.t 25) (.c (.bool false)))]) <|
 .cond (.t 26) (.seq (.ins [] [.q (some 27) none (.faddr 0 (.t 2)),
 .q (some 28) none (.load 1 false (.t 27)),
 .q (some 29) none (.nilc (.t 28)),
 .q (some 30) none (.faddr 4 (.t 29)),
 .l none none (.store 1 (.t 30) (.c (.int .i64 0)))]) <|
 .ins [] [.q (some 31) none (.load 1 true (.t 2)),
 .l (some 32) none (.call 156 [.t 31])]) <|
 .skip) <|
 .seq (.ins [] [.q (some 33) none (.faddr 0 (.t 2)),
 .q (some 34) none (.load 1 false (.t 33)),
 .q (some 35) none (.nilc (.t 34)),
 .q (some 36) none (.faddr 5 (.t 35)),
 .l none none (.store 1 (.t 36) (.c (.bool false)))]) <|
 .seq (.seq (.plan [48] <|
 .one 0 [] (.q (some 37) none (.mov (.t 4))) <|
 .one 1 [] (.q (some 38) none (.bin 0 .eql (.t 37) (.c (.int .i64 2)))) <|
 .one 2 [] (.q (some 39) none (.mov (.t 38))) <|
 .one 3 [] (.q (some 40) (some (39, true)) (.faddr 0 (.t 2))) <|
 .one 4 [] (.q (some 41) (some (39, true)) (.load 1 false (.t 40))) <|
 .one 5 [] (.q (some 42) (some (39, true)) (.nilc (.t 41))) <|
 .one 6 [] (.q (some 43) (some (39, true)) (.faddr 4 (.t 42))) <|
 .one 7 [] (.q (some 44) (some (39, true)) (.load 1 false (.t 43))) <|
 .one 8 [] (.q (some 45) (some (39, true)) (.load 1 true (.t 2))) <|
 .late [] <|
 .one 9 [8] (.l (some 46) (some (39, true)) (.call 157 [.t 45])) <|
 .one 10 [] (.q (some 47) (some (39, true)) (.bin 0 .eql (.t 44) (.t 46))) <|
 .one 11 [] (.q (some 48) none (.pick (.t 39) (.t 47) (.c (.bool false)))) <|
 .done) <|
 .cond (.t 48) (.seq (.seq (.ins [59] [.q (some 49) none (.faddr 0 (.t 2)),
 .q (some 50) none (.load 1 false (.t 49)),
 .q (some 51) none (.nilc (.t 50)),
 .q (some 52) none (.faddr 19 (.t 51)),
 .q (some 53) none (.load 1 false (.t 52)),
 .q (some 54) none (.un .not (.t 53)),
 .q (some 55) none (.mov (.t 54)),
 .q (some 56) (some (55, false)) (.load 1 true (.t 2)),
 .l (some 57) (some (55, false)) (.call 157 [.t 56]),
 .q (some 58) (some (55, false)) (.bin 0 .eql (.t 57) (.c (.int .i64 0))),
 .q (some 59) none (.pick (.t 55) (.c (.bool true)) (.t 58))]) <|
 .cond (.t 59) (.ret) <|
 .skip) <|
 .seq (.ins [] [.q (some 60) none (.faddr 0 (.t 2)),
 .q (some 61) none (.load 1 false (.t 60)),
 .q (some 62) none (.nilc (.t 61)),
 .q (some 63) none (.faddr 4 (.t 62)),
 .l none none (.store 1 (.t 63) (.c (.int .i64 0)))]) <|
 .ins [] [.q (some 64) none (.load 1 true (.t 2)),
 .l (some 65) none (.call 156 [.t 64])]) <|
 .skip) <|
 .seq (.ins [5] [.q (some 66) none (.load 1 true (.t 2)),
 .l (some 67) none (.call 158 [.t 66]),
 .q (some 5) none (.mov (.t 67))]) <|
 .seq (.seq (.ins [72] [.q (some 68) none (.faddr 0 (.t 2)),
 .q (some 69) none (.load 1 false (.t 68)),
 .q (some 70) none (.nilc (.t 69)),
 .q (some 71) none (.faddr 21 (.t 70)),
 .q (some 72) none (.load 1 false (.t 71))]) <|
 .cond (.t 72) (.plan [] <|
 .one 0 [] (.q (some 73) none (.mov (.t 5))) <|
 .one 1 [] (.q (some 74) none (.faddr 0 (.t 2))) <|
 .one 2 [] (.q (some 75) none (.load 1 false (.t 74))) <|
 .one 3 [] (.q (some 76) none (.nilc (.t 75))) <|
 .one 4 [] (.q (some 77) none (.faddr 4 (.t 76))) <|
 .one 5 [] (.q (some 78) none (.load 1 false (.t 77))) <|
 .one 6 [] (.q (some 79) none (.mov (.t 4))) <|
 .one 7 [] (.q (some 80) none (.faddr 0 (.t 2))) <|
 .one 8 [] (.q (some 81) none (.load 1 false (.t 80))) <|
 .one 9 [] (.q (some 82) none (.nilc (.t 81))) <|
 .one 10 [] (.q (some 83) none (.faddr 6 (.t 82))) <|
 .one 11 [] (.q (some 84) none (.load 10 true (.t 83))) <|
 .late [] <|
 .one 12 [2, 5, 8, 11] (.l (some 85) none (.call 159 [.t 73, .t 78, .t 79, .t 84])) <|
 .done) <|
 .skip) <|
 .seq (.plan [] <|
 .one 0 [] (.q (some 86) none (.mov (.t 5))) <|
 .one 1 [] (.q (some 87) none (.faddr 0 (.t 2))) <|
 .one 2 [] (.q (some 88) none (.load 1 false (.t 87))) <|
 .one 3 [] (.q (some 89) none (.nilc (.t 88))) <|
 .one 4 [] (.q (some 90) none (.faddr 4 (.t 89))) <|
 .one 5 [] (.q (some 91) none (.load 1 false (.t 90))) <|
 .one 6 [] (.q (some 92) none (.mov (.t 1))) <|
 .one 7 [] (.q (some 93) none (.faddr 0 (.t 2))) <|
 .one 8 [] (.q (some 94) none (.load 1 false (.t 93))) <|
 .one 9 [] (.q (some 95) none (.nilc (.t 94))) <|
 .one 10 [] (.q (some 96) none (.faddr 6 (.t 95))) <|
 .one 11 [] (.q (some 97) none (.load 10 true (.t 96))) <|
 .late [] <|
 .one 12 [8, 11] (.l (some 98) none (.call 161 [.t 92, .t 97])) <|
 .late [] <|
 .one 13 [2, 5, 8, 11] (.l (some 99) none (.call 160 [.t 86, .t 91, .t 98])) <|
 .done) <|
 .seq (.ins [] [.q (some 100) none (.faddr 0 (.t 2)),
 .q (some 101) none (.load 1 false (.t 100)),
 .q (some 102) none (.nilc (.t 101)),
 .q (some 103) none (.faddr 4 (.t 102)),
 .q (some 104) none (.load 1 false (.t 103)),
 .q (some 105) none (.mov (.t 4)),
 .q (some 106) none (.bin 0 .add (.t 104) (.t 105)),
 .q (some 107) none (.nilc (.t 101)),
 .q (some 108) none (.faddr 4 (.t 107)),
 .l none none (.store 1 (.t 108) (.t 106))]) <|
 .seq (.plan [116] <|
 .one 0 [] (.q (some 109) none (.faddr 0 (.t 2))) <|
 .one 1 [] (.q (some 110) none (.load 1 false (.t 109))) <|
 .one 2 [] (.q (some 111) none (.nilc (.t 110))) <|
 .one 3 [] (.q (some 112) none (.faddr 4 (.t 111))) <|
 .one 4 [] (.q (some 113) none (.load 1 false (.t 112))) <|
 .one 5 [] (.q (some 114) none (.load 1 true (.t 2))) <|
 .late [] <|
 .one 6 [5] (.l (some 115) none (.call 157 [.t 114])) <|
 .one 7 [] (.q (some 116) none (.bin 0 .gtr (.t 113) (.t 115))) <|
 .done) <|
 .cond (.t 116) (.plan [] <|
 .one 0 [] (.q (some 117) none (.faddr 0 (.t 2))) <|
 .one 1 [] (.q (some 118) none (.load 1 false (.t 117))) <|
 .one 2 [] (.q (some 119) none (.faddr 0 (.t 2))) <|
 .one 3 [] (.q (some 120) none (.load 1 false (.t 119))) <|
 .one 4 [] (.q (some 121) none (.load 1 true (.t 2))) <|
 .late [] <|
 .one 5 [4] (.l (some 122) none (.call 157 [.t 121])) <|
 .one 6 [] (.q (some 123) none (.nilc (.t 118))) <|
 .one 7 [] (.q (some 124) none (.faddr 4 (.t 123))) <|
 .late [] <|
 .one 8 [1, 4] (.l none none (.store 1 (.t 124) (.t 122))) <|
 .one 9 [] (.q (some 125) none (.nilc (.t 120))) <|
 .one 10 [] (.q (some 126) none (.faddr 5 (.t 125))) <|
 .late [] <|
 .one 11 [1, 3, 4] (.l none none (.store 1 (.t 126) (.c (.bool true)))) <|
 .done) <|
 .skip, [], [0, 1, 4, 9, 11, 2, 26, 48, 59, 72, 5, 116], [0, 1, 4, 9, 11, 2, 26, 48, 59, 72, 5, 116], 127⟩
theorem ok92 : FnOkK Tryz.prog 92 E92 := ⟨Tryz.f92, Tryz.func92, by kernel_rfl, by kernel_rfl, by kernel_rfl, by kernel_rfl⟩
/- wayfarer/emulator.sequence : 134 -/
def E95 : FnK := ⟨.seq (.ins [2, 3, 4] [.l (some 2) none (.box (.t 0)),
 .l (some 3) none (.box (.t 1)),
 .q (some 4) none (.mov (.c (.bool false)))]) <|
 .seq (.plan [5, 6] <|
 .one 0 [] (.q (some 7) none (.load 7 true (.t 3))) <|
 .one 2 [] (.q (some 9) none (.load 7 true (.t 3))) <|
 .late [] <|
 .one 1 [0] (.l (some 8) none (.call 166 [.t 7, .c (.int .i64 0)])) <|
 .late [] <|
 .one 3 [0, 2] (.l (some 10) none (.call 167 [.t 9, .c (.int .i64 0)])) <|
 .one 4 [] (.q (some 5) none (.mov (.t 8))) <|
 .one 5 [] (.q (some 6) none (.mov (.t 10))) <|
 .done) <|
 .seq (.seq (.ins [12] [.q (some 11) none (.faddr 3 (.t 3)),
 .q (some 12) none (.load 1 false (.t 11))]) <|
 .block 0 <|
 .seq (.ins [13] [.q (some 14) none (.bin 0 .eql (.t 12) (.c (.int .u8 65))),
 .q (some 13) none (.mov (.t 14))]) <|
 .cond (.t 13) (.ins [] [.q (some 15) none (.load 1 true (.t 2)),
 .q (some 16) none (.mov (.t 5)),
 .q (some 17) none (.un .neg (.t 16)),
 .l (some 18) none (.call 168 [.t 15, .t 17, .c (.int .i64 0)])]) <|
 .seq (.seq (.ins [19] [.q (some 20) none (.bin 0 .eql (.t 12) (.c (.int .u8 66))),
 .q (some 19) none (.mov (.t 20))]) <|
 .cond (.t 19) (.skip) <|
 .ins [19] [.q (some 21) none (.bin 0 .eql (.t 12) (.c (.int .u8 101))),
 .q (some 19) none (.mov (.t 21))]) <|
 .cond (.t 19) (.ins [] [.q (some 22) none (.load 1 true (.t 2)),
 .q (some 23) none (.mov (.t 5)),
 .l (some 24) none (.call 168 [.t 22, .t 23, .c (.int .i64 0)])]) <|
 .seq (.seq (.ins [25] [.q (some 26) none (.bin 0 .eql (.t 12) (.c (.int .u8 67))),
 .q (some 25) none (.mov (.t 26))]) <|
 .cond (.t 25) (.skip) <|
 .ins [25] [.q (some 27) none (.bin 0 .eql (.t 12) (.c (.int .u8 97))),
 .q (some 25) none (.mov (.t 27))]) <|
 .cond (.t 25) (.ins [] [.q (some 28) none (.load 1 true (.t 2)),
 .q (some 29) none (.mov (.t 5)),
 .l (some 30) none (.call 168 [.t 28, .c (.int .i64 0), .t 29])]) <|
 .seq (.ins [31] [.q (some 32) none (.bin 0 .eql (.t 12) (.c (.int .u8 68))),
 .q (some 31) none (.mov (.t 32))]) <|
 .cond (.t 31) (.ins [] [.q (some 33) none (.load 1 true (.t 2)),
 .q (some 34) none (.mov (.t 5)),
 .q (some 35) none (.un .neg (.t 34)),
 .l (some 36) none (.call 168 [.t 33, .c (.int .i64 0), .t 35])]) <|
 .seq (.ins [37] [.q (some 38) none (.bin 0 .eql (.t 12) (.c (.int .u8 69))),
 .q (some 37) none (.mov (.t 38))]) <|
 .cond (.t 37) (.seq (.ins [] [.q (some 39) none (.load 1 true (.t 2)),
 .q (some 40) none (.mov (.t 5)),
 .l (some 41) none (.call 168 [.t 39, .t 40, .c (.int .i64 0)])]) <|
 .ins [] [.q (some 42) none (.load 1 true (.t 2)),
 .l (some 43) none (.call 93 [.t 42, .c (.int .i32 13)])]) <|
 .seq (.ins [44] [.q (some 45) none (.bin 0 .eql (.t 12) (.c (.int .u8 70))),
 .q (some 44) none (.mov (.t 45))]) <|
 .cond (.t 44) (.seq (.ins [] [.q (some 46) none (.load 1 true (.t 2)),
 .q (some 47) none (.mov (.t 5)),
 .q (some 48) none (.un .neg (.t 47)),
 .l (some 49) none (.call 168 [.t 46, .t 48, .c (.int .i64 0)])]) <|
 .ins [] [.q (some 50) none (.load 1 true (.t 2)),
 .l (some 51) none (.call 93 [.t 50, .c (.int .i32 13)])]) <|
 .seq (.seq (.ins [52] [.q (some 53) none (.bin 0 .eql (.t 12) (.c (.int .u8 71))),
 .q (some 52) none (.mov (.t 53))]) <|
 .cond (.t 52) (.skip) <|
 .ins [52] [.q (some 54) none (.bin 0 .eql (.t 12) (.c (.int .u8 96))),
 .q (some 52) none (.mov (.t 54))]) <|
 .cond (.t 52) (.plan [] <|
 .one 0 [] (.q (some 55) none (.load 1 true (.t 2))) <|
 .one 1 [] (.q (some 56) none (.mov (.t 5))) <|
 .one 2 [] (.q (some 57) none (.bin 0 .sub (.t 56) (.c (.int .i64 1)))) <|
 .one 3 [] (.q (some 58) none (.faddr 0 (.t 2))) <|
 .one 4 [] (.q (some 59) none (.load 1 false (.t 58))) <|
 .one 5 [] (.q (some 60) none (.nilc (.t 59))) <|
 .one 6 [] (.q (some 61) none (.faddr 4 (.t 60))) <|
 .one 7 [] (.q (some 62) none (.load 1 false (.t 61))) <|
 .one 8 [] (.q (some 63) none (.bin 0 .sub (.t 57) (.t 62))) <|
 .late [] <|
 .one 9 [0, 4, 7] (.l (some 64) none (.call 168 [.t 55, .c (.int .i64 0), .t 63])) <|
 .done) <|
 .seq (.ins [65] [.q (some 66) none (.bin 0 .eql (.t 12) (.c (.int .u8 100))),
 .q (some 65) none (.mov (.t 66))]) <|
 .cond (.t 65) (.plan [] <|
 .one 0 [] (.q (some 67) none (.load 1 true (.t 2))) <|
 .one 1 [] (.q (some 68) none (.mov (.t 5))) <|
 .one 2 [] (.q (some 69) none (.bin 0 .sub (.t 68) (.c (.int .i64 1)))) <|
 .one 3 [] (.q (some 70) none (.faddr 0 (.t 2))) <|
 .one 4 [] (.q (some 71) none (.load 1 false (.t 70))) <|
 .one 5 [] (.q (some 72) none (.nilc (.t 71))) <|
 .one 6 [] (.q (some 73) none (.faddr 4 (.t 72))) <|
 .one 7 [] (.q (some 74) none (.load 1 false (.t 73))) <|
 .late [] <|
 .one 8 [0, 4, 7] (.l (some 75) none (.call 169 [.t 67, .t 69, .t 74])) <|
 .done) <|
 .seq (.seq (.ins [76] [.q (some 77) none (.bin 0 .eql (.t 12) (.c (.int .u8 72))),
 .q (some 76) none (.mov (.t 77))]) <|
 .cond (.t 76) (.skip) <|
 .ins [76] [.q (some 78) none (.bin 0 .eql (.t 12) (.c (.int .u8 102))),
 .q (some 76) none (.mov (.t 78))]) <|
 .cond (.t 76) (.plan [] <|
 .one 0 [] (.q (some 79) none (.load 1 true (.t 2))) <|
 .one 1 [] (.q (some 80) none (.mov (.t 5))) <|
 .one 2 [] (.q (some 81) none (.bin 0 .sub (.t 80) (.c (.int .i64 1)))) <|
 .one 3 [] (.q (some 82) none (.load 7 true (.t 3))) <|
 .late [] <|
 .one 4 [3] (.l (some 83) none (.call 166 [.t 82, .c (.int .i64 1)])) <|
 .one 5 [] (.q (some 84) none (.bin 0 .sub (.t 83) (.c (.int .i64 1)))) <|
 .late [] <|
 .one 6 [0, 3] (.l (some 85) none (.call 169 [.t 79, .t 81, .t 84])) <|
 .done) <|
 .seq (.ins [86] [.q (some 87) none (.bin 0 .eql (.t 12) (.c (.int .u8 74))),
 .q (some 86) none (.mov (.t 87))]) <|
 .cond (.t 86) (.ins [] [.q (some 88) none (.load 1 true (.t 2)),
 .q (some 89) none (.mov (.t 6)),
 .l (some 90) none (.call 170 [.t 88, .c (.bool true), .t 89])]) <|
 .seq (.ins [91] [.q (some 92) none (.bin 0 .eql (.t 12) (.c (.int .u8 75))),
 .q (some 91) none (.mov (.t 92))]) <|
 .cond (.t 91) (.ins [] [.q (some 93) none (.load 1 true (.t 2)),
 .q (some 94) none (.mov (.t 6)),
 .l (some 95) none (.call 170 [.t 93, .c (.bool false), .t 94])]) <|
 .seq (.ins [96] [.q (some 97) none (.bin 0 .eql (.t 12) (.c (.int .u8 76))),
 .q (some 96) none (.mov (.t 97))]) <|
 .cond (.t 96) (.ins [] [.q (some 98) none (.load 1 true (.t 2)),
 .q (some 99) none (.mov (.t 5)),
 .l (some 100) none (.call 171 [.t 98, .t 99])]) <|
 .seq (.ins [101] [.q (some 102) none (.bin 0 .eql (.t 12) (.c (.int .u8 77))),
 .q (some 101) none (.mov (.t 102))]) <|
 .cond (.t 101) (.ins [] [.q (some 103) none (.load 1 true (.t 2)),
 .q (some 104) none (.mov (.t 5)),
 .q (some 105) none (.un .neg (.t 104)),
 .l (some 106) none (.call 171 [.t 103, .t 105])]) <|
 .seq (.ins [107] [.q (some 108) none (.bin 0 .eql (.t 12) (.c (.int .u8 64))),
 .q (some 107) none (.mov (.t 108))]) <|
 .cond (.t 107) (.ins [] [.q (some 109) none (.load 1 true (.t 2)),
 .q (some 110) none (.mov (.t 5)),
 .l (some 111) none (.call 172 [.t 109, .t 110])]) <|
 .seq (.ins [112] [.q (some 113) none (.bin 0 .eql (.t 12) (.c (.int .u8 80))),
 .q (some 112) none (.mov (.t 113))]) <|
 .cond (.t 112) (.ins [] [.q (some 114) none (.load 1 true (.t 2)),
 .q (some 115) none (.mov (.t 5)),
 .q (some 116) none (.un .neg (.t 115)),
 .l (some 117) none (.call 172 [.t 114, .t 116])]) <|
 .seq (.ins [118] [.q (some 119) none (.bin 0 .eql (.t 12) (.c (.int .u8 88))),
 .q (some 118) none (.mov (.t 119))]) <|
 .cond (.t 118) (.ins [] [.q (some 120) none (.load 1 true (.t 2)),
 .q (some 121) none (.mov (.t 5)),
 .l (some 122) none (.call 173 [.t 120, .t 121])]) <|
 .seq (.ins [123] [.q (some 124) none (.bin 0 .eql (.t 12) (.c (.int .u8 83))),
 .q (some 123) none (.mov (.t 124))]) <|
 .cond (.t 123) (.ins [] [.q (some 125) none (.load 1 true (.t 2)),
 .q (some 126) none (.mov (.t 5)),
 .l (some 127) none (.call 174 [.t 125, .t 126])]) <|
 .seq (.ins [128] [.q (some 129) none (.bin 0 .eql (.t 12) (.c (.int .u8 84))),
 .q (some 128) none (.mov (.t 129))]) <|
 .cond (.t 128) (.ins [] [.q (some 130) none (.load 1 true (.t 2)),
 .q (some 131) none (.mov (.t 5)),
 .q (some 132) none (.un .neg (.t 131)),
 .l (some 133) none (.call 174 [.t 130, .t 132])]) <|
 .seq (.ins [4] [.q (some 4) none (.mov (.c (.bool false)))]) <|
 .ret) <|
 .seq (.ins [4] [.q (some 4) none (.mov (.c (.bool true)))]) <|
 .ret, [.t 4], [0, 1, 3, 12, 13, 2, 5, 19, 25, 31, 37, 44, 52, 65, 76, 86, 6, 91, 96, 101, 107, 112, 118, 123, 128, 4], [0, 1, 3, 12, 13, 2, 5, 19, 25, 31, 37, 44, 52, 65, 76, 86, 6, 91, 96, 101, 107, 112, 118, 123, 128, 4], 134⟩
theorem ok95 : FnOkK Tryz.prog 95 E95 := ⟨Tryz.f95, Tryz.func95, by kernel_rfl, by kernel_rfl, by kernel_rfl, by kernel_rfl⟩
/- wayfarer/emulator.rest : 82 -/
def E96 : FnK := ⟨.seq (.ins [2, 3, 4] [.l (some 2) none (.box (.t 0)),
 .l (some 3) none (.box (.t 1)),
 .q (some 4) none (.mov (.c (.s 0 (0, 0) 0 0 0 0)))]) <|
 .seq (.plan [5, 6] <|
 .one 0 [] (.q (some 8) none (.load 7 true (.t 3))) <|
 .one 2 [] (.q (some 10) none (.load 7 true (.t 3))) <|
 .late [] <|
 .one 1 [0] (.l (some 9) none (.call 166 [.t 8, .c (.int .i64 0)])) <|
 .late [] <|
 .one 3 [0, 2] (.l (some 11) none (.call 167 [.t 10, .c (.int .i64 0)])) <|
 .one 4 [] (.q (some 5) none (.mov (.t 9))) <|
 .one 5 [] (.q (some 6) none (.mov (.t 11))) <|
 .done) <|
 .seq (.seq (.ins [13] [.q (some 12) none (.faddr 3 (.t 3)),
 .q (some 13) none (.load 1 false (.t 12))]) <|
 .block 0 <|
 .seq (.ins [14] [.q (some 15) none (.bin 0 .eql (.t 13) (.c (.int .u8 103))),
 .q (some 14) none (.mov (.t 15))]) <|
 .cond (.t 14) (.seq (.ins [16] [.q (some 16) none (.mov (.t 6))]) <|
 .block 1 <|
 .seq (.ins [17] [.q (some 18) none (.bin 0 .eql (.t 16) (.c (.int .i64 0))),
 .q (some 17) none (.mov (.t 18))]) <|
 .cond (.t 17) (.ins [] [.q (some 19) none (.load 1 true (.t 2)),
 .l (some 20) none (.call 165 [.t 19, .c (.int .i64 1)])]) <|
 .seq (.ins [21] [.q (some 22) none (.bin 0 .eql (.t 16) (.c (.int .i64 3))),
 .q (some 21) none (.mov (.t 22))]) <|
 .cond (.t 21) (.ins [] [.q (some 23) none (.load 1 true (.t 2)),
 .l (some 24) none (.call 165 [.t 23, .c (.int .i64 2)])]) <|
 .skip) <|
 .seq (.ins [25] [.q (some 26) none (.bin 0 .eql (.t 13) (.c (.int .u8 109))),
 .q (some 25) none (.mov (.t 26))]) <|
 .cond (.t 25) (.plan [] <|
 .one 0 [] (.q (some 27) none (.faddr 0 (.t 2))) <|
 .one 1 [] (.q (some 28) none (.load 1 false (.t 27))) <|
 .one 2 [] (.q (some 29) none (.faddr 0 (.t 2))) <|
 .one 3 [] (.q (some 30) none (.load 1 false (.t 29))) <|
 .one 4 [] (.q (some 31) none (.nilc (.t 30))) <|
 .one 5 [] (.q (some 32) none (.faddr 6 (.t 31))) <|
 .one 6 [] (.q (some 33) none (.load 10 true (.t 32))) <|
 .one 7 [] (.q (some 34) none (.faddr 5 (.t 3))) <|
 .one 8 [] (.q (some 35) none (.load 1 false (.t 34))) <|
 .late [] <|
 .one 9 [3, 6, 8] (.l (some 36) none (.call 175 [.t 33, .t 35])) <|
 .one 10 [] (.q (some 37) none (.nilc (.t 28))) <|
 .one 11 [] (.q (some 38) none (.faddr 6 (.t 37))) <|
 .late [] <|
 .one 12 [1, 3, 6, 8] (.l none none (.store 10 (.t 38) (.t 36))) <|
 .done) <|
 .seq (.seq (.ins [39] [.q (some 40) none (.bin 0 .eql (.t 13) (.c (.int .u8 104))),
 .q (some 39) none (.mov (.t 40))]) <|
 .cond (.t 39) (.skip) <|
 .ins [39] [.q (some 41) none (.bin 0 .eql (.t 13) (.c (.int .u8 108))),
 .q (some 39) none (.mov (.t 41))]) <|
 .cond (.t 39) (.ins [] [.q (some 42) none (.load 1 true (.t 2)),
 .q (some 43) none (.load 7 true (.t 3)),
 .l (some 44) none (.call 97 [.t 42, .t 43, .c (.bool false)])]) <|
 .seq (.ins [45] [.q (some 46) none (.bin 0 .eql (.t 13) (.c (.int .u8 114))),
 .q (some 45) none (.mov (.t 46))]) <|
 .cond (.t 45) (.seq (.ins [7] [.q (some 47) none (.load 7 true (.t 3)),
 .l (some 48) none (.call 167 [.t 47, .c (.int .i64 1)]),
 .q (some 7) none (.mov (.t 48))]) <|
 .seq (.seq (.ins [50] [.q (some 49) none (.mov (.t 7)),
 .q (some 50) none (.bin 0 .eql (.t 49) (.c (.int .i64 0)))]) <|
 .cond (.t 50) (.ins [7] [.q (some 51) none (.faddr 0 (.t 2)),
 .q (some 52) none (.load 1 false (.t 51)),
 .q (some 53) none (.nilc (.t 52)),
 .q (some 54) none (.faddr 0 (.t 53)),
 .q (some 55) none (.faddr 1 (.t 54)),
 .q (some 56) none (.load 1 false (.t 55)),
 .q (some 7) none (.mov (.t 56))]) <|
 .skip) <|
 .ins [] [.q (some 57) none (.load 1 true (.t 2)),
 .q (some 58) none (.mov (.t 5)),
 .q (some 59) none (.bin 0 .sub (.t 58) (.c (.int .i64 1))),
 .q (some 60) none (.mov (.t 7)),
 .q (some 61) none (.bin 0 .sub (.t 60) (.c (.int .i64 1))),
 .l (some 62) none (.call 176 [.t 57, .t 59, .t 61])]) <|
 .seq (.ins [63] [.q (some 64) none (.bin 0 .eql (.t 13) (.c (.int .u8 115))),
 .q (some 63) none (.mov (.t 64))]) <|
 .cond (.t 63) (.ins [] [.q (some 65) none (.load 1 true (.t 2)),
 .l (some 66) none (.call 164 [.t 65, .c (.bool false)])]) <|
 .seq (.ins [67] [.q (some 68) none (.bin 0 .eql (.t 13) (.c (.int .u8 117))),
 .q (some 67) none (.mov (.t 68))]) <|
 .cond (.t 67) (.ins [] [.q (some 69) none (.load 1 true (.t 2)),
 .l (some 70) none (.call 164 [.t 69, .c (.bool true)])]) <|
 .seq (.ins [71] [.q (some 72) none (.bin 0 .eql (.t 13) (.c (.int .u8 110))),
 .q (some 71) none (.mov (.t 72))]) <|
 .cond (.t 71) (.seq (.ins [4] [.q (some 73) none (.load 1 true (.t 2)),
 .q (some 74) none (.mov (.t 6)),
 .l (some 75) none (.call 177 [.t 73, .t 74]),
 .q (some 4) none (.mov (.t 75))]) <|
 .ret) <|
 .seq (.ins [76] [.q (some 77) none (.bin 0 .eql (.t 13) (.c (.int .u8 99))),
 .q (some 76) none (.mov (.t 77))]) <|
 .cond (.t 76) (.seq (.ins [79] [.q (some 78) none (.mov (.t 6)),
 .q (some 79) none (.bin 0 .eql (.t 78) (.c (.int .i64 0)))]) <|
 .cond (.t 79) (.seq (.ins [4] [.l (some 80) none (.bslice 1 6 [.int .u8 0] [(0, (.c (.int .u8 27))), (1, (.c (.int .u8 91))), (2, (.c (.int .u8 63))), (3, (.c (.int .u8 54))), (4, (.c (.int .u8 50))), (5, (.c (.int .u8 99)))]),
 .l (some 81) none (.mark (.t 80)),
 .q (some 4) none (.mov (.t 81))]) <|
 .ret) <|
 .skip) <|
 .skip) <|
 .seq (.ins [4] [.q (some 4) none (.mov (.c (.s 0 (0, 0) 0 0 0 0)))]) <|
 .ret, [.t 4], [0, 1, 3, 13, 14, 6, 16, 17, 2, 21, 25, 39, 45, 7, 50, 5, 63, 67, 71, 76, 79, 4], [0, 1, 3, 13, 14, 6, 16, 17, 2, 21, 25, 39, 45, 7, 50, 5, 63, 67, 71, 76, 79, 4], 82⟩
theorem ok96 : FnOkK Tryz.prog 96 E96 := ⟨Tryz.f96, Tryz.func96, by kernel_rfl, by kernel_rfl, by kernel_rfl, by kernel_rfl⟩
/- wayfarer/grid.Copy : 8 -/
def E99 : FnK := ⟨.seq (.ins [1, 2] [.l (some 1) none (.box (.t 0)),
 .l (some 2) none (.alloc [.int .i64 0, .int .i64 0, .s 0 (0, 0) 0 0 0 0])]) <|
 .seq (.ins [] [.q (some 3) none (.faddr 2 (.t 1)),
 .q (some 4) none (.load 1 false (.t 3)),
 .l (some 5) none (.call 181 [.t 4]),
 .q (some 6) none (.faddr 2 (.t 1)),
 .l none none (.store 1 (.t 6) (.t 5))]) <|
 .seq (.ins [] [.q (some 7) none (.load 3 true (.t 1)),
 .l none none (.store 3 (.t 2) (.t 7))]) <|
 .ret, [.cell 2 3 true], [0, 1, 2], [0, 1, 2], 8⟩
theorem ok99 : FnOkK Tryz.prog 99 E99 := ⟨Tryz.f99, Tryz.func99, by kernel_rfl, by kernel_rfl, by kernel_rfl, by kernel_rfl⟩
/- slices.Clone[[]int,int] : 8 -/
def E100 : FnK := ⟨.seq (.ins [2] [.q (some 2) none (.mov (.c (.s 0 (0, 0) 0 0 0 0)))]) <|
 .seq (.seq (.ins [4] [.q (some 3) none (.mov (.t 0)),
 .q (some 4) none (.eqnil false (.t 3))]) <|
 .cond (.t 4) (.seq (.ins [2] [.q (some 2) none (.mov (.c (.s 0 (0, 0) 0 0 0 0)))]) <|
 .ret) <|
 .skip) <|
 .seq (.ins [2] [.l (some 5) none (.bslice 1 0 [.int .i64 0] []),
 .q (some 6) none (.mov (.t 0)),
 .l (some 7) none (.append 1 8 (.t 5) (.t 6)),
 .q (some 2) none (.mov (.t 7))]) <|
 .ret, [.t 2], [0, 4, 2], [0, 4, 2], 8⟩
theorem ok100 : FnOkK Tryz.prog 100 E100 := ⟨Tryz.f100, Tryz.func100, by kernel_rfl, by kernel_rfl, by kernel_rfl, by kernel_rfl⟩
/- slices.Clone[[]rune,rune] : 8 -/
def E101 : FnK := ⟨.seq (.ins [2] [.q (some 2) none (.mov (.c (.s 0 (0, 0) 0 0 0 0)))]) <|
 .seq (.seq (.ins [4] [.q (some 3) none (.mov (.t 0)),
 .q (some 4) none (.eqnil false (.t 3))]) <|
 .cond (.t 4) (.seq (.ins [2] [.q (some 2) none (.mov (.c (.s 0 (0, 0) 0 0 0 0)))]) <|
 .ret) <|
 .skip) <|
 .seq (.ins [2] [.l (some 5) none (.bslice 1 0 [.int .i32 0] []),
 .q (some 6) none (.mov (.t 0)),
 .l (some 7) none (.append 1 4 (.t 5) (.t 6)),
 .q (some 2) none (.mov (.t 7))]) <|
 .ret, [.t 2], [0, 4, 2], [0, 4, 2], 8⟩
theorem ok101 : FnOkK Tryz.prog 101 E101 := ⟨Tryz.f101, Tryz.func101, by kernel_rfl, by kernel_rfl, by kernel_rfl, by kernel_rfl⟩
/- wayfarer/cell.MayStyle : 11 -/
def E111 : FnK := ⟨.seq (.ins [1, 2] [.l (some 1) none (.box (.t 0)),
 .q (some 2) none (.mov (.c (.bool false)))]) <|
 .seq (.ins [2] [.q (some 3) none (.faddr 0 (.t 1)),
 .q (some 4) none (.load 1 false (.t 3)),
 .l (some 5) none (.call 184 [.t 4]),
 .q (some 6) none (.mov (.t 5)),
 .q (some 7) (some (6, true)) (.faddr 1 (.t 1)),
 .q (some 8) (some (6, true)) (.load 1 false (.t 7)),
 .l (some 9) (some (6, true)) (.call 184 [.t 8]),
 .q (some 10) none (.pick (.t 6) (.t 9) (.c (.bool false))),
 .q (some 2) none (.mov (.t 10))]) <|
 .ret, [.t 2], [0, 1, 2], [0, 1, 2], 11⟩
theorem ok111 : FnOkK Tryz.prog 111 E111 := ⟨Tryz.f111, Tryz.func111, by kernel_rfl, by kernel_rfl, by kernel_rfl, by kernel_rfl⟩
/- strconv.Itoa : 5 -/
def E136 : FnK := ⟨.seq (.ins [2] [.q (some 2) none (.mov (.c (.v (.string ⟨#[]⟩))))]) <|
 .seq (.ins [2] [.q (some 3) none (.mov (.t 0)),
 .l (some 4) none (.call 195 [.t 3]),
 .q (some 2) none (.mov (.t 4))]) <|
 .ret, [.t 2], [0, 2], [0, 2], 5⟩
theorem ok136 : FnOkK Tryz.prog 136 E136 := ⟨Tryz.f136, Tryz.func136, by kernel_rfl, by kernel_rfl, by kernel_rfl, by kernel_rfl⟩
/- wayfarer/grid.sized : 19 -/
def E144 : FnK := ⟨.seq (.ins [4] [.q (some 4) none (.mov (.c (.bool false)))]) <|
 .seq (.ins [4] [.q (some 5) none (.mov (.t 0)),
 .q (some 6) none (.bin 0 .geq (.t 5) (.c (.int .i64 1))),
 .q (some 7) none (.mov (.t 6)),
 .q (some 8) (some (7, true)) (.mov (.t 0)),
 .q (some 9) (some (7, true)) (.bin 0 .leq (.t 8) (.c (.int .i64 512))),
 .q (some 10) none (.pick (.t 7) (.t 9) (.c (.bool false))),
 .q (some 11) none (.mov (.t 10)),
 .q (some 12) (some (11, true)) (.mov (.t 1)),
 .q (some 13) (some (11, true)) (.bin 0 .geq (.t 12) (.c (.int .i64 1))),
 .q (some 14) none (.pick (.t 11) (.t 13) (.c (.bool false))),
 .q (some 15) none (.mov (.t 14)),
 .q (some 16) (some (15, true)) (.mov (.t 1)),
 .q (some 17) (some (15, true)) (.bin 0 .leq (.t 16) (.c (.int .i64 512))),
 .q (some 18) none (.pick (.t 15) (.t 17) (.c (.bool false))),
 .q (some 4) none (.mov (.t 18))]) <|
 .ret, [.t 4], [0, 1, 4], [0, 1, 4], 19⟩
theorem ok144 : FnOkK Tryz.prog 144 E144 := ⟨Tryz.f144, Tryz.func144, by kernel_rfl, by kernel_rfl, by kernel_rfl, by kernel_rfl⟩
end Go.Proofs.YtebjldkkdapbeaaGreatDoor.Eng
