/- What the functions' code comes to, read off the loaded program. Printed by a program of this session. -/
import Derived.Test.YtebjldkkdapbeaaGreatDoorChecked
import Derived.Test.YtebjldkkdapbeaaGreatDoorEngV6
namespace Go.Proofs.YtebjldkkdapbeaaGreatDoor.Eng
open Go
set_option maxRecDepth 100000
/- wayfarer/cell.make2 : 10 -/
def E206 : FnK := ⟨.seq (.ins [2, 4] [.l (some 2) none (.box (.t 0)),
 .q (some 4) none (.mov (.c (.s 0 (0, 0) 0 0 0 0)))]) <|
 .seq (.seq (.ins [6] [.q (some 5) none (.mov (.t 1)),
 .q (some 6) none (.bin 0 .neq (.t 5) (.c (.int .i64 2)))]) <|
 .cond (.t 6) (.seq (.ins [4] [.q (some 4) none (.mov (.c (.s 0 (0, 0) 0 0 0 0)))]) <|
 .ret) <|
 .skip) <|
 .seq (.ins [4] [.q (some 7) none (.load 10 true (.t 2)),
 .q (some 8) none (.build [.int .i32 0, .int .i32 0, .int .i32 0, .int .i32 0, .int .u8 0, .int .i64 0, .int .i64 0, .bool false, .bool false, .bool false, .bool false, .bool false, .bool false, .bool false, .bool false] [(5, 10, (.t 7))]),
 .l (some 9) none (.bslice 15 1 [.int .i32 0, .int .i32 0, .int .i32 0, .int .i32 0, .int .u8 0, .int .i64 0, .int .i64 0, .bool false, .bool false, .bool false, .bool false, .bool false, .bool false, .bool false, .bool false] [(0, (.t 8))]),
 .q (some 4) none (.mov (.t 9))]) <|
 .ret, [.t 4], [0, 1, 6, 2, 4], [0, 1, 6, 2, 4], 10⟩
theorem ok206 : FnOkK Tryz.prog 206 E206 := ⟨Tryz.f206, Tryz.func206, by kernel_rfl, by kernel_rfl, by kernel_rfl, by kernel_rfl⟩
/- wayfarer/screen.clamp : 12 -/
def E211 : FnK := ⟨.seq (.ins [6] [.q (some 6) none (.mov (.c (.int .i64 0)))]) <|
 .seq (.ins [6] [.q (some 7) none (.mov (.t 1)),
 .q (some 8) none (.mov (.t 0)),
 .q (some 9) none (.mov (.t 2)),
 .q (some 10) none (.mn (.t 8) (.t 9)),
 .q (some 11) none (.mx (.t 7) (.t 10)),
 .q (some 6) none (.mov (.t 11))]) <|
 .ret, [.t 6], [1, 0, 2, 6], [1, 0, 2, 6], 12⟩
theorem ok211 : FnOkK Tryz.prog 211 E211 := ⟨Tryz.f211, Tryz.func211, by kernel_rfl, by kernel_rfl, by kernel_rfl, by kernel_rfl⟩
/- wayfarer/screen.small : 5 -/
def E212 : FnK := ⟨.seq (.ins [2] [.q (some 2) none (.mov (.c (.int .i64 0)))]) <|
 .seq (.ins [2] [.q (some 3) none (.mov (.t 0)),
 .l (some 4) none (.call 211 [.t 3, .c (.int .i64 (-1024)), .c (.int .i64 1024)]),
 .q (some 2) none (.mov (.t 4))]) <|
 .ret, [.t 2], [0, 2], [0, 2], 5⟩
theorem ok212 : FnOkK Tryz.prog 212 E212 := ⟨Tryz.f212, Tryz.func212, by kernel_rfl, by kernel_rfl, by kernel_rfl, by kernel_rfl⟩
/- internal/strconv.FormatInt : 54 -/
def E221 : FnK := ⟨.seq (.ins [4] [.q (some 4) none (.mov (.c (.v (.string ⟨#[]⟩))))]) <|
 .seq (.seq (.ins [11] [.q (some 10) none (.mov (.t 1)),
 .q (some 11) none (.bin 0 .eql (.t 10) (.c (.int .i64 10)))]) <|
 .cond (.t 11) (.seq (.seq (.ins [17] [.q (some 12) none (.mov (.t 0)),
 .q (some 13) none (.bin 0 .leq (.c (.int .i64 0)) (.t 12)),
 .q (some 14) none (.mov (.t 13)),
 .q (some 15) (some (14, true)) (.mov (.t 0)),
 .q (some 16) (some (14, true)) (.bin 0 .lss (.t 15) (.c (.int .i64 100))),
 .q (some 17) none (.pick (.t 14) (.t 16) (.c (.bool false)))]) <|
 .cond (.t 17) (.seq (.ins [4] [.q (some 18) none (.mov (.t 0)),
 .l (some 19) none (.call 228 [.t 18]),
 .q (some 4) none (.mov (.t 19))]) <|
 .ret) <|
 .skip) <|
 .seq (.ins [5] [.l (some 5) none (.alloc [.int .u8 0, .int .u8 0, .int .u8 0, .int .u8 0, .int .u8 0, .int .u8 0, .int .u8 0, .int .u8 0, .int .u8 0, .int .u8 0, .int .u8 0, .int .u8 0, .int .u8 0, .int .u8 0, .int .u8 0, .int .u8 0, .int .u8 0, .int .u8 0, .int .u8 0, .int .u8 0, .int .u8 0, .int .u8 0, .int .u8 0, .int .u8 0])]) <|
 .seq (.ins [6] [.q (some 20) none (.mov (.t 0)),
 .q (some 21) none (.conv .u64 (.t 20)),
 .q (some 6) none (.mov (.t 21))]) <|
 .seq (.seq (.ins [23] [.q (some 22) none (.mov (.t 0)),
 .q (some 23) none (.bin 0 .lss (.t 22) (.c (.int .i64 0)))]) <|
 .cond (.t 23) (.ins [6] [.q (some 24) none (.mov (.t 6)),
 .q (some 25) none (.un .neg (.t 24)),
 .q (some 6) none (.mov (.t 25))]) <|
 .skip) <|
 .seq (.ins [7] [.q (some 26) none (.mov (.t 6)),
 .l (some 27) none (.call 229 [.t 26]),
 .q (some 7) none (.mov (.t 27))]) <|
 .seq (.ins [] [.q (some 28) none (.mov (.t 7)),
 .q (some 29) none (.bin 0 .add (.c (.int .i64 1)) (.t 28)),
 .q (some 30) none (.slcA 1 24 (.t 5) (some (.c (.int .i64 1))) (some (.t 29)) none),
 .q (some 31) none (.mov (.t 6)),
 .l (some 32) none (.call 230 [.t 30, .t 31])]) <|
 .seq (.seq (.ins [34] [.q (some 33) none (.mov (.t 0)),
 .q (some 34) none (.bin 0 .lss (.t 33) (.c (.int .i64 0)))]) <|
 .cond (.t 34) (.seq (.ins [] [.q (some 35) none (.iaddrA 1 24 (.t 5) (.c (.int .i64 0))),
 .l none none (.store 1 (.t 35) (.c (.int .u8 45)))]) <|
 .seq (.ins [4] [.q (some 36) none (.mov (.t 7)),
 .q (some 37) none (.bin 0 .add (.c (.int .i64 1)) (.t 36)),
 .q (some 38) none (.slcA 1 24 (.t 5) none (some (.t 37)) none),
 .q (some 39) none (.b2s (.t 38)),
 .q (some 4) none (.mov (.t 39))]) <|
 .ret) <|
 .skip) <|
 .seq (.ins [4] [.q (some 40) none (.mov (.t 7)),
 .q (some 41) none (.bin 0 .add (.c (.int .i64 1)) (.t 40)),
 .q (some 42) none (.slcA 1 24 (.t 5) (some (.c (.int .i64 1))) (some (.t 41)) none),
 .q (some 43) none (.b2s (.t 42)),
 .q (some 4) none (.mov (.t 43))]) <|
 .ret) <|
 .skip) <|
 .seq (.ins [9] [.q (some 45) none (.mov (.t 0)),
 .q (some 46) none (.conv .u64 (.t 45)),
 .q (some 47) none (.mov (.t 1)),
 .q (some 48) none (.mov (.t 0)),
 .q (some 49) none (.bin 0 .lss (.t 48) (.c (.int .i64 0))),
 .l (some 50) none (.call 231 [.c (.s 0 (0, 0) 0 0 0 0), .t 46, .t 47, .t 49, .c (.bool false)]),
 .q (some 44) none (.mov (.t 50)),
 .q (some 51) none (.ext 0 (.t 44)),
 .q (some 52) none (.ext 1 (.t 44)),
 .q (some 8) none (.mov (.t 51)),
 .q (some 9) none (.mov (.t 52))]) <|
 .seq (.ins [4] [.q (some 53) none (.mov (.t 9)),
 .q (some 4) none (.mov (.t 53))]) <|
 .ret, [.t 4], [1, 11, 0, 17, 23, 6, 7, 5, 34, 9, 4], [1, 11, 0, 17, 23, 6, 7, 5, 34, 9, 4], 54⟩
theorem ok221 : FnOkK Tryz.prog 221 E221 := ⟨Tryz.f221, Tryz.func221, by kernel_rfl, by kernel_rfl, by kernel_rfl, by kernel_rfl⟩
/- wayfarer/cell.Blank : 10 -/
def E223 : FnK := ⟨.seq (.ins [1, 2] [.l (some 1) none (.box (.t 0)),
 .l (some 2) none (.alloc [.int .i32 0, .int .i32 0, .int .i32 0, .int .i32 0, .int .u8 0, .int .i64 0, .int .i64 0, .bool false, .bool false, .bool false, .bool false, .bool false, .bool false, .bool false, .bool false])]) <|
 .seq (.ins [3] [.l (some 4) none (.call 77 []),
 .l (some 3) none (.alloc [.int .i64 0, .int .i64 0, .bool false, .bool false, .bool false, .bool false, .bool false, .bool false, .bool false, .bool false]),
 .l none none (.store 10 (.t 3) (.t 4))]) <|
 .seq (.ins [] [.q (some 5) none (.faddr 1 (.t 1)),
 .q (some 6) none (.load 1 false (.t 5)),
 .q (some 7) none (.faddr 1 (.t 3)),
 .l none none (.store 1 (.t 7) (.t 6))]) <|
 .seq (.ins [] [.q (some 8) none (.load 10 true (.t 3)),
 .q (some 9) none (.build [.int .i32 0, .int .i32 0, .int .i32 0, .int .i32 0, .int .u8 0, .int .i64 0, .int .i64 0, .bool false, .bool false, .bool false, .bool false, .bool false, .bool false, .bool false, .bool false] [(0, 1, (.c (.int .i32 32))), (4, 1, (.c (.int .u8 1))), (5, 10, (.t 8))]),
 .l none none (.store 15 (.t 2) (.t 9))]) <|
 .ret, [.cell 2 15 true], [0, 1, 3, 2], [0, 1, 3, 2], 10⟩
theorem ok223 : FnOkK Tryz.prog 223 E223 := ⟨Tryz.f223, Tryz.func223, by kernel_rfl, by kernel_rfl, by kernel_rfl, by kernel_rfl⟩
/- internal/strconv.small : 15 -/
def E228 : FnK := ⟨.seq (.ins [2] [.q (some 2) none (.mov (.c (.v (.string ⟨#[]⟩))))]) <|
 .seq (.seq (.ins [4] [.q (some 3) none (.mov (.t 0)),
 .q (some 4) none (.bin 0 .lss (.t 3) (.c (.int .i64 10)))]) <|
 .cond (.t 4) (.seq (.ins [2] [.q (some 5) none (.mov (.t 0)),
 .q (some 6) none (.mov (.t 0)),
 .q (some 7) none (.bin 0 .add (.t 6) (.c (.int .i64 1))),
 .q (some 8) none (.sslc (.c (.v (.string ⟨#[48, 49, 50, 51, 52, 53, 54, 55, 56, 57, 97, 98, 99, 100, 101, 102, 103, 104, 105, 106, 107, 108, 109, 110, 111, 112, 113, 114, 115, 116, 117, 118, 119, 120, 121, 122]⟩))) (some (.t 5)) (some (.t 7))),
 .q (some 2) none (.mov (.t 8))]) <|
 .ret) <|
 .skip) <|
 .seq (.ins [2] [.q (some 9) none (.mov (.t 0)),
 .q (some 10) none (.bin 0 .mul (.t 9) (.c (.int .i64 2))),
 .q (some 11) none (.mov (.t 0)),
 .q (some 12) none (.bin 0 .mul (.t 11) (.c (.int .i64 2))),
 .q (some 13) none (.bin 0 .add (.t 12) (.c (.int .i64 2))),
 .q (some 14) none (.sslc (.c (.v (.string ⟨#[48, 48, 48, 49, 48, 50, 48, 51, 48, 52, 48, 53, 48, 54, 48, 55, 48, 56, 48, 57, 49, 48, 49, 49, 49, 50, 49, 51, 49, 52, 49, 53, 49, 54, 49, 55, 49, 56, 49, 57, 50, 48, 50, 49, 50, 50, 50, 51, 50, 52, 50, 53, 50, 54, 50, 55, 50, 56, 50, 57, 51, 48, 51, 49, 51, 50, 51, 51, 51, 52, 51, 53, 51, 54, 51, 55, 51, 56, 51, 57, 52, 48, 52, 49, 52, 50, 52, 51, 52, 52, 52, 53, 52, 54, 52, 55, 52, 56, 52, 57, 53, 48, 53, 49, 53, 50, 53, 51, 53, 52, 53, 53, 53, 54, 53, 55, 53, 56, 53, 57, 54, 48, 54, 49, 54, 50, 54, 51, 54, 52, 54, 53, 54, 54, 54, 55, 54, 56, 54, 57, 55, 48, 55, 49, 55, 50, 55, 51, 55, 52, 55, 53, 55, 54, 55, 55, 55, 56, 55, 57, 56, 48, 56, 49, 56, 50, 56, 51, 56, 52, 56, 53, 56, 54, 56, 55, 56, 56, 56, 57, 57, 48, 57, 49, 57, 50, 57, 51, 57, 52, 57, 53, 57, 54, 57, 55, 57, 56, 57, 57]⟩))) (some (.t 10)) (some (.t 13))),
 .q (some 2) none (.mov (.t 14))]) <|
 .ret, [.t 2], [0, 4, 2], [0, 4, 2], 15⟩
theorem ok228 : FnOkK Tryz.prog 228 E228 := ⟨Tryz.f228, Tryz.func228, by kernel_rfl, by kernel_rfl, by kernel_rfl, by kernel_rfl⟩
end Go.Proofs.YtebjldkkdapbeaaGreatDoor.Eng
