import Derived.Test.YtmggokdhhbaphaaDoorAbPrim
/- The code of the functions, as the abstract machine has it. -/
namespace Ab
def internal_bytealg_hashStr_string_l1 : Code := .loop [4, 6, 7, 8] none (.seq (.seq (.ops [4, 6, 7, 8, 25] [
    ⟨some 24, none, .inl (.mov (.v 8))⟩,
    ⟨some 25, none, .inl (.bin .gtr (.v 24) (.c (.int .i64 0)))⟩]) (.cond (.v 25) (.skip) (.exit 2))) (.seq (.block [4, 6, 7, 8] 3 (.seq (.seq (.ops [4, 6, 7, 8, 30] [
    ⟨some 28, none, .inl (.mov (.v 8))⟩,
    ⟨some 29, none, .inl (.bin .and (.v 28) (.c (.int .i64 1)))⟩,
    ⟨some 30, none, .inl (.bin .neq (.v 29) (.c (.int .i64 0)))⟩]) (.cond (.v 30) (.ops [4, 6, 7, 8] [
    ⟨some 31, none, .inl (.mov (.v 6))⟩,
    ⟨some 32, none, .inl (.mov (.v 7))⟩,
    ⟨some 33, none, .inl (.bin .mul (.v 31) (.v 32))⟩,
    ⟨some 6, none, .inl (.mov (.v 33))⟩]) (.skip))) (.ops [4, 6, 7, 8] [
    ⟨some 34, none, .inl (.mov (.v 7))⟩,
    ⟨some 35, none, .inl (.mov (.v 7))⟩,
    ⟨some 36, none, .inl (.bin .mul (.v 34) (.v 35))⟩,
    ⟨some 7, none, .inl (.mov (.v 36))⟩]))) (.ops [4, 6, 7, 8] [
    ⟨some 26, none, .inl (.mov (.v 8))⟩,
    ⟨some 27, none, .inl (.bin .shr (.v 26) (.c (.int .u64 1)))⟩,
    ⟨some 8, none, .inl (.mov (.v 27))⟩])))
def internal_bytealg_hashStr_string_l2 : Code := .loop [0, 4, 5] none (.seq (.seq (.ops [0, 4, 5, 12] [
    ⟨some 9, none, .inl (.mov (.v 5))⟩,
    ⟨some 10, none, .inl (.mov (.v 0))⟩,
    ⟨some 11, none, .inl (.len true (.v 10))⟩,
    ⟨some 12, none, .inl (.bin .lss (.v 9) (.v 11))⟩]) (.cond (.v 12) (.skip) (.exit 0))) (.seq (.block [0, 4, 5] 1 (.ops [0, 4, 5] [
    ⟨some 15, none, .inl (.mov (.v 4))⟩,
    ⟨some 16, none, .inl (.bin .mul (.v 15) (.c (.int .u32 16777619)))⟩,
    ⟨some 17, none, .inl (.mov (.v 0))⟩,
    ⟨some 18, none, .inl (.mov (.v 5))⟩,
    ⟨some 19, none, .inl (.idx (.v 17) (.v 18))⟩,
    ⟨some 20, none, .inl (.conv .u32 (.v 19))⟩,
    ⟨some 21, none, .inl (.bin .add (.v 16) (.v 20))⟩,
    ⟨some 4, none, .inl (.mov (.v 21))⟩])) (.ops [0, 4, 5] [
    ⟨some 13, none, .inl (.mov (.v 5))⟩,
    ⟨some 14, none, .inl (.bin .add (.v 13) (.c (.int .i64 1)))⟩,
    ⟨some 5, none, .inl (.mov (.v 14))⟩])))
def internal_bytealg_hashStr_string : AFn := ⟨1, [.slot 2, .slot 3],
  .seq (.ops [0] [
    ⟨some 2, none, .inl (.mov (.c (.int .u32 0)))⟩,
    ⟨some 3, none, .inl (.mov (.c (.int .u32 0)))⟩]) (.seq (.ops [0, 4] [
    ⟨some 4, none, .inl (.mov (.c (.int .u32 0)))⟩]) (.seq (.seq (.ops [0, 4, 5] [
    ⟨some 5, none, .inl (.mov (.c (.int .i64 0)))⟩]) (.block [0, 4] 0 (internal_bytealg_hashStr_string_l2))) (.seq (.ops [0, 4, 6, 7] [
    ⟨some 6, none, .inl (.mov (.c (.int .u32 1)))⟩,
    ⟨some 7, none, .inl (.mov (.c (.int .u32 16777619)))⟩]) (.seq (.seq (.ops [4, 6, 7, 8] [
    ⟨some 22, none, .inl (.mov (.v 0))⟩,
    ⟨some 23, none, .inl (.len true (.v 22))⟩,
    ⟨some 8, none, .inl (.mov (.v 23))⟩]) (.block [4, 6] 2 (internal_bytealg_hashStr_string_l1))) (.seq (.ops [2, 3] [
    ⟨some 37, none, .inl (.mov (.v 4))⟩,
    ⟨some 38, none, .inl (.mov (.v 6))⟩,
    ⟨some 2, none, .inl (.mov (.v 37))⟩,
    ⟨some 3, none, .inl (.mov (.v 38))⟩]) (.ret))))))⟩

def unicode_utf8_decodeRuneInStringSlow : AFn := ⟨1, [.slot 2, .slot 3],
  .seq (.ops [0] [
    ⟨some 2, none, .inl (.mov (.c (.int .i32 0)))⟩,
    ⟨some 3, none, .inl (.mov (.c (.int .i64 0)))⟩]) (.seq (.ops [0, 4] [
    ⟨some 13, none, .inl (.mov (.v 0))⟩,
    ⟨some 14, none, .inl (.len true (.v 13))⟩,
    ⟨some 4, none, .inl (.mov (.v 14))⟩]) (.seq (.seq (.ops [0, 4, 16] [
    ⟨some 15, none, .inl (.mov (.v 4))⟩,
    ⟨some 16, none, .inl (.bin .lss (.v 15) (.c (.int .i64 1)))⟩]) (.cond (.v 16) (.seq (.ops [2, 3] [
    ⟨some 2, none, .inl (.mov (.c (.int .i32 65533)))⟩,
    ⟨some 3, none, .inl (.mov (.c (.int .i64 0)))⟩]) (.ret)) (.skip))) (.seq (.ops [0, 4, 5] [
    ⟨some 17, none, .inl (.mov (.v 0))⟩,
    ⟨some 18, none, .inl (.idx (.v 17) (.c (.int .i64 0)))⟩,
    ⟨some 5, none, .inl (.mov (.v 18))⟩]) (.seq (.ops [0, 4, 5, 6] [
    ⟨some 19, none, .inl (.mov (.v 5))⟩,
    ⟨some 20, none, .inl (.iaddrA 1 256 (.g 81) (.v 19))⟩,
    ⟨some 21, none, .inl (.load 1 false (.v 20))⟩,
    ⟨some 6, none, .inl (.mov (.v 21))⟩]) (.seq (.seq (.ops [0, 4, 5, 6, 23] [
    ⟨some 22, none, .inl (.mov (.v 6))⟩,
    ⟨some 23, none, .inl (.bin .geq (.v 22) (.c (.int .u8 240)))⟩]) (.cond (.v 23) (.seq (.ops [0, 7] [
    ⟨some 24, none, .inl (.mov (.v 6))⟩,
    ⟨some 25, none, .inl (.conv .i32 (.v 24))⟩,
    ⟨some 26, none, .inl (.bin .shl (.v 25) (.c (.int .u64 31)))⟩,
    ⟨some 27, none, .inl (.bin .shr (.v 26) (.c (.int .u64 31)))⟩,
    ⟨some 7, none, .inl (.mov (.v 27))⟩]) (.seq (.ops [2, 3] [
    ⟨some 28, none, .inl (.mov (.v 0))⟩,
    ⟨some 29, none, .inl (.idx (.v 28) (.c (.int .i64 0)))⟩,
    ⟨some 30, none, .inl (.conv .i32 (.v 29))⟩,
    ⟨some 31, none, .inl (.mov (.v 7))⟩,
    ⟨some 32, none, .inl (.bin .andNot (.v 30) (.v 31))⟩,
    ⟨some 33, none, .inl (.mov (.v 7))⟩,
    ⟨some 34, none, .inl (.bin .and (.c (.int .i32 65533)) (.v 33))⟩,
    ⟨some 35, none, .inl (.bin .or (.v 32) (.v 34))⟩,
    ⟨some 2, none, .inl (.mov (.v 35))⟩,
    ⟨some 3, none, .inl (.mov (.c (.int .i64 1)))⟩]) (.ret))) (.skip))) (.seq (.ops [0, 4, 5, 6, 8] [
    ⟨some 36, none, .inl (.mov (.v 6))⟩,
    ⟨some 37, none, .inl (.bin .and (.v 36) (.c (.int .u8 7)))⟩,
    ⟨some 38, none, .inl (.conv .i64 (.v 37))⟩,
    ⟨some 8, none, .inl (.mov (.v 38))⟩]) (.seq (.ops [0, 4, 5, 8, 9] [
    ⟨some 39, none, .inl (.mov (.v 6))⟩,
    ⟨some 40, none, .inl (.bin .shr (.v 39) (.c (.int .u64 4)))⟩,
    ⟨some 41, none, .inl (.iaddrA 2 16 (.g 80) (.v 40))⟩,
    ⟨some 42, none, .inl (.load 2 true (.v 41))⟩,
    ⟨some 9, none, .inr (.alloc [.int .u8 0, .int .u8 0])⟩,
    ⟨none, none, .inr (.store 2 (.v 9) (.v 42))⟩]) (.seq (.seq (.ops [0, 5, 8, 9, 45] [
    ⟨some 43, none, .inl (.mov (.v 4))⟩,
    ⟨some 44, none, .inl (.mov (.v 8))⟩,
    ⟨some 45, none, .inl (.bin .lss (.v 43) (.v 44))⟩]) (.cond (.v 45) (.seq (.ops [2, 3] [
    ⟨some 2, none, .inl (.mov (.c (.int .i32 65533)))⟩,
    ⟨some 3, none, .inl (.mov (.c (.int .i64 1)))⟩]) (.ret)) (.skip))) (.seq (.ops [0, 5, 8, 9, 10] [
    ⟨some 46, none, .inl (.mov (.v 0))⟩,
    ⟨some 47, none, .inl (.idx (.v 46) (.c (.int .i64 1)))⟩,
    ⟨some 10, none, .inl (.mov (.v 47))⟩]) (.seq (.seq (.ops [0, 5, 8, 10, 57] [
    ⟨some 48, none, .inl (.mov (.v 10))⟩,
    ⟨some 49, none, .inl (.faddr 0 (.v 9))⟩,
    ⟨some 50, none, .inl (.load 1 false (.v 49))⟩,
    ⟨some 51, none, .inl (.bin .lss (.v 48) (.v 50))⟩,
    ⟨some 52, none, .inl (.mov (.v 51))⟩,
    ⟨some 53, (some (52, false)), .inl (.faddr 1 (.v 9))⟩,
    ⟨some 54, (some (52, false)), .inl (.load 1 false (.v 53))⟩,
    ⟨some 55, (some (52, false)), .inl (.mov (.v 10))⟩,
    ⟨some 56, (some (52, false)), .inl (.bin .lss (.v 54) (.v 55))⟩,
    ⟨some 57, none, .inl (.pick (.v 52) (.c (.bool true)) (.v 56))⟩]) (.cond (.v 57) (.seq (.ops [2, 3] [
    ⟨some 2, none, .inl (.mov (.c (.int .i32 65533)))⟩,
    ⟨some 3, none, .inl (.mov (.c (.int .i64 1)))⟩]) (.ret)) (.skip))) (.seq (.seq (.ops [0, 5, 8, 10, 59] [
    ⟨some 58, none, .inl (.mov (.v 8))⟩,
    ⟨some 59, none, .inl (.bin .leq (.v 58) (.c (.int .i64 2)))⟩]) (.cond (.v 59) (.seq (.ops [2, 3] [
    ⟨some 60, none, .inl (.mov (.v 5))⟩,
    ⟨some 61, none, .inl (.bin .and (.v 60) (.c (.int .u8 31)))⟩,
    ⟨some 62, none, .inl (.conv .i32 (.v 61))⟩,
    ⟨some 63, none, .inl (.bin .shl (.v 62) (.c (.int .u64 6)))⟩,
    ⟨some 64, none, .inl (.mov (.v 10))⟩,
    ⟨some 65, none, .inl (.bin .and (.v 64) (.c (.int .u8 63)))⟩,
    ⟨some 66, none, .inl (.conv .i32 (.v 65))⟩,
    ⟨some 67, none, .inl (.bin .or (.v 63) (.v 66))⟩,
    ⟨some 2, none, .inl (.mov (.v 67))⟩,
    ⟨some 3, none, .inl (.mov (.c (.int .i64 2)))⟩]) (.ret)) (.skip))) (.seq (.ops [0, 5, 8, 10, 11] [
    ⟨some 68, none, .inl (.mov (.v 0))⟩,
    ⟨some 69, none, .inl (.idx (.v 68) (.c (.int .i64 2)))⟩,
    ⟨some 11, none, .inl (.mov (.v 69))⟩]) (.seq (.seq (.ops [0, 5, 8, 10, 11, 75] [
    ⟨some 70, none, .inl (.mov (.v 11))⟩,
    ⟨some 71, none, .inl (.bin .lss (.v 70) (.c (.int .u8 128)))⟩,
    ⟨some 72, none, .inl (.mov (.v 71))⟩,
    ⟨some 73, (some (72, false)), .inl (.mov (.v 11))⟩,
    ⟨some 74, (some (72, false)), .inl (.bin .lss (.c (.int .u8 191)) (.v 73))⟩,
    ⟨some 75, none, .inl (.pick (.v 72) (.c (.bool true)) (.v 74))⟩]) (.cond (.v 75) (.seq (.ops [2, 3] [
    ⟨some 2, none, .inl (.mov (.c (.int .i32 65533)))⟩,
    ⟨some 3, none, .inl (.mov (.c (.int .i64 1)))⟩]) (.ret)) (.skip))) (.seq (.seq (.ops [0, 5, 10, 11, 77] [
    ⟨some 76, none, .inl (.mov (.v 8))⟩,
    ⟨some 77, none, .inl (.bin .leq (.v 76) (.c (.int .i64 3)))⟩]) (.cond (.v 77) (.seq (.ops [2, 3] [
    ⟨some 78, none, .inl (.mov (.v 5))⟩,
    ⟨some 79, none, .inl (.bin .and (.v 78) (.c (.int .u8 15)))⟩,
    ⟨some 80, none, .inl (.conv .i32 (.v 79))⟩,
    ⟨some 81, none, .inl (.bin .shl (.v 80) (.c (.int .u64 12)))⟩,
    ⟨some 82, none, .inl (.mov (.v 10))⟩,
    ⟨some 83, none, .inl (.bin .and (.v 82) (.c (.int .u8 63)))⟩,
    ⟨some 84, none, .inl (.conv .i32 (.v 83))⟩,
    ⟨some 85, none, .inl (.bin .shl (.v 84) (.c (.int .u64 6)))⟩,
    ⟨some 86, none, .inl (.bin .or (.v 81) (.v 85))⟩,
    ⟨some 87, none, .inl (.mov (.v 11))⟩,
    ⟨some 88, none, .inl (.bin .and (.v 87) (.c (.int .u8 63)))⟩,
    ⟨some 89, none, .inl (.conv .i32 (.v 88))⟩,
    ⟨some 90, none, .inl (.bin .or (.v 86) (.v 89))⟩,
    ⟨some 2, none, .inl (.mov (.v 90))⟩,
    ⟨some 3, none, .inl (.mov (.c (.int .i64 3)))⟩]) (.ret)) (.skip))) (.seq (.ops [5, 10, 11, 12] [
    ⟨some 91, none, .inl (.mov (.v 0))⟩,
    ⟨some 92, none, .inl (.idx (.v 91) (.c (.int .i64 3)))⟩,
    ⟨some 12, none, .inl (.mov (.v 92))⟩]) (.seq (.seq (.ops [5, 10, 11, 12, 98] [
    ⟨some 93, none, .inl (.mov (.v 12))⟩,
    ⟨some 94, none, .inl (.bin .lss (.v 93) (.c (.int .u8 128)))⟩,
    ⟨some 95, none, .inl (.mov (.v 94))⟩,
    ⟨some 96, (some (95, false)), .inl (.mov (.v 12))⟩,
    ⟨some 97, (some (95, false)), .inl (.bin .lss (.c (.int .u8 191)) (.v 96))⟩,
    ⟨some 98, none, .inl (.pick (.v 95) (.c (.bool true)) (.v 97))⟩]) (.cond (.v 98) (.seq (.ops [2, 3] [
    ⟨some 2, none, .inl (.mov (.c (.int .i32 65533)))⟩,
    ⟨some 3, none, .inl (.mov (.c (.int .i64 1)))⟩]) (.ret)) (.skip))) (.seq (.ops [2, 3] [
    ⟨some 99, none, .inl (.mov (.v 5))⟩,
    ⟨some 100, none, .inl (.bin .and (.v 99) (.c (.int .u8 7)))⟩,
    ⟨some 101, none, .inl (.conv .i32 (.v 100))⟩,
    ⟨some 102, none, .inl (.bin .shl (.v 101) (.c (.int .u64 18)))⟩,
    ⟨some 103, none, .inl (.mov (.v 10))⟩,
    ⟨some 104, none, .inl (.bin .and (.v 103) (.c (.int .u8 63)))⟩,
    ⟨some 105, none, .inl (.conv .i32 (.v 104))⟩,
    ⟨some 106, none, .inl (.bin .shl (.v 105) (.c (.int .u64 12)))⟩,
    ⟨some 107, none, .inl (.bin .or (.v 102) (.v 106))⟩,
    ⟨some 108, none, .inl (.mov (.v 11))⟩,
    ⟨some 109, none, .inl (.bin .and (.v 108) (.c (.int .u8 63)))⟩,
    ⟨some 110, none, .inl (.conv .i32 (.v 109))⟩,
    ⟨some 111, none, .inl (.bin .shl (.v 110) (.c (.int .u64 6)))⟩,
    ⟨some 112, none, .inl (.bin .or (.v 107) (.v 111))⟩,
    ⟨some 113, none, .inl (.mov (.v 12))⟩,
    ⟨some 114, none, .inl (.bin .and (.v 113) (.c (.int .u8 63)))⟩,
    ⟨some 115, none, .inl (.conv .i32 (.v 114))⟩,
    ⟨some 116, none, .inl (.bin .or (.v 112) (.v 115))⟩,
    ⟨some 2, none, .inl (.mov (.v 116))⟩,
    ⟨some 3, none, .inl (.mov (.c (.int .i64 4)))⟩]) (.ret))))))))))))))))))⟩

def internal_bytealg_IndexRabinKarp_string_l1 : Code := .loop [0, 1, 5, 6, 7, 8, 10] none (.seq (.seq (.ops [0, 1, 5, 6, 7, 8, 10, 44] [
    ⟨some 41, none, .inl (.mov (.v 10))⟩,
    ⟨some 42, none, .inl (.mov (.v 0))⟩,
    ⟨some 43, none, .inl (.len true (.v 42))⟩,
    ⟨some 44, none, .inl (.bin .lss (.v 41) (.v 43))⟩]) (.cond (.v 44) (.skip) (.exit 2))) (.block [0, 1, 5, 6, 7, 8, 10] 3 (.seq (.ops [0, 1, 5, 6, 7, 8, 10] [
    ⟨some 45, none, .inl (.mov (.v 8))⟩,
    ⟨some 46, none, .inl (.bin .mul (.v 45) (.c (.int .u32 16777619)))⟩,
    ⟨some 8, none, .inl (.mov (.v 46))⟩]) (.seq (.ops [0, 1, 5, 6, 7, 8, 10] [
    ⟨some 47, none, .inl (.mov (.v 8))⟩,
    ⟨some 48, none, .inl (.mov (.v 0))⟩,
    ⟨some 49, none, .inl (.mov (.v 10))⟩,
    ⟨some 50, none, .inl (.idx (.v 48) (.v 49))⟩,
    ⟨some 51, none, .inl (.conv .u32 (.v 50))⟩,
    ⟨some 52, none, .inl (.bin .add (.v 47) (.v 51))⟩,
    ⟨some 8, none, .inl (.mov (.v 52))⟩]) (.seq (.ops [0, 1, 5, 6, 7, 8, 10] [
    ⟨some 53, none, .inl (.mov (.v 8))⟩,
    ⟨some 54, none, .inl (.mov (.v 6))⟩,
    ⟨some 55, none, .inl (.mov (.v 0))⟩,
    ⟨some 56, none, .inl (.mov (.v 10))⟩,
    ⟨some 57, none, .inl (.mov (.v 7))⟩,
    ⟨some 58, none, .inl (.bin .sub (.v 56) (.v 57))⟩,
    ⟨some 59, none, .inl (.idx (.v 55) (.v 58))⟩,
    ⟨some 60, none, .inl (.conv .u32 (.v 59))⟩,
    ⟨some 61, none, .inl (.bin .mul (.v 54) (.v 60))⟩,
    ⟨some 62, none, .inl (.bin .sub (.v 53) (.v 61))⟩,
    ⟨some 8, none, .inl (.mov (.v 62))⟩]) (.seq (.ops [0, 1, 5, 6, 7, 8, 10] [
    ⟨some 63, none, .inl (.mov (.v 10))⟩,
    ⟨some 64, none, .inl (.bin .add (.v 63) (.c (.int .i64 1)))⟩,
    ⟨some 10, none, .inl (.mov (.v 64))⟩]) (.seq (.ops [0, 1, 5, 6, 7, 8, 10, 77] [
    ⟨some 65, none, .inl (.mov (.v 8))⟩,
    ⟨some 66, none, .inl (.mov (.v 5))⟩,
    ⟨some 67, none, .inl (.bin .eql (.v 65) (.v 66))⟩,
    ⟨some 68, none, .inl (.mov (.v 67))⟩,
    ⟨some 69, (some (68, true)), .inl (.mov (.v 0))⟩,
    ⟨some 70, (some (68, true)), .inl (.mov (.v 10))⟩,
    ⟨some 71, (some (68, true)), .inl (.mov (.v 7))⟩,
    ⟨some 72, (some (68, true)), .inl (.bin .sub (.v 70) (.v 71))⟩,
    ⟨some 73, (some (68, true)), .inl (.mov (.v 10))⟩,
    ⟨some 74, (some (68, true)), .inl (.sliceS (.v 69) (some (.v 72)) (some (.v 73)))⟩,
    ⟨some 75, (some (68, true)), .inl (.mov (.v 1))⟩,
    ⟨some 76, (some (68, true)), .inl (.bin .eql (.v 74) (.v 75))⟩,
    ⟨some 77, none, .inl (.pick (.v 68) (.v 76) (.c (.bool false)))⟩]) (.cond (.v 77) (.seq (.ops [4] [
    ⟨some 78, none, .inl (.mov (.v 10))⟩,
    ⟨some 79, none, .inl (.mov (.v 7))⟩,
    ⟨some 80, none, .inl (.bin .sub (.v 78) (.v 79))⟩,
    ⟨some 4, none, .inl (.mov (.v 80))⟩]) (.ret)) (.skip)))))))))
def internal_bytealg_IndexRabinKarp_string_l2 : Code := .loop [0, 1, 5, 6, 7, 8, 9] none (.seq (.seq (.ops [0, 1, 5, 6, 7, 8, 9, 20] [
    ⟨some 18, none, .inl (.mov (.v 9))⟩,
    ⟨some 19, none, .inl (.mov (.v 7))⟩,
    ⟨some 20, none, .inl (.bin .lss (.v 18) (.v 19))⟩]) (.cond (.v 20) (.skip) (.exit 0))) (.seq (.block [0, 1, 5, 6, 7, 8, 9] 1 (.ops [0, 1, 5, 6, 7, 8, 9] [
    ⟨some 23, none, .inl (.mov (.v 8))⟩,
    ⟨some 24, none, .inl (.bin .mul (.v 23) (.c (.int .u32 16777619)))⟩,
    ⟨some 25, none, .inl (.mov (.v 0))⟩,
    ⟨some 26, none, .inl (.mov (.v 9))⟩,
    ⟨some 27, none, .inl (.idx (.v 25) (.v 26))⟩,
    ⟨some 28, none, .inl (.conv .u32 (.v 27))⟩,
    ⟨some 29, none, .inl (.bin .add (.v 24) (.v 28))⟩,
    ⟨some 8, none, .inl (.mov (.v 29))⟩])) (.ops [0, 1, 5, 6, 7, 8, 9] [
    ⟨some 21, none, .inl (.mov (.v 9))⟩,
    ⟨some 22, none, .inl (.bin .add (.v 21) (.c (.int .i64 1)))⟩,
    ⟨some 9, none, .inl (.mov (.v 22))⟩])))
def internal_bytealg_IndexRabinKarp_string : AFn := ⟨2, [.slot 4],
  .seq (.ops [0, 1] [
    ⟨some 4, none, .inl (.mov (.c (.int .i64 0)))⟩]) (.seq (.ops [0, 1, 5, 6] [
    ⟨some 12, none, .inl (.mov (.v 1))⟩,
    ⟨some 13, none, .inl (.call (.f 82) [(.v 12)])⟩,
    ⟨some 11, none, .inl (.mov (.v 13))⟩,
    ⟨some 14, none, .inl (.ext (.v 11) 0)⟩,
    ⟨some 15, none, .inl (.ext (.v 11) 1)⟩,
    ⟨some 5, none, .inl (.mov (.v 14))⟩,
    ⟨some 6, none, .inl (.mov (.v 15))⟩]) (.seq (.ops [0, 1, 5, 6, 7] [
    ⟨some 16, none, .inl (.mov (.v 1))⟩,
    ⟨some 17, none, .inl (.len true (.v 16))⟩,
    ⟨some 7, none, .inl (.mov (.v 17))⟩]) (.seq (.ops [0, 1, 5, 6, 7, 8] [
    ⟨some 8, none, .inl (.mov (.c (.int .u32 0)))⟩]) (.seq (.seq (.ops [0, 1, 5, 6, 7, 8, 9] [
    ⟨some 9, none, .inl (.mov (.c (.int .i64 0)))⟩]) (.block [0, 1, 5, 6, 7, 8] 0 (internal_bytealg_IndexRabinKarp_string_l2))) (.seq (.seq (.ops [0, 1, 5, 6, 7, 8, 39] [
    ⟨some 30, none, .inl (.mov (.v 8))⟩,
    ⟨some 31, none, .inl (.mov (.v 5))⟩,
    ⟨some 32, none, .inl (.bin .eql (.v 30) (.v 31))⟩,
    ⟨some 33, none, .inl (.mov (.v 32))⟩,
    ⟨some 34, (some (33, true)), .inl (.mov (.v 0))⟩,
    ⟨some 35, (some (33, true)), .inl (.mov (.v 7))⟩,
    ⟨some 36, (some (33, true)), .inl (.sliceS (.v 34) none (some (.v 35)))⟩,
    ⟨some 37, (some (33, true)), .inl (.mov (.v 1))⟩,
    ⟨some 38, (some (33, true)), .inl (.bin .eql (.v 36) (.v 37))⟩,
    ⟨some 39, none, .inl (.pick (.v 33) (.v 38) (.c (.bool false)))⟩]) (.cond (.v 39) (.seq (.ops [4] [
    ⟨some 4, none, .inl (.mov (.c (.int .i64 0)))⟩]) (.ret)) (.skip))) (.seq (.seq (.ops [0, 1, 5, 6, 7, 8, 10] [
    ⟨some 40, none, .inl (.mov (.v 7))⟩,
    ⟨some 10, none, .inl (.mov (.v 40))⟩]) (.block [] 2 (internal_bytealg_IndexRabinKarp_string_l1))) (.seq (.ops [4] [
    ⟨some 4, none, .inl (.mov (.c (.int .i64 (-1))))⟩]) (.ret))))))))⟩

def unicode_utf8_DecodeRuneInString : AFn := ⟨1, [.slot 2, .slot 3],
  .seq (.ops [0] [
    ⟨some 2, none, .inl (.mov (.c (.int .i32 0)))⟩,
    ⟨some 3, none, .inl (.mov (.c (.int .i64 0)))⟩]) (.seq (.seq (.ops [0, 10] [
    ⟨some 4, none, .inl (.mov (.v 0))⟩,
    ⟨some 5, none, .inl (.bin .neq (.v 4) (.c (.str [])))⟩,
    ⟨some 6, none, .inl (.mov (.v 5))⟩,
    ⟨some 7, (some (6, true)), .inl (.mov (.v 0))⟩,
    ⟨some 8, (some (6, true)), .inl (.idx (.v 7) (.c (.int .i64 0)))⟩,
    ⟨some 9, (some (6, true)), .inl (.bin .lss (.v 8) (.c (.int .u8 128)))⟩,
    ⟨some 10, none, .inl (.pick (.v 6) (.v 9) (.c (.bool false)))⟩]) (.cond (.v 10) (.seq (.ops [2, 3] [
    ⟨some 11, none, .inl (.mov (.v 0))⟩,
    ⟨some 12, none, .inl (.idx (.v 11) (.c (.int .i64 0)))⟩,
    ⟨some 13, none, .inl (.conv .i32 (.v 12))⟩,
    ⟨some 2, none, .inl (.mov (.v 13))⟩,
    ⟨some 3, none, .inl (.mov (.c (.int .i64 1)))⟩]) (.ret)) (.ops [2, 3] [
    ⟨some 15, none, .inl (.mov (.v 0))⟩,
    ⟨some 16, none, .inl (.call (.f 75) [(.v 15)])⟩,
    ⟨some 14, none, .inl (.mov (.v 16))⟩,
    ⟨some 17, none, .inl (.ext (.v 14) 0)⟩,
    ⟨some 18, none, .inl (.ext (.v 14) 1)⟩,
    ⟨some 2, none, .inl (.mov (.v 17))⟩,
    ⟨some 3, none, .inl (.mov (.v 18))⟩]))) (.ret))⟩

def internal_stringslite_Index_l1 : Code := .loop [0, 1, 5, 6, 7, 8, 9, 10] none (.seq (.seq (.ops [0, 1, 5, 6, 7, 8, 9, 10, 59] [
    ⟨some 57, none, .inl (.mov (.v 8))⟩,
    ⟨some 58, none, .inl (.mov (.v 9))⟩,
    ⟨some 59, none, .inl (.bin .lss (.v 57) (.v 58))⟩]) (.cond (.v 59) (.skip) (.exit 1))) (.block [0, 1, 5, 6, 7, 8, 9, 10] 2 (.seq (.seq (.ops [0, 1, 5, 6, 7, 8, 9, 10, 64] [
    ⟨some 60, none, .inl (.mov (.v 0))⟩,
    ⟨some 61, none, .inl (.mov (.v 8))⟩,
    ⟨some 62, none, .inl (.idx (.v 60) (.v 61))⟩,
    ⟨some 63, none, .inl (.mov (.v 6))⟩,
    ⟨some 64, none, .inl (.bin .neq (.v 62) (.v 63))⟩]) (.cond (.v 64) (.seq (.ops [0, 1, 5, 6, 7, 8, 9, 10, 11] [
    ⟨some 65, none, .inl (.mov (.v 0))⟩,
    ⟨some 66, none, .inl (.mov (.v 8))⟩,
    ⟨some 67, none, .inl (.bin .add (.v 66) (.c (.int .i64 1)))⟩,
    ⟨some 68, none, .inl (.mov (.v 9))⟩,
    ⟨some 69, none, .inl (.sliceS (.v 65) (some (.v 67)) (some (.v 68)))⟩,
    ⟨some 70, none, .inl (.mov (.v 6))⟩,
    ⟨some 71, none, .inl (.call (.f 64) [(.v 69), (.v 70)])⟩,
    ⟨some 11, none, .inl (.mov (.v 71))⟩]) (.seq (.seq (.ops [0, 1, 5, 6, 7, 8, 9, 10, 11, 73] [
    ⟨some 72, none, .inl (.mov (.v 11))⟩,
    ⟨some 73, none, .inl (.bin .lss (.v 72) (.c (.int .i64 0)))⟩]) (.cond (.v 73) (.seq (.ops [4] [
    ⟨some 4, none, .inl (.mov (.c (.int .i64 (-1))))⟩]) (.ret)) (.skip))) (.ops [0, 1, 5, 6, 7, 8, 9, 10] [
    ⟨some 74, none, .inl (.mov (.v 8))⟩,
    ⟨some 75, none, .inl (.mov (.v 11))⟩,
    ⟨some 76, none, .inl (.bin .add (.v 75) (.c (.int .i64 1)))⟩,
    ⟨some 77, none, .inl (.bin .add (.v 74) (.v 76))⟩,
    ⟨some 8, none, .inl (.mov (.v 77))⟩]))) (.skip))) (.seq (.seq (.ops [0, 1, 5, 6, 7, 8, 9, 10, 93] [
    ⟨some 78, none, .inl (.mov (.v 0))⟩,
    ⟨some 79, none, .inl (.mov (.v 8))⟩,
    ⟨some 80, none, .inl (.bin .add (.v 79) (.c (.int .i64 1)))⟩,
    ⟨some 81, none, .inl (.idx (.v 78) (.v 80))⟩,
    ⟨some 82, none, .inl (.mov (.v 7))⟩,
    ⟨some 83, none, .inl (.bin .eql (.v 81) (.v 82))⟩,
    ⟨some 84, none, .inl (.mov (.v 83))⟩,
    ⟨some 85, (some (84, true)), .inl (.mov (.v 0))⟩,
    ⟨some 86, (some (84, true)), .inl (.mov (.v 8))⟩,
    ⟨some 87, (some (84, true)), .inl (.mov (.v 8))⟩,
    ⟨some 88, (some (84, true)), .inl (.mov (.v 5))⟩,
    ⟨some 89, (some (84, true)), .inl (.bin .add (.v 87) (.v 88))⟩,
    ⟨some 90, (some (84, true)), .inl (.sliceS (.v 85) (some (.v 86)) (some (.v 89)))⟩,
    ⟨some 91, (some (84, true)), .inl (.mov (.v 1))⟩,
    ⟨some 92, (some (84, true)), .inl (.bin .eql (.v 90) (.v 91))⟩,
    ⟨some 93, none, .inl (.pick (.v 84) (.v 92) (.c (.bool false)))⟩]) (.cond (.v 93) (.seq (.ops [4] [
    ⟨some 94, none, .inl (.mov (.v 8))⟩,
    ⟨some 4, none, .inl (.mov (.v 94))⟩]) (.ret)) (.skip))) (.seq (.ops [0, 1, 5, 6, 7, 8, 9, 10] [
    ⟨some 95, none, .inl (.mov (.v 8))⟩,
    ⟨some 96, none, .inl (.bin .add (.v 95) (.c (.int .i64 1)))⟩,
    ⟨some 8, none, .inl (.mov (.v 96))⟩]) (.seq (.ops [0, 1, 5, 6, 7, 8, 9, 10] [
    ⟨some 97, none, .inl (.mov (.v 10))⟩,
    ⟨some 98, none, .inl (.bin .add (.v 97) (.c (.int .i64 1)))⟩,
    ⟨some 10, none, .inl (.mov (.v 98))⟩]) (.seq (.ops [0, 1, 5, 6, 7, 8, 9, 10, 107] [
    ⟨some 99, none, .inl (.mov (.v 5))⟩,
    ⟨some 100, none, .inl (.load 1 false (.g 78))⟩,
    ⟨some 101, none, .inl (.bin .leq (.v 99) (.v 100))⟩,
    ⟨some 102, none, .inl (.mov (.v 101))⟩,
    ⟨some 103, (some (102, true)), .inl (.mov (.v 10))⟩,
    ⟨some 104, (some (102, true)), .inl (.mov (.v 8))⟩,
    ⟨some 105, (some (102, true)), .inl (.call (.f 79) [(.v 104)])⟩,
    ⟨some 106, (some (102, true)), .inl (.bin .gtr (.v 103) (.v 105))⟩,
    ⟨some 107, none, .inl (.pick (.v 102) (.v 106) (.c (.bool false)))⟩]) (.cond (.v 107) (.seq (.ops [8, 12] [
    ⟨some 108, none, .inl (.mov (.v 0))⟩,
    ⟨some 109, none, .inl (.mov (.v 8))⟩,
    ⟨some 110, none, .inl (.sliceS (.v 108) (some (.v 109)) none)⟩,
    ⟨some 111, none, .inl (.mov (.v 1))⟩,
    ⟨some 112, none, .inl (.call (.f 76) [(.v 110), (.v 111)])⟩,
    ⟨some 12, none, .inl (.mov (.v 112))⟩]) (.seq (.seq (.ops [8, 12, 114] [
    ⟨some 113, none, .inl (.mov (.v 12))⟩,
    ⟨some 114, none, .inl (.bin .geq (.v 113) (.c (.int .i64 0)))⟩]) (.cond (.v 114) (.seq (.ops [4] [
    ⟨some 115, none, .inl (.mov (.v 12))⟩,
    ⟨some 116, none, .inl (.mov (.v 8))⟩,
    ⟨some 117, none, .inl (.bin .add (.v 115) (.v 116))⟩,
    ⟨some 4, none, .inl (.mov (.v 117))⟩]) (.ret)) (.skip))) (.seq (.ops [4] [
    ⟨some 4, none, .inl (.mov (.c (.int .i64 (-1))))⟩]) (.ret)))) (.seq (.ops [0, 1, 5, 6, 7, 8, 9, 10, 132] [
    ⟨some 118, none, .inl (.mov (.v 5))⟩,
    ⟨some 119, none, .inl (.load 1 false (.g 78))⟩,
    ⟨some 120, none, .inl (.bin .gtr (.v 118) (.v 119))⟩,
    ⟨some 121, none, .inl (.mov (.v 120))⟩,
    ⟨some 122, (some (121, true)), .inl (.mov (.v 10))⟩,
    ⟨some 123, (some (121, true)), .inl (.mov (.v 8))⟩,
    ⟨some 124, (some (121, true)), .inl (.bin .shr (.v 123) (.c (.int .u64 4)))⟩,
    ⟨some 125, (some (121, true)), .inl (.bin .add (.c (.int .i64 4)) (.v 124))⟩,
    ⟨some 126, (some (121, true)), .inl (.bin .geq (.v 122) (.v 125))⟩,
    ⟨some 127, none, .inl (.pick (.v 121) (.v 126) (.c (.bool false)))⟩,
    ⟨some 128, none, .inl (.mov (.v 127))⟩,
    ⟨some 129, (some (128, true)), .inl (.mov (.v 8))⟩,
    ⟨some 130, (some (128, true)), .inl (.mov (.v 9))⟩,
    ⟨some 131, (some (128, true)), .inl (.bin .lss (.v 129) (.v 130))⟩,
    ⟨some 132, none, .inl (.pick (.v 128) (.v 131) (.c (.bool false)))⟩]) (.cond (.v 132) (.seq (.ops [8, 13] [
    ⟨some 133, none, .inl (.mov (.v 0))⟩,
    ⟨some 134, none, .inl (.mov (.v 8))⟩,
    ⟨some 135, none, .inl (.sliceS (.v 133) (some (.v 134)) none)⟩,
    ⟨some 136, none, .inl (.mov (.v 1))⟩,
    ⟨some 137, none, .inl (.call (.f 77) [(.v 135), (.v 136)])⟩,
    ⟨some 13, none, .inl (.mov (.v 137))⟩]) (.seq (.seq (.ops [8, 13, 139] [
    ⟨some 138, none, .inl (.mov (.v 13))⟩,
    ⟨some 139, none, .inl (.bin .lss (.v 138) (.c (.int .i64 0)))⟩]) (.cond (.v 139) (.seq (.ops [4] [
    ⟨some 4, none, .inl (.mov (.c (.int .i64 (-1))))⟩]) (.ret)) (.skip))) (.seq (.ops [4] [
    ⟨some 140, none, .inl (.mov (.v 8))⟩,
    ⟨some 141, none, .inl (.mov (.v 13))⟩,
    ⟨some 142, none, .inl (.bin .add (.v 140) (.v 141))⟩,
    ⟨some 4, none, .inl (.mov (.v 142))⟩]) (.ret)))) (.skip)))))))))))
def internal_stringslite_Index : AFn := ⟨2, [.slot 4],
  .seq (.ops [0, 1] [
    ⟨some 4, none, .inl (.mov (.c (.int .i64 0)))⟩]) (.seq (.ops [0, 1, 5] [
    ⟨some 14, none, .inl (.mov (.v 1))⟩,
    ⟨some 15, none, .inl (.len true (.v 14))⟩,
    ⟨some 5, none, .inl (.mov (.v 15))⟩]) (.seq (.block [0, 1, 5] 0 (.seq (.ops [0, 1, 5, 16] [
    ⟨some 17, none, .inl (.mov (.v 5))⟩,
    ⟨some 18, none, .inl (.bin .eql (.v 17) (.c (.int .i64 0)))⟩,
    ⟨some 19, none, .inl (.mov (.v 18))⟩,
    ⟨some 20, (some (19, false)), .inl (.mov (.v 1))⟩,
    ⟨some 21, (some (19, false)), .inl (.mov (.v 0))⟩,
    ⟨some 22, (some (19, false)), .inl (.bin .eql (.v 20) (.v 21))⟩,
    ⟨some 23, none, .inl (.pick (.v 19) (.c (.bool true)) (.v 22))⟩,
    ⟨some 16, none, .inl (.mov (.v 23))⟩]) (.cond (.v 16) (.seq (.ops [4] [
    ⟨some 4, none, .inl (.mov (.c (.int .i64 0)))⟩]) (.ret)) (.seq (.ops [0, 1, 5, 24] [
    ⟨some 25, none, .inl (.mov (.v 5))⟩,
    ⟨some 26, none, .inl (.bin .eql (.v 25) (.c (.int .i64 1)))⟩,
    ⟨some 24, none, .inl (.mov (.v 26))⟩]) (.cond (.v 24) (.seq (.ops [4] [
    ⟨some 27, none, .inl (.mov (.v 0))⟩,
    ⟨some 28, none, .inl (.mov (.v 1))⟩,
    ⟨some 29, none, .inl (.idx (.v 28) (.c (.int .i64 0)))⟩,
    ⟨some 30, none, .inl (.call (.f 64) [(.v 27), (.v 29)])⟩,
    ⟨some 4, none, .inl (.mov (.v 30))⟩]) (.ret)) (.seq (.ops [0, 1, 5, 31] [
    ⟨some 32, none, .inl (.mov (.v 5))⟩,
    ⟨some 33, none, .inl (.mov (.v 0))⟩,
    ⟨some 34, none, .inl (.len true (.v 33))⟩,
    ⟨some 35, none, .inl (.bin .geq (.v 32) (.v 34))⟩,
    ⟨some 31, none, .inl (.mov (.v 35))⟩]) (.cond (.v 31) (.seq (.ops [4] [
    ⟨some 4, none, .inl (.mov (.c (.int .i64 (-1))))⟩]) (.ret)) (.seq (.ops [0, 1, 5, 36] [
    ⟨some 37, none, .inl (.mov (.v 5))⟩,
    ⟨some 38, none, .inl (.load 1 false (.g 78))⟩,
    ⟨some 39, none, .inl (.bin .leq (.v 37) (.v 38))⟩,
    ⟨some 40, none, .inl (.mov (.v 39))⟩,
    ⟨some 41, (some (40, true)), .inl (.mov (.v 0))⟩,
    ⟨some 42, (some (40, true)), .inl (.len true (.v 41))⟩,
    ⟨some 43, (some (40, true)), .inl (.bin .leq (.v 42) (.c (.int .i64 64)))⟩,
    ⟨some 44, none, .inl (.pick (.v 40) (.v 43) (.c (.bool false)))⟩,
    ⟨some 36, none, .inl (.mov (.v 44))⟩]) (.cond (.v 36) (.seq (.ops [4] [
    ⟨some 45, none, .inl (.mov (.v 0))⟩,
    ⟨some 46, none, .inl (.mov (.v 1))⟩,
    ⟨some 47, none, .inl (.call (.f 76) [(.v 45), (.v 46)])⟩,
    ⟨some 4, none, .inl (.mov (.v 47))⟩]) (.ret)) (.skip)))))))))) (.seq (.ops [0, 1, 5, 6] [
    ⟨some 48, none, .inl (.mov (.v 1))⟩,
    ⟨some 49, none, .inl (.idx (.v 48) (.c (.int .i64 0)))⟩,
    ⟨some 6, none, .inl (.mov (.v 49))⟩]) (.seq (.ops [0, 1, 5, 6, 7] [
    ⟨some 50, none, .inl (.mov (.v 1))⟩,
    ⟨some 51, none, .inl (.idx (.v 50) (.c (.int .i64 1)))⟩,
    ⟨some 7, none, .inl (.mov (.v 51))⟩]) (.seq (.ops [0, 1, 5, 6, 7, 8] [
    ⟨some 8, none, .inl (.mov (.c (.int .i64 0)))⟩]) (.seq (.ops [0, 1, 5, 6, 7, 8, 9] [
    ⟨some 52, none, .inl (.mov (.v 0))⟩,
    ⟨some 53, none, .inl (.len true (.v 52))⟩,
    ⟨some 54, none, .inl (.mov (.v 5))⟩,
    ⟨some 55, none, .inl (.bin .sub (.v 53) (.v 54))⟩,
    ⟨some 56, none, .inl (.bin .add (.v 55) (.c (.int .i64 1)))⟩,
    ⟨some 9, none, .inl (.mov (.v 56))⟩]) (.seq (.ops [0, 1, 5, 6, 7, 8, 9, 10] [
    ⟨some 10, none, .inl (.mov (.c (.int .i64 0)))⟩]) (.seq (.block [] 1 (internal_stringslite_Index_l1)) (.seq (.ops [4] [
    ⟨some 4, none, .inl (.mov (.c (.int .i64 (-1))))⟩]) (.ret))))))))))⟩

def unicode_utf8_RuneCountInString_l1 : Code := .loop [2, 4] none (.seq (.ops [2, 4, 6] [
    ⟨some 5, none, .inr (.next (.v 4))⟩,
    ⟨some 6, none, .inl (.ext (.v 5) 0)⟩]) (.seq (.cond (.v 6) (.skip) (.exit 0)) (.block [2, 4] 1 (.ops [2, 4] [
    ⟨some 7, none, .inl (.mov (.v 2))⟩,
    ⟨some 8, none, .inl (.bin .add (.v 7) (.c (.int .i64 1)))⟩,
    ⟨some 2, none, .inl (.mov (.v 8))⟩]))))
def unicode_utf8_RuneCountInString : AFn := ⟨1, [.slot 2],
  .seq (.ops [0, 2] [
    ⟨some 2, none, .inl (.mov (.c (.int .i64 0)))⟩]) (.seq (.seq (.ops [2, 4] [
    ⟨some 3, none, .inl (.mov (.v 0))⟩,
    ⟨some 4, none, .inr (.range (.v 3))⟩]) (.block [2] 0 (unicode_utf8_RuneCountInString_l1))) (.seq (.ops [2] [
    ⟨some 9, none, .inl (.mov (.v 2))⟩,
    ⟨some 2, none, .inl (.mov (.v 9))⟩]) (.ret)))⟩

def strings_explode_l1 : Code := .loop [0, 1, 6, 7] none (.seq (.seq (.ops [0, 1, 6, 7, 25] [
    ⟨some 22, none, .inl (.mov (.v 7))⟩,
    ⟨some 23, none, .inl (.mov (.v 1))⟩,
    ⟨some 24, none, .inl (.bin .sub (.v 23) (.c (.int .i64 1)))⟩,
    ⟨some 25, none, .inl (.bin .lss (.v 22) (.v 24))⟩]) (.cond (.v 25) (.skip) (.exit 0))) (.seq (.block [0, 1, 6, 7] 1 (.seq (.ops [0, 1, 6, 7, 9] [
    ⟨some 29, none, .inl (.mov (.v 0))⟩,
    ⟨some 30, none, .inl (.call (.f 71) [(.v 29)])⟩,
    ⟨some 28, none, .inl (.mov (.v 30))⟩,
    ⟨some 31, none, .inl (.ext (.v 28) 0)⟩,
    ⟨some 32, none, .inl (.ext (.v 28) 1)⟩,
    ⟨some 8, none, .inl (.mov (.v 31))⟩,
    ⟨some 9, none, .inl (.mov (.v 32))⟩]) (.seq (.ops [0, 1, 6, 7, 9] [
    ⟨some 33, none, .inl (.mov (.v 6))⟩,
    ⟨some 34, none, .inl (.mov (.v 7))⟩,
    ⟨some 35, none, .inl (.mov (.v 0))⟩,
    ⟨some 36, none, .inl (.mov (.v 9))⟩,
    ⟨some 37, none, .inl (.sliceS (.v 35) none (some (.v 36)))⟩,
    ⟨some 38, none, .inl (.iaddr 1 (.v 33) (.v 34))⟩,
    ⟨none, none, .inr (.store 1 (.v 38) (.v 37))⟩]) (.ops [0, 1, 6, 7] [
    ⟨some 39, none, .inl (.mov (.v 0))⟩,
    ⟨some 40, none, .inl (.mov (.v 9))⟩,
    ⟨some 41, none, .inl (.sliceS (.v 39) (some (.v 40)) none)⟩,
    ⟨some 0, none, .inl (.mov (.v 41))⟩])))) (.ops [0, 1, 6, 7] [
    ⟨some 26, none, .inl (.mov (.v 7))⟩,
    ⟨some 27, none, .inl (.bin .add (.v 26) (.c (.int .i64 1)))⟩,
    ⟨some 7, none, .inl (.mov (.v 27))⟩])))
def strings_explode : AFn := ⟨2, [.slot 4],
  .seq (.ops [0, 1] [
    ⟨some 4, none, .inl (.mov (.c (.sl .nil 1 [])))⟩]) (.seq (.ops [0, 1, 5] [
    ⟨some 10, none, .inl (.mov (.v 0))⟩,
    ⟨some 11, none, .inl (.call (.f 72) [(.v 10)])⟩,
    ⟨some 5, none, .inl (.mov (.v 11))⟩]) (.seq (.seq (.ops [0, 1, 5, 18] [
    ⟨some 12, none, .inl (.mov (.v 1))⟩,
    ⟨some 13, none, .inl (.bin .lss (.v 12) (.c (.int .i64 0)))⟩,
    ⟨some 14, none, .inl (.mov (.v 13))⟩,
    ⟨some 15, (some (14, false)), .inl (.mov (.v 1))⟩,
    ⟨some 16, (some (14, false)), .inl (.mov (.v 5))⟩,
    ⟨some 17, (some (14, false)), .inl (.bin .gtr (.v 15) (.v 16))⟩,
    ⟨some 18, none, .inl (.pick (.v 14) (.c (.bool true)) (.v 17))⟩]) (.cond (.v 18) (.ops [0, 1] [
    ⟨some 19, none, .inl (.mov (.v 5))⟩,
    ⟨some 1, none, .inl (.mov (.v 19))⟩]) (.skip))) (.seq (.ops [0, 1, 6] [
    ⟨some 20, none, .inl (.mov (.v 1))⟩,
    ⟨some 21, none, .inr (.mkslice 1 false [.str []] (.v 20) (.v 20))⟩,
    ⟨some 6, none, .inl (.mov (.v 21))⟩]) (.seq (.seq (.ops [0, 1, 6, 7] [
    ⟨some 7, none, .inl (.mov (.c (.int .i64 0)))⟩]) (.block [0, 1, 6] 0 (strings_explode_l1))) (.seq (.seq (.ops [0, 1, 6, 43] [
    ⟨some 42, none, .inl (.mov (.v 1))⟩,
    ⟨some 43, none, .inl (.bin .gtr (.v 42) (.c (.int .i64 0)))⟩]) (.cond (.v 43) (.ops [6] [
    ⟨some 44, none, .inl (.mov (.v 6))⟩,
    ⟨some 45, none, .inl (.mov (.v 1))⟩,
    ⟨some 46, none, .inl (.bin .sub (.v 45) (.c (.int .i64 1)))⟩,
    ⟨some 47, none, .inl (.mov (.v 0))⟩,
    ⟨some 48, none, .inl (.iaddr 1 (.v 44) (.v 46))⟩,
    ⟨none, none, .inr (.store 1 (.v 48) (.v 47))⟩]) (.skip))) (.seq (.ops [4] [
    ⟨some 49, none, .inl (.mov (.v 6))⟩,
    ⟨some 4, none, .inl (.mov (.v 49))⟩]) (.ret)))))))⟩

def strings_Index : AFn := ⟨2, [.slot 4],
  .seq (.ops [0, 1] [
    ⟨some 4, none, .inl (.mov (.c (.int .i64 0)))⟩]) (.seq (.ops [4] [
    ⟨some 5, none, .inl (.mov (.v 0))⟩,
    ⟨some 6, none, .inl (.mov (.v 1))⟩,
    ⟨some 7, none, .inl (.call (.f 74) [(.v 5), (.v 6)])⟩,
    ⟨some 4, none, .inl (.mov (.v 7))⟩]) (.ret))⟩

def strings_Count_l1 : Code := .loop [0, 1, 5] none (.block [0, 1, 5] 1 (.seq (.ops [0, 1, 5, 6] [
    ⟨some 20, none, .inl (.mov (.v 0))⟩,
    ⟨some 21, none, .inl (.mov (.v 1))⟩,
    ⟨some 22, none, .inl (.call (.f 67) [(.v 20), (.v 21)])⟩,
    ⟨some 6, none, .inl (.mov (.v 22))⟩]) (.seq (.seq (.ops [0, 1, 5, 6, 24] [
    ⟨some 23, none, .inl (.mov (.v 6))⟩,
    ⟨some 24, none, .inl (.bin .eql (.v 23) (.c (.int .i64 (-1))))⟩]) (.cond (.v 24) (.seq (.ops [4] [
    ⟨some 25, none, .inl (.mov (.v 5))⟩,
    ⟨some 4, none, .inl (.mov (.v 25))⟩]) (.ret)) (.skip))) (.seq (.ops [0, 1, 5, 6] [
    ⟨some 26, none, .inl (.mov (.v 5))⟩,
    ⟨some 27, none, .inl (.bin .add (.v 26) (.c (.int .i64 1)))⟩,
    ⟨some 5, none, .inl (.mov (.v 27))⟩]) (.ops [0, 1, 5] [
    ⟨some 28, none, .inl (.mov (.v 0))⟩,
    ⟨some 29, none, .inl (.mov (.v 6))⟩,
    ⟨some 30, none, .inl (.mov (.v 1))⟩,
    ⟨some 31, none, .inl (.len true (.v 30))⟩,
    ⟨some 32, none, .inl (.bin .add (.v 29) (.v 31))⟩,
    ⟨some 33, none, .inl (.sliceS (.v 28) (some (.v 32)) none)⟩,
    ⟨some 0, none, .inl (.mov (.v 33))⟩])))))
def strings_Count : AFn := ⟨2, [.slot 4],
  .seq (.ops [0, 1] [
    ⟨some 4, none, .inl (.mov (.c (.int .i64 0)))⟩]) (.seq (.seq (.ops [0, 1, 9] [
    ⟨some 7, none, .inl (.mov (.v 1))⟩,
    ⟨some 8, none, .inl (.len true (.v 7))⟩,
    ⟨some 9, none, .inl (.bin .eql (.v 8) (.c (.int .i64 0)))⟩]) (.cond (.v 9) (.seq (.ops [4] [
    ⟨some 10, none, .inl (.mov (.v 0))⟩,
    ⟨some 11, none, .inl (.call (.f 72) [(.v 10)])⟩,
    ⟨some 12, none, .inl (.bin .add (.v 11) (.c (.int .i64 1)))⟩,
    ⟨some 4, none, .inl (.mov (.v 12))⟩]) (.ret)) (.skip))) (.seq (.seq (.ops [0, 1, 15] [
    ⟨some 13, none, .inl (.mov (.v 1))⟩,
    ⟨some 14, none, .inl (.len true (.v 13))⟩,
    ⟨some 15, none, .inl (.bin .eql (.v 14) (.c (.int .i64 1)))⟩]) (.cond (.v 15) (.seq (.ops [4] [
    ⟨some 16, none, .inl (.mov (.v 0))⟩,
    ⟨some 17, none, .inl (.mov (.v 1))⟩,
    ⟨some 18, none, .inl (.idx (.v 17) (.c (.int .i64 0)))⟩,
    ⟨some 19, none, .inl (.call (.f 73) [(.v 16), (.v 18)])⟩,
    ⟨some 4, none, .inl (.mov (.v 19))⟩]) (.ret)) (.skip))) (.seq (.ops [0, 1, 5] [
    ⟨some 5, none, .inl (.mov (.c (.int .i64 0)))⟩]) (.block [4] 0 (strings_Count_l1)))))⟩

def unicode_utf8_ValidRune : AFn := ⟨1, [.slot 2],
  .seq (.ops [0] [
    ⟨some 2, none, .inl (.mov (.c (.bool false)))⟩]) (.seq (.block [] 0 (.seq (.ops [0, 3] [
    ⟨some 4, none, .inl (.mov (.v 0))⟩,
    ⟨some 5, none, .inl (.bin .leq (.c (.int .i32 0)) (.v 4))⟩,
    ⟨some 6, none, .inl (.mov (.v 5))⟩,
    ⟨some 7, (some (6, true)), .inl (.mov (.v 0))⟩,
    ⟨some 8, (some (6, true)), .inl (.bin .lss (.v 7) (.c (.int .i32 55296)))⟩,
    ⟨some 9, none, .inl (.pick (.v 6) (.v 8) (.c (.bool false)))⟩,
    ⟨some 3, none, .inl (.mov (.v 9))⟩]) (.cond (.v 3) (.seq (.ops [2] [
    ⟨some 2, none, .inl (.mov (.c (.bool true)))⟩]) (.ret)) (.seq (.ops [10] [
    ⟨some 11, none, .inl (.mov (.v 0))⟩,
    ⟨some 12, none, .inl (.bin .lss (.c (.int .i32 57343)) (.v 11))⟩,
    ⟨some 13, none, .inl (.mov (.v 12))⟩,
    ⟨some 14, (some (13, true)), .inl (.mov (.v 0))⟩,
    ⟨some 15, (some (13, true)), .inl (.bin .leq (.v 14) (.c (.int .i32 1114111)))⟩,
    ⟨some 16, none, .inl (.pick (.v 13) (.v 15) (.c (.bool false)))⟩,
    ⟨some 10, none, .inl (.mov (.v 16))⟩]) (.cond (.v 10) (.seq (.ops [2] [
    ⟨some 2, none, .inl (.mov (.c (.bool true)))⟩]) (.ret)) (.skip)))))) (.seq (.ops [2] [
    ⟨some 2, none, .inl (.mov (.c (.bool false)))⟩]) (.ret)))⟩

def internal_bytealg_Cutover : AFn := ⟨1, [.slot 2],
  .seq (.ops [0] [
    ⟨some 2, none, .inl (.mov (.c (.int .i64 0)))⟩]) (.seq (.ops [2] [
    ⟨some 3, none, .inl (.mov (.v 0))⟩,
    ⟨some 4, none, .inl (.bin .add (.v 3) (.c (.int .i64 16)))⟩,
    ⟨some 5, none, .inl (.bin .quo (.v 4) (.c (.int .i64 8)))⟩,
    ⟨some 2, none, .inl (.mov (.v 5))⟩]) (.ret))⟩

def strings_genSplit_l1 : Code := .loop [0, 1, 2, 3, 9, 10] none (.seq (.seq (.ops [0, 1, 2, 3, 9, 10, 36] [
    ⟨some 34, none, .inl (.mov (.v 10))⟩,
    ⟨some 35, none, .inl (.mov (.v 3))⟩,
    ⟨some 36, none, .inl (.bin .lss (.v 34) (.v 35))⟩]) (.cond (.v 36) (.skip) (.exit 0))) (.block [0, 1, 2, 3, 9, 10] 1 (.seq (.ops [0, 1, 2, 3, 9, 10, 11] [
    ⟨some 37, none, .inl (.mov (.v 0))⟩,
    ⟨some 38, none, .inl (.mov (.v 1))⟩,
    ⟨some 39, none, .inl (.call (.f 67) [(.v 37), (.v 38)])⟩,
    ⟨some 11, none, .inl (.mov (.v 39))⟩]) (.seq (.seq (.ops [0, 1, 2, 3, 9, 10, 11, 41] [
    ⟨some 40, none, .inl (.mov (.v 11))⟩,
    ⟨some 41, none, .inl (.bin .lss (.v 40) (.c (.int .i64 0)))⟩]) (.cond (.v 41) (.exit 0) (.skip))) (.seq (.ops [0, 1, 2, 3, 9, 10, 11] [
    ⟨some 42, none, .inl (.mov (.v 9))⟩,
    ⟨some 43, none, .inl (.mov (.v 10))⟩,
    ⟨some 44, none, .inl (.mov (.v 0))⟩,
    ⟨some 45, none, .inl (.mov (.v 11))⟩,
    ⟨some 46, none, .inl (.mov (.v 2))⟩,
    ⟨some 47, none, .inl (.bin .add (.v 45) (.v 46))⟩,
    ⟨some 48, none, .inl (.sliceS (.v 44) none (some (.v 47)))⟩,
    ⟨some 49, none, .inl (.iaddr 1 (.v 42) (.v 43))⟩,
    ⟨none, none, .inr (.store 1 (.v 49) (.v 48))⟩]) (.seq (.ops [0, 1, 2, 3, 9, 10] [
    ⟨some 50, none, .inl (.mov (.v 0))⟩,
    ⟨some 51, none, .inl (.mov (.v 11))⟩,
    ⟨some 52, none, .inl (.mov (.v 1))⟩,
    ⟨some 53, none, .inl (.len true (.v 52))⟩,
    ⟨some 54, none, .inl (.bin .add (.v 51) (.v 53))⟩,
    ⟨some 55, none, .inl (.sliceS (.v 50) (some (.v 54)) none)⟩,
    ⟨some 0, none, .inl (.mov (.v 55))⟩]) (.ops [0, 1, 2, 3, 9, 10] [
    ⟨some 56, none, .inl (.mov (.v 10))⟩,
    ⟨some 57, none, .inl (.bin .add (.v 56) (.c (.int .i64 1)))⟩,
    ⟨some 10, none, .inl (.mov (.v 57))⟩])))))))
def strings_genSplit : AFn := ⟨4, [.slot 8],
  .seq (.ops [0, 1, 2, 3] [
    ⟨some 8, none, .inl (.mov (.c (.sl .nil 1 [])))⟩]) (.seq (.seq (.ops [0, 1, 2, 3, 13] [
    ⟨some 12, none, .inl (.mov (.v 3))⟩,
    ⟨some 13, none, .inl (.bin .eql (.v 12) (.c (.int .i64 0)))⟩]) (.cond (.v 13) (.seq (.ops [8] [
    ⟨some 8, none, .inl (.mov (.c (.sl .nil 1 [])))⟩]) (.ret)) (.skip))) (.seq (.seq (.ops [0, 1, 2, 3, 15] [
    ⟨some 14, none, .inl (.mov (.v 1))⟩,
    ⟨some 15, none, .inl (.bin .eql (.v 14) (.c (.str [])))⟩]) (.cond (.v 15) (.seq (.ops [8] [
    ⟨some 16, none, .inl (.mov (.v 0))⟩,
    ⟨some 17, none, .inl (.mov (.v 3))⟩,
    ⟨some 18, none, .inr (.callf (.f 69) [(.v 16), (.v 17)])⟩,
    ⟨some 8, none, .inl (.mov (.v 18))⟩]) (.ret)) (.skip))) (.seq (.seq (.ops [0, 1, 2, 3, 20] [
    ⟨some 19, none, .inl (.mov (.v 3))⟩,
    ⟨some 20, none, .inl (.bin .lss (.v 19) (.c (.int .i64 0)))⟩]) (.cond (.v 20) (.ops [0, 1, 2, 3] [
    ⟨some 21, none, .inl (.mov (.v 0))⟩,
    ⟨some 22, none, .inl (.mov (.v 1))⟩,
    ⟨some 23, none, .inl (.call (.f 68) [(.v 21), (.v 22)])⟩,
    ⟨some 24, none, .inl (.bin .add (.v 23) (.c (.int .i64 1)))⟩,
    ⟨some 3, none, .inl (.mov (.v 24))⟩]) (.skip))) (.seq (.ops [0, 1, 2, 3] [
    ⟨some 25, none, .inl (.mov (.v 3))⟩,
    ⟨some 26, none, .inl (.mov (.v 0))⟩,
    ⟨some 27, none, .inl (.len true (.v 26))⟩,
    ⟨some 28, none, .inl (.bin .add (.v 27) (.c (.int .i64 1)))⟩,
    ⟨some 29, none, .inl (.minmax false [(.v 25), (.v 28)])⟩,
    ⟨some 3, none, .inl (.mov (.v 29))⟩]) (.seq (.ops [0, 1, 2, 3, 9] [
    ⟨some 30, none, .inl (.mov (.v 3))⟩,
    ⟨some 31, none, .inr (.mkslice 1 false [.str []] (.v 30) (.v 30))⟩,
    ⟨some 9, none, .inl (.mov (.v 31))⟩]) (.seq (.ops [0, 1, 2, 3, 9] [
    ⟨some 32, none, .inl (.mov (.v 3))⟩,
    ⟨some 33, none, .inl (.bin .sub (.v 32) (.c (.int .i64 1)))⟩,
    ⟨some 3, none, .inl (.mov (.v 33))⟩]) (.seq (.ops [0, 1, 2, 3, 9, 10] [
    ⟨some 10, none, .inl (.mov (.c (.int .i64 0)))⟩]) (.seq (.block [0, 9, 10] 0 (strings_genSplit_l1)) (.seq (.ops [9, 10] [
    ⟨some 58, none, .inl (.mov (.v 9))⟩,
    ⟨some 59, none, .inl (.mov (.v 10))⟩,
    ⟨some 60, none, .inl (.mov (.v 0))⟩,
    ⟨some 61, none, .inl (.iaddr 1 (.v 58) (.v 59))⟩,
    ⟨none, none, .inr (.store 1 (.v 61) (.v 60))⟩]) (.seq (.ops [8] [
    ⟨some 62, none, .inl (.mov (.v 9))⟩,
    ⟨some 63, none, .inl (.mov (.v 10))⟩,
    ⟨some 64, none, .inl (.bin .add (.v 63) (.c (.int .i64 1)))⟩,
    ⟨some 65, none, .inr (.slicef 1 (.v 62) none (some (.v 64)))⟩,
    ⟨some 8, none, .inl (.mov (.v 65))⟩]) (.ret)))))))))))⟩

def internal_stringslite_IndexByte : AFn := ⟨2, [.slot 4],
  .seq (.ops [0, 1] [
    ⟨some 4, none, .inl (.mov (.c (.int .i64 0)))⟩]) (.seq (.ops [4] [
    ⟨some 5, none, .inl (.mov (.v 0))⟩,
    ⟨some 6, none, .inl (.mov (.v 1))⟩,
    ⟨some 7, none, .inl (.call (.f 70) [(.v 5), (.v 6)])⟩,
    ⟨some 4, none, .inl (.mov (.v 7))⟩]) (.ret))⟩

def name_isByte : AFn := ⟨1, [.slot 2],
  .seq (.ops [0] [
    ⟨some 2, none, .inl (.mov (.c (.bool false)))⟩]) (.seq (.ops [2] [
    ⟨some 3, none, .inl (.mov (.v 0))⟩,
    ⟨some 4, none, .inl (.bin .geq (.v 3) (.c (.int .u8 97)))⟩,
    ⟨some 5, none, .inl (.mov (.v 4))⟩,
    ⟨some 6, (some (5, true)), .inl (.mov (.v 0))⟩,
    ⟨some 7, (some (5, true)), .inl (.bin .leq (.v 6) (.c (.int .u8 122)))⟩,
    ⟨some 8, none, .inl (.pick (.v 5) (.v 7) (.c (.bool false)))⟩,
    ⟨some 9, none, .inl (.mov (.v 8))⟩,
    ⟨some 10, (some (9, false)), .inl (.mov (.v 0))⟩,
    ⟨some 11, (some (9, false)), .inl (.bin .geq (.v 10) (.c (.int .u8 65)))⟩,
    ⟨some 12, (some (9, false)), .inl (.mov (.v 11))⟩,
    ⟨some 13, (some (12, true)), .inl (.mov (.v 0))⟩,
    ⟨some 14, (some (12, true)), .inl (.bin .leq (.v 13) (.c (.int .u8 90)))⟩,
    ⟨some 15, (some (9, false)), .inl (.pick (.v 12) (.v 14) (.c (.bool false)))⟩,
    ⟨some 16, none, .inl (.pick (.v 9) (.c (.bool true)) (.v 15))⟩,
    ⟨some 17, none, .inl (.mov (.v 16))⟩,
    ⟨some 18, (some (17, false)), .inl (.mov (.v 0))⟩,
    ⟨some 19, (some (17, false)), .inl (.bin .geq (.v 18) (.c (.int .u8 48)))⟩,
    ⟨some 20, (some (17, false)), .inl (.mov (.v 19))⟩,
    ⟨some 21, (some (20, true)), .inl (.mov (.v 0))⟩,
    ⟨some 22, (some (20, true)), .inl (.bin .leq (.v 21) (.c (.int .u8 57)))⟩,
    ⟨some 23, (some (17, false)), .inl (.pick (.v 20) (.v 22) (.c (.bool false)))⟩,
    ⟨some 24, none, .inl (.pick (.v 17) (.c (.bool true)) (.v 23))⟩,
    ⟨some 25, none, .inl (.mov (.v 24))⟩,
    ⟨some 26, (some (25, false)), .inl (.mov (.v 0))⟩,
    ⟨some 27, (some (25, false)), .inl (.call (.f 55) [(.c (.str [95, 45, 58, 35, 37, 64, 61])), (.v 26)])⟩,
    ⟨some 28, (some (25, false)), .inl (.bin .geq (.v 27) (.c (.int .i64 0)))⟩,
    ⟨some 29, none, .inl (.pick (.v 25) (.c (.bool true)) (.v 28))⟩,
    ⟨some 2, none, .inl (.mov (.v 29))⟩]) (.ret))⟩

def strings_shouldUseASCIISet : AFn := ⟨1, [.slot 2],
  .seq (.ops [0] [
    ⟨some 2, none, .inl (.mov (.c (.bool false)))⟩]) (.seq (.ops [2] [
    ⟨some 3, none, .inl (.mov (.v 0))⟩,
    ⟨some 4, none, .inl (.bin .gtr (.v 3) (.c (.int .i64 8)))⟩,
    ⟨some 2, none, .inl (.mov (.v 4))⟩]) (.ret))⟩

def strings_makeASCIISet_l1 : Code := .loop [0, 2, 4] none (.seq (.seq (.ops [0, 2, 4, 9] [
    ⟨some 6, none, .inl (.mov (.v 4))⟩,
    ⟨some 7, none, .inl (.mov (.v 0))⟩,
    ⟨some 8, none, .inl (.len true (.v 7))⟩,
    ⟨some 9, none, .inl (.bin .lss (.v 6) (.v 8))⟩]) (.cond (.v 9) (.skip) (.exit 0))) (.seq (.block [0, 2, 4] 1 (.seq (.ops [0, 2, 4, 5] [
    ⟨some 12, none, .inl (.mov (.v 0))⟩,
    ⟨some 13, none, .inl (.mov (.v 4))⟩,
    ⟨some 14, none, .inl (.idx (.v 12) (.v 13))⟩,
    ⟨some 5, none, .inl (.mov (.v 14))⟩]) (.seq (.seq (.ops [0, 2, 4, 5, 16] [
    ⟨some 15, none, .inl (.mov (.v 5))⟩,
    ⟨some 16, none, .inl (.bin .geq (.v 15) (.c (.int .u8 128)))⟩]) (.cond (.v 16) (.seq (.ops [2, 3] [
    ⟨some 17, none, .inl (.load 256 true (.v 2))⟩,
    ⟨none, none, .inr (.store 256 (.v 2) (.v 17))⟩,
    ⟨some 3, none, .inl (.mov (.c (.bool false)))⟩]) (.ret)) (.skip))) (.ops [0, 2, 4] [
    ⟨some 18, none, .inl (.mov (.v 5))⟩,
    ⟨some 19, none, .inl (.iaddrA 1 256 (.v 2) (.v 18))⟩,
    ⟨none, none, .inr (.store 1 (.v 19) (.c (.bool true)))⟩])))) (.ops [0, 2, 4] [
    ⟨some 10, none, .inl (.mov (.v 4))⟩,
    ⟨some 11, none, .inl (.bin .add (.v 10) (.c (.int .i64 1)))⟩,
    ⟨some 4, none, .inl (.mov (.v 11))⟩])))
def strings_makeASCIISet : AFn := ⟨1, [.cell 2 256 true, .slot 3],
  .seq (.ops [0, 2] [
    ⟨some 2, none, .inr (.alloc (List.replicate 256 (.bool false)))⟩,
    ⟨some 3, none, .inl (.mov (.c (.bool false)))⟩]) (.seq (.seq (.ops [0, 2, 4] [
    ⟨some 4, none, .inl (.mov (.c (.int .i64 0)))⟩]) (.block [2] 0 (strings_makeASCIISet_l1))) (.seq (.ops [2, 3] [
    ⟨some 20, none, .inl (.load 256 true (.v 2))⟩,
    ⟨none, none, .inr (.store 256 (.v 2) (.v 20))⟩,
    ⟨some 3, none, .inl (.mov (.c (.bool true)))⟩]) (.ret)))⟩

def strings_IndexRune_l1 : Code := .loop [175] none (.seq (.ops [175, 176, 177] [
    ⟨some 176, none, .inr (.next (.v 175))⟩,
    ⟨some 177, none, .inl (.ext (.v 176) 0)⟩]) (.seq (.cond (.v 177) (.skip) (.exit 9)) (.block [175] 10 (.seq (.ops [5, 6, 175] [
    ⟨some 178, none, .inl (.ext (.v 176) 1)⟩,
    ⟨some 179, none, .inl (.ext (.v 176) 2)⟩,
    ⟨some 5, none, .inl (.mov (.v 178))⟩,
    ⟨some 6, none, .inl (.mov (.v 179))⟩]) (.seq (.ops [5, 175, 181] [
    ⟨some 180, none, .inl (.mov (.v 6))⟩,
    ⟨some 181, none, .inl (.bin .eql (.v 180) (.c (.int .i32 65533)))⟩]) (.cond (.v 181) (.seq (.ops [4] [
    ⟨some 182, none, .inl (.mov (.v 5))⟩,
    ⟨some 4, none, .inl (.mov (.v 182))⟩]) (.ret)) (.skip)))))))
def strings_IndexRune_l2 : Code := .loop [0, 7, 8, 9, 14, 15, 16] none (.seq (.seq (.ops [0, 7, 8, 9, 14, 15, 16, 143] [
    ⟨some 140, none, .inl (.mov (.v 16))⟩,
    ⟨some 141, none, .inl (.mov (.v 7))⟩,
    ⟨some 142, none, .inl (.len true (.v 141))⟩,
    ⟨some 143, none, .inl (.bin .lss (.v 140) (.v 142))⟩]) (.cond (.v 143) (.skip) (.exit 7))) (.seq (.block [0, 7, 8, 9, 14, 15, 16] 8 (.seq (.ops [0, 7, 8, 9, 14, 15, 16, 156] [
    ⟨some 146, none, .inl (.mov (.v 0))⟩,
    ⟨some 147, none, .inl (.mov (.v 9))⟩,
    ⟨some 148, none, .inl (.mov (.v 16))⟩,
    ⟨some 149, none, .inl (.bin .sub (.v 147) (.v 148))⟩,
    ⟨some 150, none, .inl (.idx (.v 146) (.v 149))⟩,
    ⟨some 151, none, .inl (.mov (.v 7))⟩,
    ⟨some 152, none, .inl (.mov (.v 8))⟩,
    ⟨some 153, none, .inl (.mov (.v 16))⟩,
    ⟨some 154, none, .inl (.bin .sub (.v 152) (.v 153))⟩,
    ⟨some 155, none, .inl (.idx (.v 151) (.v 154))⟩,
    ⟨some 156, none, .inl (.bin .neq (.v 150) (.v 155))⟩]) (.cond (.v 156) (.exit 6) (.skip)))) (.ops [0, 7, 8, 9, 14, 15, 16] [
    ⟨some 144, none, .inl (.mov (.v 16))⟩,
    ⟨some 145, none, .inl (.bin .add (.v 144) (.c (.int .i64 1)))⟩,
    ⟨some 16, none, .inl (.mov (.v 145))⟩])))
def strings_IndexRune_l3 : Code := .loop [0, 7, 8, 9, 14, 15] none (.seq (.seq (.ops [0, 7, 8, 9, 14, 15, 124] [
    ⟨some 121, none, .inl (.mov (.v 9))⟩,
    ⟨some 122, none, .inl (.mov (.v 0))⟩,
    ⟨some 123, none, .inl (.len true (.v 122))⟩,
    ⟨some 124, none, .inl (.bin .lss (.v 121) (.v 123))⟩]) (.cond (.v 124) (.skip) (.exit 5))) (.seq (.block [0, 7, 8, 9, 14, 15] 6 (.seq (.ops [0, 7, 8, 9, 14, 15, 139] [
    ⟨some 127, none, .inl (.mov (.v 0))⟩,
    ⟨some 128, none, .inl (.mov (.v 9))⟩,
    ⟨some 129, none, .inl (.idx (.v 127) (.v 128))⟩,
    ⟨some 130, none, .inl (.mov (.v 14))⟩,
    ⟨some 131, none, .inl (.bin .eql (.v 129) (.v 130))⟩,
    ⟨some 132, none, .inl (.mov (.v 131))⟩,
    ⟨some 133, (some (132, true)), .inl (.mov (.v 0))⟩,
    ⟨some 134, (some (132, true)), .inl (.mov (.v 9))⟩,
    ⟨some 135, (some (132, true)), .inl (.bin .sub (.v 134) (.c (.int .i64 1)))⟩,
    ⟨some 136, (some (132, true)), .inl (.idx (.v 133) (.v 135))⟩,
    ⟨some 137, (some (132, true)), .inl (.mov (.v 15))⟩,
    ⟨some 138, (some (132, true)), .inl (.bin .eql (.v 136) (.v 137))⟩,
    ⟨some 139, none, .inl (.pick (.v 132) (.v 138) (.c (.bool false)))⟩]) (.cond (.v 139) (.seq (.seq (.ops [0, 7, 8, 9, 14, 15, 16] [
    ⟨some 16, none, .inl (.mov (.c (.int .i64 2)))⟩]) (.block [8, 9] 7 (strings_IndexRune_l2))) (.seq (.ops [4] [
    ⟨some 157, none, .inl (.mov (.v 9))⟩,
    ⟨some 158, none, .inl (.mov (.v 8))⟩,
    ⟨some 159, none, .inl (.bin .sub (.v 157) (.v 158))⟩,
    ⟨some 4, none, .inl (.mov (.v 159))⟩]) (.ret))) (.skip)))) (.ops [0, 7, 8, 9, 14, 15] [
    ⟨some 125, none, .inl (.mov (.v 9))⟩,
    ⟨some 126, none, .inl (.bin .add (.v 125) (.c (.int .i64 1)))⟩,
    ⟨some 9, none, .inl (.mov (.v 126))⟩])))
def strings_IndexRune_l4 : Code := .loop [0, 7, 8, 9, 12] none (.seq (.seq (.ops [0, 7, 8, 9, 12, 51] [
    ⟨some 48, none, .inl (.mov (.v 12))⟩,
    ⟨some 49, none, .inl (.mov (.v 7))⟩,
    ⟨some 50, none, .inl (.len true (.v 49))⟩,
    ⟨some 51, none, .inl (.bin .lss (.v 48) (.v 50))⟩]) (.cond (.v 51) (.skip) (.exit 3))) (.seq (.block [0, 7, 8, 9, 12] 4 (.seq (.ops [0, 7, 8, 9, 12, 64] [
    ⟨some 54, none, .inl (.mov (.v 0))⟩,
    ⟨some 55, none, .inl (.mov (.v 9))⟩,
    ⟨some 56, none, .inl (.mov (.v 12))⟩,
    ⟨some 57, none, .inl (.bin .sub (.v 55) (.v 56))⟩,
    ⟨some 58, none, .inl (.idx (.v 54) (.v 57))⟩,
    ⟨some 59, none, .inl (.mov (.v 7))⟩,
    ⟨some 60, none, .inl (.mov (.v 8))⟩,
    ⟨some 61, none, .inl (.mov (.v 12))⟩,
    ⟨some 62, none, .inl (.bin .sub (.v 60) (.v 61))⟩,
    ⟨some 63, none, .inl (.idx (.v 59) (.v 62))⟩,
    ⟨some 64, none, .inl (.bin .neq (.v 58) (.v 63))⟩]) (.cond (.v 64) (.bad) (.skip)))) (.ops [0, 7, 8, 9, 12] [
    ⟨some 52, none, .inl (.mov (.v 12))⟩,
    ⟨some 53, none, .inl (.bin .add (.v 52) (.c (.int .i64 1)))⟩,
    ⟨some 12, none, .inl (.mov (.v 53))⟩])))
def strings_IndexRune_l5 : Code := .loop [0, 7, 8, 9] none (.seq (.seq (.ops [0, 7, 8, 9, 26] [
    ⟨some 23, none, .inl (.mov (.v 9))⟩,
    ⟨some 24, none, .inl (.mov (.v 0))⟩,
    ⟨some 25, none, .inl (.len true (.v 24))⟩,
    ⟨some 26, none, .inl (.bin .lss (.v 23) (.v 25))⟩]) (.cond (.v 26) (.skip) (.exit 1))) (.block [0, 7, 8, 9] 2 (.seq (.seq (.ops [0, 7, 8, 9, 33] [
    ⟨some 27, none, .inl (.mov (.v 0))⟩,
    ⟨some 28, none, .inl (.mov (.v 9))⟩,
    ⟨some 29, none, .inl (.idx (.v 27) (.v 28))⟩,
    ⟨some 30, none, .inl (.mov (.v 7))⟩,
    ⟨some 31, none, .inl (.mov (.v 8))⟩,
    ⟨some 32, none, .inl (.idx (.v 30) (.v 31))⟩,
    ⟨some 33, none, .inl (.bin .neq (.v 29) (.v 32))⟩]) (.cond (.v 33) (.seq (.ops [0, 7, 8, 9, 11] [
    ⟨some 34, none, .inl (.mov (.v 0))⟩,
    ⟨some 35, none, .inl (.mov (.v 9))⟩,
    ⟨some 36, none, .inl (.bin .add (.v 35) (.c (.int .i64 1)))⟩,
    ⟨some 37, none, .inl (.sliceS (.v 34) (some (.v 36)) none)⟩,
    ⟨some 38, none, .inl (.mov (.v 7))⟩,
    ⟨some 39, none, .inl (.mov (.v 8))⟩,
    ⟨some 40, none, .inl (.idx (.v 38) (.v 39))⟩,
    ⟨some 41, none, .inl (.call (.f 55) [(.v 37), (.v 40)])⟩,
    ⟨some 11, none, .inl (.mov (.v 41))⟩]) (.seq (.seq (.ops [0, 7, 8, 9, 11, 43] [
    ⟨some 42, none, .inl (.mov (.v 11))⟩,
    ⟨some 43, none, .inl (.bin .lss (.v 42) (.c (.int .i64 0)))⟩]) (.cond (.v 43) (.seq (.ops [4] [
    ⟨some 4, none, .inl (.mov (.c (.int .i64 (-1))))⟩]) (.ret)) (.skip))) (.ops [0, 7, 8, 9] [
    ⟨some 44, none, .inl (.mov (.v 9))⟩,
    ⟨some 45, none, .inl (.mov (.v 11))⟩,
    ⟨some 46, none, .inl (.bin .add (.v 45) (.c (.int .i64 1)))⟩,
    ⟨some 47, none, .inl (.bin .add (.v 44) (.v 46))⟩,
    ⟨some 9, none, .inl (.mov (.v 47))⟩]))) (.skip))) (.seq (.seq (.ops [0, 7, 8, 9, 12] [
    ⟨some 12, none, .inl (.mov (.c (.int .i64 1)))⟩]) (.block [8, 9] 3 (strings_IndexRune_l4))) (.seq (.seq (.ops [4] [
    ⟨some 65, none, .inl (.mov (.v 9))⟩,
    ⟨some 66, none, .inl (.mov (.v 8))⟩,
    ⟨some 67, none, .inl (.bin .sub (.v 65) (.v 66))⟩,
    ⟨some 4, none, .inl (.mov (.v 67))⟩]) (.ret)) (.seq (.skip) (.seq (.ops [0, 7, 8, 9, 10] [
    ⟨some 68, none, .inl (.mov (.v 10))⟩,
    ⟨some 69, none, .inl (.bin .add (.v 68) (.c (.int .i64 1)))⟩,
    ⟨some 10, none, .inl (.mov (.v 69))⟩]) (.seq (.ops [0, 7, 8, 9, 10] [
    ⟨some 70, none, .inl (.mov (.v 9))⟩,
    ⟨some 71, none, .inl (.bin .add (.v 70) (.c (.int .i64 1)))⟩,
    ⟨some 9, none, .inl (.mov (.v 71))⟩]) (.seq (.ops [0, 7, 8, 9, 98] [
    ⟨some 72, none, .inl (.mov (.c (.bool true)))⟩,
    ⟨some 73, (some (72, true)), .inl (.mov (.v 10))⟩,
    ⟨some 74, (some (72, true)), .inl (.mov (.v 9))⟩,
    ⟨some 75, (some (72, true)), .inl (.call (.f 79) [(.v 74)])⟩,
    ⟨some 76, (some (72, true)), .inl (.bin .gtr (.v 73) (.v 75))⟩,
    ⟨some 77, none, .inl (.pick (.v 72) (.v 76) (.c (.bool false)))⟩,
    ⟨some 78, none, .inl (.mov (.v 77))⟩,
    ⟨some 79, (some (78, true)), .inl (.mov (.v 9))⟩,
    ⟨some 80, (some (78, true)), .inl (.mov (.v 0))⟩,
    ⟨some 81, (some (78, true)), .inl (.len true (.v 80))⟩,
    ⟨some 82, (some (78, true)), .inl (.bin .lss (.v 79) (.v 81))⟩,
    ⟨some 83, none, .inl (.pick (.v 78) (.v 82) (.c (.bool false)))⟩,
    ⟨some 84, none, .inl (.mov (.v 83))⟩,
    ⟨some 85, (some (84, false)), .inl (.mov (.c (.bool false)))⟩,
    ⟨some 86, (some (85, true)), .inl (.mov (.v 10))⟩,
    ⟨some 87, (some (85, true)), .inl (.mov (.v 9))⟩,
    ⟨some 88, (some (85, true)), .inl (.bin .shr (.v 87) (.c (.int .u64 4)))⟩,
    ⟨some 89, (some (85, true)), .inl (.bin .add (.c (.int .i64 4)) (.v 88))⟩,
    ⟨some 90, (some (85, true)), .inl (.bin .geq (.v 86) (.v 89))⟩,
    ⟨some 91, (some (84, false)), .inl (.pick (.v 85) (.v 90) (.c (.bool false)))⟩,
    ⟨some 92, (some (84, false)), .inl (.mov (.v 91))⟩,
    ⟨some 93, (some (92, true)), .inl (.mov (.v 9))⟩,
    ⟨some 94, (some (92, true)), .inl (.mov (.v 0))⟩,
    ⟨some 95, (some (92, true)), .inl (.len true (.v 94))⟩,
    ⟨some 96, (some (92, true)), .inl (.bin .lss (.v 93) (.v 95))⟩,
    ⟨some 97, (some (84, false)), .inl (.pick (.v 92) (.v 96) (.c (.bool false)))⟩,
    ⟨some 98, none, .inl (.pick (.v 84) (.c (.bool true)) (.v 97))⟩]) (.cond (.v 98) (.bad) (.skip)))))))))))
def strings_IndexRune : AFn := ⟨2, [.slot 4],
  .seq (.ops [0, 1] [
    ⟨some 4, none, .inl (.mov (.c (.int .i64 0)))⟩]) (.block [4] 0 (.seq (.ops [0, 1, 160] [
    ⟨some 161, none, .inl (.mov (.v 1))⟩,
    ⟨some 162, none, .inl (.bin .leq (.c (.int .i32 0)) (.v 161))⟩,
    ⟨some 163, none, .inl (.mov (.v 162))⟩,
    ⟨some 164, (some (163, true)), .inl (.mov (.v 1))⟩,
    ⟨some 165, (some (163, true)), .inl (.bin .lss (.v 164) (.c (.int .i32 128)))⟩,
    ⟨some 166, none, .inl (.pick (.v 163) (.v 165) (.c (.bool false)))⟩,
    ⟨some 160, none, .inl (.mov (.v 166))⟩]) (.cond (.v 160) (.seq (.ops [4] [
    ⟨some 167, none, .inl (.mov (.v 0))⟩,
    ⟨some 168, none, .inl (.mov (.v 1))⟩,
    ⟨some 169, none, .inl (.conv .u8 (.v 168))⟩,
    ⟨some 170, none, .inl (.call (.f 55) [(.v 167), (.v 169)])⟩,
    ⟨some 4, none, .inl (.mov (.v 170))⟩]) (.ret)) (.seq (.ops [0, 1, 171] [
    ⟨some 172, none, .inl (.mov (.v 1))⟩,
    ⟨some 173, none, .inl (.bin .eql (.v 172) (.c (.int .i32 65533)))⟩,
    ⟨some 171, none, .inl (.mov (.v 173))⟩]) (.cond (.v 171) (.seq (.seq (.ops [175] [
    ⟨some 174, none, .inl (.mov (.v 0))⟩,
    ⟨some 175, none, .inr (.range (.v 174))⟩]) (.block [] 9 (strings_IndexRune_l1))) (.seq (.ops [4] [
    ⟨some 4, none, .inl (.mov (.c (.int .i64 (-1))))⟩]) (.ret))) (.seq (.ops [0, 1, 183] [
    ⟨some 184, none, .inl (.mov (.v 1))⟩,
    ⟨some 185, none, .inl (.call (.f 89) [(.v 184)])⟩,
    ⟨some 186, none, .inl (.un .not (.v 185))⟩,
    ⟨some 183, none, .inl (.mov (.v 186))⟩]) (.cond (.v 183) (.seq (.ops [4] [
    ⟨some 4, none, .inl (.mov (.c (.int .i64 (-1))))⟩]) (.ret)) (.seq (.ops [0, 7] [
    ⟨some 17, none, .inl (.mov (.v 1))⟩,
    ⟨some 18, none, .inl (.runeStr (.v 17))⟩,
    ⟨some 7, none, .inl (.mov (.v 18))⟩]) (.seq (.ops [0, 7, 8] [
    ⟨some 19, none, .inl (.mov (.v 7))⟩,
    ⟨some 20, none, .inl (.len true (.v 19))⟩,
    ⟨some 21, none, .inl (.bin .sub (.v 20) (.c (.int .i64 1)))⟩,
    ⟨some 8, none, .inl (.mov (.v 21))⟩]) (.seq (.ops [0, 7, 8, 9] [
    ⟨some 22, none, .inl (.mov (.v 8))⟩,
    ⟨some 9, none, .inl (.mov (.v 22))⟩]) (.seq (.ops [0, 7, 8, 9] [
    ⟨some 10, none, .inl (.mov (.c (.int .i64 0)))⟩]) (.seq (.block [] 1 (strings_IndexRune_l5)) (.seq (.seq (.ops [4] [
    ⟨some 4, none, .inl (.mov (.c (.int .i64 (-1))))⟩]) (.ret)) (.seq (.skip) (.seq (.cond (.c (.bool true)) (.seq (.ops [8, 9, 13] [
    ⟨some 99, none, .inl (.mov (.v 0))⟩,
    ⟨some 100, none, .inl (.mov (.v 9))⟩,
    ⟨some 101, none, .inl (.mov (.v 8))⟩,
    ⟨some 102, none, .inl (.bin .sub (.v 100) (.v 101))⟩,
    ⟨some 103, none, .inl (.sliceS (.v 99) (some (.v 102)) none)⟩,
    ⟨some 104, none, .inl (.mov (.v 1))⟩,
    ⟨some 105, none, .inl (.runeStr (.v 104))⟩,
    ⟨some 106, none, .inl (.call (.f 76) [(.v 103), (.v 105)])⟩,
    ⟨some 13, none, .inl (.mov (.v 106))⟩]) (.seq (.ops [8, 9, 13, 108] [
    ⟨some 107, none, .inl (.mov (.v 13))⟩,
    ⟨some 108, none, .inl (.bin .geq (.v 107) (.c (.int .i64 0)))⟩]) (.cond (.v 108) (.seq (.ops [4] [
    ⟨some 109, none, .inl (.mov (.v 9))⟩,
    ⟨some 110, none, .inl (.mov (.v 13))⟩,
    ⟨some 111, none, .inl (.bin .add (.v 109) (.v 110))⟩,
    ⟨some 112, none, .inl (.mov (.v 8))⟩,
    ⟨some 113, none, .inl (.bin .sub (.v 111) (.v 112))⟩,
    ⟨some 4, none, .inl (.mov (.v 113))⟩]) (.ret)) (.skip)))) (.seq (.ops [0, 7, 8, 9, 14] [
    ⟨some 114, none, .inl (.mov (.v 7))⟩,
    ⟨some 115, none, .inl (.mov (.v 8))⟩,
    ⟨some 116, none, .inl (.idx (.v 114) (.v 115))⟩,
    ⟨some 14, none, .inl (.mov (.v 116))⟩]) (.seq (.ops [0, 7, 8, 9, 14, 15] [
    ⟨some 117, none, .inl (.mov (.v 7))⟩,
    ⟨some 118, none, .inl (.mov (.v 8))⟩,
    ⟨some 119, none, .inl (.bin .sub (.v 118) (.c (.int .i64 1)))⟩,
    ⟨some 120, none, .inl (.idx (.v 117) (.v 119))⟩,
    ⟨some 15, none, .inl (.mov (.v 120))⟩]) (.seq (.skip) (.block [] 5 (strings_IndexRune_l3)))))) (.seq (.ops [4] [
    ⟨some 4, none, .inl (.mov (.c (.int .i64 (-1))))⟩]) (.ret)))))))))))))))))⟩

def strings_asciiSet_contains : AFn := ⟨2, [.slot 4],
  .seq (.ops [0, 1] [
    ⟨some 4, none, .inl (.mov (.c (.bool false)))⟩]) (.seq (.ops [4] [
    ⟨some 5, none, .inl (.mov (.v 0))⟩,
    ⟨some 6, none, .inl (.mov (.v 1))⟩,
    ⟨some 7, none, .inl (.nilchk (.v 5))⟩,
    ⟨some 8, none, .inl (.iaddrA 1 256 (.v 7) (.v 6))⟩,
    ⟨some 9, none, .inl (.load 1 false (.v 8))⟩,
    ⟨some 4, none, .inl (.mov (.v 9))⟩]) (.ret))⟩

def r9_in_l1 : Code := .loop [0, 2, 3, 9] none (.seq (.seq (.ops [0, 2, 3, 9, 14] [
    ⟨some 12, none, .inl (.mov (.v 9))⟩,
    ⟨some 13, none, .inl (.mov (.v 2))⟩,
    ⟨some 14, none, .inl (.bin .lss (.v 12) (.v 13))⟩]) (.cond (.v 14) (.skip) (.exit 0))) (.seq (.block [0, 2, 3, 9] 1 (.seq (.seq (.ops [0, 2, 3, 9, 27] [
    ⟨some 17, none, .inl (.mov (.v 9))⟩,
    ⟨some 18, none, .inl (.bin .add (.v 17) (.c (.int .i64 2)))⟩,
    ⟨some 19, none, .inl (.mov (.v 2))⟩,
    ⟨some 20, none, .inl (.bin .lss (.v 18) (.v 19))⟩,
    ⟨some 21, none, .inl (.mov (.v 20))⟩,
    ⟨some 22, (some (21, true)), .inl (.mov (.v 0))⟩,
    ⟨some 23, (some (21, true)), .inl (.mov (.v 9))⟩,
    ⟨some 24, (some (21, true)), .inl (.bin .add (.v 23) (.c (.int .i64 1)))⟩,
    ⟨some 25, (some (21, true)), .inl (.idx (.v 22) (.v 24))⟩,
    ⟨some 26, (some (21, true)), .inl (.bin .eql (.v 25) (.c (.int .u8 45)))⟩,
    ⟨some 27, none, .inl (.pick (.v 21) (.v 26) (.c (.bool false)))⟩]) (.cond (.v 27) (.seq (.seq (.ops [0, 2, 3, 9, 40] [
    ⟨some 28, none, .inl (.mov (.v 3))⟩,
    ⟨some 29, none, .inl (.mov (.v 0))⟩,
    ⟨some 30, none, .inl (.mov (.v 9))⟩,
    ⟨some 31, none, .inl (.idx (.v 29) (.v 30))⟩,
    ⟨some 32, none, .inl (.bin .geq (.v 28) (.v 31))⟩,
    ⟨some 33, none, .inl (.mov (.v 32))⟩,
    ⟨some 34, (some (33, true)), .inl (.mov (.v 3))⟩,
    ⟨some 35, (some (33, true)), .inl (.mov (.v 0))⟩,
    ⟨some 36, (some (33, true)), .inl (.mov (.v 9))⟩,
    ⟨some 37, (some (33, true)), .inl (.bin .add (.v 36) (.c (.int .i64 2)))⟩,
    ⟨some 38, (some (33, true)), .inl (.idx (.v 35) (.v 37))⟩,
    ⟨some 39, (some (33, true)), .inl (.bin .leq (.v 34) (.v 38))⟩,
    ⟨some 40, none, .inl (.pick (.v 33) (.v 39) (.c (.bool false)))⟩]) (.cond (.v 40) (.seq (.ops [8] [
    ⟨some 8, none, .inl (.mov (.c (.bool true)))⟩]) (.ret)) (.skip))) (.seq (.ops [0, 2, 3, 9] [
    ⟨some 41, none, .inl (.mov (.v 9))⟩,
    ⟨some 42, none, .inl (.bin .add (.v 41) (.c (.int .i64 2)))⟩,
    ⟨some 9, none, .inl (.mov (.v 42))⟩]) (.exit 1))) (.skip))) (.seq (.ops [0, 2, 3, 9, 47] [
    ⟨some 43, none, .inl (.mov (.v 0))⟩,
    ⟨some 44, none, .inl (.mov (.v 9))⟩,
    ⟨some 45, none, .inl (.idx (.v 43) (.v 44))⟩,
    ⟨some 46, none, .inl (.mov (.v 3))⟩,
    ⟨some 47, none, .inl (.bin .eql (.v 45) (.v 46))⟩]) (.cond (.v 47) (.seq (.ops [8] [
    ⟨some 8, none, .inl (.mov (.c (.bool true)))⟩]) (.ret)) (.skip))))) (.ops [0, 2, 3, 9] [
    ⟨some 15, none, .inl (.mov (.v 9))⟩,
    ⟨some 16, none, .inl (.bin .add (.v 15) (.c (.int .i64 1)))⟩,
    ⟨some 9, none, .inl (.mov (.v 16))⟩])))
def r9_in : AFn := ⟨4, [.slot 8],
  .seq (.ops [0, 1, 2, 3] [
    ⟨some 8, none, .inl (.mov (.c (.bool false)))⟩]) (.seq (.seq (.ops [0, 2, 3, 9] [
    ⟨some 10, none, .inl (.mov (.v 1))⟩,
    ⟨some 11, none, .inl (.bin .add (.v 10) (.c (.int .i64 1)))⟩,
    ⟨some 9, none, .inl (.mov (.v 11))⟩]) (.block [] 0 (r9_in_l1))) (.seq (.ops [8] [
    ⟨some 8, none, .inl (.mov (.c (.bool false)))⟩]) (.ret)))⟩

def r9_class_l1 : Code := .loop [0, 5, 6] none (.seq (.seq (.ops [0, 5, 6, 35] [
    ⟨some 33, none, .inl (.mov (.v 6))⟩,
    ⟨some 34, none, .inl (.mov (.v 5))⟩,
    ⟨some 35, none, .inl (.bin .lss (.v 33) (.v 34))⟩]) (.cond (.v 35) (.skip) (.exit 2))) (.seq (.block [0, 5, 6] 3 (.seq (.ops [0, 5, 6, 48] [
    ⟨some 38, none, .inl (.mov (.v 6))⟩,
    ⟨some 39, none, .inl (.bin .add (.v 38) (.c (.int .i64 2)))⟩,
    ⟨some 40, none, .inl (.mov (.v 5))⟩,
    ⟨some 41, none, .inl (.bin .lss (.v 39) (.v 40))⟩,
    ⟨some 42, none, .inl (.mov (.v 41))⟩,
    ⟨some 43, (some (42, true)), .inl (.mov (.v 0))⟩,
    ⟨some 44, (some (42, true)), .inl (.mov (.v 6))⟩,
    ⟨some 45, (some (42, true)), .inl (.bin .add (.v 44) (.c (.int .i64 1)))⟩,
    ⟨some 46, (some (42, true)), .inl (.idx (.v 43) (.v 45))⟩,
    ⟨some 47, (some (42, true)), .inl (.bin .eql (.v 46) (.c (.int .u8 45)))⟩,
    ⟨some 48, none, .inl (.pick (.v 42) (.v 47) (.c (.bool false)))⟩]) (.cond (.v 48) (.seq (.seq (.ops [0, 5, 6, 56] [
    ⟨some 49, none, .inl (.mov (.v 0))⟩,
    ⟨some 50, none, .inl (.mov (.v 6))⟩,
    ⟨some 51, none, .inl (.bin .add (.v 50) (.c (.int .i64 2)))⟩,
    ⟨some 52, none, .inl (.idx (.v 49) (.v 51))⟩,
    ⟨some 53, none, .inl (.mov (.v 0))⟩,
    ⟨some 54, none, .inl (.mov (.v 6))⟩,
    ⟨some 55, none, .inl (.idx (.v 53) (.v 54))⟩,
    ⟨some 56, none, .inl (.bin .lss (.v 52) (.v 55))⟩]) (.cond (.v 56) (.seq (.ops [4] [
    ⟨some 4, none, .inl (.mov (.c (.int .i64 (-1))))⟩]) (.ret)) (.skip))) (.ops [0, 5, 6] [
    ⟨some 57, none, .inl (.mov (.v 6))⟩,
    ⟨some 58, none, .inl (.bin .add (.v 57) (.c (.int .i64 2)))⟩,
    ⟨some 6, none, .inl (.mov (.v 58))⟩])) (.skip)))) (.ops [0, 5, 6] [
    ⟨some 36, none, .inl (.mov (.v 6))⟩,
    ⟨some 37, none, .inl (.bin .add (.v 36) (.c (.int .i64 1)))⟩,
    ⟨some 6, none, .inl (.mov (.v 37))⟩])))
def r9_class_l2 : Code := .loop [0, 1, 5] none (.seq (.seq (.ops [0, 1, 5, 18] [
    ⟨some 9, none, .inl (.mov (.v 5))⟩,
    ⟨some 10, none, .inl (.mov (.v 0))⟩,
    ⟨some 11, none, .inl (.len true (.v 10))⟩,
    ⟨some 12, none, .inl (.bin .lss (.v 9) (.v 11))⟩,
    ⟨some 13, none, .inl (.mov (.v 12))⟩,
    ⟨some 14, (some (13, true)), .inl (.mov (.v 0))⟩,
    ⟨some 15, (some (13, true)), .inl (.mov (.v 5))⟩,
    ⟨some 16, (some (13, true)), .inl (.idx (.v 14) (.v 15))⟩,
    ⟨some 17, (some (13, true)), .inl (.bin .neq (.v 16) (.c (.int .u8 93)))⟩,
    ⟨some 18, none, .inl (.pick (.v 13) (.v 17) (.c (.bool false)))⟩]) (.cond (.v 18) (.skip) (.exit 0))) (.block [0, 1, 5] 1 (.ops [0, 1, 5] [
    ⟨some 19, none, .inl (.mov (.v 5))⟩,
    ⟨some 20, none, .inl (.bin .add (.v 19) (.c (.int .i64 1)))⟩,
    ⟨some 5, none, .inl (.mov (.v 20))⟩])))
def r9_class : AFn := ⟨2, [.slot 4],
  .seq (.ops [0, 1] [
    ⟨some 4, none, .inl (.mov (.c (.int .i64 0)))⟩]) (.seq (.ops [0, 1, 5] [
    ⟨some 7, none, .inl (.mov (.v 1))⟩,
    ⟨some 8, none, .inl (.bin .add (.v 7) (.c (.int .i64 1)))⟩,
    ⟨some 5, none, .inl (.mov (.v 8))⟩]) (.seq (.block [0, 1, 5] 0 (r9_class_l2)) (.seq (.seq (.ops [0, 1, 5, 30] [
    ⟨some 21, none, .inl (.mov (.v 5))⟩,
    ⟨some 22, none, .inl (.mov (.v 0))⟩,
    ⟨some 23, none, .inl (.len true (.v 22))⟩,
    ⟨some 24, none, .inl (.bin .geq (.v 21) (.v 23))⟩,
    ⟨some 25, none, .inl (.mov (.v 24))⟩,
    ⟨some 26, (some (25, false)), .inl (.mov (.v 5))⟩,
    ⟨some 27, (some (25, false)), .inl (.mov (.v 1))⟩,
    ⟨some 28, (some (25, false)), .inl (.bin .add (.v 27) (.c (.int .i64 1)))⟩,
    ⟨some 29, (some (25, false)), .inl (.bin .eql (.v 26) (.v 28))⟩,
    ⟨some 30, none, .inl (.pick (.v 25) (.c (.bool true)) (.v 29))⟩]) (.cond (.v 30) (.seq (.ops [4] [
    ⟨some 4, none, .inl (.mov (.c (.int .i64 (-1))))⟩]) (.ret)) (.skip))) (.seq (.seq (.ops [0, 5, 6] [
    ⟨some 31, none, .inl (.mov (.v 1))⟩,
    ⟨some 32, none, .inl (.bin .add (.v 31) (.c (.int .i64 1)))⟩,
    ⟨some 6, none, .inl (.mov (.v 32))⟩]) (.block [5] 2 (r9_class_l1))) (.seq (.ops [4] [
    ⟨some 59, none, .inl (.mov (.v 5))⟩,
    ⟨some 4, none, .inl (.mov (.v 59))⟩]) (.ret))))))⟩

def r9_ends_l1 : Code := .loop [0, 6, 7, 8, 9] none (.seq (.seq (.ops [0, 6, 7, 8, 9, 16] [
    ⟨some 13, none, .inl (.mov (.v 9))⟩,
    ⟨some 14, none, .inl (.mov (.v 0))⟩,
    ⟨some 15, none, .inl (.len true (.v 14))⟩,
    ⟨some 16, none, .inl (.bin .lss (.v 13) (.v 15))⟩]) (.cond (.v 16) (.skip) (.exit 0))) (.seq (.block [0, 6, 7, 8, 9] 1 (.block [0, 6, 7, 8, 9] 2 (.seq (.ops [0, 6, 7, 8, 9, 19] [
    ⟨some 20, none, .inl (.mov (.v 0))⟩,
    ⟨some 21, none, .inl (.mov (.v 9))⟩,
    ⟨some 22, none, .inl (.idx (.v 20) (.v 21))⟩,
    ⟨some 23, none, .inl (.bin .eql (.v 22) (.c (.int .u8 123)))⟩,
    ⟨some 19, none, .inl (.mov (.v 23))⟩]) (.cond (.v 19) (.ops [0, 6, 7, 8, 9] [
    ⟨some 24, none, .inl (.mov (.v 6))⟩,
    ⟨some 25, none, .inl (.bin .add (.v 24) (.c (.int .i64 1)))⟩,
    ⟨some 6, none, .inl (.mov (.v 25))⟩]) (.seq (.ops [0, 6, 7, 8, 9, 26] [
    ⟨some 27, none, .inl (.mov (.v 0))⟩,
    ⟨some 28, none, .inl (.mov (.v 9))⟩,
    ⟨some 29, none, .inl (.idx (.v 27) (.v 28))⟩,
    ⟨some 30, none, .inl (.bin .eql (.v 29) (.c (.int .u8 125)))⟩,
    ⟨some 31, none, .inl (.mov (.v 30))⟩,
    ⟨some 32, (some (31, true)), .inl (.mov (.v 6))⟩,
    ⟨some 33, (some (31, true)), .inl (.bin .eql (.v 32) (.c (.int .i64 1)))⟩,
    ⟨some 34, none, .inl (.pick (.v 31) (.v 33) (.c (.bool false)))⟩,
    ⟨some 26, none, .inl (.mov (.v 34))⟩]) (.cond (.v 26) (.seq (.ops [4, 5] [
    ⟨some 35, none, .inl (.mov (.v 9))⟩,
    ⟨some 36, none, .inl (.mov (.v 8))⟩,
    ⟨some 37, none, .inl (.mov (.v 0))⟩,
    ⟨some 38, none, .inl (.mov (.v 7))⟩,
    ⟨some 39, none, .inl (.mov (.v 9))⟩,
    ⟨some 40, none, .inl (.sliceS (.v 37) (some (.v 38)) (some (.v 39)))⟩,
    ⟨some 41, none, .inl (.bslice 1 false 1 [.str []] [⟨0, 1, (.v 40)⟩])⟩,
    ⟨some 42, none, .inr (.append 1 (.v 36) (.v 41))⟩,
    ⟨some 4, none, .inl (.mov (.v 35))⟩,
    ⟨some 5, none, .inl (.mov (.v 42))⟩]) (.ret)) (.seq (.ops [0, 6, 7, 8, 9, 43] [
    ⟨some 44, none, .inl (.mov (.v 0))⟩,
    ⟨some 45, none, .inl (.mov (.v 9))⟩,
    ⟨some 46, none, .inl (.idx (.v 44) (.v 45))⟩,
    ⟨some 47, none, .inl (.bin .eql (.v 46) (.c (.int .u8 125)))⟩,
    ⟨some 43, none, .inl (.mov (.v 47))⟩]) (.cond (.v 43) (.ops [0, 6, 7, 8, 9] [
    ⟨some 48, none, .inl (.mov (.v 6))⟩,
    ⟨some 49, none, .inl (.bin .sub (.v 48) (.c (.int .i64 1)))⟩,
    ⟨some 6, none, .inl (.mov (.v 49))⟩]) (.seq (.ops [0, 6, 7, 8, 9, 50] [
    ⟨some 51, none, .inl (.mov (.v 0))⟩,
    ⟨some 52, none, .inl (.mov (.v 9))⟩,
    ⟨some 53, none, .inl (.idx (.v 51) (.v 52))⟩,
    ⟨some 54, none, .inl (.bin .eql (.v 53) (.c (.int .u8 44)))⟩,
    ⟨some 55, none, .inl (.mov (.v 54))⟩,
    ⟨some 56, (some (55, true)), .inl (.mov (.v 6))⟩,
    ⟨some 57, (some (55, true)), .inl (.bin .eql (.v 56) (.c (.int .i64 1)))⟩,
    ⟨some 58, none, .inl (.pick (.v 55) (.v 57) (.c (.bool false)))⟩,
    ⟨some 50, none, .inl (.mov (.v 58))⟩]) (.cond (.v 50) (.seq (.ops [0, 6, 8, 9] [
    ⟨some 59, none, .inl (.mov (.v 8))⟩,
    ⟨some 60, none, .inl (.mov (.v 0))⟩,
    ⟨some 61, none, .inl (.mov (.v 7))⟩,
    ⟨some 62, none, .inl (.mov (.v 9))⟩,
    ⟨some 63, none, .inl (.sliceS (.v 60) (some (.v 61)) (some (.v 62)))⟩,
    ⟨some 64, none, .inl (.bslice 1 false 1 [.str []] [⟨0, 1, (.v 63)⟩])⟩,
    ⟨some 65, none, .inr (.append 1 (.v 59) (.v 64))⟩,
    ⟨some 8, none, .inl (.mov (.v 65))⟩]) (.ops [0, 6, 7, 8, 9] [
    ⟨some 66, none, .inl (.mov (.v 9))⟩,
    ⟨some 67, none, .inl (.bin .add (.v 66) (.c (.int .i64 1)))⟩,
    ⟨some 7, none, .inl (.mov (.v 67))⟩])) (.skip))))))))))) (.ops [0, 6, 7, 8, 9] [
    ⟨some 17, none, .inl (.mov (.v 9))⟩,
    ⟨some 18, none, .inl (.bin .add (.v 17) (.c (.int .i64 1)))⟩,
    ⟨some 9, none, .inl (.mov (.v 18))⟩])))
def r9_ends : AFn := ⟨2, [.slot 4, .slot 5],
  .seq (.ops [0, 1] [
    ⟨some 4, none, .inl (.mov (.c (.int .i64 0)))⟩,
    ⟨some 5, none, .inl (.mov (.c (.sl .nil 1 [])))⟩]) (.seq (.ops [0, 1, 6, 7] [
    ⟨some 10, none, .inl (.mov (.v 1))⟩,
    ⟨some 11, none, .inl (.bin .add (.v 10) (.c (.int .i64 1)))⟩,
    ⟨some 6, none, .inl (.mov (.c (.int .i64 0)))⟩,
    ⟨some 7, none, .inl (.mov (.v 11))⟩]) (.seq (.ops [0, 1, 6, 7, 8] [
    ⟨some 8, none, .inr (.newrow 1)⟩]) (.seq (.seq (.ops [0, 6, 7, 8, 9] [
    ⟨some 12, none, .inl (.mov (.v 1))⟩,
    ⟨some 9, none, .inl (.mov (.v 12))⟩]) (.block [0, 8] 0 (r9_ends_l1))) (.seq (.ops [4, 5] [
    ⟨some 68, none, .inl (.mov (.v 0))⟩,
    ⟨some 69, none, .inl (.len true (.v 68))⟩,
    ⟨some 70, none, .inl (.mov (.v 8))⟩,
    ⟨some 4, none, .inl (.mov (.v 69))⟩,
    ⟨some 5, none, .inl (.mov (.v 70))⟩]) (.ret)))))⟩

def strings_Split : AFn := ⟨2, [.slot 4],
  .seq (.ops [0, 1] [
    ⟨some 4, none, .inl (.mov (.c (.sl .nil 1 [])))⟩]) (.seq (.ops [4] [
    ⟨some 5, none, .inl (.mov (.v 0))⟩,
    ⟨some 6, none, .inl (.mov (.v 1))⟩,
    ⟨some 7, none, .inr (.callf (.f 63) [(.v 5), (.v 6), (.c (.int .i64 0)), (.c (.int .i64 (-1)))])⟩,
    ⟨some 4, none, .inl (.mov (.v 7))⟩]) (.ret))⟩

def strings_IndexByte : AFn := ⟨2, [.slot 4],
  .seq (.ops [0, 1] [
    ⟨some 4, none, .inl (.mov (.c (.int .i64 0)))⟩]) (.seq (.ops [4] [
    ⟨some 5, none, .inl (.mov (.v 0))⟩,
    ⟨some 6, none, .inl (.mov (.v 1))⟩,
    ⟨some 7, none, .inl (.call (.f 64) [(.v 5), (.v 6)])⟩,
    ⟨some 4, none, .inl (.mov (.v 7))⟩]) (.ret))⟩

def name_Is_l1 : Code := .loop [5, 22, 23, 24, 31, 32] none (.seq (.ops [5, 22, 23, 24, 31, 32, 33] [
    ⟨some 33, none, .inl (.bin .lss (.v 32) (.v 31))⟩]) (.seq (.cond (.v 33) (.skip) (.exit 2)) (.seq (.block [5, 22, 23, 24, 31, 32] 3 (.seq (.ops [5, 6, 22, 23, 24, 31, 32] [
    ⟨some 34, none, .inl (.mov (.v 32))⟩,
    ⟨some 6, none, .inl (.mov (.v 34))⟩]) (.seq (.ops [5, 22, 23, 24, 31, 32, 39] [
    ⟨some 35, none, .inl (.mov (.v 5))⟩,
    ⟨some 36, none, .inl (.mov (.v 6))⟩,
    ⟨some 37, none, .inl (.idx (.v 35) (.v 36))⟩,
    ⟨some 38, none, .inl (.call (.f 65) [(.v 37)])⟩,
    ⟨some 39, none, .inl (.un .not (.v 38))⟩]) (.cond (.v 39) (.seq (.ops [2] [
    ⟨some 2, none, .inl (.mov (.c (.bool false)))⟩]) (.ret)) (.skip))))) (.ops [5, 22, 23, 24, 31, 32] [
    ⟨some 40, none, .inl (.bin .add (.v 32) (.c (.int .i64 1)))⟩,
    ⟨some 32, none, .inl (.mov (.v 40))⟩]))))
def name_Is_l2 : Code := .loop [22, 23, 24] none (.seq (.ops [22, 23, 24, 25] [
    ⟨some 25, none, .inl (.bin .lss (.v 24) (.v 23))⟩]) (.seq (.cond (.v 25) (.skip) (.exit 0)) (.seq (.block [22, 23, 24] 1 (.seq (.ops [5, 22, 23, 24] [
    ⟨some 26, none, .inl (.iaddr 1 (.v 22) (.v 24))⟩,
    ⟨some 27, none, .inl (.load 1 false (.v 26))⟩,
    ⟨some 5, none, .inl (.mov (.v 27))⟩]) (.seq (.seq (.ops [5, 22, 23, 24, 29] [
    ⟨some 28, none, .inl (.mov (.v 5))⟩,
    ⟨some 29, none, .inl (.bin .eql (.v 28) (.c (.str [])))⟩]) (.cond (.v 29) (.seq (.ops [2] [
    ⟨some 2, none, .inl (.mov (.c (.bool false)))⟩]) (.ret)) (.skip))) (.seq (.ops [5, 22, 23, 24, 31, 32] [
    ⟨some 30, none, .inl (.mov (.v 5))⟩,
    ⟨some 31, none, .inl (.len true (.v 30))⟩,
    ⟨some 32, none, .inl (.mov (.c (.int .i64 0)))⟩]) (.block [22, 23, 24] 2 (name_Is_l1)))))) (.ops [22, 23, 24] [
    ⟨some 41, none, .inl (.bin .add (.v 24) (.c (.int .i64 1)))⟩,
    ⟨some 24, none, .inl (.mov (.v 41))⟩]))))
def name_Is : AFn := ⟨1, [.slot 2],
  .seq (.ops [0] [
    ⟨some 2, none, .inl (.mov (.c (.bool false)))⟩]) (.seq (.ops [0, 3] [
    ⟨some 7, none, .inl (.mov (.v 0))⟩,
    ⟨some 8, none, .inr (.callf (.f 36) [(.v 7)])⟩,
    ⟨some 3, none, .inl (.mov (.v 8))⟩]) (.seq (.seq (.ops [3, 21] [
    ⟨some 9, none, .inl (.mov (.v 0))⟩,
    ⟨some 10, none, .inl (.len true (.v 9))⟩,
    ⟨some 11, none, .inl (.bin .lss (.v 10) (.c (.int .i64 1)))⟩,
    ⟨some 12, none, .inl (.mov (.v 11))⟩,
    ⟨some 13, (some (12, false)), .inl (.mov (.v 0))⟩,
    ⟨some 14, (some (12, false)), .inl (.len true (.v 13))⟩,
    ⟨some 15, (some (12, false)), .inl (.bin .gtr (.v 14) (.c (.int .i64 200)))⟩,
    ⟨some 16, none, .inl (.pick (.v 12) (.c (.bool true)) (.v 15))⟩,
    ⟨some 17, none, .inl (.mov (.v 16))⟩,
    ⟨some 18, (some (17, false)), .inl (.mov (.v 3))⟩,
    ⟨some 19, (some (17, false)), .inl (.len false (.v 18))⟩,
    ⟨some 20, (some (17, false)), .inl (.bin .gtr (.v 19) (.c (.int .i64 20)))⟩,
    ⟨some 21, none, .inl (.pick (.v 17) (.c (.bool true)) (.v 20))⟩]) (.cond (.v 21) (.seq (.ops [2] [
    ⟨some 2, none, .inl (.mov (.c (.bool false)))⟩]) (.ret)) (.skip))) (.seq (.seq (.ops [22, 23, 24] [
    ⟨some 22, none, .inl (.mov (.v 3))⟩,
    ⟨some 23, none, .inl (.len false (.v 22))⟩,
    ⟨some 24, none, .inl (.mov (.c (.int .i64 0)))⟩]) (.block [] 0 (name_Is_l2))) (.seq (.ops [2] [
    ⟨some 2, none, .inl (.mov (.c (.bool true)))⟩]) (.ret)))))⟩

def glob_class_l1 : Code := .loop [0, 4, 5] (some 0) (.seq (.seq (.ops [0, 4, 5, 13] [
    ⟨some 10, none, .inl (.mov (.v 5))⟩,
    ⟨some 11, none, .inl (.mov (.v 0))⟩,
    ⟨some 12, none, .inl (.len true (.v 11))⟩,
    ⟨some 13, none, .inl (.bin .lss (.v 10) (.v 12))⟩]) (.cond (.v 13) (.skip) (.exit 0))) (.seq (.block [0, 4, 5] 1 (.seq (.ops [0, 4, 5, 6, 7] [
    ⟨some 16, none, .inl (.mov (.v 0))⟩,
    ⟨some 17, none, .inl (.mov (.v 5))⟩,
    ⟨some 18, none, .inl (.idx (.v 16) (.v 17))⟩,
    ⟨some 19, none, .inl (.mov (.v 0))⟩,
    ⟨some 20, none, .inl (.mov (.v 5))⟩,
    ⟨some 21, none, .inl (.idx (.v 19) (.v 20))⟩,
    ⟨some 6, none, .inl (.mov (.v 18))⟩,
    ⟨some 7, none, .inl (.mov (.v 21))⟩]) (.seq (.seq (.ops [0, 4, 5, 6, 7, 33] [
    ⟨some 22, none, .inl (.mov (.v 5))⟩,
    ⟨some 23, none, .inl (.bin .add (.v 22) (.c (.int .i64 2)))⟩,
    ⟨some 24, none, .inl (.mov (.v 0))⟩,
    ⟨some 25, none, .inl (.len true (.v 24))⟩,
    ⟨some 26, none, .inl (.bin .lss (.v 23) (.v 25))⟩,
    ⟨some 27, none, .inl (.mov (.v 26))⟩,
    ⟨some 28, (some (27, true)), .inl (.mov (.v 0))⟩,
    ⟨some 29, (some (27, true)), .inl (.mov (.v 5))⟩,
    ⟨some 30, (some (27, true)), .inl (.bin .add (.v 29) (.c (.int .i64 1)))⟩,
    ⟨some 31, (some (27, true)), .inl (.idx (.v 28) (.v 30))⟩,
    ⟨some 32, (some (27, true)), .inl (.bin .eql (.v 31) (.c (.int .u8 45)))⟩,
    ⟨some 33, none, .inl (.pick (.v 27) (.v 32) (.c (.bool false)))⟩]) (.cond (.v 33) (.seq (.ops [0, 4, 5, 6, 7] [
    ⟨some 34, none, .inl (.mov (.v 0))⟩,
    ⟨some 35, none, .inl (.mov (.v 5))⟩,
    ⟨some 36, none, .inl (.bin .add (.v 35) (.c (.int .i64 2)))⟩,
    ⟨some 37, none, .inl (.idx (.v 34) (.v 36))⟩,
    ⟨some 7, none, .inl (.mov (.v 37))⟩]) (.ops [0, 4, 5, 6, 7] [
    ⟨some 38, none, .inl (.mov (.v 5))⟩,
    ⟨some 39, none, .inl (.bin .add (.v 38) (.c (.int .i64 2)))⟩,
    ⟨some 5, none, .inl (.mov (.v 39))⟩])) (.skip))) (.seq (.seq (.ops [0, 4, 5, 6, 7, 42] [
    ⟨some 40, none, .inl (.mov (.v 7))⟩,
    ⟨some 41, none, .inl (.mov (.v 6))⟩,
    ⟨some 42, none, .inl (.bin .lss (.v 40) (.v 41))⟩]) (.cond (.v 42) (.seq (.ops [2, 3] [
    ⟨some 2, none, .inl (.mov (.c (.nilp)))⟩,
    ⟨some 3, none, .inl (.mov (.c (.bool false)))⟩]) (.ret)) (.skip))) (.ops [0, 4, 5] [
    ⟨some 43, none, .inl (.mov (.v 4))⟩,
    ⟨some 44, none, .inl (.mov (.v 6))⟩,
    ⟨some 45, none, .inl (.mov (.v 7))⟩,
    ⟨some 46, none, .inr (.calls (.f 53) [(.v 43), (.v 44), (.v 45)])⟩]))))) (.ops [0, 4, 5] [
    ⟨some 14, none, .inl (.mov (.v 5))⟩,
    ⟨some 15, none, .inl (.bin .add (.v 14) (.c (.int .i64 1)))⟩,
    ⟨some 5, none, .inl (.mov (.v 15))⟩])))
def glob_class : AFn := ⟨1, [.slot 2, .slot 3],
  .seq (.ops [0] [
    ⟨some 2, none, .inl (.mov (.c (.nilp)))⟩,
    ⟨some 3, none, .inl (.mov (.c (.bool false)))⟩]) (.seq (.ops [0, 4] [
    ⟨some 8, none, .inl (.build (List.replicate 257 (.bool false)) [])⟩,
    ⟨some 9, none, .inr (.box (.v 8))⟩,
    ⟨some 4, none, .inl (.mov (.v 9))⟩]) (.seq (.seq (.ops [0, 4, 5] [
    ⟨some 5, none, .inl (.mov (.c (.int .i64 0)))⟩]) (.block [0, 4] 0 (glob_class_l1))) (.seq (.ops [2, 3] [
    ⟨some 47, none, .inl (.mov (.v 4))⟩,
    ⟨some 48, none, .inl (.mov (.v 0))⟩,
    ⟨some 49, none, .inl (.bin .neq (.v 48) (.c (.str [])))⟩,
    ⟨some 2, none, .inl (.mov (.v 47))⟩,
    ⟨some 3, none, .inl (.mov (.v 49))⟩]) (.ret))))⟩

def glob_piece_fills_l1 : Code := .loop [0, 2, 6] none (.seq (.seq (.ops [0, 2, 6, 12] [
    ⟨some 9, none, .inl (.mov (.v 6))⟩,
    ⟨some 10, none, .inl (.mov (.v 2))⟩,
    ⟨some 11, none, .inl (.conv .i64 (.v 10))⟩,
    ⟨some 12, none, .inl (.bin .leq (.v 9) (.v 11))⟩]) (.cond (.v 12) (.skip) (.exit 0))) (.seq (.block [0, 2, 6] 1 (.ops [0, 2, 6] [
    ⟨some 15, none, .inl (.mov (.v 0))⟩,
    ⟨some 16, none, .inl (.mov (.v 6))⟩,
    ⟨some 17, none, .inl (.nilchk (.v 15))⟩,
    ⟨some 18, none, .inl (.faddr 1 (.v 17))⟩,
    ⟨some 19, none, .inl (.iaddrA 1 256 (.v 18) (.v 16))⟩,
    ⟨none, none, .inr (.store 1 (.v 19) (.c (.bool true)))⟩])) (.ops [0, 2, 6] [
    ⟨some 13, none, .inl (.mov (.v 6))⟩,
    ⟨some 14, none, .inl (.bin .add (.v 13) (.c (.int .i64 1)))⟩,
    ⟨some 6, none, .inl (.mov (.v 14))⟩])))
def glob_piece_fills : AFn := ⟨3, [],
  .seq (.ops [0, 2, 6] [
    ⟨some 7, none, .inl (.mov (.v 1))⟩,
    ⟨some 8, none, .inl (.conv .i64 (.v 7))⟩,
    ⟨some 6, none, .inl (.mov (.v 8))⟩]) (.block [] 0 (glob_piece_fills_l1))⟩

def strings_IndexAny_l1 : Code := .loop [1, 45] none (.seq (.ops [1, 45, 46, 47] [
    ⟨some 46, none, .inr (.next (.v 45))⟩,
    ⟨some 47, none, .inl (.ext (.v 46) 0)⟩]) (.seq (.cond (.v 47) (.skip) (.exit 2)) (.block [1, 45] 3 (.seq (.ops [1, 9, 10, 45] [
    ⟨some 48, none, .inl (.ext (.v 46) 1)⟩,
    ⟨some 49, none, .inl (.ext (.v 46) 2)⟩,
    ⟨some 9, none, .inl (.mov (.v 48))⟩,
    ⟨some 10, none, .inl (.mov (.v 49))⟩]) (.seq (.ops [1, 9, 45, 53] [
    ⟨some 50, none, .inl (.mov (.v 1))⟩,
    ⟨some 51, none, .inl (.mov (.v 10))⟩,
    ⟨some 52, none, .inl (.call (.f 47) [(.v 50), (.v 51)])⟩,
    ⟨some 53, none, .inl (.bin .geq (.v 52) (.c (.int .i64 0)))⟩]) (.cond (.v 53) (.seq (.ops [4] [
    ⟨some 54, none, .inl (.mov (.v 9))⟩,
    ⟨some 4, none, .inl (.mov (.v 54))⟩]) (.ret)) (.skip)))))))
def strings_IndexAny_l2 : Code := .loop [0, 6, 8] none (.seq (.seq (.ops [0, 6, 8, 36] [
    ⟨some 33, none, .inl (.mov (.v 8))⟩,
    ⟨some 34, none, .inl (.mov (.v 0))⟩,
    ⟨some 35, none, .inl (.len true (.v 34))⟩,
    ⟨some 36, none, .inl (.bin .lss (.v 33) (.v 35))⟩]) (.cond (.v 36) (.skip) (.exit 0))) (.seq (.block [0, 6, 8] 1 (.seq (.ops [0, 6, 8, 42] [
    ⟨some 39, none, .inl (.mov (.v 0))⟩,
    ⟨some 40, none, .inl (.mov (.v 8))⟩,
    ⟨some 41, none, .inl (.idx (.v 39) (.v 40))⟩,
    ⟨some 42, none, .inl (.call (.f 83) [(.v 6), (.v 41)])⟩]) (.cond (.v 42) (.seq (.ops [4] [
    ⟨some 43, none, .inl (.mov (.v 8))⟩,
    ⟨some 4, none, .inl (.mov (.v 43))⟩]) (.ret)) (.skip)))) (.ops [0, 6, 8] [
    ⟨some 37, none, .inl (.mov (.v 8))⟩,
    ⟨some 38, none, .inl (.bin .add (.v 37) (.c (.int .i64 1)))⟩,
    ⟨some 8, none, .inl (.mov (.v 38))⟩])))
def strings_IndexAny : AFn := ⟨2, [.slot 4],
  .seq (.ops [0, 1] [
    ⟨some 4, none, .inl (.mov (.c (.int .i64 0)))⟩]) (.seq (.seq (.ops [0, 1, 12] [
    ⟨some 11, none, .inl (.mov (.v 1))⟩,
    ⟨some 12, none, .inl (.bin .eql (.v 11) (.c (.str [])))⟩]) (.cond (.v 12) (.seq (.ops [4] [
    ⟨some 4, none, .inl (.mov (.c (.int .i64 (-1))))⟩]) (.ret)) (.skip))) (.seq (.seq (.ops [0, 1, 15] [
    ⟨some 13, none, .inl (.mov (.v 1))⟩,
    ⟨some 14, none, .inl (.len true (.v 13))⟩,
    ⟨some 15, none, .inl (.bin .eql (.v 14) (.c (.int .i64 1)))⟩]) (.cond (.v 15) (.seq (.ops [0, 5] [
    ⟨some 16, none, .inl (.mov (.v 1))⟩,
    ⟨some 17, none, .inl (.idx (.v 16) (.c (.int .i64 0)))⟩,
    ⟨some 18, none, .inl (.conv .i32 (.v 17))⟩,
    ⟨some 5, none, .inl (.mov (.v 18))⟩]) (.seq (.seq (.ops [0, 5, 20] [
    ⟨some 19, none, .inl (.mov (.v 5))⟩,
    ⟨some 20, none, .inl (.bin .geq (.v 19) (.c (.int .i32 128)))⟩]) (.cond (.v 20) (.ops [0, 5] [
    ⟨some 5, none, .inl (.mov (.c (.int .i32 65533)))⟩]) (.skip))) (.seq (.ops [4] [
    ⟨some 21, none, .inl (.mov (.v 0))⟩,
    ⟨some 22, none, .inl (.mov (.v 5))⟩,
    ⟨some 23, none, .inl (.call (.f 47) [(.v 21), (.v 22)])⟩,
    ⟨some 4, none, .inl (.mov (.v 23))⟩]) (.ret)))) (.skip))) (.seq (.seq (.ops [0, 1, 26] [
    ⟨some 24, none, .inl (.mov (.v 0))⟩,
    ⟨some 25, none, .inl (.len true (.v 24))⟩,
    ⟨some 26, none, .inl (.call (.f 85) [(.v 25)])⟩]) (.cond (.v 26) (.seq (.ops [0, 1, 6, 7] [
    ⟨some 28, none, .inl (.mov (.v 1))⟩,
    ⟨some 29, none, .inr (.callf (.f 84) [(.v 28)])⟩,
    ⟨some 27, none, .inl (.mov (.v 29))⟩,
    ⟨some 30, none, .inl (.ext (.v 27) 0)⟩,
    ⟨some 31, none, .inl (.ext (.v 27) 1)⟩,
    ⟨some 6, none, .inr (.alloc (List.replicate 256 (.bool false)))⟩,
    ⟨none, none, .inr (.store 256 (.v 6) (.v 30))⟩,
    ⟨some 7, none, .inl (.mov (.v 31))⟩]) (.seq (.ops [0, 1, 6, 32] [
    ⟨some 32, none, .inl (.mov (.v 7))⟩]) (.cond (.v 32) (.seq (.seq (.ops [0, 6, 8] [
    ⟨some 8, none, .inl (.mov (.c (.int .i64 0)))⟩]) (.block [] 0 (strings_IndexAny_l2))) (.seq (.ops [4] [
    ⟨some 4, none, .inl (.mov (.c (.int .i64 (-1))))⟩]) (.ret))) (.skip)))) (.skip))) (.seq (.seq (.ops [1, 45] [
    ⟨some 44, none, .inl (.mov (.v 0))⟩,
    ⟨some 45, none, .inr (.range (.v 44))⟩]) (.block [] 2 (strings_IndexAny_l1))) (.seq (.ops [4] [
    ⟨some 4, none, .inl (.mov (.c (.int .i64 (-1))))⟩]) (.ret))))))⟩

def glob_reader_times_l1 : Code := .loop [2, 7, 9, 27, 28, 29, 33, 34, 35] none (.seq (.ops [2, 7, 9, 27, 28, 29, 33, 34, 35, 36] [
    ⟨some 36, none, .inl (.bin .lss (.v 35) (.v 34))⟩]) (.seq (.cond (.v 36) (.skip) (.exit 2)) (.seq (.block [2, 7, 9, 27, 28, 29, 33, 34, 35] 3 (.seq (.ops [2, 7, 9, 11, 27, 28, 29, 33, 34, 35] [
    ⟨some 37, none, .inl (.iaddr 1 (.v 33) (.v 35))⟩,
    ⟨some 38, none, .inl (.load 1 false (.v 37))⟩,
    ⟨some 11, none, .inl (.mov (.v 38))⟩]) (.ops [2, 7, 9, 27, 28, 29, 33, 34, 35] [
    ⟨some 39, none, .inl (.mov (.v 7))⟩,
    ⟨some 40, none, .inl (.mov (.v 9))⟩,
    ⟨some 41, none, .inl (.mov (.v 11))⟩,
    ⟨some 42, none, .inl (.bin .add (.v 40) (.v 41))⟩,
    ⟨some 43, none, .inl (.bslice 1 false 1 [.str []] [⟨0, 1, (.v 42)⟩])⟩,
    ⟨some 44, none, .inr (.append 1 (.v 39) (.v 43))⟩,
    ⟨some 7, none, .inl (.mov (.v 44))⟩]))) (.ops [2, 7, 9, 27, 28, 29, 33, 34, 35] [
    ⟨some 45, none, .inl (.bin .add (.v 35) (.c (.int .i64 1)))⟩,
    ⟨some 35, none, .inl (.mov (.v 45))⟩]))))
def glob_reader_times_l2 : Code := .loop [2, 7, 27, 28, 29] none (.seq (.ops [2, 7, 27, 28, 29, 30] [
    ⟨some 30, none, .inl (.bin .lss (.v 29) (.v 28))⟩]) (.seq (.cond (.v 30) (.skip) (.exit 0)) (.seq (.block [2, 7, 27, 28, 29] 1 (.seq (.ops [2, 7, 9, 27, 28, 29] [
    ⟨some 31, none, .inl (.iaddr 1 (.v 27) (.v 29))⟩,
    ⟨some 32, none, .inl (.load 1 false (.v 31))⟩,
    ⟨some 9, none, .inl (.mov (.v 32))⟩]) (.seq (.ops [2, 7, 9, 27, 28, 29, 33, 34, 35] [
    ⟨some 33, none, .inl (.mov (.v 2))⟩,
    ⟨some 34, none, .inl (.len false (.v 33))⟩,
    ⟨some 35, none, .inl (.mov (.c (.int .i64 0)))⟩]) (.block [2, 7, 27, 28, 29] 2 (glob_reader_times_l1))))) (.ops [2, 7, 27, 28, 29] [
    ⟨some 46, none, .inl (.bin .add (.v 29) (.c (.int .i64 1)))⟩,
    ⟨some 29, none, .inl (.mov (.v 46))⟩]))))
def glob_reader_times : AFn := ⟨3, [.slot 6],
  .seq (.ops [0, 1, 2] [
    ⟨some 6, none, .inl (.mov (.c (.sl .nil 1 [])))⟩]) (.seq (.seq (.ops [0, 1, 2, 23] [
    ⟨some 12, none, .inl (.mov (.v 0))⟩,
    ⟨some 13, none, .inl (.nilchk (.v 12))⟩,
    ⟨some 14, none, .inl (.faddr 2 (.v 13))⟩,
    ⟨some 15, none, .inl (.load 1 false (.v 14))⟩,
    ⟨some 16, none, .inl (.mov (.v 15))⟩,
    ⟨some 17, (some (16, false)), .inl (.mov (.v 1))⟩,
    ⟨some 18, (some (16, false)), .inl (.len false (.v 17))⟩,
    ⟨some 19, (some (16, false)), .inl (.mov (.v 2))⟩,
    ⟨some 20, (some (16, false)), .inl (.len false (.v 19))⟩,
    ⟨some 21, (some (16, false)), .inl (.bin .mul (.v 18) (.v 20))⟩,
    ⟨some 22, (some (16, false)), .inl (.bin .gtr (.v 21) (.c (.int .i64 512)))⟩,
    ⟨some 23, none, .inl (.pick (.v 16) (.c (.bool true)) (.v 22))⟩]) (.cond (.v 23) (.seq (.ops [] [
    ⟨some 24, none, .inl (.mov (.v 0))⟩,
    ⟨some 25, none, .inl (.nilchk (.v 24))⟩,
    ⟨some 26, none, .inl (.faddr 2 (.v 25))⟩,
    ⟨none, none, .inr (.store 1 (.v 26) (.c (.bool true)))⟩]) (.seq (.ops [6] [
    ⟨some 6, none, .inl (.mov (.c (.sl .nil 1 [])))⟩]) (.ret))) (.skip))) (.seq (.ops [1, 2, 7] [
    ⟨some 7, none, .inr (.newrow 1)⟩]) (.seq (.seq (.ops [2, 7, 27, 28, 29] [
    ⟨some 27, none, .inl (.mov (.v 1))⟩,
    ⟨some 28, none, .inl (.len false (.v 27))⟩,
    ⟨some 29, none, .inl (.mov (.c (.int .i64 0)))⟩]) (.block [7] 0 (glob_reader_times_l2))) (.seq (.ops [6] [
    ⟨some 47, none, .inl (.mov (.v 7))⟩,
    ⟨some 6, none, .inl (.mov (.v 47))⟩]) (.ret)))))⟩

def glob_reader_choice_l1 : Code := .loop [0, 3] (some 1) (.seq (.seq (.ops [0, 3, 32] [
    ⟨some 4, none, .inl (.mov (.v 0))⟩,
    ⟨some 5, none, .inl (.nilchk (.v 4))⟩,
    ⟨some 6, none, .inl (.faddr 1 (.v 5))⟩,
    ⟨some 7, none, .inl (.load 1 false (.v 6))⟩,
    ⟨some 8, none, .inl (.mov (.v 0))⟩,
    ⟨some 9, none, .inl (.nilchk (.v 8))⟩,
    ⟨some 10, none, .inl (.faddr 0 (.v 9))⟩,
    ⟨some 11, none, .inl (.load 1 false (.v 10))⟩,
    ⟨some 12, none, .inl (.len true (.v 11))⟩,
    ⟨some 13, none, .inl (.bin .lss (.v 7) (.v 12))⟩,
    ⟨some 14, none, .inl (.mov (.v 13))⟩,
    ⟨some 15, (some (14, true)), .inl (.mov (.v 0))⟩,
    ⟨some 16, (some (14, true)), .inl (.nilchk (.v 15))⟩,
    ⟨some 17, (some (14, true)), .inl (.faddr 0 (.v 16))⟩,
    ⟨some 18, (some (14, true)), .inl (.load 1 false (.v 17))⟩,
    ⟨some 19, (some (14, true)), .inl (.mov (.v 0))⟩,
    ⟨some 20, (some (14, true)), .inl (.nilchk (.v 19))⟩,
    ⟨some 21, (some (14, true)), .inl (.faddr 1 (.v 20))⟩,
    ⟨some 22, (some (14, true)), .inl (.load 1 false (.v 21))⟩,
    ⟨some 23, (some (14, true)), .inl (.idx (.v 18) (.v 22))⟩,
    ⟨some 24, (some (14, true)), .inl (.bin .neq (.v 23) (.c (.int .u8 125)))⟩,
    ⟨some 25, none, .inl (.pick (.v 14) (.v 24) (.c (.bool false)))⟩,
    ⟨some 26, none, .inl (.mov (.v 25))⟩,
    ⟨some 27, (some (26, true)), .inl (.mov (.v 0))⟩,
    ⟨some 28, (some (26, true)), .inl (.nilchk (.v 27))⟩,
    ⟨some 29, (some (26, true)), .inl (.faddr 2 (.v 28))⟩,
    ⟨some 30, (some (26, true)), .inl (.load 1 false (.v 29))⟩,
    ⟨some 31, (some (26, true)), .inl (.un .not (.v 30))⟩,
    ⟨some 32, none, .inl (.pick (.v 26) (.v 31) (.c (.bool false)))⟩]) (.cond (.v 32) (.skip) (.exit 0))) (.block [0, 3] 1 (.seq (.ops [0, 3] [
    ⟨some 33, none, .inl (.mov (.v 0))⟩,
    ⟨some 34, none, .inl (.nilchk (.v 33))⟩,
    ⟨some 35, none, .inl (.faddr 1 (.v 34))⟩,
    ⟨some 36, none, .inl (.load 1 false (.v 35))⟩,
    ⟨some 37, none, .inl (.bin .add (.v 36) (.c (.int .i64 1)))⟩,
    ⟨some 38, none, .inl (.nilchk (.v 33))⟩,
    ⟨some 39, none, .inl (.faddr 1 (.v 38))⟩,
    ⟨none, none, .inr (.store 1 (.v 39) (.v 37))⟩]) (.seq (.ops [0, 3] [
    ⟨some 40, none, .inl (.mov (.v 3))⟩,
    ⟨some 41, none, .inl (.mov (.v 0))⟩,
    ⟨some 42, none, .inr (.calls (.f 37) [(.v 41)])⟩,
    ⟨some 43, none, .inr (.append 1 (.v 40) (.v 42))⟩,
    ⟨some 3, none, .inl (.mov (.v 43))⟩]) (.ops [0, 3] [
    ⟨some 44, none, .inl (.mov (.v 0))⟩,
    ⟨some 45, none, .inl (.mov (.v 0))⟩,
    ⟨some 46, none, .inl (.nilchk (.v 45))⟩,
    ⟨some 47, none, .inl (.faddr 2 (.v 46))⟩,
    ⟨some 48, none, .inl (.load 1 false (.v 47))⟩,
    ⟨some 49, none, .inl (.mov (.v 48))⟩,
    ⟨some 50, (some (49, false)), .inl (.mov (.v 3))⟩,
    ⟨some 51, (some (49, false)), .inl (.len false (.v 50))⟩,
    ⟨some 52, (some (49, false)), .inl (.bin .gtr (.v 51) (.c (.int .i64 512)))⟩,
    ⟨some 53, none, .inl (.pick (.v 49) (.c (.bool true)) (.v 52))⟩,
    ⟨some 54, none, .inl (.nilchk (.v 44))⟩,
    ⟨some 55, none, .inl (.faddr 2 (.v 54))⟩,
    ⟨none, none, .inr (.store 1 (.v 55) (.v 53))⟩])))))
def glob_reader_choice : AFn := ⟨1, [.slot 2],
  .seq (.ops [0] [
    ⟨some 2, none, .inl (.mov (.c (.sl .nil 1 [])))⟩]) (.seq (.ops [0, 3] [
    ⟨some 3, none, .inr (.newrow 1)⟩]) (.seq (.block [0, 3] 0 (glob_reader_choice_l1)) (.seq (.ops [3] [
    ⟨some 56, none, .inl (.mov (.v 0))⟩,
    ⟨some 57, none, .inl (.nilchk (.v 56))⟩,
    ⟨some 58, none, .inl (.faddr 1 (.v 57))⟩,
    ⟨some 59, none, .inl (.load 1 false (.v 58))⟩,
    ⟨some 60, none, .inl (.bin .add (.v 59) (.c (.int .i64 1)))⟩,
    ⟨some 61, none, .inl (.nilchk (.v 56))⟩,
    ⟨some 62, none, .inl (.faddr 1 (.v 61))⟩,
    ⟨none, none, .inr (.store 1 (.v 62) (.v 60))⟩]) (.seq (.ops [2] [
    ⟨some 63, none, .inl (.mov (.v 3))⟩,
    ⟨some 2, none, .inl (.mov (.v 63))⟩]) (.ret)))))⟩

def r9_matches_l1 : Code := .loop [0, 1, 5, 6, 7, 8, 9] none (.seq (.seq (.ops [0, 1, 5, 6, 7, 8, 9, 37] [
    ⟨some 34, none, .inl (.mov (.v 9))⟩,
    ⟨some 35, none, .inl (.mov (.v 1))⟩,
    ⟨some 36, none, .inl (.len true (.v 35))⟩,
    ⟨some 37, none, .inl (.bin .leq (.v 34) (.v 36))⟩]) (.cond (.v 37) (.skip) (.exit 2))) (.seq (.block [0, 1, 5, 6, 7, 8, 9] 3 (.seq (.seq (.ops [0, 1, 5, 6, 7, 8, 9, 43] [
    ⟨some 40, none, .inl (.mov (.v 0))⟩,
    ⟨some 41, none, .inl (.mov (.v 6))⟩,
    ⟨some 42, none, .inl (.idx (.v 40) (.v 41))⟩,
    ⟨some 43, none, .inl (.bin .eql (.v 42) (.c (.int .u8 42)))⟩]) (.cond (.v 43) (.seq (.ops [0, 1, 5, 6, 7, 8, 9] [
    ⟨some 44, none, .inl (.mov (.v 7))⟩,
    ⟨some 45, none, .inl (.mov (.v 9))⟩,
    ⟨some 46, none, .inl (.mov (.v 5))⟩,
    ⟨some 47, none, .inl (.mov (.v 9))⟩,
    ⟨some 48, none, .inl (.iaddr 1 (.v 46) (.v 47))⟩,
    ⟨some 49, none, .inl (.load 1 false (.v 48))⟩,
    ⟨some 50, none, .inl (.mov (.v 49))⟩,
    ⟨some 51, (some (50, false)), .inl (.mov (.v 9))⟩,
    ⟨some 52, (some (50, false)), .inl (.bin .gtr (.v 51) (.c (.int .i64 0)))⟩,
    ⟨some 53, (some (50, false)), .inl (.mov (.v 52))⟩,
    ⟨some 54, (some (53, true)), .inl (.mov (.v 7))⟩,
    ⟨some 55, (some (53, true)), .inl (.mov (.v 9))⟩,
    ⟨some 56, (some (53, true)), .inl (.bin .sub (.v 55) (.c (.int .i64 1)))⟩,
    ⟨some 57, (some (53, true)), .inl (.iaddr 1 (.v 54) (.v 56))⟩,
    ⟨some 58, (some (53, true)), .inl (.load 1 false (.v 57))⟩,
    ⟨some 59, (some (50, false)), .inl (.pick (.v 53) (.v 58) (.c (.bool false)))⟩,
    ⟨some 60, none, .inl (.pick (.v 50) (.c (.bool true)) (.v 59))⟩,
    ⟨some 61, none, .inl (.iaddr 1 (.v 44) (.v 45))⟩,
    ⟨none, none, .inr (.store 1 (.v 61) (.v 60))⟩]) (.exit 3)) (.skip))) (.seq (.seq (.ops [0, 1, 5, 6, 7, 8, 9, 71] [
    ⟨some 62, none, .inl (.mov (.v 9))⟩,
    ⟨some 63, none, .inl (.bin .eql (.v 62) (.c (.int .i64 0)))⟩,
    ⟨some 64, none, .inl (.mov (.v 63))⟩,
    ⟨some 65, (some (64, false)), .inl (.mov (.v 5))⟩,
    ⟨some 66, (some (64, false)), .inl (.mov (.v 9))⟩,
    ⟨some 67, (some (64, false)), .inl (.bin .sub (.v 66) (.c (.int .i64 1)))⟩,
    ⟨some 68, (some (64, false)), .inl (.iaddr 1 (.v 65) (.v 67))⟩,
    ⟨some 69, (some (64, false)), .inl (.load 1 false (.v 68))⟩,
    ⟨some 70, (some (64, false)), .inl (.un .not (.v 69))⟩,
    ⟨some 71, none, .inl (.pick (.v 64) (.c (.bool true)) (.v 70))⟩]) (.cond (.v 71) (.exit 3) (.skip))) (.ops [0, 1, 5, 6, 7, 8, 9] [
    ⟨some 72, none, .inl (.mov (.v 7))⟩,
    ⟨some 73, none, .inl (.mov (.v 9))⟩,
    ⟨some 74, none, .inl (.mov (.v 0))⟩,
    ⟨some 75, none, .inl (.mov (.v 6))⟩,
    ⟨some 76, none, .inl (.idx (.v 74) (.v 75))⟩,
    ⟨some 77, none, .inl (.bin .eql (.v 76) (.c (.int .u8 63)))⟩,
    ⟨some 78, none, .inl (.mov (.v 77))⟩,
    ⟨some 79, (some (78, false)), .inl (.mov (.v 0))⟩,
    ⟨some 80, (some (78, false)), .inl (.mov (.v 6))⟩,
    ⟨some 81, (some (78, false)), .inl (.idx (.v 79) (.v 80))⟩,
    ⟨some 82, (some (78, false)), .inl (.bin .eql (.v 81) (.c (.int .u8 91)))⟩,
    ⟨some 83, (some (78, false)), .inl (.mov (.v 82))⟩,
    ⟨some 84, (some (83, true)), .inl (.mov (.v 0))⟩,
    ⟨some 85, (some (83, true)), .inl (.mov (.v 6))⟩,
    ⟨some 86, (some (83, true)), .inl (.mov (.v 8))⟩,
    ⟨some 87, (some (83, true)), .inl (.mov (.v 1))⟩,
    ⟨some 88, (some (83, true)), .inl (.mov (.v 9))⟩,
    ⟨some 89, (some (83, true)), .inl (.bin .sub (.v 88) (.c (.int .i64 1)))⟩,
    ⟨some 90, (some (83, true)), .inl (.idx (.v 87) (.v 89))⟩,
    ⟨some 91, (some (83, true)), .inl (.call (.f 59) [(.v 84), (.v 85), (.v 86), (.v 90)])⟩,
    ⟨some 92, (some (78, false)), .inl (.pick (.v 83) (.v 91) (.c (.bool false)))⟩,
    ⟨some 93, none, .inl (.pick (.v 78) (.c (.bool true)) (.v 92))⟩,
    ⟨some 94, none, .inl (.mov (.v 93))⟩,
    ⟨some 95, (some (94, false)), .inl (.mov (.v 0))⟩,
    ⟨some 96, (some (94, false)), .inl (.mov (.v 6))⟩,
    ⟨some 97, (some (94, false)), .inl (.idx (.v 95) (.v 96))⟩,
    ⟨some 98, (some (94, false)), .inl (.bin .neq (.v 97) (.c (.int .u8 91)))⟩,
    ⟨some 99, (some (94, false)), .inl (.mov (.v 98))⟩,
    ⟨some 100, (some (99, true)), .inl (.mov (.v 0))⟩,
    ⟨some 101, (some (99, true)), .inl (.mov (.v 6))⟩,
    ⟨some 102, (some (99, true)), .inl (.idx (.v 100) (.v 101))⟩,
    ⟨some 103, (some (99, true)), .inl (.mov (.v 1))⟩,
    ⟨some 104, (some (99, true)), .inl (.mov (.v 9))⟩,
    ⟨some 105, (some (99, true)), .inl (.bin .sub (.v 104) (.c (.int .i64 1)))⟩,
    ⟨some 106, (some (99, true)), .inl (.idx (.v 103) (.v 105))⟩,
    ⟨some 107, (some (99, true)), .inl (.bin .eql (.v 102) (.v 106))⟩,
    ⟨some 108, (some (94, false)), .inl (.pick (.v 99) (.v 107) (.c (.bool false)))⟩,
    ⟨some 109, none, .inl (.pick (.v 94) (.c (.bool true)) (.v 108))⟩,
    ⟨some 110, none, .inl (.iaddr 1 (.v 72) (.v 73))⟩,
    ⟨none, none, .inr (.store 1 (.v 110) (.v 109))⟩])))) (.ops [0, 1, 5, 6, 7, 8, 9] [
    ⟨some 38, none, .inl (.mov (.v 9))⟩,
    ⟨some 39, none, .inl (.bin .add (.v 38) (.c (.int .i64 1)))⟩,
    ⟨some 9, none, .inl (.mov (.v 39))⟩])))
def r9_matches_l2 : Code := .loop [0, 1, 5, 6] (some 0) (.seq (.seq (.ops [0, 1, 5, 6, 19] [
    ⟨some 16, none, .inl (.mov (.v 6))⟩,
    ⟨some 17, none, .inl (.mov (.v 0))⟩,
    ⟨some 18, none, .inl (.len true (.v 17))⟩,
    ⟨some 19, none, .inl (.bin .lss (.v 16) (.v 18))⟩]) (.cond (.v 19) (.skip) (.exit 0))) (.seq (.block [0, 1, 5, 6] 1 (.seq (.ops [0, 1, 5, 6, 7] [
    ⟨some 22, none, .inl (.mov (.v 1))⟩,
    ⟨some 23, none, .inl (.len true (.v 22))⟩,
    ⟨some 24, none, .inl (.bin .add (.v 23) (.c (.int .i64 1)))⟩,
    ⟨some 25, none, .inr (.mkslice 1 false [.bool false] (.v 24) (.v 24))⟩,
    ⟨some 7, none, .inl (.mov (.v 25))⟩]) (.seq (.ops [0, 1, 5, 6, 7, 8] [
    ⟨some 26, none, .inl (.mov (.v 6))⟩,
    ⟨some 8, none, .inl (.mov (.v 26))⟩]) (.seq (.seq (.ops [0, 1, 5, 6, 7, 8, 30] [
    ⟨some 27, none, .inl (.mov (.v 0))⟩,
    ⟨some 28, none, .inl (.mov (.v 6))⟩,
    ⟨some 29, none, .inl (.idx (.v 27) (.v 28))⟩,
    ⟨some 30, none, .inl (.bin .eql (.v 29) (.c (.int .u8 91)))⟩]) (.cond (.v 30) (.ops [0, 1, 5, 6, 7, 8] [
    ⟨some 31, none, .inl (.mov (.v 0))⟩,
    ⟨some 32, none, .inl (.mov (.v 6))⟩,
    ⟨some 33, none, .inl (.call (.f 58) [(.v 31), (.v 32)])⟩,
    ⟨some 8, none, .inl (.mov (.v 33))⟩]) (.skip))) (.seq (.seq (.ops [0, 1, 5, 6, 7, 8, 9] [
    ⟨some 9, none, .inl (.mov (.c (.int .i64 0)))⟩]) (.block [0, 1, 7, 8] 2 (r9_matches_l1))) (.ops [0, 1, 5, 6] [
    ⟨some 111, none, .inl (.mov (.v 7))⟩,
    ⟨some 112, none, .inl (.mov (.v 8))⟩,
    ⟨some 5, none, .inl (.mov (.v 111))⟩,
    ⟨some 6, none, .inl (.mov (.v 112))⟩])))))) (.ops [0, 1, 5, 6] [
    ⟨some 20, none, .inl (.mov (.v 6))⟩,
    ⟨some 21, none, .inl (.bin .add (.v 20) (.c (.int .i64 1)))⟩,
    ⟨some 6, none, .inl (.mov (.v 21))⟩])))
def r9_matches : AFn := ⟨2, [.slot 4],
  .seq (.ops [0, 1] [
    ⟨some 4, none, .inl (.mov (.c (.bool false)))⟩]) (.seq (.ops [0, 1, 5] [
    ⟨some 10, none, .inl (.mov (.v 1))⟩,
    ⟨some 11, none, .inl (.len true (.v 10))⟩,
    ⟨some 12, none, .inl (.bin .add (.v 11) (.c (.int .i64 1)))⟩,
    ⟨some 13, none, .inr (.mkslice 1 false [.bool false] (.v 12) (.v 12))⟩,
    ⟨some 5, none, .inl (.mov (.v 13))⟩]) (.seq (.ops [0, 1, 5] [
    ⟨some 14, none, .inl (.mov (.v 5))⟩,
    ⟨some 15, none, .inl (.iaddr 1 (.v 14) (.c (.int .i64 0)))⟩,
    ⟨none, none, .inr (.store 1 (.v 15) (.c (.bool true)))⟩]) (.seq (.seq (.ops [0, 1, 5, 6] [
    ⟨some 6, none, .inl (.mov (.c (.int .i64 0)))⟩]) (.block [1, 5] 0 (r9_matches_l2))) (.seq (.ops [4] [
    ⟨some 113, none, .inl (.mov (.v 5))⟩,
    ⟨some 114, none, .inl (.mov (.v 1))⟩,
    ⟨some 115, none, .inl (.len true (.v 114))⟩,
    ⟨some 116, none, .inl (.iaddr 1 (.v 113) (.v 115))⟩,
    ⟨some 117, none, .inl (.load 1 false (.v 116))⟩,
    ⟨some 4, none, .inl (.mov (.v 117))⟩]) (.ret)))))⟩

def strings_ContainsAny : AFn := ⟨2, [.slot 4],
  .seq (.ops [0, 1] [
    ⟨some 4, none, .inl (.mov (.c (.bool false)))⟩]) (.seq (.ops [4] [
    ⟨some 5, none, .inl (.mov (.v 0))⟩,
    ⟨some 6, none, .inl (.mov (.v 1))⟩,
    ⟨some 7, none, .inl (.call (.f 24) [(.v 5), (.v 6)])⟩,
    ⟨some 8, none, .inl (.bin .geq (.v 7) (.c (.int .i64 0)))⟩,
    ⟨some 4, none, .inl (.mov (.v 8))⟩]) (.ret))⟩

def r8_Byte : AFn := ⟨1, [.slot 2],
  .seq (.ops [0] [
    ⟨some 2, none, .inl (.mov (.c (.bool false)))⟩]) (.seq (.seq (.ops [0, 24] [
    ⟨some 3, none, .inl (.mov (.v 0))⟩,
    ⟨some 4, none, .inl (.bin .geq (.v 3) (.c (.int .u8 97)))⟩,
    ⟨some 5, none, .inl (.mov (.v 4))⟩,
    ⟨some 6, (some (5, true)), .inl (.mov (.v 0))⟩,
    ⟨some 7, (some (5, true)), .inl (.bin .leq (.v 6) (.c (.int .u8 122)))⟩,
    ⟨some 8, none, .inl (.pick (.v 5) (.v 7) (.c (.bool false)))⟩,
    ⟨some 9, none, .inl (.mov (.v 8))⟩,
    ⟨some 10, (some (9, false)), .inl (.mov (.v 0))⟩,
    ⟨some 11, (some (9, false)), .inl (.bin .geq (.v 10) (.c (.int .u8 65)))⟩,
    ⟨some 12, (some (9, false)), .inl (.mov (.v 11))⟩,
    ⟨some 13, (some (12, true)), .inl (.mov (.v 0))⟩,
    ⟨some 14, (some (12, true)), .inl (.bin .leq (.v 13) (.c (.int .u8 90)))⟩,
    ⟨some 15, (some (9, false)), .inl (.pick (.v 12) (.v 14) (.c (.bool false)))⟩,
    ⟨some 16, none, .inl (.pick (.v 9) (.c (.bool true)) (.v 15))⟩,
    ⟨some 17, none, .inl (.mov (.v 16))⟩,
    ⟨some 18, (some (17, false)), .inl (.mov (.v 0))⟩,
    ⟨some 19, (some (17, false)), .inl (.bin .geq (.v 18) (.c (.int .u8 48)))⟩,
    ⟨some 20, (some (17, false)), .inl (.mov (.v 19))⟩,
    ⟨some 21, (some (20, true)), .inl (.mov (.v 0))⟩,
    ⟨some 22, (some (20, true)), .inl (.bin .leq (.v 21) (.c (.int .u8 57)))⟩,
    ⟨some 23, (some (17, false)), .inl (.pick (.v 20) (.v 22) (.c (.bool false)))⟩,
    ⟨some 24, none, .inl (.pick (.v 17) (.c (.bool true)) (.v 23))⟩]) (.cond (.v 24) (.seq (.ops [2] [
    ⟨some 2, none, .inl (.mov (.c (.bool true)))⟩]) (.ret)) (.skip))) (.seq (.ops [2] [
    ⟨some 25, none, .inl (.mov (.v 0))⟩,
    ⟨some 26, none, .inl (.bin .eql (.v 25) (.c (.int .u8 95)))⟩,
    ⟨some 27, none, .inl (.mov (.v 26))⟩,
    ⟨some 28, (some (27, false)), .inl (.mov (.v 0))⟩,
    ⟨some 29, (some (27, false)), .inl (.bin .eql (.v 28) (.c (.int .u8 45)))⟩,
    ⟨some 30, none, .inl (.pick (.v 27) (.c (.bool true)) (.v 29))⟩,
    ⟨some 31, none, .inl (.mov (.v 30))⟩,
    ⟨some 32, (some (31, false)), .inl (.mov (.v 0))⟩,
    ⟨some 33, (some (31, false)), .inl (.bin .eql (.v 32) (.c (.int .u8 58)))⟩,
    ⟨some 34, none, .inl (.pick (.v 31) (.c (.bool true)) (.v 33))⟩,
    ⟨some 35, none, .inl (.mov (.v 34))⟩,
    ⟨some 36, (some (35, false)), .inl (.mov (.v 0))⟩,
    ⟨some 37, (some (35, false)), .inl (.bin .eql (.v 36) (.c (.int .u8 35)))⟩,
    ⟨some 38, none, .inl (.pick (.v 35) (.c (.bool true)) (.v 37))⟩,
    ⟨some 39, none, .inl (.mov (.v 38))⟩,
    ⟨some 40, (some (39, false)), .inl (.mov (.v 0))⟩,
    ⟨some 41, (some (39, false)), .inl (.bin .eql (.v 40) (.c (.int .u8 37)))⟩,
    ⟨some 42, none, .inl (.pick (.v 39) (.c (.bool true)) (.v 41))⟩,
    ⟨some 43, none, .inl (.mov (.v 42))⟩,
    ⟨some 44, (some (43, false)), .inl (.mov (.v 0))⟩,
    ⟨some 45, (some (43, false)), .inl (.bin .eql (.v 44) (.c (.int .u8 64)))⟩,
    ⟨some 46, none, .inl (.pick (.v 43) (.c (.bool true)) (.v 45))⟩,
    ⟨some 47, none, .inl (.mov (.v 46))⟩,
    ⟨some 48, (some (47, false)), .inl (.mov (.v 0))⟩,
    ⟨some 49, (some (47, false)), .inl (.bin .eql (.v 48) (.c (.int .u8 61)))⟩,
    ⟨some 50, none, .inl (.pick (.v 47) (.c (.bool true)) (.v 49))⟩,
    ⟨some 2, none, .inl (.mov (.v 50))⟩]) (.ret)))⟩

def r9_simple_l1 : Code := .loop [0, 3] none (.seq (.seq (.ops [0, 3, 7] [
    ⟨some 4, none, .inl (.mov (.v 3))⟩,
    ⟨some 5, none, .inl (.mov (.v 0))⟩,
    ⟨some 6, none, .inl (.len true (.v 5))⟩,
    ⟨some 7, none, .inl (.bin .lss (.v 4) (.v 6))⟩]) (.cond (.v 7) (.skip) (.exit 0))) (.seq (.block [0, 3] 1 (.block [0, 3] 2 (.seq (.ops [0, 3, 10] [
    ⟨some 11, none, .inl (.mov (.v 0))⟩,
    ⟨some 12, none, .inl (.mov (.v 3))⟩,
    ⟨some 13, none, .inl (.idx (.v 11) (.v 12))⟩,
    ⟨some 14, none, .inl (.bin .eql (.v 13) (.c (.int .u8 91)))⟩,
    ⟨some 10, none, .inl (.mov (.v 14))⟩]) (.cond (.v 10) (.seq (.ops [0, 3] [
    ⟨some 15, none, .inl (.mov (.v 0))⟩,
    ⟨some 16, none, .inl (.mov (.v 3))⟩,
    ⟨some 17, none, .inl (.call (.f 58) [(.v 15), (.v 16)])⟩,
    ⟨some 3, none, .inl (.mov (.v 17))⟩]) (.seq (.ops [0, 3, 19] [
    ⟨some 18, none, .inl (.mov (.v 3))⟩,
    ⟨some 19, none, .inl (.bin .lss (.v 18) (.c (.int .i64 0)))⟩]) (.cond (.v 19) (.seq (.ops [2] [
    ⟨some 2, none, .inl (.mov (.c (.bool false)))⟩]) (.ret)) (.skip)))) (.seq (.ops [0, 3, 20] [
    ⟨some 21, none, .inl (.mov (.v 0))⟩,
    ⟨some 22, none, .inl (.mov (.v 3))⟩,
    ⟨some 23, none, .inl (.idx (.v 21) (.v 22))⟩,
    ⟨some 24, none, .inl (.bin .eql (.v 23) (.c (.int .u8 42)))⟩,
    ⟨some 25, none, .inl (.mov (.v 24))⟩,
    ⟨some 26, (some (25, false)), .inl (.mov (.v 0))⟩,
    ⟨some 27, (some (25, false)), .inl (.mov (.v 3))⟩,
    ⟨some 28, (some (25, false)), .inl (.idx (.v 26) (.v 27))⟩,
    ⟨some 29, (some (25, false)), .inl (.bin .eql (.v 28) (.c (.int .u8 63)))⟩,
    ⟨some 30, none, .inl (.pick (.v 25) (.c (.bool true)) (.v 29))⟩,
    ⟨some 31, none, .inl (.mov (.v 30))⟩,
    ⟨some 32, (some (31, false)), .inl (.mov (.v 0))⟩,
    ⟨some 33, (some (31, false)), .inl (.mov (.v 3))⟩,
    ⟨some 34, (some (31, false)), .inl (.idx (.v 32) (.v 33))⟩,
    ⟨some 35, (some (31, false)), .inl (.call (.f 43) [(.v 34)])⟩,
    ⟨some 36, none, .inl (.pick (.v 31) (.c (.bool true)) (.v 35))⟩,
    ⟨some 20, none, .inl (.mov (.v 36))⟩]) (.cond (.v 20) (.skip) (.seq (.ops [2] [
    ⟨some 2, none, .inl (.mov (.c (.bool false)))⟩]) (.ret)))))))) (.ops [0, 3] [
    ⟨some 8, none, .inl (.mov (.v 3))⟩,
    ⟨some 9, none, .inl (.bin .add (.v 8) (.c (.int .i64 1)))⟩,
    ⟨some 3, none, .inl (.mov (.v 9))⟩])))
def r9_simple : AFn := ⟨1, [.slot 2],
  .seq (.ops [0] [
    ⟨some 2, none, .inl (.mov (.c (.bool false)))⟩]) (.seq (.seq (.ops [0, 3] [
    ⟨some 3, none, .inl (.mov (.c (.int .i64 0)))⟩]) (.block [] 0 (r9_simple_l1))) (.seq (.ops [2] [
    ⟨some 2, none, .inl (.mov (.c (.bool true)))⟩]) (.ret)))⟩

def r9_braces_l1 : Code := .loop [0, 3, 4] none (.seq (.seq (.ops [0, 3, 4, 8] [
    ⟨some 5, none, .inl (.mov (.v 4))⟩,
    ⟨some 6, none, .inl (.mov (.v 0))⟩,
    ⟨some 7, none, .inl (.len true (.v 6))⟩,
    ⟨some 8, none, .inl (.bin .lss (.v 5) (.v 7))⟩]) (.cond (.v 8) (.skip) (.exit 0))) (.seq (.block [0, 3, 4] 1 (.seq (.seq (.ops [0, 3, 4, 13] [
    ⟨some 11, none, .inl (.mov (.v 0))⟩,
    ⟨some 12, none, .inl (.mov (.v 4))⟩,
    ⟨some 13, none, .inl (.idx (.v 11) (.v 12))⟩]) (.block [0, 3, 4] 2 (.seq (.ops [0, 3, 4, 13, 14] [
    ⟨some 15, none, .inl (.bin .eql (.v 13) (.c (.int .u8 123)))⟩,
    ⟨some 14, none, .inl (.mov (.v 15))⟩]) (.cond (.v 14) (.ops [0, 3, 4] [
    ⟨some 16, none, .inl (.mov (.v 3))⟩,
    ⟨some 17, none, .inl (.bin .add (.v 16) (.c (.int .i64 1)))⟩,
    ⟨some 3, none, .inl (.mov (.v 17))⟩]) (.seq (.ops [0, 3, 4, 13, 18] [
    ⟨some 19, none, .inl (.bin .eql (.v 13) (.c (.int .u8 125)))⟩,
    ⟨some 18, none, .inl (.mov (.v 19))⟩]) (.cond (.v 18) (.ops [0, 3, 4] [
    ⟨some 20, none, .inl (.mov (.v 3))⟩,
    ⟨some 21, none, .inl (.bin .sub (.v 20) (.c (.int .i64 1)))⟩,
    ⟨some 3, none, .inl (.mov (.v 21))⟩]) (.seq (.ops [0, 3, 4, 22] [
    ⟨some 23, none, .inl (.bin .eql (.v 13) (.c (.int .u8 44)))⟩,
    ⟨some 22, none, .inl (.mov (.v 23))⟩]) (.cond (.v 22) (.seq (.ops [0, 3, 4, 25] [
    ⟨some 24, none, .inl (.mov (.v 3))⟩,
    ⟨some 25, none, .inl (.bin .eql (.v 24) (.c (.int .i64 0)))⟩]) (.cond (.v 25) (.seq (.ops [2] [
    ⟨some 2, none, .inl (.mov (.c (.bool false)))⟩]) (.ret)) (.skip))) (.skip))))))))) (.seq (.ops [0, 3, 4, 27] [
    ⟨some 26, none, .inl (.mov (.v 3))⟩,
    ⟨some 27, none, .inl (.bin .lss (.v 26) (.c (.int .i64 0)))⟩]) (.cond (.v 27) (.seq (.ops [2] [
    ⟨some 2, none, .inl (.mov (.c (.bool false)))⟩]) (.ret)) (.skip))))) (.ops [0, 3, 4] [
    ⟨some 9, none, .inl (.mov (.v 4))⟩,
    ⟨some 10, none, .inl (.bin .add (.v 9) (.c (.int .i64 1)))⟩,
    ⟨some 4, none, .inl (.mov (.v 10))⟩])))
def r9_braces : AFn := ⟨1, [.slot 2],
  .seq (.ops [0] [
    ⟨some 2, none, .inl (.mov (.c (.bool false)))⟩]) (.seq (.ops [0, 3] [
    ⟨some 3, none, .inl (.mov (.c (.int .i64 0)))⟩]) (.seq (.seq (.ops [0, 3, 4] [
    ⟨some 4, none, .inl (.mov (.c (.int .i64 0)))⟩]) (.block [3] 0 (r9_braces_l1))) (.seq (.ops [2] [
    ⟨some 28, none, .inl (.mov (.v 3))⟩,
    ⟨some 29, none, .inl (.bin .eql (.v 28) (.c (.int .i64 0)))⟩,
    ⟨some 2, none, .inl (.mov (.v 29))⟩]) (.ret))))⟩

def r9_all_l1 : Code := .loop [0, 4, 6, 7, 9, 10, 11, 13, 14] none (.seq (.seq (.ops [0, 4, 6, 7, 9, 10, 11, 13, 14, 85] [
    ⟨some 82, none, .inl (.mov (.v 14))⟩,
    ⟨some 83, none, .inl (.mov (.v 7))⟩,
    ⟨some 84, none, .inl (.len false (.v 83))⟩,
    ⟨some 85, none, .inl (.bin .lss (.v 82) (.v 84))⟩]) (.cond (.v 85) (.skip) (.exit 6))) (.seq (.block [0, 4, 6, 7, 9, 10, 11, 13, 14] 7 (.ops [0, 4, 6, 7, 9, 10, 11, 13, 14] [
    ⟨some 88, none, .inl (.mov (.v 9))⟩,
    ⟨some 89, none, .inl (.mov (.v 0))⟩,
    ⟨some 90, none, .inl (.mov (.v 4))⟩,
    ⟨some 91, none, .inl (.sliceS (.v 89) none (some (.v 90)))⟩,
    ⟨some 92, none, .inl (.mov (.v 11))⟩,
    ⟨some 93, none, .inl (.mov (.v 13))⟩,
    ⟨some 94, none, .inl (.iaddr 1 (.v 92) (.v 93))⟩,
    ⟨some 95, none, .inl (.load 1 false (.v 94))⟩,
    ⟨some 96, none, .inl (.bin .add (.v 91) (.v 95))⟩,
    ⟨some 97, none, .inl (.mov (.v 7))⟩,
    ⟨some 98, none, .inl (.mov (.v 14))⟩,
    ⟨some 99, none, .inl (.iaddr 1 (.v 97) (.v 98))⟩,
    ⟨some 100, none, .inl (.load 1 false (.v 99))⟩,
    ⟨some 101, none, .inl (.bin .add (.v 96) (.v 100))⟩,
    ⟨some 102, none, .inl (.bslice 1 false 1 [.str []] [⟨0, 1, (.v 101)⟩])⟩,
    ⟨some 103, none, .inr (.append 1 (.v 88) (.v 102))⟩,
    ⟨some 9, none, .inl (.mov (.v 103))⟩])) (.ops [0, 4, 6, 7, 9, 10, 11, 13, 14] [
    ⟨some 86, none, .inl (.mov (.v 14))⟩,
    ⟨some 87, none, .inl (.bin .add (.v 86) (.c (.int .i64 1)))⟩,
    ⟨some 14, none, .inl (.mov (.v 87))⟩])))
def r9_all_l2 : Code := .loop [0, 4, 6, 7, 9, 10, 11, 13] none (.seq (.seq (.ops [0, 4, 6, 7, 9, 10, 11, 13, 79] [
    ⟨some 76, none, .inl (.mov (.v 13))⟩,
    ⟨some 77, none, .inl (.mov (.v 11))⟩,
    ⟨some 78, none, .inl (.len false (.v 77))⟩,
    ⟨some 79, none, .inl (.bin .lss (.v 76) (.v 78))⟩]) (.cond (.v 79) (.skip) (.exit 4))) (.seq (.block [0, 4, 6, 7, 9, 10, 11, 13] 5 (.seq (.ops [0, 4, 6, 7, 9, 10, 11, 13, 14] [
    ⟨some 14, none, .inl (.mov (.c (.int .i64 0)))⟩]) (.block [0, 4, 6, 7, 9, 10, 11, 13] 6 (r9_all_l1)))) (.ops [0, 4, 6, 7, 9, 10, 11, 13] [
    ⟨some 80, none, .inl (.mov (.v 13))⟩,
    ⟨some 81, none, .inl (.bin .add (.v 80) (.c (.int .i64 1)))⟩,
    ⟨some 13, none, .inl (.mov (.v 81))⟩])))
def r9_all_l3 : Code := .loop [0, 4, 6, 7, 9, 10] none (.seq (.seq (.ops [0, 4, 6, 7, 9, 10, 52] [
    ⟨some 49, none, .inl (.mov (.v 10))⟩,
    ⟨some 50, none, .inl (.mov (.v 6))⟩,
    ⟨some 51, none, .inl (.len false (.v 50))⟩,
    ⟨some 52, none, .inl (.bin .lss (.v 49) (.v 51))⟩]) (.cond (.v 52) (.skip) (.exit 2))) (.seq (.block [0, 4, 6, 7, 9, 10] 3 (.seq (.ops [0, 4, 6, 7, 9, 10, 11, 12] [
    ⟨some 56, none, .inl (.mov (.v 6))⟩,
    ⟨some 57, none, .inl (.mov (.v 10))⟩,
    ⟨some 58, none, .inl (.iaddr 1 (.v 56) (.v 57))⟩,
    ⟨some 59, none, .inl (.load 1 false (.v 58))⟩,
    ⟨some 60, none, .inr (.callf (.f 41) [(.v 59)])⟩,
    ⟨some 55, none, .inl (.mov (.v 60))⟩,
    ⟨some 61, none, .inl (.ext (.v 55) 0)⟩,
    ⟨some 62, none, .inl (.ext (.v 55) 1)⟩,
    ⟨some 11, none, .inl (.mov (.v 61))⟩,
    ⟨some 12, none, .inl (.mov (.v 62))⟩]) (.seq (.seq (.ops [0, 4, 6, 7, 9, 10, 11, 75] [
    ⟨some 63, none, .inl (.mov (.v 12))⟩,
    ⟨some 64, none, .inl (.un .not (.v 63))⟩,
    ⟨some 65, none, .inl (.mov (.v 64))⟩,
    ⟨some 66, (some (65, false)), .inl (.mov (.v 9))⟩,
    ⟨some 67, (some (65, false)), .inl (.len false (.v 66))⟩,
    ⟨some 68, (some (65, false)), .inl (.mov (.v 11))⟩,
    ⟨some 69, (some (65, false)), .inl (.len false (.v 68))⟩,
    ⟨some 70, (some (65, false)), .inl (.mov (.v 7))⟩,
    ⟨some 71, (some (65, false)), .inl (.len false (.v 70))⟩,
    ⟨some 72, (some (65, false)), .inl (.bin .mul (.v 69) (.v 71))⟩,
    ⟨some 73, (some (65, false)), .inl (.bin .add (.v 67) (.v 72))⟩,
    ⟨some 74, (some (65, false)), .inl (.bin .gtr (.v 73) (.c (.int .i64 512)))⟩,
    ⟨some 75, none, .inl (.pick (.v 65) (.c (.bool true)) (.v 74))⟩]) (.cond (.v 75) (.seq (.ops [2, 3] [
    ⟨some 2, none, .inl (.mov (.c (.sl .nil 1 [])))⟩,
    ⟨some 3, none, .inl (.mov (.c (.bool false)))⟩]) (.ret)) (.skip))) (.seq (.ops [0, 4, 6, 7, 9, 10, 11, 13] [
    ⟨some 13, none, .inl (.mov (.c (.int .i64 0)))⟩]) (.block [0, 4, 6, 7, 9, 10] 4 (r9_all_l2)))))) (.ops [0, 4, 6, 7, 9, 10] [
    ⟨some 53, none, .inl (.mov (.v 10))⟩,
    ⟨some 54, none, .inl (.bin .add (.v 53) (.c (.int .i64 1)))⟩,
    ⟨some 10, none, .inl (.mov (.v 54))⟩])))
def r9_all_l4 : Code := .loop [0, 4] none (.seq (.seq (.ops [0, 4, 24] [
    ⟨some 15, none, .inl (.mov (.v 4))⟩,
    ⟨some 16, none, .inl (.mov (.v 0))⟩,
    ⟨some 17, none, .inl (.len true (.v 16))⟩,
    ⟨some 18, none, .inl (.bin .lss (.v 15) (.v 17))⟩,
    ⟨some 19, none, .inl (.mov (.v 18))⟩,
    ⟨some 20, (some (19, true)), .inl (.mov (.v 0))⟩,
    ⟨some 21, (some (19, true)), .inl (.mov (.v 4))⟩,
    ⟨some 22, (some (19, true)), .inl (.idx (.v 20) (.v 21))⟩,
    ⟨some 23, (some (19, true)), .inl (.bin .neq (.v 22) (.c (.int .u8 123)))⟩,
    ⟨some 24, none, .inl (.pick (.v 19) (.v 23) (.c (.bool false)))⟩]) (.cond (.v 24) (.skip) (.exit 0))) (.block [0, 4] 1 (.ops [0, 4] [
    ⟨some 25, none, .inl (.mov (.v 4))⟩,
    ⟨some 26, none, .inl (.bin .add (.v 25) (.c (.int .i64 1)))⟩,
    ⟨some 4, none, .inl (.mov (.v 26))⟩])))
def r9_all : AFn := ⟨1, [.slot 2, .slot 3],
  .seq (.ops [0] [
    ⟨some 2, none, .inl (.mov (.c (.sl .nil 1 [])))⟩,
    ⟨some 3, none, .inl (.mov (.c (.bool false)))⟩]) (.seq (.ops [0, 4] [
    ⟨some 4, none, .inl (.mov (.c (.int .i64 0)))⟩]) (.seq (.block [0, 4] 0 (r9_all_l4)) (.seq (.seq (.ops [0, 4, 30] [
    ⟨some 27, none, .inl (.mov (.v 4))⟩,
    ⟨some 28, none, .inl (.mov (.v 0))⟩,
    ⟨some 29, none, .inl (.len true (.v 28))⟩,
    ⟨some 30, none, .inl (.bin .eql (.v 27) (.v 29))⟩]) (.cond (.v 30) (.seq (.ops [2, 3] [
    ⟨some 31, none, .inl (.mov (.v 0))⟩,
    ⟨some 32, none, .inl (.bslice 1 false 1 [.str []] [⟨0, 1, (.v 31)⟩])⟩,
    ⟨some 2, none, .inl (.mov (.v 32))⟩,
    ⟨some 3, none, .inl (.mov (.c (.bool true)))⟩]) (.ret)) (.skip))) (.seq (.ops [0, 4, 5, 6] [
    ⟨some 34, none, .inl (.mov (.v 0))⟩,
    ⟨some 35, none, .inl (.mov (.v 4))⟩,
    ⟨some 36, none, .inr (.callf (.f 57) [(.v 34), (.v 35)])⟩,
    ⟨some 33, none, .inl (.mov (.v 36))⟩,
    ⟨some 37, none, .inl (.ext (.v 33) 0)⟩,
    ⟨some 38, none, .inl (.ext (.v 33) 1)⟩,
    ⟨some 5, none, .inl (.mov (.v 37))⟩,
    ⟨some 6, none, .inl (.mov (.v 38))⟩]) (.seq (.ops [0, 4, 6, 7, 8] [
    ⟨some 40, none, .inl (.mov (.v 0))⟩,
    ⟨some 41, none, .inl (.mov (.v 5))⟩,
    ⟨some 42, none, .inl (.bin .add (.v 41) (.c (.int .i64 1)))⟩,
    ⟨some 43, none, .inl (.sliceS (.v 40) (some (.v 42)) none)⟩,
    ⟨some 44, none, .inr (.callf (.f 41) [(.v 43)])⟩,
    ⟨some 39, none, .inl (.mov (.v 44))⟩,
    ⟨some 45, none, .inl (.ext (.v 39) 0)⟩,
    ⟨some 46, none, .inl (.ext (.v 39) 1)⟩,
    ⟨some 7, none, .inl (.mov (.v 45))⟩,
    ⟨some 8, none, .inl (.mov (.v 46))⟩]) (.seq (.seq (.ops [0, 4, 6, 7, 48] [
    ⟨some 47, none, .inl (.mov (.v 8))⟩,
    ⟨some 48, none, .inl (.un .not (.v 47))⟩]) (.cond (.v 48) (.seq (.ops [2, 3] [
    ⟨some 2, none, .inl (.mov (.c (.sl .nil 1 [])))⟩,
    ⟨some 3, none, .inl (.mov (.c (.bool false)))⟩]) (.ret)) (.skip))) (.seq (.ops [0, 4, 6, 7, 9] [
    ⟨some 9, none, .inr (.newrow 1)⟩]) (.seq (.seq (.ops [0, 4, 6, 7, 9, 10] [
    ⟨some 10, none, .inl (.mov (.c (.int .i64 0)))⟩]) (.block [9] 2 (r9_all_l3))) (.seq (.ops [2, 3] [
    ⟨some 104, none, .inl (.mov (.v 9))⟩,
    ⟨some 2, none, .inl (.mov (.v 104))⟩,
    ⟨some 3, none, .inl (.mov (.c (.bool true)))⟩]) (.ret))))))))))⟩

def r8_Parts_l1 : Code := .loop [0, 3, 4, 5] none (.seq (.seq (.ops [0, 3, 4, 5, 9] [
    ⟨some 6, none, .inl (.mov (.v 5))⟩,
    ⟨some 7, none, .inl (.mov (.v 0))⟩,
    ⟨some 8, none, .inl (.len true (.v 7))⟩,
    ⟨some 9, none, .inl (.bin .leq (.v 6) (.v 8))⟩]) (.cond (.v 9) (.skip) (.exit 0))) (.seq (.block [0, 3, 4, 5] 1 (.seq (.ops [0, 3, 4, 5, 21] [
    ⟨some 12, none, .inl (.mov (.v 5))⟩,
    ⟨some 13, none, .inl (.mov (.v 0))⟩,
    ⟨some 14, none, .inl (.len true (.v 13))⟩,
    ⟨some 15, none, .inl (.bin .eql (.v 12) (.v 14))⟩,
    ⟨some 16, none, .inl (.mov (.v 15))⟩,
    ⟨some 17, (some (16, false)), .inl (.mov (.v 0))⟩,
    ⟨some 18, (some (16, false)), .inl (.mov (.v 5))⟩,
    ⟨some 19, (some (16, false)), .inl (.idx (.v 17) (.v 18))⟩,
    ⟨some 20, (some (16, false)), .inl (.bin .eql (.v 19) (.c (.int .u8 46)))⟩,
    ⟨some 21, none, .inl (.pick (.v 16) (.c (.bool true)) (.v 20))⟩]) (.cond (.v 21) (.seq (.ops [0, 3, 5] [
    ⟨some 22, none, .inl (.mov (.v 3))⟩,
    ⟨some 23, none, .inl (.mov (.v 0))⟩,
    ⟨some 24, none, .inl (.mov (.v 4))⟩,
    ⟨some 25, none, .inl (.mov (.v 5))⟩,
    ⟨some 26, none, .inl (.sliceS (.v 23) (some (.v 24)) (some (.v 25)))⟩,
    ⟨some 27, none, .inl (.bslice 1 false 1 [.str []] [⟨0, 1, (.v 26)⟩])⟩,
    ⟨some 28, none, .inr (.append 1 (.v 22) (.v 27))⟩,
    ⟨some 3, none, .inl (.mov (.v 28))⟩]) (.ops [0, 3, 4, 5] [
    ⟨some 29, none, .inl (.mov (.v 5))⟩,
    ⟨some 30, none, .inl (.bin .add (.v 29) (.c (.int .i64 1)))⟩,
    ⟨some 4, none, .inl (.mov (.v 30))⟩])) (.skip)))) (.ops [0, 3, 4, 5] [
    ⟨some 10, none, .inl (.mov (.v 5))⟩,
    ⟨some 11, none, .inl (.bin .add (.v 10) (.c (.int .i64 1)))⟩,
    ⟨some 5, none, .inl (.mov (.v 11))⟩])))
def r8_Parts : AFn := ⟨1, [.slot 2],
  .seq (.ops [0] [
    ⟨some 2, none, .inl (.mov (.c (.sl .nil 1 [])))⟩]) (.seq (.ops [0, 3] [
    ⟨some 3, none, .inr (.newrow 1)⟩]) (.seq (.ops [0, 3, 4] [
    ⟨some 4, none, .inl (.mov (.c (.int .i64 0)))⟩]) (.seq (.seq (.ops [0, 3, 4, 5] [
    ⟨some 5, none, .inl (.mov (.c (.int .i64 0)))⟩]) (.block [3] 0 (r8_Parts_l1))) (.seq (.ops [2] [
    ⟨some 31, none, .inl (.mov (.v 3))⟩,
    ⟨some 2, none, .inl (.mov (.v 31))⟩]) (.ret)))))⟩

def name_Parts : AFn := ⟨1, [.slot 2],
  .seq (.ops [0] [
    ⟨some 2, none, .inl (.mov (.c (.sl .nil 1 [])))⟩]) (.seq (.ops [2] [
    ⟨some 3, none, .inl (.mov (.v 0))⟩,
    ⟨some 4, none, .inr (.callf (.f 52) [(.v 3), (.c (.str [46]))])⟩,
    ⟨some 2, none, .inl (.mov (.v 4))⟩]) (.ret))⟩

def glob_pieces_l1 : Code := .loop [0, 4, 5] (some 0) (.seq (.seq (.ops [0, 4, 5, 14] [
    ⟨some 11, none, .inl (.mov (.v 5))⟩,
    ⟨some 12, none, .inl (.mov (.v 0))⟩,
    ⟨some 13, none, .inl (.len true (.v 12))⟩,
    ⟨some 14, none, .inl (.bin .lss (.v 11) (.v 13))⟩]) (.cond (.v 14) (.skip) (.exit 0))) (.seq (.block [0, 4, 5] 1 (.seq (.ops [0, 4, 5, 6] [
    ⟨some 17, none, .inl (.build (List.replicate 257 (.bool false)) [])⟩,
    ⟨some 18, none, .inr (.box (.v 17))⟩,
    ⟨some 6, none, .inl (.mov (.v 18))⟩]) (.seq (.seq (.ops [0, 4, 5, 6, 7] [
    ⟨some 19, none, .inl (.mov (.v 0))⟩,
    ⟨some 20, none, .inl (.mov (.v 5))⟩,
    ⟨some 21, none, .inl (.idx (.v 19) (.v 20))⟩,
    ⟨some 7, none, .inl (.mov (.v 21))⟩]) (.block [0, 4, 5, 6] 2 (.seq (.ops [0, 4, 5, 6, 7, 22] [
    ⟨some 23, none, .inl (.mov (.v 7))⟩,
    ⟨some 24, none, .inl (.bin .eql (.v 23) (.c (.int .u8 42)))⟩,
    ⟨some 22, none, .inl (.mov (.v 24))⟩]) (.cond (.v 22) (.ops [0, 4, 5, 6] [
    ⟨some 25, none, .inl (.mov (.v 6))⟩,
    ⟨some 26, none, .inl (.nilchk (.v 25))⟩,
    ⟨some 27, none, .inl (.faddr 0 (.v 26))⟩,
    ⟨none, none, .inr (.store 1 (.v 27) (.c (.bool true)))⟩]) (.seq (.ops [0, 4, 5, 6, 7, 28] [
    ⟨some 29, none, .inl (.mov (.v 7))⟩,
    ⟨some 30, none, .inl (.bin .eql (.v 29) (.c (.int .u8 63)))⟩,
    ⟨some 28, none, .inl (.mov (.v 30))⟩]) (.cond (.v 28) (.ops [0, 4, 5, 6] [
    ⟨some 31, none, .inl (.mov (.v 6))⟩,
    ⟨some 32, none, .inr (.calls (.f 53) [(.v 31), (.c (.int .u8 0)), (.c (.int .u8 255))])⟩]) (.seq (.ops [0, 4, 5, 6, 7, 33] [
    ⟨some 34, none, .inl (.mov (.v 7))⟩,
    ⟨some 35, none, .inl (.bin .eql (.v 34) (.c (.int .u8 91)))⟩,
    ⟨some 33, none, .inl (.mov (.v 35))⟩]) (.cond (.v 33) (.seq (.ops [0, 4, 5, 8] [
    ⟨some 36, none, .inl (.mov (.v 0))⟩,
    ⟨some 37, none, .inl (.mov (.v 5))⟩,
    ⟨some 38, none, .inl (.sliceS (.v 36) (some (.v 37)) none)⟩,
    ⟨some 39, none, .inl (.call (.f 55) [(.v 38), (.c (.int .u8 93))])⟩,
    ⟨some 8, none, .inl (.mov (.v 39))⟩]) (.seq (.seq (.ops [0, 4, 5, 8, 41] [
    ⟨some 40, none, .inl (.mov (.v 8))⟩,
    ⟨some 41, none, .inl (.bin .lss (.v 40) (.c (.int .i64 0)))⟩]) (.cond (.v 41) (.seq (.ops [2, 3] [
    ⟨some 2, none, .inl (.mov (.c (.sl .nil 1 [])))⟩,
    ⟨some 3, none, .inl (.mov (.c (.bool false)))⟩]) (.ret)) (.skip))) (.seq (.ops [0, 4, 5, 8, 9, 10] [
    ⟨some 43, none, .inl (.mov (.v 0))⟩,
    ⟨some 44, none, .inl (.mov (.v 5))⟩,
    ⟨some 45, none, .inl (.bin .add (.v 44) (.c (.int .i64 1)))⟩,
    ⟨some 46, none, .inl (.mov (.v 5))⟩,
    ⟨some 47, none, .inl (.mov (.v 8))⟩,
    ⟨some 48, none, .inl (.bin .add (.v 46) (.v 47))⟩,
    ⟨some 49, none, .inl (.sliceS (.v 43) (some (.v 45)) (some (.v 48)))⟩,
    ⟨some 50, none, .inr (.callf (.f 54) [(.v 49)])⟩,
    ⟨some 42, none, .inl (.mov (.v 50))⟩,
    ⟨some 51, none, .inl (.ext (.v 42) 0)⟩,
    ⟨some 52, none, .inl (.ext (.v 42) 1)⟩,
    ⟨some 9, none, .inl (.mov (.v 51))⟩,
    ⟨some 10, none, .inl (.mov (.v 52))⟩]) (.seq (.seq (.ops [0, 4, 5, 8, 9, 54] [
    ⟨some 53, none, .inl (.mov (.v 10))⟩,
    ⟨some 54, none, .inl (.un .not (.v 53))⟩]) (.cond (.v 54) (.seq (.ops [2, 3] [
    ⟨some 2, none, .inl (.mov (.c (.sl .nil 1 [])))⟩,
    ⟨some 3, none, .inl (.mov (.c (.bool false)))⟩]) (.ret)) (.skip))) (.seq (.ops [0, 4, 5, 6, 8] [
    ⟨some 55, none, .inl (.mov (.v 9))⟩,
    ⟨some 6, none, .inl (.mov (.v 55))⟩]) (.ops [0, 4, 5, 6] [
    ⟨some 56, none, .inl (.mov (.v 5))⟩,
    ⟨some 57, none, .inl (.mov (.v 8))⟩,
    ⟨some 58, none, .inl (.bin .add (.v 56) (.v 57))⟩,
    ⟨some 5, none, .inl (.mov (.v 58))⟩])))))) (.seq (.ops [0, 4, 5, 6, 7, 59] [
    ⟨some 60, none, .inl (.mov (.v 0))⟩,
    ⟨some 61, none, .inl (.mov (.v 5))⟩,
    ⟨some 62, none, .inl (.mov (.v 5))⟩,
    ⟨some 63, none, .inl (.bin .add (.v 62) (.c (.int .i64 1)))⟩,
    ⟨some 64, none, .inl (.sliceS (.v 60) (some (.v 61)) (some (.v 63)))⟩,
    ⟨some 65, none, .inl (.call (.f 56) [(.v 64)])⟩,
    ⟨some 59, none, .inl (.mov (.v 65))⟩]) (.cond (.v 59) (.ops [0, 4, 5, 6] [
    ⟨some 66, none, .inl (.mov (.v 6))⟩,
    ⟨some 67, none, .inl (.mov (.v 7))⟩,
    ⟨some 68, none, .inl (.mov (.v 7))⟩,
    ⟨some 69, none, .inr (.calls (.f 53) [(.v 66), (.v 67), (.v 68)])⟩]) (.seq (.ops [2, 3] [
    ⟨some 2, none, .inl (.mov (.c (.sl .nil 1 [])))⟩,
    ⟨some 3, none, .inl (.mov (.c (.bool false)))⟩]) (.ret)))))))))))) (.ops [0, 4, 5] [
    ⟨some 70, none, .inl (.mov (.v 4))⟩,
    ⟨some 71, none, .inl (.mov (.v 6))⟩,
    ⟨some 72, none, .inr (.bslicef 1 false 1 [.nilp] [⟨0, 1, (.v 71)⟩])⟩,
    ⟨some 73, none, .inr (.append 1 (.v 70) (.v 72))⟩,
    ⟨some 4, none, .inl (.mov (.v 73))⟩])))) (.ops [0, 4, 5] [
    ⟨some 15, none, .inl (.mov (.v 5))⟩,
    ⟨some 16, none, .inl (.bin .add (.v 15) (.c (.int .i64 1)))⟩,
    ⟨some 5, none, .inl (.mov (.v 16))⟩])))
def glob_pieces : AFn := ⟨1, [.slot 2, .slot 3],
  .seq (.ops [0] [
    ⟨some 2, none, .inl (.mov (.c (.sl .nil 1 [])))⟩,
    ⟨some 3, none, .inl (.mov (.c (.bool false)))⟩]) (.seq (.ops [0, 4] [
    ⟨some 4, none, .inr (.newrow 1)⟩]) (.seq (.seq (.ops [0, 4, 5] [
    ⟨some 5, none, .inl (.mov (.c (.int .i64 0)))⟩]) (.block [4] 0 (glob_pieces_l1))) (.seq (.ops [2, 3] [
    ⟨some 74, none, .inl (.mov (.v 4))⟩,
    ⟨some 2, none, .inl (.mov (.v 74))⟩,
    ⟨some 3, none, .inl (.mov (.c (.bool true)))⟩]) (.ret))))⟩

def glob_balanced_l1 : Code := .loop [0, 3, 6, 7] none (.seq (.ops [0, 3, 6, 7, 8] [
    ⟨some 8, none, .inl (.bin .lss (.v 7) (.v 6))⟩]) (.seq (.cond (.v 8) (.skip) (.exit 0)) (.seq (.block [0, 3, 6, 7] 1 (.seq (.ops [0, 3, 4, 6, 7] [
    ⟨some 9, none, .inl (.mov (.v 7))⟩,
    ⟨some 4, none, .inl (.mov (.v 9))⟩]) (.seq (.seq (.ops [0, 3, 6, 7, 12] [
    ⟨some 10, none, .inl (.mov (.v 0))⟩,
    ⟨some 11, none, .inl (.mov (.v 4))⟩,
    ⟨some 12, none, .inl (.idx (.v 10) (.v 11))⟩]) (.block [0, 3, 6, 7] 2 (.seq (.ops [0, 3, 6, 7, 12, 13] [
    ⟨some 14, none, .inl (.bin .eql (.v 12) (.c (.int .u8 123)))⟩,
    ⟨some 13, none, .inl (.mov (.v 14))⟩]) (.cond (.v 13) (.ops [0, 3, 6, 7] [
    ⟨some 15, none, .inl (.mov (.v 3))⟩,
    ⟨some 16, none, .inl (.bin .add (.v 15) (.c (.int .i64 1)))⟩,
    ⟨some 3, none, .inl (.mov (.v 16))⟩]) (.seq (.ops [0, 3, 6, 7, 12, 17] [
    ⟨some 18, none, .inl (.bin .eql (.v 12) (.c (.int .u8 125)))⟩,
    ⟨some 17, none, .inl (.mov (.v 18))⟩]) (.cond (.v 17) (.ops [0, 3, 6, 7] [
    ⟨some 19, none, .inl (.mov (.v 3))⟩,
    ⟨some 20, none, .inl (.bin .sub (.v 19) (.c (.int .i64 1)))⟩,
    ⟨some 3, none, .inl (.mov (.v 20))⟩]) (.seq (.ops [0, 3, 6, 7, 21] [
    ⟨some 22, none, .inl (.bin .eql (.v 12) (.c (.int .u8 44)))⟩,
    ⟨some 21, none, .inl (.mov (.v 22))⟩]) (.cond (.v 21) (.seq (.ops [0, 3, 6, 7, 24] [
    ⟨some 23, none, .inl (.mov (.v 3))⟩,
    ⟨some 24, none, .inl (.bin .eql (.v 23) (.c (.int .i64 0)))⟩]) (.cond (.v 24) (.seq (.ops [2] [
    ⟨some 2, none, .inl (.mov (.c (.bool false)))⟩]) (.ret)) (.skip))) (.skip))))))))) (.seq (.ops [0, 3, 6, 7, 26] [
    ⟨some 25, none, .inl (.mov (.v 3))⟩,
    ⟨some 26, none, .inl (.bin .lss (.v 25) (.c (.int .i64 0)))⟩]) (.cond (.v 26) (.seq (.ops [2] [
    ⟨some 2, none, .inl (.mov (.c (.bool false)))⟩]) (.ret)) (.skip)))))) (.ops [0, 3, 6, 7] [
    ⟨some 27, none, .inl (.bin .add (.v 7) (.c (.int .i64 1)))⟩,
    ⟨some 7, none, .inl (.mov (.v 27))⟩]))))
def glob_balanced : AFn := ⟨1, [.slot 2],
  .seq (.ops [0] [
    ⟨some 2, none, .inl (.mov (.c (.bool false)))⟩]) (.seq (.ops [0, 3] [
    ⟨some 3, none, .inl (.mov (.c (.int .i64 0)))⟩]) (.seq (.seq (.ops [0, 3, 6, 7] [
    ⟨some 5, none, .inl (.mov (.v 0))⟩,
    ⟨some 6, none, .inl (.len true (.v 5))⟩,
    ⟨some 7, none, .inl (.mov (.c (.int .i64 0)))⟩]) (.block [3] 0 (glob_balanced_l1))) (.seq (.ops [2] [
    ⟨some 28, none, .inl (.mov (.v 3))⟩,
    ⟨some 29, none, .inl (.bin .eql (.v 28) (.c (.int .i64 0)))⟩,
    ⟨some 2, none, .inl (.mov (.v 29))⟩]) (.ret))))⟩

def glob_reader_row_l1 : Code := .loop [0, 3] (some 1) (.seq (.seq (.ops [0, 3, 23] [
    ⟨some 7, none, .inl (.mov (.v 0))⟩,
    ⟨some 8, none, .inl (.nilchk (.v 7))⟩,
    ⟨some 9, none, .inl (.faddr 1 (.v 8))⟩,
    ⟨some 10, none, .inl (.load 1 false (.v 9))⟩,
    ⟨some 11, none, .inl (.mov (.v 0))⟩,
    ⟨some 12, none, .inl (.nilchk (.v 11))⟩,
    ⟨some 13, none, .inl (.faddr 0 (.v 12))⟩,
    ⟨some 14, none, .inl (.load 1 false (.v 13))⟩,
    ⟨some 15, none, .inl (.len true (.v 14))⟩,
    ⟨some 16, none, .inl (.bin .lss (.v 10) (.v 15))⟩,
    ⟨some 17, none, .inl (.mov (.v 16))⟩,
    ⟨some 18, (some (17, true)), .inl (.mov (.v 0))⟩,
    ⟨some 19, (some (17, true)), .inl (.nilchk (.v 18))⟩,
    ⟨some 20, (some (17, true)), .inl (.faddr 2 (.v 19))⟩,
    ⟨some 21, (some (17, true)), .inl (.load 1 false (.v 20))⟩,
    ⟨some 22, (some (17, true)), .inl (.un .not (.v 21))⟩,
    ⟨some 23, none, .inl (.pick (.v 17) (.v 22) (.c (.bool false)))⟩]) (.cond (.v 23) (.skip) (.exit 0))) (.block [0, 3] 1 (.seq (.ops [0, 3, 4] [
    ⟨some 24, none, .inl (.mov (.v 0))⟩,
    ⟨some 25, none, .inl (.nilchk (.v 24))⟩,
    ⟨some 26, none, .inl (.faddr 0 (.v 25))⟩,
    ⟨some 27, none, .inl (.load 1 false (.v 26))⟩,
    ⟨some 28, none, .inl (.mov (.v 0))⟩,
    ⟨some 29, none, .inl (.nilchk (.v 28))⟩,
    ⟨some 30, none, .inl (.faddr 1 (.v 29))⟩,
    ⟨some 31, none, .inl (.load 1 false (.v 30))⟩,
    ⟨some 32, none, .inl (.idx (.v 27) (.v 31))⟩,
    ⟨some 4, none, .inl (.mov (.v 32))⟩]) (.seq (.ops [0, 3, 33] [
    ⟨some 33, none, .inl (.mov (.v 4))⟩]) (.block [0, 3] 2 (.seq (.seq (.ops [0, 3, 33, 83] [
    ⟨some 84, none, .inl (.bin .eql (.v 33) (.c (.int .u8 44)))⟩,
    ⟨some 83, none, .inl (.mov (.v 84))⟩]) (.cond (.v 83) (.skip) (.ops [0, 3, 33, 83] [
    ⟨some 85, none, .inl (.bin .eql (.v 33) (.c (.int .u8 125)))⟩,
    ⟨some 83, none, .inl (.mov (.v 85))⟩]))) (.cond (.v 83) (.seq (.ops [2] [
    ⟨some 86, none, .inl (.mov (.v 3))⟩,
    ⟨some 2, none, .inl (.mov (.v 86))⟩]) (.ret)) (.seq (.ops [0, 3, 87] [
    ⟨some 88, none, .inl (.bin .eql (.v 33) (.c (.int .u8 123)))⟩,
    ⟨some 87, none, .inl (.mov (.v 88))⟩]) (.cond (.v 87) (.ops [0, 3] [
    ⟨some 89, none, .inl (.mov (.v 0))⟩,
    ⟨some 90, none, .inl (.mov (.v 3))⟩,
    ⟨some 91, none, .inl (.mov (.v 0))⟩,
    ⟨some 92, none, .inr (.calls (.f 50) [(.v 91)])⟩,
    ⟨some 93, none, .inr (.calls (.f 51) [(.v 89), (.v 90), (.v 92)])⟩,
    ⟨some 3, none, .inl (.mov (.v 93))⟩]) (.seq (.ops [0, 3, 5] [
    ⟨some 34, none, .inl (.mov (.v 0))⟩,
    ⟨some 35, none, .inl (.nilchk (.v 34))⟩,
    ⟨some 36, none, .inl (.faddr 0 (.v 35))⟩,
    ⟨some 37, none, .inl (.load 1 false (.v 36))⟩,
    ⟨some 38, none, .inl (.mov (.v 0))⟩,
    ⟨some 39, none, .inl (.nilchk (.v 38))⟩,
    ⟨some 40, none, .inl (.faddr 1 (.v 39))⟩,
    ⟨some 41, none, .inl (.load 1 false (.v 40))⟩,
    ⟨some 42, none, .inl (.sliceS (.v 37) (some (.v 41)) none)⟩,
    ⟨some 43, none, .inl (.call (.f 24) [(.v 42), (.c (.str [123, 125, 44]))])⟩,
    ⟨some 5, none, .inl (.mov (.v 43))⟩]) (.seq (.seq (.ops [0, 3, 5, 45] [
    ⟨some 44, none, .inl (.mov (.v 5))⟩,
    ⟨some 45, none, .inl (.bin .lss (.v 44) (.c (.int .i64 0)))⟩]) (.cond (.v 45) (.ops [0, 3, 5] [
    ⟨some 46, none, .inl (.mov (.v 0))⟩,
    ⟨some 47, none, .inl (.nilchk (.v 46))⟩,
    ⟨some 48, none, .inl (.faddr 0 (.v 47))⟩,
    ⟨some 49, none, .inl (.load 1 false (.v 48))⟩,
    ⟨some 50, none, .inl (.len true (.v 49))⟩,
    ⟨some 51, none, .inl (.mov (.v 0))⟩,
    ⟨some 52, none, .inl (.nilchk (.v 51))⟩,
    ⟨some 53, none, .inl (.faddr 1 (.v 52))⟩,
    ⟨some 54, none, .inl (.load 1 false (.v 53))⟩,
    ⟨some 55, none, .inl (.bin .sub (.v 50) (.v 54))⟩,
    ⟨some 5, none, .inl (.mov (.v 55))⟩]) (.skip))) (.seq (.ops [0, 3, 5] [
    ⟨some 56, none, .inl (.mov (.v 0))⟩,
    ⟨some 57, none, .inl (.mov (.v 3))⟩,
    ⟨some 58, none, .inl (.mov (.v 0))⟩,
    ⟨some 59, none, .inl (.nilchk (.v 58))⟩,
    ⟨some 60, none, .inl (.faddr 0 (.v 59))⟩,
    ⟨some 61, none, .inl (.load 1 false (.v 60))⟩,
    ⟨some 62, none, .inl (.mov (.v 0))⟩,
    ⟨some 63, none, .inl (.nilchk (.v 62))⟩,
    ⟨some 64, none, .inl (.faddr 1 (.v 63))⟩,
    ⟨some 65, none, .inl (.load 1 false (.v 64))⟩,
    ⟨some 66, none, .inl (.mov (.v 0))⟩,
    ⟨some 67, none, .inl (.nilchk (.v 66))⟩,
    ⟨some 68, none, .inl (.faddr 1 (.v 67))⟩,
    ⟨some 69, none, .inl (.load 1 false (.v 68))⟩,
    ⟨some 70, none, .inl (.mov (.v 5))⟩,
    ⟨some 71, none, .inl (.bin .add (.v 69) (.v 70))⟩,
    ⟨some 72, none, .inl (.sliceS (.v 61) (some (.v 65)) (some (.v 71)))⟩,
    ⟨some 73, none, .inl (.bslice 1 false 1 [.str []] [⟨0, 1, (.v 72)⟩])⟩,
    ⟨some 74, none, .inr (.calls (.f 51) [(.v 56), (.v 57), (.v 73)])⟩,
    ⟨some 3, none, .inl (.mov (.v 74))⟩]) (.ops [0, 3] [
    ⟨some 75, none, .inl (.mov (.v 0))⟩,
    ⟨some 76, none, .inl (.nilchk (.v 75))⟩,
    ⟨some 77, none, .inl (.faddr 1 (.v 76))⟩,
    ⟨some 78, none, .inl (.load 1 false (.v 77))⟩,
    ⟨some 79, none, .inl (.mov (.v 5))⟩,
    ⟨some 80, none, .inl (.bin .add (.v 78) (.v 79))⟩,
    ⟨some 81, none, .inl (.nilchk (.v 75))⟩,
    ⟨some 82, none, .inl (.faddr 1 (.v 81))⟩,
    ⟨none, none, .inr (.store 1 (.v 82) (.v 80))⟩])))))))))))))
def glob_reader_row : AFn := ⟨1, [.slot 2],
  .seq (.ops [0] [
    ⟨some 2, none, .inl (.mov (.c (.sl .nil 1 [])))⟩]) (.seq (.ops [0, 3] [
    ⟨some 6, none, .inl (.bslice 1 false 1 [.str []] [⟨0, 1, (.c (.str []))⟩])⟩,
    ⟨some 3, none, .inl (.mov (.v 6))⟩]) (.seq (.block [3] 0 (glob_reader_row_l1)) (.seq (.ops [2] [
    ⟨some 94, none, .inl (.mov (.v 3))⟩,
    ⟨some 2, none, .inl (.mov (.v 94))⟩]) (.ret))))⟩

def r9_Parts_l1 : Code := .loop [4, 5] none (.seq (.seq (.ops [4, 5, 14] [
    ⟨some 11, none, .inl (.mov (.v 5))⟩,
    ⟨some 12, none, .inl (.mov (.v 4))⟩,
    ⟨some 13, none, .inl (.len false (.v 12))⟩,
    ⟨some 14, none, .inl (.bin .lss (.v 11) (.v 13))⟩]) (.cond (.v 14) (.skip) (.exit 0))) (.seq (.block [4, 5] 1 (.seq (.ops [4, 5, 29] [
    ⟨some 17, none, .inl (.mov (.v 4))⟩,
    ⟨some 18, none, .inl (.mov (.v 5))⟩,
    ⟨some 19, none, .inl (.iaddr 1 (.v 17) (.v 18))⟩,
    ⟨some 20, none, .inl (.load 1 false (.v 19))⟩,
    ⟨some 21, none, .inl (.bin .eql (.v 20) (.c (.str [])))⟩,
    ⟨some 22, none, .inl (.mov (.v 21))⟩,
    ⟨some 23, (some (22, false)), .inl (.mov (.v 4))⟩,
    ⟨some 24, (some (22, false)), .inl (.mov (.v 5))⟩,
    ⟨some 25, (some (22, false)), .inl (.iaddr 1 (.v 23) (.v 24))⟩,
    ⟨some 26, (some (22, false)), .inl (.load 1 false (.v 25))⟩,
    ⟨some 27, (some (22, false)), .inl (.call (.f 39) [(.v 26)])⟩,
    ⟨some 28, (some (22, false)), .inl (.un .not (.v 27))⟩,
    ⟨some 29, none, .inl (.pick (.v 22) (.c (.bool true)) (.v 28))⟩]) (.cond (.v 29) (.seq (.ops [2, 3] [
    ⟨some 2, none, .inl (.mov (.c (.sl .nil 1 [])))⟩,
    ⟨some 3, none, .inl (.mov (.c (.int .i64 8)))⟩]) (.ret)) (.skip)))) (.ops [4, 5] [
    ⟨some 15, none, .inl (.mov (.v 5))⟩,
    ⟨some 16, none, .inl (.bin .add (.v 15) (.c (.int .i64 1)))⟩,
    ⟨some 5, none, .inl (.mov (.v 16))⟩])))
def r9_Parts : AFn := ⟨1, [.slot 2, .slot 3],
  .seq (.ops [0] [
    ⟨some 2, none, .inl (.mov (.c (.sl .nil 1 [])))⟩,
    ⟨some 3, none, .inl (.mov (.c (.int .i64 0)))⟩]) (.seq (.ops [4] [
    ⟨some 6, none, .inl (.mov (.v 0))⟩,
    ⟨some 7, none, .inr (.callf (.f 40) [(.v 6)])⟩,
    ⟨some 4, none, .inl (.mov (.v 7))⟩]) (.seq (.seq (.ops [4, 10] [
    ⟨some 8, none, .inl (.mov (.v 4))⟩,
    ⟨some 9, none, .inl (.len false (.v 8))⟩,
    ⟨some 10, none, .inl (.bin .gtr (.v 9) (.c (.int .i64 20)))⟩]) (.cond (.v 10) (.seq (.ops [2, 3] [
    ⟨some 2, none, .inl (.mov (.c (.sl .nil 1 [])))⟩,
    ⟨some 3, none, .inl (.mov (.c (.int .i64 8)))⟩]) (.ret)) (.skip))) (.seq (.seq (.ops [4, 5] [
    ⟨some 5, none, .inl (.mov (.c (.int .i64 0)))⟩]) (.block [4] 0 (r9_Parts_l1))) (.seq (.ops [2, 3] [
    ⟨some 30, none, .inl (.mov (.v 4))⟩,
    ⟨some 2, none, .inl (.mov (.v 30))⟩,
    ⟨some 3, none, .inl (.mov (.c (.int .i64 0)))⟩]) (.ret)))))⟩

def glob_Parts_l1 : Code := .loop [4, 11, 12, 13] none (.seq (.ops [4, 11, 12, 13, 14] [
    ⟨some 14, none, .inl (.bin .lss (.v 13) (.v 12))⟩]) (.seq (.cond (.v 14) (.skip) (.exit 0)) (.seq (.block [4, 11, 12, 13] 1 (.seq (.ops [4, 6, 11, 12, 13] [
    ⟨some 15, none, .inl (.iaddr 1 (.v 11) (.v 13))⟩,
    ⟨some 16, none, .inl (.load 1 false (.v 15))⟩,
    ⟨some 6, none, .inl (.mov (.v 16))⟩]) (.seq (.ops [4, 6, 8, 11, 12, 13] [
    ⟨some 18, none, .inl (.mov (.v 6))⟩,
    ⟨some 19, none, .inr (.callf (.f 35) [(.v 18)])⟩,
    ⟨some 17, none, .inl (.mov (.v 19))⟩,
    ⟨some 20, none, .inl (.ext (.v 17) 0)⟩,
    ⟨some 21, none, .inl (.ext (.v 17) 1)⟩,
    ⟨some 7, none, .inl (.mov (.v 20))⟩,
    ⟨some 8, none, .inl (.mov (.v 21))⟩]) (.seq (.ops [4, 11, 12, 13, 27] [
    ⟨some 22, none, .inl (.mov (.v 8))⟩,
    ⟨some 23, none, .inl (.un .not (.v 22))⟩,
    ⟨some 24, none, .inl (.mov (.v 23))⟩,
    ⟨some 25, (some (24, false)), .inl (.mov (.v 6))⟩,
    ⟨some 26, (some (24, false)), .inl (.bin .eql (.v 25) (.c (.str [])))⟩,
    ⟨some 27, none, .inl (.pick (.v 24) (.c (.bool true)) (.v 26))⟩]) (.cond (.v 27) (.seq (.ops [2, 3] [
    ⟨some 2, none, .inl (.mov (.c (.sl .nil 1 [])))⟩,
    ⟨some 3, none, .inl (.mov (.c (.int .i64 8)))⟩]) (.ret)) (.skip)))))) (.ops [4, 11, 12, 13] [
    ⟨some 28, none, .inl (.bin .add (.v 13) (.c (.int .i64 1)))⟩,
    ⟨some 13, none, .inl (.mov (.v 28))⟩]))))
def glob_Parts : AFn := ⟨1, [.slot 2, .slot 3],
  .seq (.ops [0] [
    ⟨some 2, none, .inl (.mov (.c (.sl .nil 1 [])))⟩,
    ⟨some 3, none, .inl (.mov (.c (.int .i64 0)))⟩]) (.seq (.ops [4] [
    ⟨some 9, none, .inl (.mov (.v 0))⟩,
    ⟨some 10, none, .inr (.callf (.f 36) [(.v 9)])⟩,
    ⟨some 4, none, .inl (.mov (.v 10))⟩]) (.seq (.seq (.ops [4, 11, 12, 13] [
    ⟨some 11, none, .inl (.mov (.v 4))⟩,
    ⟨some 12, none, .inl (.len false (.v 11))⟩,
    ⟨some 13, none, .inl (.mov (.c (.int .i64 0)))⟩]) (.block [4] 0 (glob_Parts_l1))) (.seq (.seq (.ops [4, 31] [
    ⟨some 29, none, .inl (.mov (.v 4))⟩,
    ⟨some 30, none, .inl (.len false (.v 29))⟩,
    ⟨some 31, none, .inl (.bin .gtr (.v 30) (.c (.int .i64 20)))⟩]) (.cond (.v 31) (.seq (.ops [2, 3] [
    ⟨some 2, none, .inl (.mov (.c (.sl .nil 1 [])))⟩,
    ⟨some 3, none, .inl (.mov (.c (.int .i64 8)))⟩]) (.ret)) (.skip))) (.seq (.ops [2, 3] [
    ⟨some 32, none, .inl (.mov (.v 4))⟩,
    ⟨some 2, none, .inl (.mov (.v 32))⟩,
    ⟨some 3, none, .inl (.mov (.c (.int .i64 0)))⟩]) (.ret)))))⟩

def r9_Match : AFn := ⟨2, [.slot 4],
  .seq (.ops [0, 1] [
    ⟨some 4, none, .inl (.mov (.c (.bool false)))⟩]) (.seq (.ops [4] [
    ⟨some 5, none, .inl (.mov (.v 0))⟩,
    ⟨some 6, none, .inl (.call (.f 39) [(.v 5)])⟩,
    ⟨some 7, none, .inl (.mov (.v 6))⟩,
    ⟨some 8, (some (7, true)), .inl (.mov (.v 0))⟩,
    ⟨some 9, (some (7, true)), .inl (.mov (.v 1))⟩,
    ⟨some 10, (some (7, true)), .inl (.call (.f 44) [(.v 8), (.v 9)])⟩,
    ⟨some 11, none, .inl (.pick (.v 7) (.v 10) (.c (.bool false)))⟩,
    ⟨some 4, none, .inl (.mov (.v 11))⟩]) (.ret))⟩

def glob_Plain_l1 : Code := .loop [8, 9, 10] none (.seq (.ops [8, 9, 10, 11] [
    ⟨some 11, none, .inl (.bin .lss (.v 10) (.v 9))⟩]) (.seq (.cond (.v 11) (.skip) (.exit 0)) (.seq (.block [8, 9, 10] 1 (.seq (.ops [4, 8, 9, 10] [
    ⟨some 12, none, .inl (.iaddr 1 (.v 8) (.v 10))⟩,
    ⟨some 13, none, .inl (.load 1 false (.v 12))⟩,
    ⟨some 4, none, .inl (.mov (.v 13))⟩]) (.seq (.ops [4, 6, 8, 9, 10] [
    ⟨some 15, none, .inl (.mov (.v 4))⟩,
    ⟨some 16, none, .inr (.callf (.f 35) [(.v 15)])⟩,
    ⟨some 14, none, .inl (.mov (.v 16))⟩,
    ⟨some 17, none, .inl (.ext (.v 14) 0)⟩,
    ⟨some 18, none, .inl (.ext (.v 14) 1)⟩,
    ⟨some 5, none, .inl (.mov (.v 17))⟩,
    ⟨some 6, none, .inl (.mov (.v 18))⟩]) (.seq (.ops [8, 9, 10, 24] [
    ⟨some 19, none, .inl (.mov (.v 6))⟩,
    ⟨some 20, none, .inl (.un .not (.v 19))⟩,
    ⟨some 21, none, .inl (.mov (.v 20))⟩,
    ⟨some 22, (some (21, false)), .inl (.mov (.v 4))⟩,
    ⟨some 23, (some (21, false)), .inl (.call (.f 45) [(.v 22), (.c (.str [42, 63, 91]))])⟩,
    ⟨some 24, none, .inl (.pick (.v 21) (.c (.bool true)) (.v 23))⟩]) (.cond (.v 24) (.seq (.ops [2] [
    ⟨some 2, none, .inl (.mov (.c (.bool false)))⟩]) (.ret)) (.skip)))))) (.ops [8, 9, 10] [
    ⟨some 25, none, .inl (.bin .add (.v 10) (.c (.int .i64 1)))⟩,
    ⟨some 10, none, .inl (.mov (.v 25))⟩]))))
def glob_Plain : AFn := ⟨1, [.slot 2],
  .seq (.ops [0] [
    ⟨some 2, none, .inl (.mov (.c (.bool false)))⟩]) (.seq (.seq (.ops [8, 9, 10] [
    ⟨some 7, none, .inl (.mov (.v 0))⟩,
    ⟨some 8, none, .inr (.callf (.f 36) [(.v 7)])⟩,
    ⟨some 9, none, .inl (.len false (.v 8))⟩,
    ⟨some 10, none, .inl (.mov (.c (.int .i64 0)))⟩]) (.block [] 0 (glob_Plain_l1))) (.seq (.ops [2] [
    ⟨some 2, none, .inl (.mov (.c (.bool true)))⟩]) (.ret)))⟩

def l9_plain_l1 : Code := .loop [0, 3] none (.seq (.seq (.ops [0, 3, 7] [
    ⟨some 4, none, .inl (.mov (.v 3))⟩,
    ⟨some 5, none, .inl (.mov (.v 0))⟩,
    ⟨some 6, none, .inl (.len true (.v 5))⟩,
    ⟨some 7, none, .inl (.bin .lss (.v 4) (.v 6))⟩]) (.cond (.v 7) (.skip) (.exit 0))) (.seq (.block [0, 3] 1 (.seq (.ops [0, 3, 13] [
    ⟨some 10, none, .inl (.mov (.v 0))⟩,
    ⟨some 11, none, .inl (.mov (.v 3))⟩,
    ⟨some 12, none, .inl (.idx (.v 10) (.v 11))⟩,
    ⟨some 13, none, .inl (.bin .eql (.v 12) (.c (.int .u8 46)))⟩]) (.cond (.v 13) (.seq (.ops [2] [
    ⟨some 2, none, .inl (.mov (.c (.bool false)))⟩]) (.ret)) (.skip)))) (.ops [0, 3] [
    ⟨some 8, none, .inl (.mov (.v 3))⟩,
    ⟨some 9, none, .inl (.bin .add (.v 8) (.c (.int .i64 1)))⟩,
    ⟨some 3, none, .inl (.mov (.v 9))⟩])))
def l9_plain : AFn := ⟨1, [.slot 2],
  .seq (.ops [0] [
    ⟨some 2, none, .inl (.mov (.c (.bool false)))⟩]) (.seq (.seq (.ops [0, 3] [
    ⟨some 3, none, .inl (.mov (.c (.int .i64 0)))⟩]) (.block [0] 0 (l9_plain_l1))) (.seq (.ops [2] [
    ⟨some 14, none, .inl (.mov (.v 0))⟩,
    ⟨some 15, none, .inl (.call (.f 18) [(.v 14)])⟩,
    ⟨some 2, none, .inl (.mov (.v 15))⟩]) (.ret)))⟩

def r9_Plain_l1 : Code := .loop [0, 3] none (.seq (.seq (.ops [0, 3, 7] [
    ⟨some 4, none, .inl (.mov (.v 3))⟩,
    ⟨some 5, none, .inl (.mov (.v 0))⟩,
    ⟨some 6, none, .inl (.len true (.v 5))⟩,
    ⟨some 7, none, .inl (.bin .lss (.v 4) (.v 6))⟩]) (.cond (.v 7) (.skip) (.exit 0))) (.seq (.block [0, 3] 1 (.seq (.ops [0, 3, 20] [
    ⟨some 10, none, .inl (.mov (.v 0))⟩,
    ⟨some 11, none, .inl (.mov (.v 3))⟩,
    ⟨some 12, none, .inl (.idx (.v 10) (.v 11))⟩,
    ⟨some 13, none, .inl (.bin .neq (.v 12) (.c (.int .u8 46)))⟩,
    ⟨some 14, none, .inl (.mov (.v 13))⟩,
    ⟨some 15, (some (14, true)), .inl (.mov (.v 0))⟩,
    ⟨some 16, (some (14, true)), .inl (.mov (.v 3))⟩,
    ⟨some 17, (some (14, true)), .inl (.idx (.v 15) (.v 16))⟩,
    ⟨some 18, (some (14, true)), .inl (.call (.f 43) [(.v 17)])⟩,
    ⟨some 19, (some (14, true)), .inl (.un .not (.v 18))⟩,
    ⟨some 20, none, .inl (.pick (.v 14) (.v 19) (.c (.bool false)))⟩]) (.cond (.v 20) (.seq (.ops [2] [
    ⟨some 2, none, .inl (.mov (.c (.bool false)))⟩]) (.ret)) (.skip)))) (.ops [0, 3] [
    ⟨some 8, none, .inl (.mov (.v 3))⟩,
    ⟨some 9, none, .inl (.bin .add (.v 8) (.c (.int .i64 1)))⟩,
    ⟨some 3, none, .inl (.mov (.v 9))⟩])))
def r9_Plain : AFn := ⟨1, [.slot 2],
  .seq (.ops [0] [
    ⟨some 2, none, .inl (.mov (.c (.bool false)))⟩]) (.seq (.seq (.ops [0, 3] [
    ⟨some 3, none, .inl (.mov (.c (.int .i64 0)))⟩]) (.block [] 0 (r9_Plain_l1))) (.seq (.ops [2] [
    ⟨some 2, none, .inl (.mov (.c (.bool true)))⟩]) (.ret)))⟩

def glob_Match_l1 : Code := .loop [5, 7] none (.seq (.seq (.ops [5, 7, 82] [
    ⟨some 70, none, .inl (.mov (.v 7))⟩,
    ⟨some 71, none, .inl (.mov (.v 5))⟩,
    ⟨some 72, none, .inl (.len false (.v 71))⟩,
    ⟨some 73, none, .inl (.bin .lss (.v 70) (.v 72))⟩,
    ⟨some 74, none, .inl (.mov (.v 73))⟩,
    ⟨some 75, (some (74, true)), .inl (.mov (.v 5))⟩,
    ⟨some 76, (some (74, true)), .inl (.mov (.v 7))⟩,
    ⟨some 77, (some (74, true)), .inl (.iaddr 1 (.v 75) (.v 76))⟩,
    ⟨some 78, (some (74, true)), .inl (.load 1 false (.v 77))⟩,
    ⟨some 79, (some (74, true)), .inl (.nilchk (.v 78))⟩,
    ⟨some 80, (some (74, true)), .inl (.faddr 0 (.v 79))⟩,
    ⟨some 81, (some (74, true)), .inl (.load 1 false (.v 80))⟩,
    ⟨some 82, none, .inl (.pick (.v 74) (.v 81) (.c (.bool false)))⟩]) (.cond (.v 82) (.skip) (.exit 3))) (.block [5, 7] 4 (.ops [5, 7] [
    ⟨some 83, none, .inl (.mov (.v 7))⟩,
    ⟨some 84, none, .inl (.bin .add (.v 83) (.c (.int .i64 1)))⟩,
    ⟨some 7, none, .inl (.mov (.v 84))⟩])))
def glob_Match_l2 : Code := .loop [1, 5, 7, 8, 9, 10] none (.seq (.seq (.ops [1, 5, 7, 8, 9, 10, 21] [
    ⟨some 18, none, .inl (.mov (.v 10))⟩,
    ⟨some 19, none, .inl (.mov (.v 1))⟩,
    ⟨some 20, none, .inl (.len true (.v 19))⟩,
    ⟨some 21, none, .inl (.bin .lss (.v 18) (.v 20))⟩]) (.cond (.v 21) (.skip) (.exit 0))) (.block [1, 5, 7, 8, 9, 10] 1 (.block [1, 5, 7, 8, 9, 10] 2 (.seq (.ops [1, 5, 7, 8, 9, 10, 22] [
    ⟨some 23, none, .inl (.mov (.v 7))⟩,
    ⟨some 24, none, .inl (.mov (.v 5))⟩,
    ⟨some 25, none, .inl (.len false (.v 24))⟩,
    ⟨some 26, none, .inl (.bin .lss (.v 23) (.v 25))⟩,
    ⟨some 27, none, .inl (.mov (.v 26))⟩,
    ⟨some 28, (some (27, true)), .inl (.mov (.v 5))⟩,
    ⟨some 29, (some (27, true)), .inl (.mov (.v 7))⟩,
    ⟨some 30, (some (27, true)), .inl (.iaddr 1 (.v 28) (.v 29))⟩,
    ⟨some 31, (some (27, true)), .inl (.load 1 false (.v 30))⟩,
    ⟨some 32, (some (27, true)), .inl (.nilchk (.v 31))⟩,
    ⟨some 33, (some (27, true)), .inl (.faddr 0 (.v 32))⟩,
    ⟨some 34, (some (27, true)), .inl (.load 1 false (.v 33))⟩,
    ⟨some 35, none, .inl (.pick (.v 27) (.v 34) (.c (.bool false)))⟩,
    ⟨some 22, none, .inl (.mov (.v 35))⟩]) (.cond (.v 22) (.seq (.ops [1, 5, 7, 8, 9, 10] [
    ⟨some 36, none, .inl (.mov (.v 7))⟩,
    ⟨some 37, none, .inl (.mov (.v 10))⟩,
    ⟨some 8, none, .inl (.mov (.v 36))⟩,
    ⟨some 9, none, .inl (.mov (.v 37))⟩]) (.ops [1, 5, 7, 8, 9, 10] [
    ⟨some 38, none, .inl (.mov (.v 7))⟩,
    ⟨some 39, none, .inl (.bin .add (.v 38) (.c (.int .i64 1)))⟩,
    ⟨some 7, none, .inl (.mov (.v 39))⟩])) (.seq (.ops [1, 5, 7, 8, 9, 10, 40] [
    ⟨some 41, none, .inl (.mov (.v 7))⟩,
    ⟨some 42, none, .inl (.mov (.v 5))⟩,
    ⟨some 43, none, .inl (.len false (.v 42))⟩,
    ⟨some 44, none, .inl (.bin .lss (.v 41) (.v 43))⟩,
    ⟨some 45, none, .inl (.mov (.v 44))⟩,
    ⟨some 46, (some (45, true)), .inl (.mov (.v 5))⟩,
    ⟨some 47, (some (45, true)), .inl (.mov (.v 7))⟩,
    ⟨some 48, (some (45, true)), .inl (.iaddr 1 (.v 46) (.v 47))⟩,
    ⟨some 49, (some (45, true)), .inl (.load 1 false (.v 48))⟩,
    ⟨some 50, (some (45, true)), .inl (.mov (.v 1))⟩,
    ⟨some 51, (some (45, true)), .inl (.mov (.v 10))⟩,
    ⟨some 52, (some (45, true)), .inl (.idx (.v 50) (.v 51))⟩,
    ⟨some 53, (some (45, true)), .inl (.nilchk (.v 49))⟩,
    ⟨some 54, (some (45, true)), .inl (.faddr 1 (.v 53))⟩,
    ⟨some 55, (some (45, true)), .inl (.iaddrA 1 256 (.v 54) (.v 52))⟩,
    ⟨some 56, (some (45, true)), .inl (.load 1 false (.v 55))⟩,
    ⟨some 57, none, .inl (.pick (.v 45) (.v 56) (.c (.bool false)))⟩,
    ⟨some 40, none, .inl (.mov (.v 57))⟩]) (.cond (.v 40) (.seq (.ops [1, 5, 7, 8, 9, 10] [
    ⟨some 58, none, .inl (.mov (.v 7))⟩,
    ⟨some 59, none, .inl (.bin .add (.v 58) (.c (.int .i64 1)))⟩,
    ⟨some 7, none, .inl (.mov (.v 59))⟩]) (.ops [1, 5, 7, 8, 9, 10] [
    ⟨some 60, none, .inl (.mov (.v 10))⟩,
    ⟨some 61, none, .inl (.bin .add (.v 60) (.c (.int .i64 1)))⟩,
    ⟨some 10, none, .inl (.mov (.v 61))⟩])) (.seq (.ops [1, 5, 8, 9, 62] [
    ⟨some 63, none, .inl (.mov (.v 8))⟩,
    ⟨some 64, none, .inl (.bin .geq (.v 63) (.c (.int .i64 0)))⟩,
    ⟨some 62, none, .inl (.mov (.v 64))⟩]) (.cond (.v 62) (.seq (.ops [1, 5, 8, 9] [
    ⟨some 65, none, .inl (.mov (.v 9))⟩,
    ⟨some 66, none, .inl (.bin .add (.v 65) (.c (.int .i64 1)))⟩,
    ⟨some 9, none, .inl (.mov (.v 66))⟩]) (.ops [1, 5, 7, 8, 9, 10] [
    ⟨some 67, none, .inl (.mov (.v 8))⟩,
    ⟨some 68, none, .inl (.bin .add (.v 67) (.c (.int .i64 1)))⟩,
    ⟨some 69, none, .inl (.mov (.v 9))⟩,
    ⟨some 7, none, .inl (.mov (.v 68))⟩,
    ⟨some 10, none, .inl (.mov (.v 69))⟩])) (.seq (.ops [4] [
    ⟨some 4, none, .inl (.mov (.c (.bool false)))⟩]) (.ret)))))))))))
def glob_Match : AFn := ⟨2, [.slot 4],
  .seq (.ops [0, 1] [
    ⟨some 4, none, .inl (.mov (.c (.bool false)))⟩]) (.seq (.ops [1, 5, 6] [
    ⟨some 12, none, .inl (.mov (.v 0))⟩,
    ⟨some 13, none, .inr (.callf (.f 35) [(.v 12)])⟩,
    ⟨some 11, none, .inl (.mov (.v 13))⟩,
    ⟨some 14, none, .inl (.ext (.v 11) 0)⟩,
    ⟨some 15, none, .inl (.ext (.v 11) 1)⟩,
    ⟨some 5, none, .inl (.mov (.v 14))⟩,
    ⟨some 6, none, .inl (.mov (.v 15))⟩]) (.seq (.seq (.ops [1, 5, 17] [
    ⟨some 16, none, .inl (.mov (.v 6))⟩,
    ⟨some 17, none, .inl (.un .not (.v 16))⟩]) (.cond (.v 17) (.seq (.ops [4] [
    ⟨some 4, none, .inl (.mov (.c (.bool false)))⟩]) (.ret)) (.skip))) (.seq (.ops [1, 5, 7, 8, 9] [
    ⟨some 7, none, .inl (.mov (.c (.int .i64 0)))⟩,
    ⟨some 8, none, .inl (.mov (.c (.int .i64 (-1))))⟩,
    ⟨some 9, none, .inl (.mov (.c (.int .i64 0)))⟩]) (.seq (.seq (.ops [1, 5, 7, 8, 9, 10] [
    ⟨some 10, none, .inl (.mov (.c (.int .i64 0)))⟩]) (.block [5, 7] 0 (glob_Match_l2))) (.seq (.block [5, 7] 3 (glob_Match_l1)) (.seq (.ops [4] [
    ⟨some 85, none, .inl (.mov (.v 7))⟩,
    ⟨some 86, none, .inl (.mov (.v 5))⟩,
    ⟨some 87, none, .inl (.len false (.v 86))⟩,
    ⟨some 88, none, .inl (.bin .eql (.v 85) (.v 87))⟩,
    ⟨some 4, none, .inl (.mov (.v 88))⟩]) (.ret)))))))⟩

def r9_Expand_l1 : Code := .loop [4, 6, 7, 8] none (.seq (.seq (.ops [4, 6, 7, 8, 43] [
    ⟨some 40, none, .inl (.mov (.v 8))⟩,
    ⟨some 41, none, .inl (.mov (.v 7))⟩,
    ⟨some 42, none, .inl (.len false (.v 41))⟩,
    ⟨some 43, none, .inl (.bin .lss (.v 40) (.v 42))⟩]) (.cond (.v 43) (.skip) (.exit 2))) (.seq (.block [4, 6, 7, 8] 3 (.seq (.ops [4, 6, 7, 8, 51] [
    ⟨some 46, none, .inl (.mov (.v 7))⟩,
    ⟨some 47, none, .inl (.mov (.v 8))⟩,
    ⟨some 48, none, .inl (.iaddr 1 (.v 46) (.v 47))⟩,
    ⟨some 49, none, .inl (.load 1 false (.v 48))⟩,
    ⟨some 50, none, .inl (.call (.f 39) [(.v 49)])⟩,
    ⟨some 51, none, .inl (.un .not (.v 50))⟩]) (.cond (.v 51) (.seq (.ops [2, 3] [
    ⟨some 2, none, .inl (.mov (.c (.sl .nil 1 [])))⟩,
    ⟨some 3, none, .inl (.mov (.c (.int .i64 8)))⟩]) (.ret)) (.skip)))) (.ops [4, 6, 7, 8] [
    ⟨some 44, none, .inl (.mov (.v 8))⟩,
    ⟨some 45, none, .inl (.bin .add (.v 44) (.c (.int .i64 1)))⟩,
    ⟨some 8, none, .inl (.mov (.v 45))⟩])))
def r9_Expand_l2 : Code := .loop [4, 6] none (.seq (.seq (.ops [4, 6, 27] [
    ⟨some 24, none, .inl (.mov (.v 6))⟩,
    ⟨some 25, none, .inl (.mov (.v 4))⟩,
    ⟨some 26, none, .inl (.len false (.v 25))⟩,
    ⟨some 27, none, .inl (.bin .lss (.v 24) (.v 26))⟩]) (.cond (.v 27) (.skip) (.exit 0))) (.seq (.block [4, 6] 1 (.seq (.seq (.ops [4, 6, 34] [
    ⟨some 30, none, .inl (.mov (.v 4))⟩,
    ⟨some 31, none, .inl (.mov (.v 6))⟩,
    ⟨some 32, none, .inl (.iaddr 1 (.v 30) (.v 31))⟩,
    ⟨some 33, none, .inl (.load 1 false (.v 32))⟩,
    ⟨some 34, none, .inl (.bin .eql (.v 33) (.c (.str [])))⟩]) (.cond (.v 34) (.seq (.ops [2, 3] [
    ⟨some 2, none, .inl (.mov (.c (.sl .nil 1 [])))⟩,
    ⟨some 3, none, .inl (.mov (.c (.int .i64 8)))⟩]) (.ret)) (.skip))) (.seq (.ops [4, 6, 7] [
    ⟨some 35, none, .inl (.mov (.v 4))⟩,
    ⟨some 36, none, .inl (.mov (.v 6))⟩,
    ⟨some 37, none, .inl (.iaddr 1 (.v 35) (.v 36))⟩,
    ⟨some 38, none, .inl (.load 1 false (.v 37))⟩,
    ⟨some 39, none, .inr (.callf (.f 40) [(.v 38)])⟩,
    ⟨some 7, none, .inl (.mov (.v 39))⟩]) (.seq (.ops [4, 6, 7, 8] [
    ⟨some 8, none, .inl (.mov (.c (.int .i64 0)))⟩]) (.block [4, 6] 2 (r9_Expand_l1)))))) (.ops [4, 6] [
    ⟨some 28, none, .inl (.mov (.v 6))⟩,
    ⟨some 29, none, .inl (.bin .add (.v 28) (.c (.int .i64 1)))⟩,
    ⟨some 6, none, .inl (.mov (.v 29))⟩])))
def r9_Expand : AFn := ⟨1, [.slot 2, .slot 3],
  .seq (.ops [0] [
    ⟨some 2, none, .inl (.mov (.c (.sl .nil 1 [])))⟩,
    ⟨some 3, none, .inl (.mov (.c (.int .i64 0)))⟩]) (.seq (.seq (.ops [0, 16] [
    ⟨some 9, none, .inl (.mov (.v 0))⟩,
    ⟨some 10, none, .inl (.len true (.v 9))⟩,
    ⟨some 11, none, .inl (.bin .gtr (.v 10) (.c (.int .i64 4096)))⟩,
    ⟨some 12, none, .inl (.mov (.v 11))⟩,
    ⟨some 13, (some (12, false)), .inl (.mov (.v 0))⟩,
    ⟨some 14, (some (12, false)), .inl (.call (.f 42) [(.v 13)])⟩,
    ⟨some 15, (some (12, false)), .inl (.un .not (.v 14))⟩,
    ⟨some 16, none, .inl (.pick (.v 12) (.c (.bool true)) (.v 15))⟩]) (.cond (.v 16) (.seq (.ops [2, 3] [
    ⟨some 2, none, .inl (.mov (.c (.sl .nil 1 [])))⟩,
    ⟨some 3, none, .inl (.mov (.c (.int .i64 8)))⟩]) (.ret)) (.skip))) (.seq (.ops [4, 5] [
    ⟨some 18, none, .inl (.mov (.v 0))⟩,
    ⟨some 19, none, .inr (.callf (.f 41) [(.v 18)])⟩,
    ⟨some 17, none, .inl (.mov (.v 19))⟩,
    ⟨some 20, none, .inl (.ext (.v 17) 0)⟩,
    ⟨some 21, none, .inl (.ext (.v 17) 1)⟩,
    ⟨some 4, none, .inl (.mov (.v 20))⟩,
    ⟨some 5, none, .inl (.mov (.v 21))⟩]) (.seq (.seq (.ops [4, 23] [
    ⟨some 22, none, .inl (.mov (.v 5))⟩,
    ⟨some 23, none, .inl (.un .not (.v 22))⟩]) (.cond (.v 23) (.seq (.ops [2, 3] [
    ⟨some 2, none, .inl (.mov (.c (.sl .nil 1 [])))⟩,
    ⟨some 3, none, .inl (.mov (.c (.int .i64 13)))⟩]) (.ret)) (.skip))) (.seq (.seq (.ops [4, 6] [
    ⟨some 6, none, .inl (.mov (.c (.int .i64 0)))⟩]) (.block [4] 0 (r9_Expand_l2))) (.seq (.ops [2, 3] [
    ⟨some 52, none, .inl (.mov (.v 4))⟩,
    ⟨some 2, none, .inl (.mov (.v 52))⟩,
    ⟨some 3, none, .inl (.mov (.c (.int .i64 0)))⟩]) (.ret))))))⟩

def l9_texts_l1 : Code := .loop [0, 1, 5] none (.seq (.seq (.ops [0, 1, 5, 14] [
    ⟨some 11, none, .inl (.mov (.v 5))⟩,
    ⟨some 12, none, .inl (.mov (.v 0))⟩,
    ⟨some 13, none, .inl (.len false (.v 12))⟩,
    ⟨some 14, none, .inl (.bin .lss (.v 11) (.v 13))⟩]) (.cond (.v 14) (.skip) (.exit 0))) (.seq (.block [0, 1, 5] 1 (.seq (.ops [0, 1, 5, 25] [
    ⟨some 17, none, .inl (.mov (.v 0))⟩,
    ⟨some 18, none, .inl (.mov (.v 5))⟩,
    ⟨some 19, none, .inl (.iaddr 1 (.v 17) (.v 18))⟩,
    ⟨some 20, none, .inl (.load 1 false (.v 19))⟩,
    ⟨some 21, none, .inl (.mov (.v 1))⟩,
    ⟨some 22, none, .inl (.mov (.v 5))⟩,
    ⟨some 23, none, .inl (.iaddr 1 (.v 21) (.v 22))⟩,
    ⟨some 24, none, .inl (.load 1 false (.v 23))⟩,
    ⟨some 25, none, .inl (.bin .neq (.v 20) (.v 24))⟩]) (.cond (.v 25) (.seq (.ops [4] [
    ⟨some 4, none, .inl (.mov (.c (.bool false)))⟩]) (.ret)) (.skip)))) (.ops [0, 1, 5] [
    ⟨some 15, none, .inl (.mov (.v 5))⟩,
    ⟨some 16, none, .inl (.bin .add (.v 15) (.c (.int .i64 1)))⟩,
    ⟨some 5, none, .inl (.mov (.v 16))⟩])))
def l9_texts : AFn := ⟨2, [.slot 4],
  .seq (.ops [0, 1] [
    ⟨some 4, none, .inl (.mov (.c (.bool false)))⟩]) (.seq (.seq (.ops [0, 1, 10] [
    ⟨some 6, none, .inl (.mov (.v 0))⟩,
    ⟨some 7, none, .inl (.len false (.v 6))⟩,
    ⟨some 8, none, .inl (.mov (.v 1))⟩,
    ⟨some 9, none, .inl (.len false (.v 8))⟩,
    ⟨some 10, none, .inl (.bin .neq (.v 7) (.v 9))⟩]) (.cond (.v 10) (.seq (.ops [4] [
    ⟨some 4, none, .inl (.mov (.c (.bool false)))⟩]) (.ret)) (.skip))) (.seq (.seq (.ops [0, 1, 5] [
    ⟨some 5, none, .inl (.mov (.c (.int .i64 0)))⟩]) (.block [] 0 (l9_texts_l1))) (.seq (.ops [4] [
    ⟨some 4, none, .inl (.mov (.c (.bool true)))⟩]) (.ret))))⟩

def l9_known : AFn := ⟨0, [.slot 0],
  .seq (.ops [] [
    ⟨some 0, none, .inl (.mov (.c (.bool false)))⟩]) (.seq (.ops [1, 2] [
    ⟨some 4, none, .inr (.callf (.f 16) [(.c (.str [97, 46, 123, 98, 44, 99, 123, 100, 44, 125, 125]))])⟩,
    ⟨some 3, none, .inl (.mov (.v 4))⟩,
    ⟨some 5, none, .inl (.ext (.v 3) 0)⟩,
    ⟨some 6, none, .inl (.ext (.v 3) 1)⟩,
    ⟨some 1, none, .inl (.mov (.v 5))⟩,
    ⟨some 2, none, .inl (.mov (.v 6))⟩]) (.seq (.ops [0] [
    ⟨some 7, none, .inl (.mov (.v 2))⟩,
    ⟨some 8, none, .inl (.bin .eql (.v 7) (.c (.int .i64 0)))⟩,
    ⟨some 9, none, .inl (.mov (.v 8))⟩,
    ⟨some 10, (some (9, true)), .inl (.mov (.v 1))⟩,
    ⟨some 11, (some (9, true)), .inl (.bslice 1 false 3 ([.str []] ++ [.str []] ++ [.str []]) [⟨0, 1, (.c (.str [97, 46, 98]))⟩, ⟨1, 1, (.c (.str [97, 46, 99, 100]))⟩, ⟨2, 1, (.c (.str [97, 46, 99]))⟩])⟩,
    ⟨some 12, (some (9, true)), .inl (.call (.f 13) [(.v 10), (.v 11)])⟩,
    ⟨some 13, none, .inl (.pick (.v 9) (.v 12) (.c (.bool false)))⟩,
    ⟨some 14, none, .inl (.mov (.v 13))⟩,
    ⟨some 15, (some (14, true)), .inl (.call (.f 17) [(.c (.str [115, 63, 91, 48, 45, 50, 93, 42])), (.c (.str [115, 118, 49]))])⟩,
    ⟨some 16, none, .inl (.pick (.v 14) (.v 15) (.c (.bool false)))⟩,
    ⟨some 0, none, .inl (.mov (.v 16))⟩]) (.ret)))⟩

def glob_Expand_l1 : Code := .loop [5, 29, 30, 31, 38, 39, 40] none (.seq (.ops [5, 29, 30, 31, 38, 39, 40, 41] [
    ⟨some 41, none, .inl (.bin .lss (.v 40) (.v 39))⟩]) (.seq (.cond (.v 41) (.skip) (.exit 2)) (.seq (.block [5, 29, 30, 31, 38, 39, 40] 3 (.seq (.ops [5, 9, 29, 30, 31, 38, 39, 40] [
    ⟨some 42, none, .inl (.iaddr 1 (.v 38) (.v 40))⟩,
    ⟨some 43, none, .inl (.load 1 false (.v 42))⟩,
    ⟨some 9, none, .inl (.mov (.v 43))⟩]) (.seq (.ops [5, 11, 29, 30, 31, 38, 39, 40] [
    ⟨some 45, none, .inl (.mov (.v 9))⟩,
    ⟨some 46, none, .inr (.callf (.f 35) [(.v 45)])⟩,
    ⟨some 44, none, .inl (.mov (.v 46))⟩,
    ⟨some 47, none, .inl (.ext (.v 44) 0)⟩,
    ⟨some 48, none, .inl (.ext (.v 44) 1)⟩,
    ⟨some 10, none, .inl (.mov (.v 47))⟩,
    ⟨some 11, none, .inl (.mov (.v 48))⟩]) (.seq (.ops [5, 29, 30, 31, 38, 39, 40, 50] [
    ⟨some 49, none, .inl (.mov (.v 11))⟩,
    ⟨some 50, none, .inl (.un .not (.v 49))⟩]) (.cond (.v 50) (.seq (.ops [2, 3] [
    ⟨some 2, none, .inl (.mov (.c (.sl .nil 1 [])))⟩,
    ⟨some 3, none, .inl (.mov (.c (.int .i64 8)))⟩]) (.ret)) (.skip)))))) (.ops [5, 29, 30, 31, 38, 39, 40] [
    ⟨some 51, none, .inl (.bin .add (.v 40) (.c (.int .i64 1)))⟩,
    ⟨some 40, none, .inl (.mov (.v 51))⟩]))))
def glob_Expand_l2 : Code := .loop [5, 29, 30, 31] none (.seq (.ops [5, 29, 30, 31, 32] [
    ⟨some 32, none, .inl (.bin .lss (.v 31) (.v 30))⟩]) (.seq (.cond (.v 32) (.skip) (.exit 0)) (.seq (.block [5, 29, 30, 31] 1 (.seq (.ops [5, 7, 29, 30, 31] [
    ⟨some 33, none, .inl (.iaddr 1 (.v 29) (.v 31))⟩,
    ⟨some 34, none, .inl (.load 1 false (.v 33))⟩,
    ⟨some 7, none, .inl (.mov (.v 34))⟩]) (.seq (.seq (.ops [5, 7, 29, 30, 31, 36] [
    ⟨some 35, none, .inl (.mov (.v 7))⟩,
    ⟨some 36, none, .inl (.bin .eql (.v 35) (.c (.str [])))⟩]) (.cond (.v 36) (.seq (.ops [2, 3] [
    ⟨some 2, none, .inl (.mov (.c (.sl .nil 1 [])))⟩,
    ⟨some 3, none, .inl (.mov (.c (.int .i64 8)))⟩]) (.ret)) (.skip))) (.seq (.ops [5, 29, 30, 31, 38, 39, 40] [
    ⟨some 37, none, .inl (.mov (.v 7))⟩,
    ⟨some 38, none, .inr (.callf (.f 36) [(.v 37)])⟩,
    ⟨some 39, none, .inl (.len false (.v 38))⟩,
    ⟨some 40, none, .inl (.mov (.c (.int .i64 0)))⟩]) (.block [5, 29, 30, 31] 2 (glob_Expand_l1)))))) (.ops [5, 29, 30, 31] [
    ⟨some 52, none, .inl (.bin .add (.v 31) (.c (.int .i64 1)))⟩,
    ⟨some 31, none, .inl (.mov (.v 52))⟩]))))
def glob_Expand : AFn := ⟨1, [.slot 2, .slot 3],
  .seq (.ops [0] [
    ⟨some 2, none, .inl (.mov (.c (.sl .nil 1 [])))⟩,
    ⟨some 3, none, .inl (.mov (.c (.int .i64 0)))⟩]) (.seq (.seq (.ops [0, 19] [
    ⟨some 12, none, .inl (.mov (.v 0))⟩,
    ⟨some 13, none, .inl (.len true (.v 12))⟩,
    ⟨some 14, none, .inl (.bin .gtr (.v 13) (.c (.int .i64 4096)))⟩,
    ⟨some 15, none, .inl (.mov (.v 14))⟩,
    ⟨some 16, (some (15, false)), .inl (.mov (.v 0))⟩,
    ⟨some 17, (some (15, false)), .inl (.call (.f 38) [(.v 16)])⟩,
    ⟨some 18, (some (15, false)), .inl (.un .not (.v 17))⟩,
    ⟨some 19, none, .inl (.pick (.v 15) (.c (.bool true)) (.v 18))⟩]) (.cond (.v 19) (.seq (.ops [2, 3] [
    ⟨some 2, none, .inl (.mov (.c (.sl .nil 1 [])))⟩,
    ⟨some 3, none, .inl (.mov (.c (.int .i64 8)))⟩]) (.ret)) (.skip))) (.seq (.ops [4] [
    ⟨some 20, none, .inl (.mov (.v 0))⟩,
    ⟨some 21, none, .inl (.build [.str [], .int .i64 0, .bool false] [⟨0, 1, (.v 20)⟩])⟩,
    ⟨some 22, none, .inr (.box (.v 21))⟩,
    ⟨some 4, none, .inl (.mov (.v 22))⟩]) (.seq (.ops [4, 5] [
    ⟨some 23, none, .inl (.mov (.v 4))⟩,
    ⟨some 24, none, .inr (.calls (.f 37) [(.v 23)])⟩,
    ⟨some 5, none, .inl (.mov (.v 24))⟩]) (.seq (.seq (.ops [5, 28] [
    ⟨some 25, none, .inl (.mov (.v 4))⟩,
    ⟨some 26, none, .inl (.nilchk (.v 25))⟩,
    ⟨some 27, none, .inl (.faddr 2 (.v 26))⟩,
    ⟨some 28, none, .inl (.load 1 false (.v 27))⟩]) (.cond (.v 28) (.seq (.ops [2, 3] [
    ⟨some 2, none, .inl (.mov (.c (.sl .nil 1 [])))⟩,
    ⟨some 3, none, .inl (.mov (.c (.int .i64 13)))⟩]) (.ret)) (.skip))) (.seq (.seq (.ops [5, 29, 30, 31] [
    ⟨some 29, none, .inl (.mov (.v 5))⟩,
    ⟨some 30, none, .inl (.len false (.v 29))⟩,
    ⟨some 31, none, .inl (.mov (.c (.int .i64 0)))⟩]) (.block [5] 0 (glob_Expand_l2))) (.seq (.ops [2, 3] [
    ⟨some 53, none, .inl (.mov (.v 5))⟩,
    ⟨some 2, none, .inl (.mov (.v 53))⟩,
    ⟨some 3, none, .inl (.mov (.c (.int .i64 0)))⟩]) (.ret)))))))⟩

def l9_GlobParts : AFn := ⟨1, [.slot 2],
  .seq (.ops [0] [
    ⟨some 2, none, .inl (.mov (.c (.bool false)))⟩]) (.seq (.seq (.ops [0, 9] [
    ⟨some 7, none, .inl (.mov (.v 0))⟩,
    ⟨some 8, none, .inl (.len true (.v 7))⟩,
    ⟨some 9, none, .inl (.bin .gtr (.v 8) (.c (.int .i64 200)))⟩]) (.cond (.v 9) (.seq (.ops [2] [
    ⟨some 2, none, .inl (.mov (.c (.bool true)))⟩]) (.ret)) (.skip))) (.seq (.ops [0, 3, 4] [
    ⟨some 11, none, .inl (.mov (.v 0))⟩,
    ⟨some 12, none, .inr (.callf (.f 23) [(.v 11)])⟩,
    ⟨some 10, none, .inl (.mov (.v 12))⟩,
    ⟨some 13, none, .inl (.ext (.v 10) 0)⟩,
    ⟨some 14, none, .inl (.ext (.v 10) 1)⟩,
    ⟨some 3, none, .inl (.mov (.v 13))⟩,
    ⟨some 4, none, .inl (.mov (.v 14))⟩]) (.seq (.ops [3, 4, 5, 6] [
    ⟨some 16, none, .inl (.mov (.v 0))⟩,
    ⟨some 17, none, .inr (.callf (.f 22) [(.v 16)])⟩,
    ⟨some 15, none, .inl (.mov (.v 17))⟩,
    ⟨some 18, none, .inl (.ext (.v 15) 0)⟩,
    ⟨some 19, none, .inl (.ext (.v 15) 1)⟩,
    ⟨some 5, none, .inl (.mov (.v 18))⟩,
    ⟨some 6, none, .inl (.mov (.v 19))⟩]) (.seq (.ops [2] [
    ⟨some 20, none, .inl (.mov (.v 3))⟩,
    ⟨some 21, none, .inl (.mov (.v 5))⟩,
    ⟨some 22, none, .inl (.call (.f 13) [(.v 20), (.v 21)])⟩,
    ⟨some 23, none, .inl (.mov (.v 22))⟩,
    ⟨some 24, (some (23, true)), .inl (.mov (.v 4))⟩,
    ⟨some 25, (some (23, true)), .inl (.mov (.v 6))⟩,
    ⟨some 26, (some (23, true)), .inl (.bin .eql (.v 24) (.v 25))⟩,
    ⟨some 27, none, .inl (.pick (.v 23) (.v 26) (.c (.bool false)))⟩,
    ⟨some 28, none, .inl (.mov (.v 27))⟩,
    ⟨some 29, (some (28, true)), .inl (.call (.f 14) [])⟩,
    ⟨some 30, none, .inl (.pick (.v 28) (.v 29) (.c (.bool false)))⟩,
    ⟨some 2, none, .inl (.mov (.v 30))⟩]) (.ret)))))⟩

def l9_GlobMatches : AFn := ⟨2, [.slot 4],
  .seq (.ops [0, 1] [
    ⟨some 4, none, .inl (.mov (.c (.bool false)))⟩]) (.seq (.seq (.ops [0, 1, 12] [
    ⟨some 5, none, .inl (.mov (.v 0))⟩,
    ⟨some 6, none, .inl (.len true (.v 5))⟩,
    ⟨some 7, none, .inl (.bin .gtr (.v 6) (.c (.int .i64 200)))⟩,
    ⟨some 8, none, .inl (.mov (.v 7))⟩,
    ⟨some 9, (some (8, false)), .inl (.mov (.v 1))⟩,
    ⟨some 10, (some (8, false)), .inl (.len true (.v 9))⟩,
    ⟨some 11, (some (8, false)), .inl (.bin .gtr (.v 10) (.c (.int .i64 200)))⟩,
    ⟨some 12, none, .inl (.pick (.v 8) (.c (.bool true)) (.v 11))⟩]) (.cond (.v 12) (.seq (.ops [4] [
    ⟨some 4, none, .inl (.mov (.c (.bool true)))⟩]) (.ret)) (.skip))) (.seq (.ops [4] [
    ⟨some 13, none, .inl (.mov (.v 0))⟩,
    ⟨some 14, none, .inl (.mov (.v 1))⟩,
    ⟨some 15, none, .inl (.call (.f 17) [(.v 13), (.v 14)])⟩,
    ⟨some 16, none, .inl (.mov (.v 0))⟩,
    ⟨some 17, none, .inl (.mov (.v 1))⟩,
    ⟨some 18, none, .inl (.call (.f 20) [(.v 16), (.v 17)])⟩,
    ⟨some 19, none, .inl (.eqk 1 false (.v 15) (.v 18))⟩,
    ⟨some 20, none, .inl (.mov (.v 19))⟩,
    ⟨some 21, (some (20, true)), .inl (.mov (.v 0))⟩,
    ⟨some 22, (some (20, true)), .inl (.call (.f 21) [(.v 21)])⟩,
    ⟨some 23, (some (20, true)), .inl (.mov (.v 0))⟩,
    ⟨some 24, (some (20, true)), .inl (.call (.f 18) [(.v 23)])⟩,
    ⟨some 25, (some (20, true)), .inl (.eqk 1 false (.v 22) (.v 24))⟩,
    ⟨some 26, none, .inl (.pick (.v 20) (.v 25) (.c (.bool false)))⟩,
    ⟨some 27, none, .inl (.mov (.v 26))⟩,
    ⟨some 28, (some (27, true)), .inl (.call (.f 14) [])⟩,
    ⟨some 29, none, .inl (.pick (.v 27) (.v 28) (.c (.bool false)))⟩,
    ⟨some 4, none, .inl (.mov (.v 29))⟩]) (.ret)))⟩

def l9_GlobChoices_l1 : Code := .loop [0, 3, 4, 5, 6, 7] none (.seq (.seq (.ops [0, 3, 4, 5, 6, 7, 34] [
    ⟨some 32, none, .inl (.mov (.v 7))⟩,
    ⟨some 33, none, .inl (.mov (.v 6))⟩,
    ⟨some 34, none, .inl (.bin .lss (.v 32) (.v 33))⟩]) (.cond (.v 34) (.skip) (.exit 2))) (.seq (.block [0, 3, 4, 5, 6, 7] 3 (.seq (.seq (.ops [0, 3, 4, 5, 6, 7, 38] [
    ⟨some 37, none, .inl (.mov (.v 7))⟩,
    ⟨some 38, none, .inl (.bin .gtr (.v 37) (.c (.int .i64 0)))⟩]) (.cond (.v 38) (.ops [0, 3, 4, 5, 6, 7] [
    ⟨some 39, none, .inl (.mov (.v 3))⟩,
    ⟨some 40, none, .inl (.bin .add (.v 39) (.c (.str [44])))⟩,
    ⟨some 3, none, .inl (.mov (.v 40))⟩]) (.skip))) (.ops [0, 3, 4, 5, 6, 7] [
    ⟨some 41, none, .inl (.mov (.v 3))⟩,
    ⟨some 42, none, .inl (.mov (.v 7))⟩,
    ⟨some 43, none, .inl (.bin .add (.c (.int .i64 97)) (.v 42))⟩,
    ⟨some 44, none, .inl (.conv .u8 (.v 43))⟩,
    ⟨some 45, none, .inl (.bslice 1 false 1 [.int .u8 0] [⟨0, 1, (.v 44)⟩])⟩,
    ⟨some 46, none, .inl (.strOf (.v 45))⟩,
    ⟨some 47, none, .inl (.bin .add (.v 41) (.v 46))⟩,
    ⟨some 3, none, .inl (.mov (.v 47))⟩]))) (.ops [0, 3, 4, 5, 6, 7] [
    ⟨some 35, none, .inl (.mov (.v 7))⟩,
    ⟨some 36, none, .inl (.bin .add (.v 35) (.c (.int .i64 1)))⟩,
    ⟨some 7, none, .inl (.mov (.v 36))⟩])))
def l9_GlobChoices_l2 : Code := .loop [0, 3, 4, 5] none (.seq (.seq (.ops [0, 3, 4, 5, 21] [
    ⟨some 18, none, .inl (.mov (.v 5))⟩,
    ⟨some 19, none, .inl (.mov (.v 0))⟩,
    ⟨some 20, none, .inl (.len false (.v 19))⟩,
    ⟨some 21, none, .inl (.bin .lss (.v 18) (.v 20))⟩]) (.cond (.v 21) (.skip) (.exit 0))) (.seq (.block [0, 3, 4, 5] 1 (.seq (.ops [0, 3, 4, 5, 6] [
    ⟨some 24, none, .inl (.mov (.v 0))⟩,
    ⟨some 25, none, .inl (.mov (.v 5))⟩,
    ⟨some 26, none, .inl (.iaddr 1 (.v 24) (.v 25))⟩,
    ⟨some 27, none, .inl (.load 1 false (.v 26))⟩,
    ⟨some 28, none, .inl (.bin .and (.v 27) (.c (.int .i64 7)))⟩,
    ⟨some 29, none, .inl (.bin .add (.c (.int .i64 1)) (.v 28))⟩,
    ⟨some 6, none, .inl (.mov (.v 29))⟩]) (.seq (.ops [0, 3, 4, 5, 6] [
    ⟨some 30, none, .inl (.mov (.v 3))⟩,
    ⟨some 31, none, .inl (.bin .add (.v 30) (.c (.str [123])))⟩,
    ⟨some 3, none, .inl (.mov (.v 31))⟩]) (.seq (.seq (.ops [0, 3, 4, 5, 6, 7] [
    ⟨some 7, none, .inl (.mov (.c (.int .i64 0)))⟩]) (.block [0, 3, 4, 5, 6] 2 (l9_GlobChoices_l1))) (.seq (.ops [0, 3, 4, 5, 6] [
    ⟨some 48, none, .inl (.mov (.v 3))⟩,
    ⟨some 49, none, .inl (.bin .add (.v 48) (.c (.str [125])))⟩,
    ⟨some 3, none, .inl (.mov (.v 49))⟩]) (.ops [0, 3, 4, 5] [
    ⟨some 50, none, .inl (.mov (.v 4))⟩,
    ⟨some 51, none, .inl (.mov (.v 6))⟩,
    ⟨some 52, none, .inl (.bin .mul (.v 50) (.v 51))⟩,
    ⟨some 53, none, .inl (.minmax false [(.c (.int .i64 513)), (.v 52)])⟩,
    ⟨some 4, none, .inl (.mov (.v 53))⟩])))))) (.ops [0, 3, 4, 5] [
    ⟨some 22, none, .inl (.mov (.v 5))⟩,
    ⟨some 23, none, .inl (.bin .add (.v 22) (.c (.int .i64 1)))⟩,
    ⟨some 5, none, .inl (.mov (.v 23))⟩])))
def l9_GlobChoices : AFn := ⟨1, [.slot 2],
  .seq (.ops [0] [
    ⟨some 2, none, .inl (.mov (.c (.bool false)))⟩]) (.seq (.seq (.ops [0, 17] [
    ⟨some 10, none, .inl (.mov (.v 0))⟩,
    ⟨some 11, none, .inl (.len false (.v 10))⟩,
    ⟨some 12, none, .inl (.bin .lss (.v 11) (.c (.int .i64 1)))⟩,
    ⟨some 13, none, .inl (.mov (.v 12))⟩,
    ⟨some 14, (some (13, false)), .inl (.mov (.v 0))⟩,
    ⟨some 15, (some (13, false)), .inl (.len false (.v 14))⟩,
    ⟨some 16, (some (13, false)), .inl (.bin .gtr (.v 15) (.c (.int .i64 10)))⟩,
    ⟨some 17, none, .inl (.pick (.v 13) (.c (.bool true)) (.v 16))⟩]) (.cond (.v 17) (.seq (.ops [2] [
    ⟨some 2, none, .inl (.mov (.c (.bool true)))⟩]) (.ret)) (.skip))) (.seq (.ops [0, 3, 4] [
    ⟨some 3, none, .inl (.mov (.c (.str [])))⟩,
    ⟨some 4, none, .inl (.mov (.c (.int .i64 1)))⟩]) (.seq (.seq (.ops [0, 3, 4, 5] [
    ⟨some 5, none, .inl (.mov (.c (.int .i64 0)))⟩]) (.block [3, 4] 0 (l9_GlobChoices_l2))) (.seq (.ops [4, 8, 9] [
    ⟨some 55, none, .inl (.mov (.v 3))⟩,
    ⟨some 56, none, .inr (.callf (.f 16) [(.v 55)])⟩,
    ⟨some 54, none, .inl (.mov (.v 56))⟩,
    ⟨some 57, none, .inl (.ext (.v 54) 0)⟩,
    ⟨some 58, none, .inl (.ext (.v 54) 1)⟩,
    ⟨some 8, none, .inl (.mov (.v 57))⟩,
    ⟨some 9, none, .inl (.mov (.v 58))⟩]) (.seq (.seq (.ops [4, 8, 9, 60] [
    ⟨some 59, none, .inl (.mov (.v 4))⟩,
    ⟨some 60, none, .inl (.bin .gtr (.v 59) (.c (.int .i64 512)))⟩]) (.cond (.v 60) (.seq (.ops [2] [
    ⟨some 61, none, .inl (.mov (.v 9))⟩,
    ⟨some 62, none, .inl (.bin .eql (.v 61) (.c (.int .i64 13)))⟩,
    ⟨some 63, none, .inl (.mov (.v 62))⟩,
    ⟨some 64, (some (63, true)), .inl (.mov (.v 8))⟩,
    ⟨some 65, (some (63, true)), .inl (.len false (.v 64))⟩,
    ⟨some 66, (some (63, true)), .inl (.bin .eql (.v 65) (.c (.int .i64 0)))⟩,
    ⟨some 67, none, .inl (.pick (.v 63) (.v 66) (.c (.bool false)))⟩,
    ⟨some 68, none, .inl (.mov (.v 67))⟩,
    ⟨some 69, (some (68, true)), .inl (.call (.f 14) [])⟩,
    ⟨some 70, none, .inl (.pick (.v 68) (.v 69) (.c (.bool false)))⟩,
    ⟨some 2, none, .inl (.mov (.v 70))⟩]) (.ret)) (.skip))) (.seq (.ops [2] [
    ⟨some 71, none, .inl (.mov (.v 9))⟩,
    ⟨some 72, none, .inl (.bin .eql (.v 71) (.c (.int .i64 0)))⟩,
    ⟨some 73, none, .inl (.mov (.v 72))⟩,
    ⟨some 74, (some (73, true)), .inl (.mov (.v 8))⟩,
    ⟨some 75, (some (73, true)), .inl (.len false (.v 74))⟩,
    ⟨some 76, (some (73, true)), .inl (.mov (.v 4))⟩,
    ⟨some 77, (some (73, true)), .inl (.bin .eql (.v 75) (.v 76))⟩,
    ⟨some 78, none, .inl (.pick (.v 73) (.v 77) (.c (.bool false)))⟩,
    ⟨some 79, none, .inl (.mov (.v 78))⟩,
    ⟨some 80, (some (79, true)), .inl (.call (.f 14) [])⟩,
    ⟨some 81, none, .inl (.pick (.v 79) (.v 80) (.c (.bool false)))⟩,
    ⟨some 2, none, .inl (.mov (.v 81))⟩]) (.ret)))))))⟩

def l9_GlobStars : AFn := ⟨3, [.slot 6],
  .seq (.ops [0, 1, 2] [
    ⟨some 6, none, .inl (.mov (.c (.bool false)))⟩]) (.seq (.seq (.ops [0, 1, 2, 26] [
    ⟨some 8, none, .inl (.mov (.v 0))⟩,
    ⟨some 9, none, .inl (.len true (.v 8))⟩,
    ⟨some 10, none, .inl (.mov (.v 1))⟩,
    ⟨some 11, none, .inl (.len true (.v 10))⟩,
    ⟨some 12, none, .inl (.bin .add (.v 9) (.v 11))⟩,
    ⟨some 13, none, .inl (.mov (.v 2))⟩,
    ⟨some 14, none, .inl (.len true (.v 13))⟩,
    ⟨some 15, none, .inl (.bin .add (.v 12) (.v 14))⟩,
    ⟨some 16, none, .inl (.bin .gtr (.v 15) (.c (.int .i64 200)))⟩,
    ⟨some 17, none, .inl (.mov (.v 16))⟩,
    ⟨some 18, (some (17, false)), .inl (.mov (.v 0))⟩,
    ⟨some 19, (some (17, false)), .inl (.call (.f 19) [(.v 18)])⟩,
    ⟨some 20, (some (17, false)), .inl (.un .not (.v 19))⟩,
    ⟨some 21, none, .inl (.pick (.v 17) (.c (.bool true)) (.v 20))⟩,
    ⟨some 22, none, .inl (.mov (.v 21))⟩,
    ⟨some 23, (some (22, false)), .inl (.mov (.v 1))⟩,
    ⟨some 24, (some (22, false)), .inl (.call (.f 19) [(.v 23)])⟩,
    ⟨some 25, (some (22, false)), .inl (.un .not (.v 24))⟩,
    ⟨some 26, none, .inl (.pick (.v 22) (.c (.bool true)) (.v 25))⟩]) (.cond (.v 26) (.seq (.ops [6] [
    ⟨some 6, none, .inl (.mov (.c (.bool true)))⟩]) (.ret)) (.skip))) (.seq (.ops [0, 1, 2, 7] [
    ⟨some 27, none, .inl (.mov (.v 2))⟩,
    ⟨some 28, none, .inl (.len true (.v 27))⟩,
    ⟨some 29, none, .inl (.mov (.v 0))⟩,
    ⟨some 30, none, .inl (.len true (.v 29))⟩,
    ⟨some 31, none, .inl (.mov (.v 1))⟩,
    ⟨some 32, none, .inl (.len true (.v 31))⟩,
    ⟨some 33, none, .inl (.bin .add (.v 30) (.v 32))⟩,
    ⟨some 34, none, .inl (.bin .geq (.v 28) (.v 33))⟩,
    ⟨some 35, none, .inl (.mov (.v 34))⟩,
    ⟨some 36, (some (35, true)), .inl (.mov (.v 2))⟩,
    ⟨some 37, (some (35, true)), .inl (.mov (.v 0))⟩,
    ⟨some 38, (some (35, true)), .inl (.len true (.v 37))⟩,
    ⟨some 39, (some (35, true)), .inl (.sliceS (.v 36) none (some (.v 38)))⟩,
    ⟨some 40, (some (35, true)), .inl (.mov (.v 0))⟩,
    ⟨some 41, (some (35, true)), .inl (.bin .eql (.v 39) (.v 40))⟩,
    ⟨some 42, none, .inl (.pick (.v 35) (.v 41) (.c (.bool false)))⟩,
    ⟨some 43, none, .inl (.mov (.v 42))⟩,
    ⟨some 44, (some (43, true)), .inl (.mov (.v 2))⟩,
    ⟨some 45, (some (43, true)), .inl (.mov (.v 2))⟩,
    ⟨some 46, (some (43, true)), .inl (.len true (.v 45))⟩,
    ⟨some 47, (some (43, true)), .inl (.mov (.v 1))⟩,
    ⟨some 48, (some (43, true)), .inl (.len true (.v 47))⟩,
    ⟨some 49, (some (43, true)), .inl (.bin .sub (.v 46) (.v 48))⟩,
    ⟨some 50, (some (43, true)), .inl (.sliceS (.v 44) (some (.v 49)) none)⟩,
    ⟨some 51, (some (43, true)), .inl (.mov (.v 1))⟩,
    ⟨some 52, (some (43, true)), .inl (.bin .eql (.v 50) (.v 51))⟩,
    ⟨some 53, none, .inl (.pick (.v 43) (.v 52) (.c (.bool false)))⟩,
    ⟨some 7, none, .inl (.mov (.v 53))⟩]) (.seq (.ops [6] [
    ⟨some 54, none, .inl (.mov (.v 0))⟩,
    ⟨some 55, none, .inl (.bin .add (.v 54) (.c (.str [42])))⟩,
    ⟨some 56, none, .inl (.mov (.v 1))⟩,
    ⟨some 57, none, .inl (.bin .add (.v 55) (.v 56))⟩,
    ⟨some 58, none, .inl (.mov (.v 2))⟩,
    ⟨some 59, none, .inl (.call (.f 17) [(.v 57), (.v 58)])⟩,
    ⟨some 60, none, .inl (.mov (.v 7))⟩,
    ⟨some 61, none, .inl (.eqk 1 false (.v 59) (.v 60))⟩,
    ⟨some 62, none, .inl (.mov (.v 61))⟩,
    ⟨some 63, (some (62, true)), .inl (.mov (.v 0))⟩,
    ⟨some 64, (some (62, true)), .inl (.bin .add (.v 63) (.c (.str [42, 42])))⟩,
    ⟨some 65, (some (62, true)), .inl (.mov (.v 1))⟩,
    ⟨some 66, (some (62, true)), .inl (.bin .add (.v 64) (.v 65))⟩,
    ⟨some 67, (some (62, true)), .inl (.mov (.v 2))⟩,
    ⟨some 68, (some (62, true)), .inl (.call (.f 17) [(.v 66), (.v 67)])⟩,
    ⟨some 69, (some (62, true)), .inl (.mov (.v 7))⟩,
    ⟨some 70, (some (62, true)), .inl (.eqk 1 false (.v 68) (.v 69))⟩,
    ⟨some 71, none, .inl (.pick (.v 62) (.v 70) (.c (.bool false)))⟩,
    ⟨some 72, none, .inl (.mov (.v 71))⟩,
    ⟨some 73, (some (72, true)), .inl (.call (.f 14) [])⟩,
    ⟨some 74, none, .inl (.pick (.v 72) (.v 73) (.c (.bool false)))⟩,
    ⟨some 6, none, .inl (.mov (.v 74))⟩]) (.ret))))⟩

def l9_GlobPlain_l1 : Code := .loop [0, 1, 5, 6, 7] none (.seq (.seq (.ops [0, 1, 5, 6, 7, 34] [
    ⟨some 31, none, .inl (.mov (.v 7))⟩,
    ⟨some 32, none, .inl (.mov (.v 0))⟩,
    ⟨some 33, none, .inl (.len true (.v 32))⟩,
    ⟨some 34, none, .inl (.bin .lss (.v 31) (.v 33))⟩]) (.cond (.v 34) (.skip) (.exit 0))) (.seq (.block [0, 1, 5, 6, 7] 1 (.seq (.ops [0, 1, 5, 6, 7, 40] [
    ⟨some 37, none, .inl (.mov (.v 0))⟩,
    ⟨some 38, none, .inl (.mov (.v 7))⟩,
    ⟨some 39, none, .inl (.idx (.v 37) (.v 38))⟩,
    ⟨some 40, none, .inl (.bin .eql (.v 39) (.c (.int .u8 46)))⟩]) (.cond (.v 40) (.seq (.ops [4] [
    ⟨some 41, none, .inl (.mov (.v 6))⟩,
    ⟨some 42, none, .inl (.bin .eql (.v 41) (.c (.int .i64 0)))⟩,
    ⟨some 43, none, .inl (.mov (.v 42))⟩,
    ⟨some 44, (some (43, true)), .inl (.mov (.v 5))⟩,
    ⟨some 45, (some (43, true)), .inl (.mov (.v 0))⟩,
    ⟨some 46, (some (43, true)), .inl (.bslice 1 false 1 [.str []] [⟨0, 1, (.v 45)⟩])⟩,
    ⟨some 47, (some (43, true)), .inl (.call (.f 13) [(.v 44), (.v 46)])⟩,
    ⟨some 48, none, .inl (.pick (.v 43) (.v 47) (.c (.bool false)))⟩,
    ⟨some 49, none, .inl (.mov (.v 48))⟩,
    ⟨some 50, (some (49, true)), .inl (.call (.f 14) [])⟩,
    ⟨some 51, none, .inl (.pick (.v 49) (.v 50) (.c (.bool false)))⟩,
    ⟨some 4, none, .inl (.mov (.v 51))⟩]) (.ret)) (.skip)))) (.ops [0, 1, 5, 6, 7] [
    ⟨some 35, none, .inl (.mov (.v 7))⟩,
    ⟨some 36, none, .inl (.bin .add (.v 35) (.c (.int .i64 1)))⟩,
    ⟨some 7, none, .inl (.mov (.v 36))⟩])))
def l9_GlobPlain : AFn := ⟨2, [.slot 4],
  .seq (.ops [0, 1] [
    ⟨some 4, none, .inl (.mov (.c (.bool false)))⟩]) (.seq (.seq (.ops [0, 1, 25] [
    ⟨some 8, none, .inl (.mov (.v 0))⟩,
    ⟨some 9, none, .inl (.len true (.v 8))⟩,
    ⟨some 10, none, .inl (.bin .lss (.v 9) (.c (.int .i64 1)))⟩,
    ⟨some 11, none, .inl (.mov (.v 10))⟩,
    ⟨some 12, (some (11, false)), .inl (.mov (.v 0))⟩,
    ⟨some 13, (some (11, false)), .inl (.len true (.v 12))⟩,
    ⟨some 14, (some (11, false)), .inl (.bin .gtr (.v 13) (.c (.int .i64 200)))⟩,
    ⟨some 15, none, .inl (.pick (.v 11) (.c (.bool true)) (.v 14))⟩,
    ⟨some 16, none, .inl (.mov (.v 15))⟩,
    ⟨some 17, (some (16, false)), .inl (.mov (.v 1))⟩,
    ⟨some 18, (some (16, false)), .inl (.len true (.v 17))⟩,
    ⟨some 19, (some (16, false)), .inl (.bin .gtr (.v 18) (.c (.int .i64 200)))⟩,
    ⟨some 20, none, .inl (.pick (.v 16) (.c (.bool true)) (.v 19))⟩,
    ⟨some 21, none, .inl (.mov (.v 20))⟩,
    ⟨some 22, (some (21, false)), .inl (.mov (.v 0))⟩,
    ⟨some 23, (some (21, false)), .inl (.call (.f 18) [(.v 22)])⟩,
    ⟨some 24, (some (21, false)), .inl (.un .not (.v 23))⟩,
    ⟨some 25, none, .inl (.pick (.v 21) (.c (.bool true)) (.v 24))⟩]) (.cond (.v 25) (.seq (.ops [4] [
    ⟨some 4, none, .inl (.mov (.c (.bool true)))⟩]) (.ret)) (.skip))) (.seq (.ops [0, 1, 5, 6] [
    ⟨some 27, none, .inl (.mov (.v 0))⟩,
    ⟨some 28, none, .inr (.callf (.f 16) [(.v 27)])⟩,
    ⟨some 26, none, .inl (.mov (.v 28))⟩,
    ⟨some 29, none, .inl (.ext (.v 26) 0)⟩,
    ⟨some 30, none, .inl (.ext (.v 26) 1)⟩,
    ⟨some 5, none, .inl (.mov (.v 29))⟩,
    ⟨some 6, none, .inl (.mov (.v 30))⟩]) (.seq (.seq (.ops [0, 1, 5, 6, 7] [
    ⟨some 7, none, .inl (.mov (.c (.int .i64 0)))⟩]) (.block [0, 1, 5, 6] 0 (l9_GlobPlain_l1))) (.seq (.ops [4] [
    ⟨some 52, none, .inl (.mov (.v 6))⟩,
    ⟨some 53, none, .inl (.bin .eql (.v 52) (.c (.int .i64 0)))⟩,
    ⟨some 54, none, .inl (.mov (.v 53))⟩,
    ⟨some 55, (some (54, true)), .inl (.mov (.v 5))⟩,
    ⟨some 56, (some (54, true)), .inl (.mov (.v 0))⟩,
    ⟨some 57, (some (54, true)), .inl (.bslice 1 false 1 [.str []] [⟨0, 1, (.v 56)⟩])⟩,
    ⟨some 58, (some (54, true)), .inl (.call (.f 13) [(.v 55), (.v 57)])⟩,
    ⟨some 59, none, .inl (.pick (.v 54) (.v 58) (.c (.bool false)))⟩,
    ⟨some 60, none, .inl (.mov (.v 59))⟩,
    ⟨some 61, (some (60, true)), .inl (.mov (.v 0))⟩,
    ⟨some 62, (some (60, true)), .inl (.mov (.v 1))⟩,
    ⟨some 63, (some (60, true)), .inl (.call (.f 17) [(.v 61), (.v 62)])⟩,
    ⟨some 64, (some (60, true)), .inl (.mov (.v 1))⟩,
    ⟨some 65, (some (60, true)), .inl (.mov (.v 0))⟩,
    ⟨some 66, (some (60, true)), .inl (.bin .eql (.v 64) (.v 65))⟩,
    ⟨some 67, (some (60, true)), .inl (.eqk 1 false (.v 63) (.v 66))⟩,
    ⟨some 68, none, .inl (.pick (.v 60) (.v 67) (.c (.bool false)))⟩,
    ⟨some 69, none, .inl (.mov (.v 68))⟩,
    ⟨some 70, (some (69, true)), .inl (.call (.f 14) [])⟩,
    ⟨some 71, none, .inl (.pick (.v 69) (.v 70) (.c (.bool false)))⟩,
    ⟨some 4, none, .inl (.mov (.v 71))⟩]) (.ret)))))⟩

def l9_GlobExpands : AFn := ⟨1, [.slot 2],
  .seq (.ops [0] [
    ⟨some 2, none, .inl (.mov (.c (.bool false)))⟩]) (.seq (.seq (.ops [0, 9] [
    ⟨some 7, none, .inl (.mov (.v 0))⟩,
    ⟨some 8, none, .inl (.len true (.v 7))⟩,
    ⟨some 9, none, .inl (.bin .gtr (.v 8) (.c (.int .i64 200)))⟩]) (.cond (.v 9) (.seq (.ops [2] [
    ⟨some 2, none, .inl (.mov (.c (.bool true)))⟩]) (.ret)) (.skip))) (.seq (.ops [0, 3, 4] [
    ⟨some 11, none, .inl (.mov (.v 0))⟩,
    ⟨some 12, none, .inr (.callf (.f 16) [(.v 11)])⟩,
    ⟨some 10, none, .inl (.mov (.v 12))⟩,
    ⟨some 13, none, .inl (.ext (.v 10) 0)⟩,
    ⟨some 14, none, .inl (.ext (.v 10) 1)⟩,
    ⟨some 3, none, .inl (.mov (.v 13))⟩,
    ⟨some 4, none, .inl (.mov (.v 14))⟩]) (.seq (.ops [3, 4, 5, 6] [
    ⟨some 16, none, .inl (.mov (.v 0))⟩,
    ⟨some 17, none, .inr (.callf (.f 15) [(.v 16)])⟩,
    ⟨some 15, none, .inl (.mov (.v 17))⟩,
    ⟨some 18, none, .inl (.ext (.v 15) 0)⟩,
    ⟨some 19, none, .inl (.ext (.v 15) 1)⟩,
    ⟨some 5, none, .inl (.mov (.v 18))⟩,
    ⟨some 6, none, .inl (.mov (.v 19))⟩]) (.seq (.ops [2] [
    ⟨some 20, none, .inl (.mov (.v 3))⟩,
    ⟨some 21, none, .inl (.mov (.v 5))⟩,
    ⟨some 22, none, .inl (.call (.f 13) [(.v 20), (.v 21)])⟩,
    ⟨some 23, none, .inl (.mov (.v 22))⟩,
    ⟨some 24, (some (23, true)), .inl (.mov (.v 4))⟩,
    ⟨some 25, (some (23, true)), .inl (.mov (.v 6))⟩,
    ⟨some 26, (some (23, true)), .inl (.bin .eql (.v 24) (.v 25))⟩,
    ⟨some 27, none, .inl (.pick (.v 23) (.v 26) (.c (.bool false)))⟩,
    ⟨some 28, none, .inl (.mov (.v 27))⟩,
    ⟨some 29, (some (28, true)), .inl (.call (.f 14) [])⟩,
    ⟨some 30, none, .inl (.pick (.v 28) (.v 29) (.c (.bool false)))⟩,
    ⟨some 2, none, .inl (.mov (.v 30))⟩]) (.ret)))))⟩

/-- All functions. -/
def Γ : Ctx := ⟨fun n => match n with
  | 92 => some (.code l9_GlobExpands)
  | 93 => some (.code l9_GlobPlain)
  | 94 => some (.code l9_GlobStars)
  | 95 => some (.code l9_GlobChoices)
  | 96 => some (.code l9_GlobMatches)
  | 97 => some (.code l9_GlobParts)
  | 16 => some (.code glob_Expand)
  | 14 => some (.code l9_known)
  | 13 => some (.code l9_texts)
  | 15 => some (.code r9_Expand)
  | 17 => some (.code glob_Match)
  | 18 => some (.code r9_Plain)
  | 19 => some (.code l9_plain)
  | 21 => some (.code glob_Plain)
  | 20 => some (.code r9_Match)
  | 23 => some (.code glob_Parts)
  | 22 => some (.code r9_Parts)
  | 37 => some (.code glob_reader_row)
  | 38 => some (.code glob_balanced)
  | 35 => some (.code glob_pieces)
  | 36 => some (.code name_Parts)
  | 40 => some (.code r8_Parts)
  | 41 => some (.code r9_all)
  | 42 => some (.code r9_braces)
  | 39 => some (.code r9_simple)
  | 43 => some (.code r8_Byte)
  | 45 => some (.code strings_ContainsAny)
  | 44 => some (.code r9_matches)
  | 50 => some (.code glob_reader_choice)
  | 51 => some (.code glob_reader_times)
  | 24 => some (.code strings_IndexAny)
  | 53 => some (.code glob_piece_fills)
  | 54 => some (.code glob_class)
  | 56 => some (.code name_Is)
  | 55 => some (.code strings_IndexByte)
  | 52 => some (.code strings_Split)
  | 57 => some (.code r9_ends)
  | 58 => some (.code r9_class)
  | 59 => some (.code r9_in)
  | 83 => some (.code strings_asciiSet_contains)
  | 47 => some (.code strings_IndexRune)
  | 84 => some (.code strings_makeASCIISet)
  | 85 => some (.code strings_shouldUseASCIISet)
  | 65 => some (.code name_isByte)
  | 64 => some (.code internal_stringslite_IndexByte)
  | 63 => some (.code strings_genSplit)
  | 79 => some (.code internal_bytealg_Cutover)
  | 89 => some (.code unicode_utf8_ValidRune)
  | 70 => some (.prim indexByteG)
  | 68 => some (.code strings_Count)
  | 67 => some (.code strings_Index)
  | 69 => some (.code strings_explode)
  | 73 => some (.prim countG)
  | 72 => some (.code unicode_utf8_RuneCountInString)
  | 74 => some (.code internal_stringslite_Index)
  | 71 => some (.code unicode_utf8_DecodeRuneInString)
  | 77 => some (.code internal_bytealg_IndexRabinKarp_string)
  | 75 => some (.code unicode_utf8_decodeRuneInStringSlow)
  | 82 => some (.code internal_bytealg_hashStr_string)
  | _ => none, fun n => match n with
  | _ => none⟩
end Ab
