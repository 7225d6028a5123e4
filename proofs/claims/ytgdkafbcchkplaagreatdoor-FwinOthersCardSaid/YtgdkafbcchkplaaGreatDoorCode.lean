import Derived.Test.YtgdkafbcchkplaaGreatDoorAbPrim
/- The code of the functions, as the abstract machine has it. -/
namespace Ab
def math_bits_Len64 : AFn := ⟨1, [.slot 2],
  .seq (.ops [0, 2] [
    ⟨some 2, none, .inl (.mov (.c (.int .i64 0)))⟩]) (.seq (.seq (.ops [0, 2, 4] [
    ⟨some 3, none, .inl (.mov (.v 0))⟩,
    ⟨some 4, none, .inl (.bin .geq (.v 3) (.c (.int .u64 4294967296)))⟩]) (.cond (.v 4) (.seq (.ops [0] [
    ⟨some 5, none, .inl (.mov (.v 0))⟩,
    ⟨some 6, none, .inl (.bin .shr (.v 5) (.c (.int .u64 32)))⟩,
    ⟨some 0, none, .inl (.mov (.v 6))⟩]) (.ops [0, 2] [
    ⟨some 2, none, .inl (.mov (.c (.int .i64 32)))⟩])) (.skip))) (.seq (.seq (.ops [0, 2, 8] [
    ⟨some 7, none, .inl (.mov (.v 0))⟩,
    ⟨some 8, none, .inl (.bin .geq (.v 7) (.c (.int .u64 65536)))⟩]) (.cond (.v 8) (.seq (.ops [0, 2] [
    ⟨some 9, none, .inl (.mov (.v 0))⟩,
    ⟨some 10, none, .inl (.bin .shr (.v 9) (.c (.int .u64 16)))⟩,
    ⟨some 0, none, .inl (.mov (.v 10))⟩]) (.ops [0, 2] [
    ⟨some 11, none, .inl (.mov (.v 2))⟩,
    ⟨some 12, none, .inl (.bin .add (.v 11) (.c (.int .i64 16)))⟩,
    ⟨some 2, none, .inl (.mov (.v 12))⟩])) (.skip))) (.seq (.seq (.ops [0, 2, 14] [
    ⟨some 13, none, .inl (.mov (.v 0))⟩,
    ⟨some 14, none, .inl (.bin .geq (.v 13) (.c (.int .u64 256)))⟩]) (.cond (.v 14) (.seq (.ops [0, 2] [
    ⟨some 15, none, .inl (.mov (.v 0))⟩,
    ⟨some 16, none, .inl (.bin .shr (.v 15) (.c (.int .u64 8)))⟩,
    ⟨some 0, none, .inl (.mov (.v 16))⟩]) (.ops [0, 2] [
    ⟨some 17, none, .inl (.mov (.v 2))⟩,
    ⟨some 18, none, .inl (.bin .add (.v 17) (.c (.int .i64 8)))⟩,
    ⟨some 2, none, .inl (.mov (.v 18))⟩])) (.skip))) (.seq (.ops [2] [
    ⟨some 19, none, .inl (.mov (.v 2))⟩,
    ⟨some 20, none, .inl (.mov (.v 0))⟩,
    ⟨some 21, none, .inl (.conv .u8 (.v 20))⟩,
    ⟨some 22, none, .inl (.idx (.c (.str [0, 1, 2, 2, 3, 3, 3, 3, 4, 4, 4, 4, 4, 4, 4, 4, 5, 5, 5, 5, 5, 5, 5, 5, 5, 5, 5, 5, 5, 5, 5, 5, 6, 6, 6, 6, 6, 6, 6, 6, 6, 6, 6, 6, 6, 6, 6, 6, 6, 6, 6, 6, 6, 6, 6, 6, 6, 6, 6, 6, 6, 6, 6, 6, 7, 7, 7, 7, 7, 7, 7, 7, 7, 7, 7, 7, 7, 7, 7, 7, 7, 7, 7, 7, 7, 7, 7, 7, 7, 7, 7, 7, 7, 7, 7, 7, 7, 7, 7, 7, 7, 7, 7, 7, 7, 7, 7, 7, 7, 7, 7, 7, 7, 7, 7, 7, 7, 7, 7, 7, 7, 7, 7, 7, 7, 7, 7, 7, 8, 8, 8, 8, 8, 8, 8, 8, 8, 8, 8, 8, 8, 8, 8, 8, 8, 8, 8, 8, 8, 8, 8, 8, 8, 8, 8, 8, 8, 8, 8, 8, 8, 8, 8, 8, 8, 8, 8, 8, 8, 8, 8, 8, 8, 8, 8, 8, 8, 8, 8, 8, 8, 8, 8, 8, 8, 8, 8, 8, 8, 8, 8, 8, 8, 8, 8, 8, 8, 8, 8, 8, 8, 8, 8, 8, 8, 8, 8, 8, 8, 8, 8, 8, 8, 8, 8, 8, 8, 8, 8, 8, 8, 8, 8, 8, 8, 8, 8, 8, 8, 8, 8, 8, 8, 8, 8, 8, 8, 8, 8, 8, 8, 8, 8, 8, 8, 8, 8, 8, 8, 8, 8, 8, 8, 8, 8, 8])) (.v 21))⟩,
    ⟨some 23, none, .inl (.conv .i64 (.v 22))⟩,
    ⟨some 24, none, .inl (.bin .add (.v 19) (.v 23))⟩,
    ⟨some 2, none, .inl (.mov (.v 24))⟩]) (.ret)))))⟩

def cmp_isNaN_int : AFn := ⟨1, [.slot 2],
  .seq (.ops [0] [
    ⟨some 2, none, .inl (.mov (.c (.bool false)))⟩]) (.seq (.ops [2] [
    ⟨some 3, none, .inl (.mov (.v 0))⟩,
    ⟨some 4, none, .inl (.mov (.v 0))⟩,
    ⟨some 5, none, .inl (.bin .neq (.v 3) (.v 4))⟩,
    ⟨some 2, none, .inl (.mov (.v 5))⟩]) (.ret))⟩

def math_bits_LeadingZeros64 : AFn := ⟨1, [.slot 2],
  .seq (.ops [0] [
    ⟨some 2, none, .inl (.mov (.c (.int .i64 0)))⟩]) (.seq (.ops [2] [
    ⟨some 3, none, .inl (.mov (.v 0))⟩,
    ⟨some 4, none, .inl (.call (.f 153) [(.v 3)])⟩,
    ⟨some 5, none, .inl (.bin .sub (.c (.int .i64 64)) (.v 4))⟩,
    ⟨some 2, none, .inl (.mov (.v 5))⟩]) (.ret))⟩

def series_within_1 : AFn := ⟨2, [.slot 3],
  .seq (.ops [0, 1] [
    ⟨some 3, none, .inl (.mov (.c (.int .i64 0)))⟩]) (.seq (.seq (.ops [0, 1, 7] [
    ⟨some 4, none, .inl (.mov (.v 0))⟩,
    ⟨some 5, none, .inl (.faddr 1 (.v 1))⟩,
    ⟨some 6, none, .inl (.load 1 false (.v 5))⟩,
    ⟨some 7, none, .inl (.bin .leq (.v 4) (.v 6))⟩]) (.cond (.v 7) (.seq (.ops [3] [
    ⟨some 3, none, .inl (.mov (.c (.int .i64 0)))⟩]) (.ret)) (.skip))) (.seq (.ops [3] [
    ⟨some 8, none, .inl (.faddr 3 (.v 1))⟩,
    ⟨some 9, none, .inl (.load 1 false (.v 8))⟩,
    ⟨some 10, none, .inl (.len false (.v 9))⟩,
    ⟨some 11, none, .inl (.mov (.v 0))⟩,
    ⟨some 12, none, .inl (.faddr 1 (.v 1))⟩,
    ⟨some 13, none, .inl (.load 1 false (.v 12))⟩,
    ⟨some 14, none, .inl (.bin .sub (.v 11) (.v 13))⟩,
    ⟨some 15, none, .inl (.bin .sub (.v 14) (.c (.int .i64 1)))⟩,
    ⟨some 16, none, .inl (.faddr 2 (.v 1))⟩,
    ⟨some 17, none, .inl (.load 1 false (.v 16))⟩,
    ⟨some 18, none, .inl (.bin .quo (.v 15) (.v 17))⟩,
    ⟨some 19, none, .inl (.bin .add (.v 18) (.c (.int .i64 1)))⟩,
    ⟨some 20, none, .inl (.minmax false [(.v 10), (.v 19)])⟩,
    ⟨some 3, none, .inl (.mov (.v 20))⟩]) (.ret)))⟩

def slices_Clone_api_Val_api_Val : AFn := ⟨1, [.slot 2],
  .seq (.ops [0] [
    ⟨some 2, none, .inl (.mov (.c (.sl .nil 2 [])))⟩]) (.seq (.seq (.ops [0, 4] [
    ⟨some 3, none, .inl (.mov (.v 0))⟩,
    ⟨some 4, none, .inl (.eqk 4 false (.v 3) (.c (.sl .nil 2 [])))⟩]) (.cond (.v 4) (.seq (.ops [2] [
    ⟨some 2, none, .inl (.mov (.c (.sl .nil 2 [])))⟩]) (.ret)) (.skip))) (.seq (.ops [2] [
    ⟨some 5, none, .inl (.bslice 2 true 0 [] [])⟩,
    ⟨some 6, none, .inl (.mov (.v 0))⟩,
    ⟨some 7, none, .inr (.append 2 (.v 5) (.v 6))⟩,
    ⟨some 2, none, .inl (.mov (.v 7))⟩]) (.ret)))⟩

def slices_IndexFunc_api_Val_api_Val_l1 : Code := .loop [0, 1, 7, 8] false (.seq (.ops [0, 1, 7, 8, 9] [
    ⟨some 9, none, .inl (.bin .lss (.v 8) (.v 7))⟩]) (.seq (.cond (.v 9) (.skip) (.exit 0)) (.seq (.block [0, 1, 7, 8] 1 (.seq (.ops [0, 1, 5, 7, 8] [
    ⟨some 10, none, .inl (.mov (.v 8))⟩,
    ⟨some 5, none, .inl (.mov (.v 10))⟩]) (.seq (.ops [0, 1, 5, 7, 8, 16] [
    ⟨some 11, none, .inl (.mov (.v 1))⟩,
    ⟨some 12, none, .inl (.mov (.v 0))⟩,
    ⟨some 13, none, .inl (.mov (.v 5))⟩,
    ⟨some 14, none, .inl (.iaddr 2 (.v 12) (.v 13))⟩,
    ⟨some 15, none, .inl (.load 2 true (.v 14))⟩,
    ⟨some 16, none, .inl (.call (.v 11) [(.v 15)])⟩]) (.cond (.v 16) (.seq (.ops [4] [
    ⟨some 17, none, .inl (.mov (.v 5))⟩,
    ⟨some 4, none, .inl (.mov (.v 17))⟩]) (.ret)) (.skip))))) (.ops [0, 1, 7, 8] [
    ⟨some 18, none, .inl (.bin .add (.v 8) (.c (.int .i64 1)))⟩,
    ⟨some 8, none, .inl (.mov (.v 18))⟩]))))
def slices_IndexFunc_api_Val_api_Val : AFn := ⟨2, [.slot 4],
  .seq (.ops [0, 1] [
    ⟨some 4, none, .inl (.mov (.c (.int .i64 0)))⟩]) (.seq (.seq (.ops [0, 1, 7, 8] [
    ⟨some 6, none, .inl (.mov (.v 0))⟩,
    ⟨some 7, none, .inl (.len false (.v 6))⟩,
    ⟨some 8, none, .inl (.mov (.c (.int .i64 0)))⟩]) (.block [] 0 (slices_IndexFunc_api_Val_api_Val_l1))) (.seq (.ops [4] [
    ⟨some 4, none, .inl (.mov (.c (.int .i64 (-1))))⟩]) (.ret)))⟩

def fwin_does_1_1 : AFn := ⟨2, [.cell 3 2 true],
  .seq (.ops [0, 1, 3] [
    ⟨some 3, none, .inr (.alloc [.bool false, .int .i64 0])⟩]) (.seq (.ops [3] [
    ⟨some 4, none, .inl (.load 1 false (.v 1))⟩,
    ⟨some 5, none, .inl (.mov (.v 0))⟩,
    ⟨some 6, none, .inl (.call (.f 132) [(.v 4), (.v 5)])⟩,
    ⟨none, none, .inr (.store 2 (.v 3) (.v 6))⟩]) (.ret))⟩

def cmp_Compare_int : AFn := ⟨2, [.slot 4],
  .seq (.ops [0, 1] [
    ⟨some 4, none, .inl (.mov (.c (.int .i64 0)))⟩]) (.seq (.ops [0, 1, 5] [
    ⟨some 7, none, .inl (.mov (.v 0))⟩,
    ⟨some 8, none, .inl (.call (.f 187) [(.v 7)])⟩,
    ⟨some 5, none, .inl (.mov (.v 8))⟩]) (.seq (.ops [0, 1, 5, 6] [
    ⟨some 9, none, .inl (.mov (.v 1))⟩,
    ⟨some 10, none, .inl (.call (.f 187) [(.v 9)])⟩,
    ⟨some 6, none, .inl (.mov (.v 10))⟩]) (.seq (.seq (.ops [0, 1, 6, 11] [
    ⟨some 11, none, .inl (.mov (.v 5))⟩]) (.cond (.v 11) (.seq (.seq (.ops [12] [
    ⟨some 12, none, .inl (.mov (.v 6))⟩]) (.cond (.v 12) (.seq (.ops [4] [
    ⟨some 4, none, .inl (.mov (.c (.int .i64 0)))⟩]) (.ret)) (.skip))) (.seq (.ops [4] [
    ⟨some 4, none, .inl (.mov (.c (.int .i64 (-1))))⟩]) (.ret))) (.skip))) (.seq (.seq (.ops [0, 1, 13] [
    ⟨some 13, none, .inl (.mov (.v 6))⟩]) (.cond (.v 13) (.seq (.ops [4] [
    ⟨some 4, none, .inl (.mov (.c (.int .i64 1)))⟩]) (.ret)) (.skip))) (.seq (.seq (.ops [0, 1, 16] [
    ⟨some 14, none, .inl (.mov (.v 0))⟩,
    ⟨some 15, none, .inl (.mov (.v 1))⟩,
    ⟨some 16, none, .inl (.bin .lss (.v 14) (.v 15))⟩]) (.cond (.v 16) (.seq (.ops [4] [
    ⟨some 4, none, .inl (.mov (.c (.int .i64 (-1))))⟩]) (.ret)) (.skip))) (.seq (.seq (.ops [19] [
    ⟨some 17, none, .inl (.mov (.v 0))⟩,
    ⟨some 18, none, .inl (.mov (.v 1))⟩,
    ⟨some 19, none, .inl (.bin .gtr (.v 17) (.v 18))⟩]) (.cond (.v 19) (.seq (.ops [4] [
    ⟨some 4, none, .inl (.mov (.c (.int .i64 1)))⟩]) (.ret)) (.skip))) (.seq (.ops [4] [
    ⟨some 4, none, .inl (.mov (.c (.int .i64 0)))⟩]) (.ret))))))))⟩

def math_bits_Div64_l1 : Code := .loop [2, 8, 9, 10, 14, 15, 16, 17, 18] false (.seq (.seq (.ops [2, 8, 9, 10, 14, 15, 16, 17, 18, 113] [
    ⟨some 102, none, .inl (.mov (.v 18))⟩,
    ⟨some 103, none, .inl (.bin .geq (.v 102) (.c (.int .u64 4294967296)))⟩,
    ⟨some 104, none, .inl (.mov (.v 103))⟩,
    ⟨some 105, (some (104, false)), .inl (.mov (.v 18))⟩,
    ⟨some 106, (some (104, false)), .inl (.mov (.v 10))⟩,
    ⟨some 107, (some (104, false)), .inl (.bin .mul (.v 105) (.v 106))⟩,
    ⟨some 108, (some (104, false)), .inl (.mov (.v 16))⟩,
    ⟨some 109, (some (104, false)), .inl (.bin .mul (.c (.int .u64 4294967296)) (.v 108))⟩,
    ⟨some 110, (some (104, false)), .inl (.mov (.v 14))⟩,
    ⟨some 111, (some (104, false)), .inl (.bin .add (.v 109) (.v 110))⟩,
    ⟨some 112, (some (104, false)), .inl (.bin .gtr (.v 107) (.v 111))⟩,
    ⟨some 113, none, .inl (.pick (.v 104) (.c (.bool true)) (.v 112))⟩]) (.cond (.v 113) (.skip) (.exit 2))) (.block [2, 8, 9, 10, 14, 15, 16, 17, 18] 3 (.seq (.ops [2, 8, 9, 10, 14, 15, 16, 17, 18] [
    ⟨some 114, none, .inl (.mov (.v 18))⟩,
    ⟨some 115, none, .inl (.bin .sub (.v 114) (.c (.int .u64 1)))⟩,
    ⟨some 18, none, .inl (.mov (.v 115))⟩]) (.seq (.ops [2, 8, 9, 10, 14, 15, 16, 17, 18] [
    ⟨some 116, none, .inl (.mov (.v 16))⟩,
    ⟨some 117, none, .inl (.mov (.v 9))⟩,
    ⟨some 118, none, .inl (.bin .add (.v 116) (.v 117))⟩,
    ⟨some 16, none, .inl (.mov (.v 118))⟩]) (.seq (.ops [2, 8, 9, 10, 14, 15, 16, 17, 18, 120] [
    ⟨some 119, none, .inl (.mov (.v 16))⟩,
    ⟨some 120, none, .inl (.bin .geq (.v 119) (.c (.int .u64 4294967296)))⟩]) (.cond (.v 120) (.exit 2) (.skip)))))))
def math_bits_Div64_l2 : Code := .loop [2, 8, 9, 10, 11, 13, 14, 15, 16] false (.seq (.seq (.ops [2, 8, 9, 10, 11, 13, 14, 15, 16, 78] [
    ⟨some 67, none, .inl (.mov (.v 15))⟩,
    ⟨some 68, none, .inl (.bin .geq (.v 67) (.c (.int .u64 4294967296)))⟩,
    ⟨some 69, none, .inl (.mov (.v 68))⟩,
    ⟨some 70, (some (69, false)), .inl (.mov (.v 15))⟩,
    ⟨some 71, (some (69, false)), .inl (.mov (.v 10))⟩,
    ⟨some 72, (some (69, false)), .inl (.bin .mul (.v 70) (.v 71))⟩,
    ⟨some 73, (some (69, false)), .inl (.mov (.v 16))⟩,
    ⟨some 74, (some (69, false)), .inl (.bin .mul (.c (.int .u64 4294967296)) (.v 73))⟩,
    ⟨some 75, (some (69, false)), .inl (.mov (.v 13))⟩,
    ⟨some 76, (some (69, false)), .inl (.bin .add (.v 74) (.v 75))⟩,
    ⟨some 77, (some (69, false)), .inl (.bin .gtr (.v 72) (.v 76))⟩,
    ⟨some 78, none, .inl (.pick (.v 69) (.c (.bool true)) (.v 77))⟩]) (.cond (.v 78) (.skip) (.exit 0))) (.block [2, 8, 9, 10, 11, 13, 14, 15, 16] 1 (.seq (.ops [2, 8, 9, 10, 11, 13, 14, 15, 16] [
    ⟨some 79, none, .inl (.mov (.v 15))⟩,
    ⟨some 80, none, .inl (.bin .sub (.v 79) (.c (.int .u64 1)))⟩,
    ⟨some 15, none, .inl (.mov (.v 80))⟩]) (.seq (.ops [2, 8, 9, 10, 11, 13, 14, 15, 16] [
    ⟨some 81, none, .inl (.mov (.v 16))⟩,
    ⟨some 82, none, .inl (.mov (.v 9))⟩,
    ⟨some 83, none, .inl (.bin .add (.v 81) (.v 82))⟩,
    ⟨some 16, none, .inl (.mov (.v 83))⟩]) (.seq (.ops [2, 8, 9, 10, 11, 13, 14, 15, 16, 85] [
    ⟨some 84, none, .inl (.mov (.v 16))⟩,
    ⟨some 85, none, .inl (.bin .geq (.v 84) (.c (.int .u64 4294967296)))⟩]) (.cond (.v 85) (.exit 0) (.skip)))))))
def math_bits_Div64 : AFn := ⟨3, [.slot 6, .slot 7],
  .seq (.ops [0, 1, 2] [
    ⟨some 6, none, .inl (.mov (.c (.int .u64 0)))⟩,
    ⟨some 7, none, .inl (.mov (.c (.int .u64 0)))⟩]) (.seq (.seq (.ops [0, 1, 2, 20] [
    ⟨some 19, none, .inl (.mov (.v 2))⟩,
    ⟨some 20, none, .inl (.bin .eql (.v 19) (.c (.int .u64 0)))⟩]) (.cond (.v 20) (.ops [0, 1, 2] [
    ⟨some 21, none, .inl (.load 1 false (.g 152))⟩,
    ⟨none, none, .inl (.bad)⟩]) (.skip))) (.seq (.seq (.ops [0, 1, 2, 24] [
    ⟨some 22, none, .inl (.mov (.v 2))⟩,
    ⟨some 23, none, .inl (.mov (.v 0))⟩,
    ⟨some 24, none, .inl (.bin .leq (.v 22) (.v 23))⟩]) (.cond (.v 24) (.ops [0, 1, 2] [
    ⟨some 25, none, .inl (.load 1 false (.g 151))⟩,
    ⟨none, none, .inl (.bad)⟩]) (.skip))) (.seq (.seq (.ops [0, 1, 2, 27] [
    ⟨some 26, none, .inl (.mov (.v 0))⟩,
    ⟨some 27, none, .inl (.bin .eql (.v 26) (.c (.int .u64 0)))⟩]) (.cond (.v 27) (.seq (.ops [6, 7] [
    ⟨some 28, none, .inl (.mov (.v 1))⟩,
    ⟨some 29, none, .inl (.mov (.v 2))⟩,
    ⟨some 30, none, .inl (.bin .quo (.v 28) (.v 29))⟩,
    ⟨some 31, none, .inl (.mov (.v 1))⟩,
    ⟨some 32, none, .inl (.mov (.v 2))⟩,
    ⟨some 33, none, .inl (.bin .rem (.v 31) (.v 32))⟩,
    ⟨some 6, none, .inl (.mov (.v 30))⟩,
    ⟨some 7, none, .inl (.mov (.v 33))⟩]) (.ret)) (.skip))) (.seq (.ops [0, 1, 2, 8] [
    ⟨some 34, none, .inl (.mov (.v 2))⟩,
    ⟨some 35, none, .inl (.call (.f 150) [(.v 34)])⟩,
    ⟨some 36, none, .inl (.conv .u64 (.v 35))⟩,
    ⟨some 8, none, .inl (.mov (.v 36))⟩]) (.seq (.ops [0, 1, 2, 8] [
    ⟨some 37, none, .inl (.mov (.v 2))⟩,
    ⟨some 38, none, .inl (.mov (.v 8))⟩,
    ⟨some 39, none, .inl (.bin .shl (.v 37) (.v 38))⟩,
    ⟨some 2, none, .inl (.mov (.v 39))⟩]) (.seq (.ops [0, 1, 2, 8, 9] [
    ⟨some 40, none, .inl (.mov (.v 2))⟩,
    ⟨some 41, none, .inl (.bin .shr (.v 40) (.c (.int .u64 32)))⟩,
    ⟨some 9, none, .inl (.mov (.v 41))⟩]) (.seq (.ops [0, 1, 2, 8, 9, 10] [
    ⟨some 42, none, .inl (.mov (.v 2))⟩,
    ⟨some 43, none, .inl (.bin .and (.v 42) (.c (.int .u64 4294967295)))⟩,
    ⟨some 10, none, .inl (.mov (.v 43))⟩]) (.seq (.ops [1, 2, 8, 9, 10, 11] [
    ⟨some 44, none, .inl (.mov (.v 0))⟩,
    ⟨some 45, none, .inl (.mov (.v 8))⟩,
    ⟨some 46, none, .inl (.bin .shl (.v 44) (.v 45))⟩,
    ⟨some 47, none, .inl (.mov (.v 1))⟩,
    ⟨some 48, none, .inl (.mov (.v 8))⟩,
    ⟨some 49, none, .inl (.bin .sub (.c (.int .u64 64)) (.v 48))⟩,
    ⟨some 50, none, .inl (.bin .shr (.v 47) (.v 49))⟩,
    ⟨some 51, none, .inl (.bin .or (.v 46) (.v 50))⟩,
    ⟨some 11, none, .inl (.mov (.v 51))⟩]) (.seq (.ops [2, 8, 9, 10, 11, 12] [
    ⟨some 52, none, .inl (.mov (.v 1))⟩,
    ⟨some 53, none, .inl (.mov (.v 8))⟩,
    ⟨some 54, none, .inl (.bin .shl (.v 52) (.v 53))⟩,
    ⟨some 12, none, .inl (.mov (.v 54))⟩]) (.seq (.ops [2, 8, 9, 10, 11, 12, 13] [
    ⟨some 55, none, .inl (.mov (.v 12))⟩,
    ⟨some 56, none, .inl (.bin .shr (.v 55) (.c (.int .u64 32)))⟩,
    ⟨some 13, none, .inl (.mov (.v 56))⟩]) (.seq (.ops [2, 8, 9, 10, 11, 13, 14] [
    ⟨some 57, none, .inl (.mov (.v 12))⟩,
    ⟨some 58, none, .inl (.bin .and (.v 57) (.c (.int .u64 4294967295)))⟩,
    ⟨some 14, none, .inl (.mov (.v 58))⟩]) (.seq (.ops [2, 8, 9, 10, 11, 13, 14, 15] [
    ⟨some 59, none, .inl (.mov (.v 11))⟩,
    ⟨some 60, none, .inl (.mov (.v 9))⟩,
    ⟨some 61, none, .inl (.bin .quo (.v 59) (.v 60))⟩,
    ⟨some 15, none, .inl (.mov (.v 61))⟩]) (.seq (.ops [2, 8, 9, 10, 11, 13, 14, 15, 16] [
    ⟨some 62, none, .inl (.mov (.v 11))⟩,
    ⟨some 63, none, .inl (.mov (.v 15))⟩,
    ⟨some 64, none, .inl (.mov (.v 9))⟩,
    ⟨some 65, none, .inl (.bin .mul (.v 63) (.v 64))⟩,
    ⟨some 66, none, .inl (.bin .sub (.v 62) (.v 65))⟩,
    ⟨some 16, none, .inl (.mov (.v 66))⟩]) (.seq (.block [2, 8, 9, 10, 11, 13, 14, 15] 0 (math_bits_Div64_l2)) (.seq (.ops [2, 8, 9, 10, 14, 15, 17] [
    ⟨some 86, none, .inl (.mov (.v 11))⟩,
    ⟨some 87, none, .inl (.bin .mul (.v 86) (.c (.int .u64 4294967296)))⟩,
    ⟨some 88, none, .inl (.mov (.v 13))⟩,
    ⟨some 89, none, .inl (.bin .add (.v 87) (.v 88))⟩,
    ⟨some 90, none, .inl (.mov (.v 15))⟩,
    ⟨some 91, none, .inl (.mov (.v 2))⟩,
    ⟨some 92, none, .inl (.bin .mul (.v 90) (.v 91))⟩,
    ⟨some 93, none, .inl (.bin .sub (.v 89) (.v 92))⟩,
    ⟨some 17, none, .inl (.mov (.v 93))⟩]) (.seq (.ops [2, 8, 9, 10, 14, 15, 17, 18] [
    ⟨some 94, none, .inl (.mov (.v 17))⟩,
    ⟨some 95, none, .inl (.mov (.v 9))⟩,
    ⟨some 96, none, .inl (.bin .quo (.v 94) (.v 95))⟩,
    ⟨some 18, none, .inl (.mov (.v 96))⟩]) (.seq (.ops [2, 8, 9, 10, 14, 15, 16, 17, 18] [
    ⟨some 97, none, .inl (.mov (.v 17))⟩,
    ⟨some 98, none, .inl (.mov (.v 18))⟩,
    ⟨some 99, none, .inl (.mov (.v 9))⟩,
    ⟨some 100, none, .inl (.bin .mul (.v 98) (.v 99))⟩,
    ⟨some 101, none, .inl (.bin .sub (.v 97) (.v 100))⟩,
    ⟨some 16, none, .inl (.mov (.v 101))⟩]) (.seq (.block [2, 8, 14, 15, 17, 18] 2 (math_bits_Div64_l1)) (.seq (.ops [6, 7] [
    ⟨some 121, none, .inl (.mov (.v 15))⟩,
    ⟨some 122, none, .inl (.bin .mul (.v 121) (.c (.int .u64 4294967296)))⟩,
    ⟨some 123, none, .inl (.mov (.v 18))⟩,
    ⟨some 124, none, .inl (.bin .add (.v 122) (.v 123))⟩,
    ⟨some 125, none, .inl (.mov (.v 17))⟩,
    ⟨some 126, none, .inl (.bin .mul (.v 125) (.c (.int .u64 4294967296)))⟩,
    ⟨some 127, none, .inl (.mov (.v 14))⟩,
    ⟨some 128, none, .inl (.bin .add (.v 126) (.v 127))⟩,
    ⟨some 129, none, .inl (.mov (.v 18))⟩,
    ⟨some 130, none, .inl (.mov (.v 2))⟩,
    ⟨some 131, none, .inl (.bin .mul (.v 129) (.v 130))⟩,
    ⟨some 132, none, .inl (.bin .sub (.v 128) (.v 131))⟩,
    ⟨some 133, none, .inl (.mov (.v 8))⟩,
    ⟨some 134, none, .inl (.bin .shr (.v 132) (.v 133))⟩,
    ⟨some 6, none, .inl (.mov (.v 124))⟩,
    ⟨some 7, none, .inl (.mov (.v 134))⟩]) (.ret))))))))))))))))))))⟩

def fixed_size : AFn := ⟨1, [.slot 2],
  .seq (.ops [0] [
    ⟨some 2, none, .inl (.mov (.c (.int .u64 0)))⟩]) (.seq (.seq (.ops [0, 4] [
    ⟨some 3, none, .inl (.mov (.v 0))⟩,
    ⟨some 4, none, .inl (.bin .lss (.v 3) (.c (.int .i64 0)))⟩]) (.cond (.v 4) (.seq (.ops [2] [
    ⟨some 5, none, .inl (.mov (.v 0))⟩,
    ⟨some 6, none, .inl (.conv .u64 (.v 5))⟩,
    ⟨some 7, none, .inl (.un .neg (.v 6))⟩,
    ⟨some 2, none, .inl (.mov (.v 7))⟩]) (.ret)) (.skip))) (.seq (.ops [2] [
    ⟨some 8, none, .inl (.mov (.v 0))⟩,
    ⟨some 9, none, .inl (.conv .u64 (.v 8))⟩,
    ⟨some 2, none, .inl (.mov (.v 9))⟩]) (.ret)))⟩

def r18_Cons : AFn := ⟨1, [.slot 2],
  .seq (.ops [1] [
    ⟨some 1, none, .inr (.box (.v 0))⟩,
    ⟨some 2, none, .inl (.mov (.c (.int .i64 0)))⟩]) (.seq (.seq (.ops [1, 10] [
    ⟨some 3, none, .inl (.faddr 4 (.v 1))⟩,
    ⟨some 4, none, .inl (.load 1 false (.v 3))⟩,
    ⟨some 5, none, .inl (.bin .eql (.v 4) (.c (.int .i64 0)))⟩,
    ⟨some 6, none, .inl (.mov (.v 5))⟩,
    ⟨some 7, (some (6, false)), .inl (.load 5 true (.v 1))⟩,
    ⟨some 8, (some (6, false)), .inl (.call (.f 113) [(.v 7)])⟩,
    ⟨some 9, (some (6, false)), .inl (.un .not (.v 8))⟩,
    ⟨some 10, none, .inl (.pick (.v 6) (.c (.bool true)) (.v 9))⟩]) (.cond (.v 10) (.seq (.ops [2] [
    ⟨some 2, none, .inl (.mov (.c (.int .i64 1)))⟩]) (.ret)) (.skip))) (.seq (.ops [2] [
    ⟨some 11, none, .inl (.faddr 4 (.v 1))⟩,
    ⟨some 12, none, .inl (.load 1 false (.v 11))⟩,
    ⟨some 2, none, .inl (.mov (.v 12))⟩]) (.ret)))⟩

def r1_size : AFn := ⟨1, [.slot 2],
  .seq (.ops [0] [
    ⟨some 2, none, .inl (.mov (.c (.int .u64 0)))⟩]) (.seq (.seq (.ops [0, 4] [
    ⟨some 3, none, .inl (.mov (.v 0))⟩,
    ⟨some 4, none, .inl (.bin .lss (.v 3) (.c (.int .i64 0)))⟩]) (.cond (.v 4) (.seq (.ops [2] [
    ⟨some 5, none, .inl (.mov (.v 0))⟩,
    ⟨some 6, none, .inl (.bin .add (.v 5) (.c (.int .i64 1)))⟩,
    ⟨some 7, none, .inl (.un .neg (.v 6))⟩,
    ⟨some 8, none, .inl (.conv .u64 (.v 7))⟩,
    ⟨some 9, none, .inl (.bin .add (.v 8) (.c (.int .u64 1)))⟩,
    ⟨some 2, none, .inl (.mov (.v 9))⟩]) (.ret)) (.skip))) (.seq (.ops [2] [
    ⟨some 10, none, .inl (.mov (.v 0))⟩,
    ⟨some 11, none, .inl (.conv .u64 (.v 10))⟩,
    ⟨some 2, none, .inl (.mov (.v 11))⟩]) (.ret)))⟩

def series_within : AFn := ⟨3, [.slot 6],
  .seq (.ops [1, 2, 3] [
    ⟨some 3, none, .inr (.box (.v 0))⟩,
    ⟨some 6, none, .inl (.mov (.c (.sl .nil 2 [])))⟩]) (.seq (.ops [1, 2, 3, 7] [
    ⟨some 8, none, .inl (.clos 170 [(.v 3)])⟩,
    ⟨some 7, none, .inl (.mov (.v 8))⟩]) (.seq (.ops [6] [
    ⟨some 9, none, .inl (.faddr 3 (.v 3))⟩,
    ⟨some 10, none, .inl (.load 1 false (.v 9))⟩,
    ⟨some 11, none, .inl (.mov (.v 7))⟩,
    ⟨some 12, none, .inl (.mov (.v 1))⟩,
    ⟨some 13, none, .inl (.call (.v 11) [(.v 12)])⟩,
    ⟨some 14, none, .inl (.mov (.v 7))⟩,
    ⟨some 15, none, .inl (.mov (.v 1))⟩,
    ⟨some 16, none, .inl (.call (.v 14) [(.v 15)])⟩,
    ⟨some 17, none, .inl (.mov (.v 7))⟩,
    ⟨some 18, none, .inl (.mov (.v 2))⟩,
    ⟨some 19, none, .inl (.call (.v 17) [(.v 18)])⟩,
    ⟨some 20, none, .inl (.minmax true [(.v 16), (.v 19)])⟩,
    ⟨some 21, none, .inr (.slicef 2 (.v 10) (some (.v 13)) (some (.v 20)))⟩,
    ⟨some 6, none, .inl (.mov (.v 21))⟩]) (.ret)))⟩

def series_Cons : AFn := ⟨1, [.slot 2],
  .seq (.ops [1] [
    ⟨some 1, none, .inr (.box (.v 0))⟩,
    ⟨some 2, none, .inl (.mov (.c (.int .i64 0)))⟩]) (.seq (.seq (.ops [1, 10] [
    ⟨some 3, none, .inl (.faddr 4 (.v 1))⟩,
    ⟨some 4, none, .inl (.load 1 false (.v 3))⟩,
    ⟨some 5, none, .inl (.bin .eql (.v 4) (.c (.int .i64 0)))⟩,
    ⟨some 6, none, .inl (.mov (.v 5))⟩,
    ⟨some 7, (some (6, false)), .inl (.load 5 true (.v 1))⟩,
    ⟨some 8, (some (6, false)), .inl (.call (.f 111) [(.v 7)])⟩,
    ⟨some 9, (some (6, false)), .inl (.un .not (.v 8))⟩,
    ⟨some 10, none, .inl (.pick (.v 6) (.c (.bool true)) (.v 9))⟩]) (.cond (.v 10) (.seq (.ops [2] [
    ⟨some 2, none, .inl (.mov (.c (.int .i64 1)))⟩]) (.ret)) (.skip))) (.seq (.ops [2] [
    ⟨some 11, none, .inl (.faddr 4 (.v 1))⟩,
    ⟨some 12, none, .inl (.load 1 false (.v 11))⟩,
    ⟨some 2, none, .inl (.mov (.v 12))⟩]) (.ret)))⟩

def series_Own : AFn := ⟨1, [.cell 2 5 true],
  .seq (.ops [1, 2] [
    ⟨some 1, none, .inr (.box (.v 0))⟩,
    ⟨some 2, none, .inr (.alloc [.str [], .int .i64 0, .int .i64 0, .sl .nil 2 [], .int .i64 0])⟩]) (.seq (.ops [1, 2] [
    ⟨some 3, none, .inl (.faddr 3 (.v 1))⟩,
    ⟨some 4, none, .inl (.load 1 false (.v 3))⟩,
    ⟨some 5, none, .inr (.calls (.f 49) [(.v 4)])⟩,
    ⟨some 6, none, .inl (.faddr 3 (.v 1))⟩,
    ⟨none, none, .inr (.store 1 (.v 6) (.v 5))⟩]) (.seq (.ops [2] [
    ⟨some 7, none, .inl (.load 5 true (.v 1))⟩,
    ⟨none, none, .inr (.store 5 (.v 2) (.v 7))⟩]) (.ret)))⟩

def r2_plain_l1 : Code := .loop [0, 3] false (.block [0, 3] 1 (.seq (.ops [0, 3] [
    ⟨some 4, none, .inl (.mov (.v 0))⟩,
    ⟨some 5, none, .inl (.bin .rem (.v 4) (.c (.int .u64 10)))⟩,
    ⟨some 6, none, .inl (.bin .add (.c (.int .u64 48)) (.v 5))⟩,
    ⟨some 7, none, .inl (.conv .u8 (.v 6))⟩,
    ⟨some 8, none, .inl (.bslice 1 false 1 [.int .u8 0] [⟨0, 1, (.v 7)⟩])⟩,
    ⟨some 9, none, .inl (.strOf (.v 8))⟩,
    ⟨some 10, none, .inl (.mov (.v 3))⟩,
    ⟨some 11, none, .inl (.bin .add (.v 9) (.v 10))⟩,
    ⟨some 3, none, .inl (.mov (.v 11))⟩]) (.seq (.ops [0, 3] [
    ⟨some 12, none, .inl (.mov (.v 0))⟩,
    ⟨some 13, none, .inl (.bin .quo (.v 12) (.c (.int .u64 10)))⟩,
    ⟨some 0, none, .inl (.mov (.v 13))⟩]) (.seq (.ops [0, 3, 15] [
    ⟨some 14, none, .inl (.mov (.v 0))⟩,
    ⟨some 15, none, .inl (.bin .eql (.v 14) (.c (.int .u64 0)))⟩]) (.cond (.v 15) (.seq (.ops [2] [
    ⟨some 16, none, .inl (.mov (.v 3))⟩,
    ⟨some 2, none, .inl (.mov (.v 16))⟩]) (.ret)) (.skip))))))
def r2_plain : AFn := ⟨1, [.slot 2],
  .seq (.ops [0] [
    ⟨some 2, none, .inl (.mov (.c (.str [])))⟩]) (.seq (.ops [0, 3] [
    ⟨some 3, none, .inl (.mov (.c (.str [])))⟩]) (.block [2] 0 (r2_plain_l1)))⟩

def slices_ContainsFunc_api_Val_api_Val : AFn := ⟨2, [.slot 4],
  .seq (.ops [0, 1] [
    ⟨some 4, none, .inl (.mov (.c (.bool false)))⟩]) (.seq (.ops [4] [
    ⟨some 5, none, .inl (.mov (.v 0))⟩,
    ⟨some 6, none, .inl (.mov (.v 1))⟩,
    ⟨some 7, none, .inl (.call (.f 127) [(.v 5), (.v 6)])⟩,
    ⟨some 8, none, .inl (.bin .geq (.v 7) (.c (.int .i64 0)))⟩,
    ⟨some 4, none, .inl (.mov (.v 8))⟩]) (.ret))⟩

def series_Is_1 : AFn := ⟨1, [.slot 2],
  .seq (.ops [1] [
    ⟨some 1, none, .inr (.box (.v 0))⟩,
    ⟨some 2, none, .inl (.mov (.c (.bool false)))⟩]) (.seq (.ops [2] [
    ⟨some 3, none, .inl (.load 2 true (.v 1))⟩,
    ⟨some 4, none, .inl (.call (.f 126) [(.v 3)])⟩,
    ⟨some 5, none, .inl (.un .not (.v 4))⟩,
    ⟨some 2, none, .inl (.mov (.v 5))⟩]) (.ret))⟩

def fwin_does_1 : AFn := ⟨1, [.slot 2],
  .seq (.ops [1] [
    ⟨some 1, none, .inr (.box (.v 0))⟩,
    ⟨some 2, none, .inl (.mov (.c (.nilfn)))⟩]) (.seq (.ops [2] [
    ⟨some 3, none, .inl (.clos 125 [(.v 1)])⟩,
    ⟨some 2, none, .inl (.mov (.v 3))⟩]) (.ret))⟩

def r1_plus : AFn := ⟨2, [.cell 4 2 true],
  .seq (.ops [2, 3, 4] [
    ⟨some 2, none, .inr (.box (.v 0))⟩,
    ⟨some 3, none, .inr (.box (.v 1))⟩,
    ⟨some 4, none, .inr (.alloc [.bool false, .int .i64 0])⟩]) (.seq (.seq (.ops [2, 3, 4, 34] [
    ⟨some 5, none, .inl (.load 2 true (.v 2))⟩,
    ⟨some 6, none, .inl (.load 2 true (.v 3))⟩,
    ⟨some 7, none, .inl (.call (.f 141) [(.v 5), (.v 6)])⟩,
    ⟨some 8, none, .inl (.un .not (.v 7))⟩,
    ⟨some 9, none, .inl (.mov (.v 8))⟩,
    ⟨some 10, (some (9, false)), .inl (.faddr 1 (.v 3))⟩,
    ⟨some 11, (some (9, false)), .inl (.load 1 false (.v 10))⟩,
    ⟨some 12, (some (9, false)), .inl (.bin .gtr (.v 11) (.c (.int .i64 0)))⟩,
    ⟨some 13, (some (9, false)), .inl (.mov (.v 12))⟩,
    ⟨some 14, (some (13, true)), .inl (.faddr 1 (.v 2))⟩,
    ⟨some 15, (some (13, true)), .inl (.load 1 false (.v 14))⟩,
    ⟨some 16, (some (13, true)), .inl (.faddr 1 (.v 3))⟩,
    ⟨some 17, (some (13, true)), .inl (.load 1 false (.v 16))⟩,
    ⟨some 18, (some (13, true)), .inl (.bin .sub (.c (.int .i64 4611686018427387904)) (.v 17))⟩,
    ⟨some 19, (some (13, true)), .inl (.bin .gtr (.v 15) (.v 18))⟩,
    ⟨some 20, (some (9, false)), .inl (.pick (.v 13) (.v 19) (.c (.bool false)))⟩,
    ⟨some 21, none, .inl (.pick (.v 9) (.c (.bool true)) (.v 20))⟩,
    ⟨some 22, none, .inl (.mov (.v 21))⟩,
    ⟨some 23, (some (22, false)), .inl (.faddr 1 (.v 3))⟩,
    ⟨some 24, (some (22, false)), .inl (.load 1 false (.v 23))⟩,
    ⟨some 25, (some (22, false)), .inl (.bin .lss (.v 24) (.c (.int .i64 0)))⟩,
    ⟨some 26, (some (22, false)), .inl (.mov (.v 25))⟩,
    ⟨some 27, (some (26, true)), .inl (.faddr 1 (.v 2))⟩,
    ⟨some 28, (some (26, true)), .inl (.load 1 false (.v 27))⟩,
    ⟨some 29, (some (26, true)), .inl (.faddr 1 (.v 3))⟩,
    ⟨some 30, (some (26, true)), .inl (.load 1 false (.v 29))⟩,
    ⟨some 31, (some (26, true)), .inl (.bin .sub (.c (.int .i64 (-4611686018427387904))) (.v 30))⟩,
    ⟨some 32, (some (26, true)), .inl (.bin .lss (.v 28) (.v 31))⟩,
    ⟨some 33, (some (22, false)), .inl (.pick (.v 26) (.v 32) (.c (.bool false)))⟩,
    ⟨some 34, none, .inl (.pick (.v 22) (.c (.bool true)) (.v 33))⟩]) (.cond (.v 34) (.seq (.ops [4] [
    ⟨some 35, none, .inl (.build [.bool false, .int .i64 0] [])⟩,
    ⟨none, none, .inr (.store 2 (.v 4) (.v 35))⟩]) (.ret)) (.skip))) (.seq (.ops [4] [
    ⟨some 36, none, .inl (.faddr 1 (.v 2))⟩,
    ⟨some 37, none, .inl (.load 1 false (.v 36))⟩,
    ⟨some 38, none, .inl (.faddr 1 (.v 3))⟩,
    ⟨some 39, none, .inl (.load 1 false (.v 38))⟩,
    ⟨some 40, none, .inl (.bin .add (.v 37) (.v 39))⟩,
    ⟨some 41, none, .inl (.call (.f 134) [(.v 40)])⟩,
    ⟨none, none, .inr (.store 2 (.v 4) (.v 41))⟩]) (.ret)))⟩

def r1_times : AFn := ⟨2, [.slot 4, .slot 5],
  .seq (.ops [0, 1] [
    ⟨some 4, none, .inl (.mov (.c (.int .u64 0)))⟩,
    ⟨some 5, none, .inl (.mov (.c (.int .u64 0)))⟩]) (.seq (.ops [6, 7, 8, 9] [
    ⟨some 13, none, .inl (.mov (.v 0))⟩,
    ⟨some 14, none, .inl (.bin .and (.v 13) (.c (.int .u64 4294967295)))⟩,
    ⟨some 15, none, .inl (.mov (.v 0))⟩,
    ⟨some 16, none, .inl (.bin .shr (.v 15) (.c (.int .u64 32)))⟩,
    ⟨some 17, none, .inl (.mov (.v 1))⟩,
    ⟨some 18, none, .inl (.bin .and (.v 17) (.c (.int .u64 4294967295)))⟩,
    ⟨some 19, none, .inl (.mov (.v 1))⟩,
    ⟨some 20, none, .inl (.bin .shr (.v 19) (.c (.int .u64 32)))⟩,
    ⟨some 6, none, .inl (.mov (.v 14))⟩,
    ⟨some 7, none, .inl (.mov (.v 16))⟩,
    ⟨some 8, none, .inl (.mov (.v 18))⟩,
    ⟨some 9, none, .inl (.mov (.v 20))⟩]) (.seq (.ops [6, 7, 8, 9, 10] [
    ⟨some 21, none, .inl (.mov (.v 6))⟩,
    ⟨some 22, none, .inl (.mov (.v 8))⟩,
    ⟨some 23, none, .inl (.bin .mul (.v 21) (.v 22))⟩,
    ⟨some 10, none, .inl (.mov (.v 23))⟩]) (.seq (.ops [6, 7, 9, 10, 11] [
    ⟨some 24, none, .inl (.mov (.v 7))⟩,
    ⟨some 25, none, .inl (.mov (.v 8))⟩,
    ⟨some 26, none, .inl (.bin .mul (.v 24) (.v 25))⟩,
    ⟨some 27, none, .inl (.mov (.v 10))⟩,
    ⟨some 28, none, .inl (.bin .shr (.v 27) (.c (.int .u64 32)))⟩,
    ⟨some 29, none, .inl (.bin .add (.v 26) (.v 28))⟩,
    ⟨some 11, none, .inl (.mov (.v 29))⟩]) (.seq (.ops [7, 9, 10, 11, 12] [
    ⟨some 30, none, .inl (.mov (.v 6))⟩,
    ⟨some 31, none, .inl (.mov (.v 9))⟩,
    ⟨some 32, none, .inl (.bin .mul (.v 30) (.v 31))⟩,
    ⟨some 33, none, .inl (.mov (.v 11))⟩,
    ⟨some 34, none, .inl (.bin .and (.v 33) (.c (.int .u64 4294967295)))⟩,
    ⟨some 35, none, .inl (.bin .add (.v 32) (.v 34))⟩,
    ⟨some 12, none, .inl (.mov (.v 35))⟩]) (.seq (.ops [4, 5] [
    ⟨some 36, none, .inl (.mov (.v 7))⟩,
    ⟨some 37, none, .inl (.mov (.v 9))⟩,
    ⟨some 38, none, .inl (.bin .mul (.v 36) (.v 37))⟩,
    ⟨some 39, none, .inl (.mov (.v 11))⟩,
    ⟨some 40, none, .inl (.bin .shr (.v 39) (.c (.int .u64 32)))⟩,
    ⟨some 41, none, .inl (.bin .add (.v 38) (.v 40))⟩,
    ⟨some 42, none, .inl (.mov (.v 12))⟩,
    ⟨some 43, none, .inl (.bin .shr (.v 42) (.c (.int .u64 32)))⟩,
    ⟨some 44, none, .inl (.bin .add (.v 41) (.v 43))⟩,
    ⟨some 45, none, .inl (.mov (.v 12))⟩,
    ⟨some 46, none, .inl (.bin .shl (.v 45) (.c (.int .u64 32)))⟩,
    ⟨some 47, none, .inl (.mov (.v 10))⟩,
    ⟨some 48, none, .inl (.bin .and (.v 47) (.c (.int .u64 4294967295)))⟩,
    ⟨some 49, none, .inl (.bin .or (.v 46) (.v 48))⟩,
    ⟨some 4, none, .inl (.mov (.v 44))⟩,
    ⟨some 5, none, .inl (.mov (.v 49))⟩]) (.ret))))))⟩

def r1_two : AFn := ⟨2, [.slot 4],
  .seq (.ops [2, 3] [
    ⟨some 2, none, .inr (.box (.v 0))⟩,
    ⟨some 3, none, .inr (.box (.v 1))⟩,
    ⟨some 4, none, .inl (.mov (.c (.bool false)))⟩]) (.seq (.ops [4] [
    ⟨some 5, none, .inl (.load 2 true (.v 2))⟩,
    ⟨some 6, none, .inl (.call (.f 135) [(.v 5)])⟩,
    ⟨some 7, none, .inl (.mov (.v 6))⟩,
    ⟨some 8, (some (7, true)), .inl (.load 2 true (.v 3))⟩,
    ⟨some 9, (some (7, true)), .inl (.call (.f 135) [(.v 8)])⟩,
    ⟨some 10, none, .inl (.pick (.v 7) (.v 9) (.c (.bool false)))⟩,
    ⟨some 4, none, .inl (.mov (.v 10))⟩]) (.ret))⟩

def fwin_sorted_1 : AFn := ⟨2, [.slot 4],
  .seq (.ops [2, 3] [
    ⟨some 2, none, .inr (.box (.v 0))⟩,
    ⟨some 3, none, .inr (.box (.v 1))⟩,
    ⟨some 4, none, .inl (.mov (.c (.int .i64 0)))⟩]) (.seq (.ops [4] [
    ⟨some 5, none, .inl (.faddr 1 (.v 2))⟩,
    ⟨some 6, none, .inl (.load 1 false (.v 5))⟩,
    ⟨some 7, none, .inl (.faddr 1 (.v 3))⟩,
    ⟨some 8, none, .inl (.load 1 false (.v 7))⟩,
    ⟨some 9, none, .inl (.call (.f 184) [(.v 6), (.v 8)])⟩,
    ⟨some 4, none, .inl (.mov (.v 9))⟩]) (.ret))⟩

def fixed_sum : AFn := ⟨2, [.cell 4 2 true],
  .seq (.ops [2, 3, 4] [
    ⟨some 2, none, .inr (.box (.v 0))⟩,
    ⟨some 3, none, .inr (.box (.v 1))⟩,
    ⟨some 4, none, .inr (.alloc [.bool false, .int .i64 0])⟩]) (.seq (.block [2, 3, 4] 0 (.seq (.ops [2, 3, 4, 5] [
    ⟨some 6, none, .inl (.load 2 true (.v 2))⟩,
    ⟨some 7, none, .inl (.call (.f 146) [(.v 6)])⟩,
    ⟨some 8, none, .inl (.un .not (.v 7))⟩,
    ⟨some 9, none, .inl (.mov (.v 8))⟩,
    ⟨some 10, (some (9, false)), .inl (.load 2 true (.v 3))⟩,
    ⟨some 11, (some (9, false)), .inl (.call (.f 146) [(.v 10)])⟩,
    ⟨some 12, (some (9, false)), .inl (.un .not (.v 11))⟩,
    ⟨some 13, none, .inl (.pick (.v 9) (.c (.bool true)) (.v 12))⟩,
    ⟨some 5, none, .inl (.mov (.v 13))⟩]) (.cond (.v 5) (.seq (.ops [4] [
    ⟨some 14, none, .inl (.build [.bool false, .int .i64 0] [])⟩,
    ⟨none, none, .inr (.store 2 (.v 4) (.v 14))⟩]) (.ret)) (.seq (.ops [2, 3, 4, 15] [
    ⟨some 16, none, .inl (.faddr 1 (.v 3))⟩,
    ⟨some 17, none, .inl (.load 1 false (.v 16))⟩,
    ⟨some 18, none, .inl (.bin .gtr (.v 17) (.c (.int .i64 0)))⟩,
    ⟨some 19, none, .inl (.mov (.v 18))⟩,
    ⟨some 20, (some (19, true)), .inl (.faddr 1 (.v 2))⟩,
    ⟨some 21, (some (19, true)), .inl (.load 1 false (.v 20))⟩,
    ⟨some 22, (some (19, true)), .inl (.faddr 1 (.v 3))⟩,
    ⟨some 23, (some (19, true)), .inl (.load 1 false (.v 22))⟩,
    ⟨some 24, (some (19, true)), .inl (.bin .sub (.c (.int .i64 4611686018427387904)) (.v 23))⟩,
    ⟨some 25, (some (19, true)), .inl (.bin .gtr (.v 21) (.v 24))⟩,
    ⟨some 26, none, .inl (.pick (.v 19) (.v 25) (.c (.bool false)))⟩,
    ⟨some 27, none, .inl (.mov (.v 26))⟩,
    ⟨some 28, (some (27, false)), .inl (.faddr 1 (.v 3))⟩,
    ⟨some 29, (some (27, false)), .inl (.load 1 false (.v 28))⟩,
    ⟨some 30, (some (27, false)), .inl (.bin .lss (.v 29) (.c (.int .i64 0)))⟩,
    ⟨some 31, (some (27, false)), .inl (.mov (.v 30))⟩,
    ⟨some 32, (some (31, true)), .inl (.faddr 1 (.v 2))⟩,
    ⟨some 33, (some (31, true)), .inl (.load 1 false (.v 32))⟩,
    ⟨some 34, (some (31, true)), .inl (.faddr 1 (.v 3))⟩,
    ⟨some 35, (some (31, true)), .inl (.load 1 false (.v 34))⟩,
    ⟨some 36, (some (31, true)), .inl (.bin .sub (.c (.int .i64 (-4611686018427387904))) (.v 35))⟩,
    ⟨some 37, (some (31, true)), .inl (.bin .lss (.v 33) (.v 36))⟩,
    ⟨some 38, (some (27, false)), .inl (.pick (.v 31) (.v 37) (.c (.bool false)))⟩,
    ⟨some 39, none, .inl (.pick (.v 27) (.c (.bool true)) (.v 38))⟩,
    ⟨some 15, none, .inl (.mov (.v 39))⟩]) (.cond (.v 15) (.seq (.ops [4] [
    ⟨some 40, none, .inl (.build [.bool false, .int .i64 0] [])⟩,
    ⟨none, none, .inr (.store 2 (.v 4) (.v 40))⟩]) (.ret)) (.skip)))))) (.seq (.ops [4] [
    ⟨some 41, none, .inl (.faddr 1 (.v 2))⟩,
    ⟨some 42, none, .inl (.load 1 false (.v 41))⟩,
    ⟨some 43, none, .inl (.faddr 1 (.v 3))⟩,
    ⟨some 44, none, .inl (.load 1 false (.v 43))⟩,
    ⟨some 45, none, .inl (.bin .add (.v 42) (.v 44))⟩,
    ⟨some 46, none, .inl (.call (.f 143) [(.v 45)])⟩,
    ⟨none, none, .inr (.store 2 (.v 4) (.v 46))⟩]) (.ret)))⟩

def math_bits_Mul64 : AFn := ⟨2, [.slot 4, .slot 5],
  .seq (.ops [0, 1] [
    ⟨some 4, none, .inl (.mov (.c (.int .u64 0)))⟩,
    ⟨some 5, none, .inl (.mov (.c (.int .u64 0)))⟩]) (.seq (.ops [0, 1, 6] [
    ⟨some 14, none, .inl (.mov (.v 0))⟩,
    ⟨some 15, none, .inl (.bin .and (.v 14) (.c (.int .u64 4294967295)))⟩,
    ⟨some 6, none, .inl (.mov (.v 15))⟩]) (.seq (.ops [0, 1, 6, 7] [
    ⟨some 16, none, .inl (.mov (.v 0))⟩,
    ⟨some 17, none, .inl (.bin .shr (.v 16) (.c (.int .u64 32)))⟩,
    ⟨some 7, none, .inl (.mov (.v 17))⟩]) (.seq (.ops [0, 1, 6, 7, 8] [
    ⟨some 18, none, .inl (.mov (.v 1))⟩,
    ⟨some 19, none, .inl (.bin .and (.v 18) (.c (.int .u64 4294967295)))⟩,
    ⟨some 8, none, .inl (.mov (.v 19))⟩]) (.seq (.ops [0, 1, 6, 7, 8, 9] [
    ⟨some 20, none, .inl (.mov (.v 1))⟩,
    ⟨some 21, none, .inl (.bin .shr (.v 20) (.c (.int .u64 32)))⟩,
    ⟨some 9, none, .inl (.mov (.v 21))⟩]) (.seq (.ops [0, 1, 6, 7, 8, 9, 10] [
    ⟨some 22, none, .inl (.mov (.v 6))⟩,
    ⟨some 23, none, .inl (.mov (.v 8))⟩,
    ⟨some 24, none, .inl (.bin .mul (.v 22) (.v 23))⟩,
    ⟨some 10, none, .inl (.mov (.v 24))⟩]) (.seq (.ops [0, 1, 6, 7, 9, 11] [
    ⟨some 25, none, .inl (.mov (.v 7))⟩,
    ⟨some 26, none, .inl (.mov (.v 8))⟩,
    ⟨some 27, none, .inl (.bin .mul (.v 25) (.v 26))⟩,
    ⟨some 28, none, .inl (.mov (.v 10))⟩,
    ⟨some 29, none, .inl (.bin .shr (.v 28) (.c (.int .u64 32)))⟩,
    ⟨some 30, none, .inl (.bin .add (.v 27) (.v 29))⟩,
    ⟨some 11, none, .inl (.mov (.v 30))⟩]) (.seq (.ops [0, 1, 6, 7, 9, 11, 12] [
    ⟨some 31, none, .inl (.mov (.v 11))⟩,
    ⟨some 32, none, .inl (.bin .and (.v 31) (.c (.int .u64 4294967295)))⟩,
    ⟨some 12, none, .inl (.mov (.v 32))⟩]) (.seq (.ops [0, 1, 6, 7, 9, 12, 13] [
    ⟨some 33, none, .inl (.mov (.v 11))⟩,
    ⟨some 34, none, .inl (.bin .shr (.v 33) (.c (.int .u64 32)))⟩,
    ⟨some 13, none, .inl (.mov (.v 34))⟩]) (.seq (.ops [0, 1, 7, 9, 12, 13] [
    ⟨some 35, none, .inl (.mov (.v 12))⟩,
    ⟨some 36, none, .inl (.mov (.v 6))⟩,
    ⟨some 37, none, .inl (.mov (.v 9))⟩,
    ⟨some 38, none, .inl (.bin .mul (.v 36) (.v 37))⟩,
    ⟨some 39, none, .inl (.bin .add (.v 35) (.v 38))⟩,
    ⟨some 12, none, .inl (.mov (.v 39))⟩]) (.seq (.ops [0, 1, 4] [
    ⟨some 40, none, .inl (.mov (.v 7))⟩,
    ⟨some 41, none, .inl (.mov (.v 9))⟩,
    ⟨some 42, none, .inl (.bin .mul (.v 40) (.v 41))⟩,
    ⟨some 43, none, .inl (.mov (.v 13))⟩,
    ⟨some 44, none, .inl (.bin .add (.v 42) (.v 43))⟩,
    ⟨some 45, none, .inl (.mov (.v 12))⟩,
    ⟨some 46, none, .inl (.bin .shr (.v 45) (.c (.int .u64 32)))⟩,
    ⟨some 47, none, .inl (.bin .add (.v 44) (.v 46))⟩,
    ⟨some 4, none, .inl (.mov (.v 47))⟩]) (.seq (.ops [4, 5] [
    ⟨some 48, none, .inl (.mov (.v 0))⟩,
    ⟨some 49, none, .inl (.mov (.v 1))⟩,
    ⟨some 50, none, .inl (.bin .mul (.v 48) (.v 49))⟩,
    ⟨some 5, none, .inl (.mov (.v 50))⟩]) (.ret))))))))))))⟩

def fixed_Of : AFn := ⟨1, [.cell 2 2 true],
  .seq (.ops [0, 2] [
    ⟨some 2, none, .inr (.alloc [.bool false, .int .i64 0])⟩]) (.seq (.seq (.ops [2, 3] [
    ⟨some 4, none, .inl (.mov (.v 0))⟩,
    ⟨some 5, none, .inl (.build [.bool false, .int .i64 0] [⟨0, 1, (.c (.bool true))⟩, ⟨1, 1, (.v 4)⟩])⟩,
    ⟨some 3, none, .inr (.alloc [.bool false, .int .i64 0])⟩,
    ⟨none, none, .inr (.store 2 (.v 3) (.v 5))⟩]) (.seq (.ops [2, 3, 7] [
    ⟨some 6, none, .inl (.load 2 true (.v 3))⟩,
    ⟨some 7, none, .inl (.call (.f 126) [(.v 6)])⟩]) (.cond (.v 7) (.seq (.ops [2] [
    ⟨some 8, none, .inl (.load 2 true (.v 3))⟩,
    ⟨none, none, .inr (.store 2 (.v 2) (.v 8))⟩]) (.ret)) (.skip)))) (.seq (.ops [2] [
    ⟨some 9, none, .inl (.build [.bool false, .int .i64 0] [])⟩,
    ⟨none, none, .inr (.store 2 (.v 2) (.v 9))⟩]) (.ret)))⟩

def fixed_val : AFn := ⟨2, [.cell 4 2 true],
  .seq (.ops [0, 1, 4] [
    ⟨some 4, none, .inr (.alloc [.bool false, .int .i64 0])⟩]) (.seq (.seq (.ops [0, 4, 6] [
    ⟨some 5, none, .inl (.mov (.v 1))⟩,
    ⟨some 6, none, .inl (.un .not (.v 5))⟩]) (.cond (.v 6) (.seq (.ops [4] [
    ⟨some 7, none, .inl (.build [.bool false, .int .i64 0] [])⟩,
    ⟨none, none, .inr (.store 2 (.v 4) (.v 7))⟩]) (.ret)) (.skip))) (.seq (.ops [4] [
    ⟨some 8, none, .inl (.mov (.v 0))⟩,
    ⟨some 9, none, .inl (.call (.f 143) [(.v 8)])⟩,
    ⟨none, none, .inr (.store 2 (.v 4) (.v 9))⟩]) (.ret)))⟩

def fixed_known : AFn := ⟨1, [.slot 2],
  .seq (.ops [1] [
    ⟨some 1, none, .inr (.box (.v 0))⟩,
    ⟨some 2, none, .inl (.mov (.c (.bool false)))⟩]) (.seq (.ops [2] [
    ⟨some 3, none, .inl (.faddr 0 (.v 1))⟩,
    ⟨some 4, none, .inl (.load 1 false (.v 3))⟩,
    ⟨some 5, none, .inl (.mov (.v 4))⟩,
    ⟨some 6, (some (5, true)), .inl (.load 2 true (.v 1))⟩,
    ⟨some 7, (some (5, true)), .inl (.call (.f 126) [(.v 6)])⟩,
    ⟨some 8, none, .inl (.pick (.v 5) (.v 7) (.c (.bool false)))⟩,
    ⟨some 2, none, .inl (.mov (.v 8))⟩]) (.ret))⟩

def fixed_MulDiv : AFn := ⟨3, [.slot 6, .slot 7],
  .seq (.ops [0, 1, 2] [
    ⟨some 6, none, .inl (.mov (.c (.int .i64 0)))⟩,
    ⟨some 7, none, .inl (.mov (.c (.bool false)))⟩]) (.seq (.seq (.ops [0, 1, 2, 15] [
    ⟨some 14, none, .inl (.mov (.v 2))⟩,
    ⟨some 15, none, .inl (.bin .eql (.v 14) (.c (.int .i64 0)))⟩]) (.cond (.v 15) (.seq (.ops [6, 7] [
    ⟨some 6, none, .inl (.mov (.c (.int .i64 0)))⟩,
    ⟨some 7, none, .inl (.mov (.c (.bool false)))⟩]) (.ret)) (.skip))) (.seq (.ops [0, 1, 2, 8] [
    ⟨some 16, none, .inl (.mov (.v 2))⟩,
    ⟨some 17, none, .inl (.call (.f 148) [(.v 16)])⟩,
    ⟨some 8, none, .inl (.mov (.v 17))⟩]) (.seq (.ops [0, 1, 2, 8, 9, 10] [
    ⟨some 19, none, .inl (.mov (.v 0))⟩,
    ⟨some 20, none, .inl (.call (.f 148) [(.v 19)])⟩,
    ⟨some 21, none, .inl (.mov (.v 1))⟩,
    ⟨some 22, none, .inl (.call (.f 148) [(.v 21)])⟩,
    ⟨some 23, none, .inl (.call (.f 149) [(.v 20), (.v 22)])⟩,
    ⟨some 18, none, .inl (.mov (.v 23))⟩,
    ⟨some 24, none, .inl (.ext (.v 18) 0)⟩,
    ⟨some 25, none, .inl (.ext (.v 18) 1)⟩,
    ⟨some 9, none, .inl (.mov (.v 24))⟩,
    ⟨some 10, none, .inl (.mov (.v 25))⟩]) (.seq (.seq (.ops [0, 1, 2, 8, 9, 10, 28] [
    ⟨some 26, none, .inl (.mov (.v 9))⟩,
    ⟨some 27, none, .inl (.mov (.v 8))⟩,
    ⟨some 28, none, .inl (.bin .geq (.v 26) (.v 27))⟩]) (.cond (.v 28) (.seq (.ops [6, 7] [
    ⟨some 6, none, .inl (.mov (.c (.int .i64 0)))⟩,
    ⟨some 7, none, .inl (.mov (.c (.bool false)))⟩]) (.ret)) (.skip))) (.seq (.ops [0, 1, 2, 8, 11, 12] [
    ⟨some 30, none, .inl (.mov (.v 9))⟩,
    ⟨some 31, none, .inl (.mov (.v 10))⟩,
    ⟨some 32, none, .inl (.mov (.v 8))⟩,
    ⟨some 33, none, .inl (.call (.f 147) [(.v 30), (.v 31), (.v 32)])⟩,
    ⟨some 29, none, .inl (.mov (.v 33))⟩,
    ⟨some 34, none, .inl (.ext (.v 29) 0)⟩,
    ⟨some 35, none, .inl (.ext (.v 29) 1)⟩,
    ⟨some 11, none, .inl (.mov (.v 34))⟩,
    ⟨some 12, none, .inl (.mov (.v 35))⟩]) (.seq (.seq (.ops [0, 1, 2, 8, 11, 12, 37] [
    ⟨some 36, none, .inl (.mov (.v 11))⟩,
    ⟨some 37, none, .inl (.bin .gtr (.v 36) (.c (.int .u64 4611686018427387904)))⟩]) (.cond (.v 37) (.seq (.ops [6, 7] [
    ⟨some 6, none, .inl (.mov (.c (.int .i64 0)))⟩,
    ⟨some 7, none, .inl (.mov (.c (.bool false)))⟩]) (.ret)) (.skip))) (.seq (.seq (.ops [0, 1, 2, 11, 42] [
    ⟨some 38, none, .inl (.mov (.v 12))⟩,
    ⟨some 39, none, .inl (.mov (.v 8))⟩,
    ⟨some 40, none, .inl (.mov (.v 12))⟩,
    ⟨some 41, none, .inl (.bin .sub (.v 39) (.v 40))⟩,
    ⟨some 42, none, .inl (.bin .geq (.v 38) (.v 41))⟩]) (.cond (.v 42) (.ops [0, 1, 2, 11] [
    ⟨some 43, none, .inl (.mov (.v 11))⟩,
    ⟨some 44, none, .inl (.bin .add (.v 43) (.c (.int .u64 1)))⟩,
    ⟨some 11, none, .inl (.mov (.v 44))⟩]) (.skip))) (.seq (.seq (.ops [0, 1, 2, 11, 46] [
    ⟨some 45, none, .inl (.mov (.v 11))⟩,
    ⟨some 46, none, .inl (.bin .gtr (.v 45) (.c (.int .u64 4611686018427387904)))⟩]) (.cond (.v 46) (.seq (.ops [6, 7] [
    ⟨some 6, none, .inl (.mov (.c (.int .i64 0)))⟩,
    ⟨some 7, none, .inl (.mov (.c (.bool false)))⟩]) (.ret)) (.skip))) (.seq (.ops [0, 1, 2, 13] [
    ⟨some 47, none, .inl (.mov (.v 11))⟩,
    ⟨some 48, none, .inl (.conv .i64 (.v 47))⟩,
    ⟨some 13, none, .inl (.mov (.v 48))⟩]) (.seq (.seq (.ops [13, 56] [
    ⟨some 49, none, .inl (.mov (.v 0))⟩,
    ⟨some 50, none, .inl (.bin .lss (.v 49) (.c (.int .i64 0)))⟩,
    ⟨some 51, none, .inl (.mov (.v 1))⟩,
    ⟨some 52, none, .inl (.bin .lss (.v 51) (.c (.int .i64 0)))⟩,
    ⟨some 53, none, .inl (.eqk 1 true (.v 50) (.v 52))⟩,
    ⟨some 54, none, .inl (.mov (.v 2))⟩,
    ⟨some 55, none, .inl (.bin .lss (.v 54) (.c (.int .i64 0)))⟩,
    ⟨some 56, none, .inl (.eqk 1 true (.v 53) (.v 55))⟩]) (.cond (.v 56) (.ops [13] [
    ⟨some 57, none, .inl (.mov (.v 13))⟩,
    ⟨some 58, none, .inl (.un .neg (.v 57))⟩,
    ⟨some 13, none, .inl (.mov (.v 58))⟩]) (.skip))) (.seq (.ops [6, 7] [
    ⟨some 59, none, .inl (.mov (.v 13))⟩,
    ⟨some 6, none, .inl (.mov (.v 59))⟩,
    ⟨some 7, none, .inl (.mov (.c (.bool true)))⟩]) (.ret))))))))))))⟩

def fixed_Less : AFn := ⟨2, [.slot 4],
  .seq (.ops [2, 3] [
    ⟨some 2, none, .inr (.box (.v 0))⟩,
    ⟨some 3, none, .inr (.box (.v 1))⟩,
    ⟨some 4, none, .inl (.mov (.c (.bool false)))⟩]) (.seq (.ops [4] [
    ⟨some 5, none, .inl (.load 2 true (.v 2))⟩,
    ⟨some 6, none, .inl (.call (.f 146) [(.v 5)])⟩,
    ⟨some 7, none, .inl (.mov (.v 6))⟩,
    ⟨some 8, (some (7, true)), .inl (.load 2 true (.v 3))⟩,
    ⟨some 9, (some (7, true)), .inl (.call (.f 146) [(.v 8)])⟩,
    ⟨some 10, none, .inl (.pick (.v 7) (.v 9) (.c (.bool false)))⟩,
    ⟨some 11, none, .inl (.mov (.v 10))⟩,
    ⟨some 12, (some (11, true)), .inl (.faddr 1 (.v 2))⟩,
    ⟨some 13, (some (11, true)), .inl (.load 1 false (.v 12))⟩,
    ⟨some 14, (some (11, true)), .inl (.faddr 1 (.v 3))⟩,
    ⟨some 15, (some (11, true)), .inl (.load 1 false (.v 14))⟩,
    ⟨some 16, (some (11, true)), .inl (.bin .lss (.v 13) (.v 15))⟩,
    ⟨some 17, none, .inl (.pick (.v 11) (.v 16) (.c (.bool false)))⟩,
    ⟨some 4, none, .inl (.mov (.v 17))⟩]) (.ret))⟩

def fixed_Is : AFn := ⟨1, [.slot 2],
  .seq (.ops [1] [
    ⟨some 1, none, .inr (.box (.v 0))⟩,
    ⟨some 2, none, .inl (.mov (.c (.bool false)))⟩]) (.seq (.seq (.ops [1, 5] [
    ⟨some 3, none, .inl (.faddr 0 (.v 1))⟩,
    ⟨some 4, none, .inl (.load 1 false (.v 3))⟩,
    ⟨some 5, none, .inl (.un .not (.v 4))⟩]) (.cond (.v 5) (.seq (.ops [2] [
    ⟨some 6, none, .inl (.faddr 1 (.v 1))⟩,
    ⟨some 7, none, .inl (.load 1 false (.v 6))⟩,
    ⟨some 8, none, .inl (.bin .eql (.v 7) (.c (.int .i64 0)))⟩,
    ⟨some 2, none, .inl (.mov (.v 8))⟩]) (.ret)) (.skip))) (.seq (.ops [2] [
    ⟨some 9, none, .inl (.faddr 1 (.v 1))⟩,
    ⟨some 10, none, .inl (.load 1 false (.v 9))⟩,
    ⟨some 11, none, .inl (.bin .geq (.v 10) (.c (.int .i64 (-4611686018427387904))))⟩,
    ⟨some 12, none, .inl (.mov (.v 11))⟩,
    ⟨some 13, (some (12, true)), .inl (.faddr 1 (.v 1))⟩,
    ⟨some 14, (some (12, true)), .inl (.load 1 false (.v 13))⟩,
    ⟨some 15, (some (12, true)), .inl (.bin .leq (.v 14) (.c (.int .i64 4611686018427387904)))⟩,
    ⟨some 16, none, .inl (.pick (.v 12) (.v 15) (.c (.bool false)))⟩,
    ⟨some 2, none, .inl (.mov (.v 16))⟩]) (.ret)))⟩

def r6_Name : AFn := ⟨1, [.slot 2],
  .seq (.ops [0] [
    ⟨some 2, none, .inl (.mov (.c (.str [])))⟩]) (.seq (.seq (.ops [3] [
    ⟨some 3, none, .inl (.mov (.v 0))⟩]) (.block [] 0 (.seq (.ops [3, 4] [
    ⟨some 5, none, .inl (.bin .eql (.v 3) (.c (.int .i64 1)))⟩,
    ⟨some 4, none, .inl (.mov (.v 5))⟩]) (.cond (.v 4) (.seq (.ops [2] [
    ⟨some 2, none, .inl (.mov (.c (.str [97, 118, 101, 114, 97, 103, 101])))⟩]) (.ret)) (.seq (.ops [3, 6] [
    ⟨some 7, none, .inl (.bin .eql (.v 3) (.c (.int .i64 2)))⟩,
    ⟨some 6, none, .inl (.mov (.v 7))⟩]) (.cond (.v 6) (.seq (.ops [2] [
    ⟨some 2, none, .inl (.mov (.c (.str [115, 117, 109])))⟩]) (.ret)) (.seq (.ops [3, 8] [
    ⟨some 9, none, .inl (.bin .eql (.v 3) (.c (.int .i64 3)))⟩,
    ⟨some 8, none, .inl (.mov (.v 9))⟩]) (.cond (.v 8) (.seq (.ops [2] [
    ⟨some 2, none, .inl (.mov (.c (.str [108, 97, 115, 116])))⟩]) (.ret)) (.seq (.ops [3, 10] [
    ⟨some 11, none, .inl (.bin .eql (.v 3) (.c (.int .i64 4)))⟩,
    ⟨some 10, none, .inl (.mov (.v 11))⟩]) (.cond (.v 10) (.seq (.ops [2] [
    ⟨some 2, none, .inl (.mov (.c (.str [109, 97, 120])))⟩]) (.ret)) (.seq (.ops [12] [
    ⟨some 13, none, .inl (.bin .eql (.v 3) (.c (.int .i64 5)))⟩,
    ⟨some 12, none, .inl (.mov (.v 13))⟩]) (.cond (.v 12) (.seq (.ops [2] [
    ⟨some 2, none, .inl (.mov (.c (.str [109, 105, 110])))⟩]) (.ret)) (.skip))))))))))))) (.seq (.ops [2] [
    ⟨some 2, none, .inl (.mov (.c (.str [])))⟩]) (.ret)))⟩

def r5_Align : AFn := ⟨2, [.slot 4],
  .seq (.ops [0, 1] [
    ⟨some 4, none, .inl (.mov (.c (.int .i64 0)))⟩]) (.seq (.seq (.ops [0, 1, 10] [
    ⟨some 5, none, .inl (.mov (.v 1))⟩,
    ⟨some 6, none, .inl (.bin .lss (.v 5) (.c (.int .i64 1)))⟩,
    ⟨some 7, none, .inl (.mov (.v 6))⟩,
    ⟨some 8, (some (7, false)), .inl (.mov (.v 0))⟩,
    ⟨some 9, (some (7, false)), .inl (.bin .lss (.v 8) (.c (.int .i64 0)))⟩,
    ⟨some 10, none, .inl (.pick (.v 7) (.c (.bool true)) (.v 9))⟩]) (.cond (.v 10) (.seq (.ops [4] [
    ⟨some 11, none, .inl (.mov (.v 0))⟩,
    ⟨some 4, none, .inl (.mov (.v 11))⟩]) (.ret)) (.skip))) (.seq (.ops [4] [
    ⟨some 12, none, .inl (.mov (.v 0))⟩,
    ⟨some 13, none, .inl (.mov (.v 0))⟩,
    ⟨some 14, none, .inl (.mov (.v 1))⟩,
    ⟨some 15, none, .inl (.bin .rem (.v 13) (.v 14))⟩,
    ⟨some 16, none, .inl (.bin .sub (.v 12) (.v 15))⟩,
    ⟨some 4, none, .inl (.mov (.v 16))⟩]) (.ret)))⟩

def r18_Fit_l1 : Code := .loop [1, 2, 3, 4, 8, 9, 10, 11, 12] false (.seq (.seq (.ops [1, 2, 3, 4, 8, 9, 10, 11, 12, 74] [
    ⟨some 54, none, .inl (.mov (.v 10))⟩,
    ⟨some 55, none, .inl (.faddr 3 (.v 4))⟩,
    ⟨some 56, none, .inl (.load 1 false (.v 55))⟩,
    ⟨some 57, none, .inl (.len false (.v 56))⟩,
    ⟨some 58, none, .inl (.bin .lss (.v 54) (.v 57))⟩,
    ⟨some 59, none, .inl (.mov (.v 58))⟩,
    ⟨some 60, (some (59, true)), .inl (.faddr 1 (.v 4))⟩,
    ⟨some 61, (some (59, true)), .inl (.load 1 false (.v 60))⟩,
    ⟨some 62, (some (59, true)), .inl (.mov (.v 10))⟩,
    ⟨some 63, (some (59, true)), .inl (.faddr 2 (.v 4))⟩,
    ⟨some 64, (some (59, true)), .inl (.load 1 false (.v 63))⟩,
    ⟨some 65, (some (59, true)), .inl (.bin .mul (.v 62) (.v 64))⟩,
    ⟨some 66, (some (59, true)), .inl (.bin .add (.v 61) (.v 65))⟩,
    ⟨some 67, (some (59, true)), .inl (.mov (.v 1))⟩,
    ⟨some 68, (some (59, true)), .inl (.mov (.v 11))⟩,
    ⟨some 69, (some (59, true)), .inl (.bin .add (.v 68) (.c (.int .i64 1)))⟩,
    ⟨some 70, (some (59, true)), .inl (.mov (.v 2))⟩,
    ⟨some 71, (some (59, true)), .inl (.bin .mul (.v 69) (.v 70))⟩,
    ⟨some 72, (some (59, true)), .inl (.bin .add (.v 67) (.v 71))⟩,
    ⟨some 73, (some (59, true)), .inl (.bin .lss (.v 66) (.v 72))⟩,
    ⟨some 74, none, .inl (.pick (.v 59) (.v 73) (.c (.bool false)))⟩]) (.cond (.v 74) (.skip) (.exit 2))) (.block [1, 2, 3, 4, 8, 9, 10, 11, 12] 3 (.seq (.seq (.ops [1, 2, 3, 4, 8, 9, 10, 11, 12, 87] [
    ⟨some 75, none, .inl (.faddr 1 (.v 4))⟩,
    ⟨some 76, none, .inl (.load 1 false (.v 75))⟩,
    ⟨some 77, none, .inl (.mov (.v 10))⟩,
    ⟨some 78, none, .inl (.faddr 2 (.v 4))⟩,
    ⟨some 79, none, .inl (.load 1 false (.v 78))⟩,
    ⟨some 80, none, .inl (.bin .mul (.v 77) (.v 79))⟩,
    ⟨some 81, none, .inl (.bin .add (.v 76) (.v 80))⟩,
    ⟨some 82, none, .inl (.mov (.v 1))⟩,
    ⟨some 83, none, .inl (.mov (.v 11))⟩,
    ⟨some 84, none, .inl (.mov (.v 2))⟩,
    ⟨some 85, none, .inl (.bin .mul (.v 83) (.v 84))⟩,
    ⟨some 86, none, .inl (.bin .add (.v 82) (.v 85))⟩,
    ⟨some 87, none, .inl (.bin .geq (.v 81) (.v 86))⟩]) (.cond (.v 87) (.ops [1, 2, 3, 4, 8, 9, 10, 11, 12] [
    ⟨some 88, none, .inl (.mov (.v 12))⟩,
    ⟨some 89, none, .inl (.faddr 3 (.v 4))⟩,
    ⟨some 90, none, .inl (.load 1 false (.v 89))⟩,
    ⟨some 91, none, .inl (.mov (.v 10))⟩,
    ⟨some 92, none, .inl (.iaddr 2 (.v 90) (.v 91))⟩,
    ⟨some 93, none, .inl (.load 2 true (.v 92))⟩,
    ⟨some 94, none, .inl (.bslice 2 true 1 [.bool false, .int .i64 0] [⟨0, 2, (.v 93)⟩])⟩,
    ⟨some 95, none, .inr (.append 2 (.v 88) (.v 94))⟩,
    ⟨some 12, none, .inl (.mov (.v 95))⟩]) (.skip))) (.ops [1, 2, 3, 4, 8, 9, 10, 11, 12] [
    ⟨some 96, none, .inl (.mov (.v 10))⟩,
    ⟨some 97, none, .inl (.bin .add (.v 96) (.c (.int .i64 1)))⟩,
    ⟨some 10, none, .inl (.mov (.v 97))⟩]))))
def r18_Fit_l2 : Code := .loop [1, 2, 3, 4, 8, 9, 10, 11] true (.seq (.seq (.ops [1, 2, 3, 4, 8, 9, 10, 11, 51] [
    ⟨some 49, none, .inl (.mov (.v 11))⟩,
    ⟨some 50, none, .inl (.mov (.v 3))⟩,
    ⟨some 51, none, .inl (.bin .lss (.v 49) (.v 50))⟩]) (.cond (.v 51) (.skip) (.exit 0))) (.seq (.block [1, 2, 3, 4, 8, 9, 10, 11] 1 (.seq (.ops [1, 2, 3, 4, 8, 9, 10, 11, 12] [
    ⟨some 12, none, .inr (.newrow 2)⟩]) (.seq (.block [1, 2, 3, 4, 8, 9, 10, 11, 12] 2 (r18_Fit_l1)) (.ops [1, 2, 3, 4, 8, 9, 10, 11] [
    ⟨some 98, none, .inl (.faddr 3 (.v 9))⟩,
    ⟨some 99, none, .inl (.load 1 false (.v 98))⟩,
    ⟨some 100, none, .inl (.load 5 true (.v 4))⟩,
    ⟨some 101, none, .inl (.call (.f 169) [(.v 100)])⟩,
    ⟨some 102, none, .inl (.mov (.v 12))⟩,
    ⟨some 103, none, .inl (.call (.f 122) [(.v 101), (.v 102)])⟩,
    ⟨some 104, none, .inl (.bslice 2 true 1 [.bool false, .int .i64 0] [⟨0, 2, (.v 103)⟩])⟩,
    ⟨some 105, none, .inr (.append 2 (.v 99) (.v 104))⟩,
    ⟨some 106, none, .inl (.faddr 3 (.v 9))⟩,
    ⟨none, none, .inr (.store 1 (.v 106) (.v 105))⟩])))) (.ops [1, 2, 3, 4, 8, 9, 10, 11] [
    ⟨some 52, none, .inl (.mov (.v 11))⟩,
    ⟨some 53, none, .inl (.bin .add (.v 52) (.c (.int .i64 1)))⟩,
    ⟨some 11, none, .inl (.mov (.v 53))⟩])))
def r18_Fit : AFn := ⟨4, [.cell 8 5 true],
  .seq (.ops [1, 2, 3, 4, 8] [
    ⟨some 4, none, .inr (.box (.v 0))⟩,
    ⟨some 8, none, .inr (.alloc [.str [], .int .i64 0, .int .i64 0, .sl .nil 2 [], .int .i64 0])⟩]) (.seq (.seq (.ops [1, 2, 3, 4, 8, 39] [
    ⟨some 13, none, .inl (.load 5 true (.v 4))⟩,
    ⟨some 14, none, .inl (.call (.f 113) [(.v 13)])⟩,
    ⟨some 15, none, .inl (.un .not (.v 14))⟩,
    ⟨some 16, none, .inl (.mov (.v 15))⟩,
    ⟨some 17, (some (16, false)), .inl (.mov (.v 2))⟩,
    ⟨some 18, (some (16, false)), .inl (.bin .lss (.v 17) (.c (.int .i64 1)))⟩,
    ⟨some 19, none, .inl (.pick (.v 16) (.c (.bool true)) (.v 18))⟩,
    ⟨some 20, none, .inl (.mov (.v 19))⟩,
    ⟨some 21, (some (20, false)), .inl (.mov (.v 2))⟩,
    ⟨some 22, (some (20, false)), .inl (.bin .gtr (.v 21) (.c (.int .i64 1099511627776)))⟩,
    ⟨some 23, none, .inl (.pick (.v 20) (.c (.bool true)) (.v 22))⟩,
    ⟨some 24, none, .inl (.mov (.v 23))⟩,
    ⟨some 25, (some (24, false)), .inl (.mov (.v 3))⟩,
    ⟨some 26, (some (24, false)), .inl (.bin .lss (.v 25) (.c (.int .i64 0)))⟩,
    ⟨some 27, none, .inl (.pick (.v 24) (.c (.bool true)) (.v 26))⟩,
    ⟨some 28, none, .inl (.mov (.v 27))⟩,
    ⟨some 29, (some (28, false)), .inl (.mov (.v 3))⟩,
    ⟨some 30, (some (28, false)), .inl (.bin .gtr (.v 29) (.c (.int .i64 131072)))⟩,
    ⟨some 31, none, .inl (.pick (.v 28) (.c (.bool true)) (.v 30))⟩,
    ⟨some 32, none, .inl (.mov (.v 31))⟩,
    ⟨some 33, (some (32, false)), .inl (.mov (.v 1))⟩,
    ⟨some 34, (some (32, false)), .inl (.bin .lss (.v 33) (.c (.int .i64 0)))⟩,
    ⟨some 35, none, .inl (.pick (.v 32) (.c (.bool true)) (.v 34))⟩,
    ⟨some 36, none, .inl (.mov (.v 35))⟩,
    ⟨some 37, (some (36, false)), .inl (.mov (.v 1))⟩,
    ⟨some 38, (some (36, false)), .inl (.bin .gtr (.v 37) (.c (.int .i64 4294967295)))⟩,
    ⟨some 39, none, .inl (.pick (.v 36) (.c (.bool true)) (.v 38))⟩]) (.cond (.v 39) (.seq (.ops [8] [
    ⟨some 40, none, .inl (.load 5 true (.v 4))⟩,
    ⟨some 41, none, .inr (.callf (.f 34) [(.v 40)])⟩,
    ⟨none, none, .inr (.store 5 (.v 8) (.v 41))⟩]) (.ret)) (.skip))) (.seq (.ops [1, 2, 3, 4, 8, 9] [
    ⟨some 42, none, .inl (.faddr 0 (.v 4))⟩,
    ⟨some 43, none, .inl (.load 1 false (.v 42))⟩,
    ⟨some 44, none, .inl (.mov (.v 1))⟩,
    ⟨some 45, none, .inl (.mov (.v 2))⟩,
    ⟨some 46, none, .inl (.faddr 4 (.v 4))⟩,
    ⟨some 47, none, .inl (.load 1 false (.v 46))⟩,
    ⟨some 48, none, .inl (.build [.str [], .int .i64 0, .int .i64 0, .sl .nil 2 [], .int .i64 0] [⟨0, 1, (.v 43)⟩, ⟨1, 1, (.v 44)⟩, ⟨2, 1, (.v 45)⟩, ⟨4, 1, (.v 47)⟩])⟩,
    ⟨some 9, none, .inr (.alloc [.str [], .int .i64 0, .int .i64 0, .sl .nil 2 [], .int .i64 0])⟩,
    ⟨none, none, .inr (.store 5 (.v 9) (.v 48))⟩]) (.seq (.ops [1, 2, 3, 4, 8, 9, 10] [
    ⟨some 10, none, .inl (.mov (.c (.int .i64 0)))⟩]) (.seq (.seq (.ops [1, 2, 3, 4, 8, 9, 10, 11] [
    ⟨some 11, none, .inl (.mov (.c (.int .i64 0)))⟩]) (.block [8, 9] 0 (r18_Fit_l2))) (.seq (.ops [8] [
    ⟨some 107, none, .inl (.load 5 true (.v 9))⟩,
    ⟨none, none, .inr (.store 5 (.v 8) (.v 107))⟩]) (.ret))))))⟩

def r1_Of : AFn := ⟨1, [.cell 2 2 true],
  .seq (.ops [0, 2] [
    ⟨some 2, none, .inr (.alloc [.bool false, .int .i64 0])⟩]) (.seq (.seq (.ops [0, 2, 8] [
    ⟨some 3, none, .inl (.mov (.v 0))⟩,
    ⟨some 4, none, .inl (.bin .lss (.v 3) (.c (.int .i64 (-4611686018427387904))))⟩,
    ⟨some 5, none, .inl (.mov (.v 4))⟩,
    ⟨some 6, (some (5, false)), .inl (.mov (.v 0))⟩,
    ⟨some 7, (some (5, false)), .inl (.bin .gtr (.v 6) (.c (.int .i64 4611686018427387904)))⟩,
    ⟨some 8, none, .inl (.pick (.v 5) (.c (.bool true)) (.v 7))⟩]) (.cond (.v 8) (.seq (.ops [2] [
    ⟨some 9, none, .inl (.build [.bool false, .int .i64 0] [])⟩,
    ⟨none, none, .inr (.store 2 (.v 2) (.v 9))⟩]) (.ret)) (.skip))) (.seq (.ops [2] [
    ⟨some 10, none, .inl (.mov (.v 0))⟩,
    ⟨some 11, none, .inl (.build [.bool false, .int .i64 0] [⟨0, 1, (.c (.bool true))⟩, ⟨1, 1, (.v 10)⟩])⟩,
    ⟨none, none, .inr (.store 2 (.v 2) (.v 11))⟩]) (.ret)))⟩

def r1_MulDiv_l1 : Code := .loop [0, 1, 2, 8, 9, 10, 11, 12, 13, 14] false (.seq (.seq (.ops [0, 1, 2, 8, 9, 10, 11, 12, 13, 14, 30] [
    ⟨some 29, none, .inl (.mov (.v 14))⟩,
    ⟨some 30, none, .inl (.bin .geq (.v 29) (.c (.int .i64 0)))⟩]) (.cond (.v 30) (.skip) (.exit 0))) (.seq (.block [0, 1, 2, 8, 9, 10, 11, 12, 13, 14] 1 (.seq (.ops [0, 1, 2, 8, 9, 10, 11, 12, 13, 14, 15] [
    ⟨some 33, none, .inl (.mov (.v 9))⟩,
    ⟨some 34, none, .inl (.mov (.v 14))⟩,
    ⟨some 35, none, .inl (.bin .and (.v 34) (.c (.int .i64 63)))⟩,
    ⟨some 36, none, .inl (.conv .u64 (.v 35))⟩,
    ⟨some 37, none, .inl (.bin .shr (.v 33) (.v 36))⟩,
    ⟨some 38, none, .inl (.bin .and (.v 37) (.c (.int .u64 1)))⟩,
    ⟨some 15, none, .inl (.mov (.v 38))⟩]) (.seq (.seq (.ops [0, 1, 2, 8, 9, 10, 11, 12, 13, 14, 15, 40] [
    ⟨some 39, none, .inl (.mov (.v 14))⟩,
    ⟨some 40, none, .inl (.bin .geq (.v 39) (.c (.int .i64 64)))⟩]) (.cond (.v 40) (.ops [0, 1, 2, 8, 9, 10, 11, 12, 13, 14, 15] [
    ⟨some 41, none, .inl (.mov (.v 8))⟩,
    ⟨some 42, none, .inl (.mov (.v 14))⟩,
    ⟨some 43, none, .inl (.bin .sub (.v 42) (.c (.int .i64 64)))⟩,
    ⟨some 44, none, .inl (.conv .u64 (.v 43))⟩,
    ⟨some 45, none, .inl (.bin .shr (.v 41) (.v 44))⟩,
    ⟨some 46, none, .inl (.bin .and (.v 45) (.c (.int .u64 1)))⟩,
    ⟨some 15, none, .inl (.mov (.v 46))⟩]) (.skip))) (.seq (.ops [0, 1, 2, 8, 9, 10, 11, 12, 13, 14, 15, 16] [
    ⟨some 47, none, .inl (.mov (.v 12))⟩,
    ⟨some 48, none, .inl (.bin .shr (.v 47) (.c (.int .u64 63)))⟩,
    ⟨some 16, none, .inl (.mov (.v 48))⟩]) (.seq (.ops [0, 1, 2, 8, 9, 10, 11, 12, 13, 14, 16] [
    ⟨some 49, none, .inl (.mov (.v 12))⟩,
    ⟨some 50, none, .inl (.bin .shl (.v 49) (.c (.int .u64 1)))⟩,
    ⟨some 51, none, .inl (.mov (.v 15))⟩,
    ⟨some 52, none, .inl (.bin .or (.v 50) (.v 51))⟩,
    ⟨some 12, none, .inl (.mov (.v 52))⟩]) (.seq (.ops [0, 1, 2, 8, 9, 10, 11, 12, 13, 14, 16] [
    ⟨some 53, none, .inl (.mov (.v 13))⟩,
    ⟨some 54, none, .inl (.mov (.v 53))⟩,
    ⟨some 55, (some (54, false)), .inl (.mov (.v 11))⟩,
    ⟨some 56, (some (54, false)), .inl (.bin .shr (.v 55) (.c (.int .u64 62)))⟩,
    ⟨some 57, (some (54, false)), .inl (.bin .neq (.v 56) (.c (.int .u64 0)))⟩,
    ⟨some 58, none, .inl (.pick (.v 54) (.c (.bool true)) (.v 57))⟩,
    ⟨some 13, none, .inl (.mov (.v 58))⟩]) (.seq (.ops [0, 1, 2, 8, 9, 10, 11, 12, 13, 14, 16] [
    ⟨some 59, none, .inl (.mov (.v 11))⟩,
    ⟨some 60, none, .inl (.bin .shl (.v 59) (.c (.int .u64 1)))⟩,
    ⟨some 11, none, .inl (.mov (.v 60))⟩]) (.seq (.ops [0, 1, 2, 8, 9, 10, 11, 12, 13, 14, 67] [
    ⟨some 61, none, .inl (.mov (.v 16))⟩,
    ⟨some 62, none, .inl (.bin .eql (.v 61) (.c (.int .u64 1)))⟩,
    ⟨some 63, none, .inl (.mov (.v 62))⟩,
    ⟨some 64, (some (63, false)), .inl (.mov (.v 12))⟩,
    ⟨some 65, (some (63, false)), .inl (.mov (.v 10))⟩,
    ⟨some 66, (some (63, false)), .inl (.bin .geq (.v 64) (.v 65))⟩,
    ⟨some 67, none, .inl (.pick (.v 63) (.c (.bool true)) (.v 66))⟩]) (.cond (.v 67) (.seq (.ops [0, 1, 2, 8, 9, 10, 11, 12, 13, 14] [
    ⟨some 68, none, .inl (.mov (.v 12))⟩,
    ⟨some 69, none, .inl (.mov (.v 10))⟩,
    ⟨some 70, none, .inl (.bin .sub (.v 68) (.v 69))⟩,
    ⟨some 12, none, .inl (.mov (.v 70))⟩]) (.ops [0, 1, 2, 8, 9, 10, 11, 12, 13, 14] [
    ⟨some 71, none, .inl (.mov (.v 11))⟩,
    ⟨some 72, none, .inl (.bin .or (.v 71) (.c (.int .u64 1)))⟩,
    ⟨some 11, none, .inl (.mov (.v 72))⟩])) (.skip)))))))))) (.ops [0, 1, 2, 8, 9, 10, 11, 12, 13, 14] [
    ⟨some 31, none, .inl (.mov (.v 14))⟩,
    ⟨some 32, none, .inl (.bin .sub (.v 31) (.c (.int .i64 1)))⟩,
    ⟨some 14, none, .inl (.mov (.v 32))⟩])))
def r1_MulDiv : AFn := ⟨3, [.slot 6, .slot 7],
  .seq (.ops [0, 1, 2] [
    ⟨some 6, none, .inl (.mov (.c (.int .i64 0)))⟩,
    ⟨some 7, none, .inl (.mov (.c (.bool false)))⟩]) (.seq (.seq (.ops [0, 1, 2, 18] [
    ⟨some 17, none, .inl (.mov (.v 2))⟩,
    ⟨some 18, none, .inl (.bin .eql (.v 17) (.c (.int .i64 0)))⟩]) (.cond (.v 18) (.seq (.ops [6, 7] [
    ⟨some 6, none, .inl (.mov (.c (.int .i64 0)))⟩,
    ⟨some 7, none, .inl (.mov (.c (.bool false)))⟩]) (.ret)) (.skip))) (.seq (.ops [0, 1, 2, 8, 9] [
    ⟨some 20, none, .inl (.mov (.v 0))⟩,
    ⟨some 21, none, .inl (.call (.f 167) [(.v 20)])⟩,
    ⟨some 22, none, .inl (.mov (.v 1))⟩,
    ⟨some 23, none, .inl (.call (.f 167) [(.v 22)])⟩,
    ⟨some 24, none, .inl (.call (.f 168) [(.v 21), (.v 23)])⟩,
    ⟨some 19, none, .inl (.mov (.v 24))⟩,
    ⟨some 25, none, .inl (.ext (.v 19) 0)⟩,
    ⟨some 26, none, .inl (.ext (.v 19) 1)⟩,
    ⟨some 8, none, .inl (.mov (.v 25))⟩,
    ⟨some 9, none, .inl (.mov (.v 26))⟩]) (.seq (.ops [0, 1, 2, 8, 9, 10] [
    ⟨some 27, none, .inl (.mov (.v 2))⟩,
    ⟨some 28, none, .inl (.call (.f 167) [(.v 27)])⟩,
    ⟨some 10, none, .inl (.mov (.v 28))⟩]) (.seq (.ops [0, 1, 2, 8, 9, 10, 11, 12] [
    ⟨some 11, none, .inl (.mov (.c (.int .u64 0)))⟩,
    ⟨some 12, none, .inl (.mov (.c (.int .u64 0)))⟩]) (.seq (.ops [0, 1, 2, 8, 9, 10, 11, 12, 13] [
    ⟨some 13, none, .inl (.mov (.c (.bool false)))⟩]) (.seq (.seq (.ops [0, 1, 2, 8, 9, 10, 11, 12, 13, 14] [
    ⟨some 14, none, .inl (.mov (.c (.int .i64 127)))⟩]) (.block [0, 1, 2, 10, 11, 12, 13] 0 (r1_MulDiv_l1))) (.seq (.seq (.ops [0, 1, 2, 11, 13, 77] [
    ⟨some 73, none, .inl (.mov (.v 12))⟩,
    ⟨some 74, none, .inl (.mov (.v 10))⟩,
    ⟨some 75, none, .inl (.mov (.v 12))⟩,
    ⟨some 76, none, .inl (.bin .sub (.v 74) (.v 75))⟩,
    ⟨some 77, none, .inl (.bin .geq (.v 73) (.v 76))⟩]) (.cond (.v 77) (.ops [0, 1, 2, 11, 13] [
    ⟨some 78, none, .inl (.mov (.v 11))⟩,
    ⟨some 79, none, .inl (.bin .add (.v 78) (.c (.int .u64 1)))⟩,
    ⟨some 11, none, .inl (.mov (.v 79))⟩]) (.skip))) (.seq (.seq (.ops [0, 1, 2, 11, 84] [
    ⟨some 80, none, .inl (.mov (.v 13))⟩,
    ⟨some 81, none, .inl (.mov (.v 80))⟩,
    ⟨some 82, (some (81, false)), .inl (.mov (.v 11))⟩,
    ⟨some 83, (some (81, false)), .inl (.bin .gtr (.v 82) (.c (.int .u64 4611686018427387904)))⟩,
    ⟨some 84, none, .inl (.pick (.v 81) (.c (.bool true)) (.v 83))⟩]) (.cond (.v 84) (.seq (.ops [6, 7] [
    ⟨some 6, none, .inl (.mov (.c (.int .i64 0)))⟩,
    ⟨some 7, none, .inl (.mov (.c (.bool false)))⟩]) (.ret)) (.skip))) (.seq (.seq (.ops [11, 92] [
    ⟨some 85, none, .inl (.mov (.v 0))⟩,
    ⟨some 86, none, .inl (.bin .lss (.v 85) (.c (.int .i64 0)))⟩,
    ⟨some 87, none, .inl (.mov (.v 1))⟩,
    ⟨some 88, none, .inl (.bin .lss (.v 87) (.c (.int .i64 0)))⟩,
    ⟨some 89, none, .inl (.eqk 1 true (.v 86) (.v 88))⟩,
    ⟨some 90, none, .inl (.mov (.v 2))⟩,
    ⟨some 91, none, .inl (.bin .lss (.v 90) (.c (.int .i64 0)))⟩,
    ⟨some 92, none, .inl (.eqk 1 true (.v 89) (.v 91))⟩]) (.cond (.v 92) (.seq (.ops [6, 7] [
    ⟨some 93, none, .inl (.mov (.v 11))⟩,
    ⟨some 94, none, .inl (.conv .i64 (.v 93))⟩,
    ⟨some 95, none, .inl (.un .neg (.v 94))⟩,
    ⟨some 6, none, .inl (.mov (.v 95))⟩,
    ⟨some 7, none, .inl (.mov (.c (.bool true)))⟩]) (.ret)) (.skip))) (.seq (.ops [6, 7] [
    ⟨some 96, none, .inl (.mov (.v 11))⟩,
    ⟨some 97, none, .inl (.conv .i64 (.v 96))⟩,
    ⟨some 6, none, .inl (.mov (.v 97))⟩,
    ⟨some 7, none, .inl (.mov (.c (.bool true)))⟩]) (.ret)))))))))))⟩

def r1_Is : AFn := ⟨1, [.slot 2],
  .seq (.ops [1] [
    ⟨some 1, none, .inr (.box (.v 0))⟩,
    ⟨some 2, none, .inl (.mov (.c (.bool false)))⟩]) (.seq (.seq (.ops [1, 5] [
    ⟨some 3, none, .inl (.faddr 0 (.v 1))⟩,
    ⟨some 4, none, .inl (.load 1 false (.v 3))⟩,
    ⟨some 5, none, .inl (.un .not (.v 4))⟩]) (.cond (.v 5) (.seq (.ops [2] [
    ⟨some 6, none, .inl (.faddr 1 (.v 1))⟩,
    ⟨some 7, none, .inl (.load 1 false (.v 6))⟩,
    ⟨some 8, none, .inl (.bin .eql (.v 7) (.c (.int .i64 0)))⟩,
    ⟨some 2, none, .inl (.mov (.v 8))⟩]) (.ret)) (.skip))) (.seq (.ops [2] [
    ⟨some 9, none, .inl (.faddr 1 (.v 1))⟩,
    ⟨some 10, none, .inl (.load 1 false (.v 9))⟩,
    ⟨some 11, none, .inl (.bin .geq (.v 10) (.c (.int .i64 (-4611686018427387904))))⟩,
    ⟨some 12, none, .inl (.mov (.v 11))⟩,
    ⟨some 13, (some (12, true)), .inl (.faddr 1 (.v 1))⟩,
    ⟨some 14, (some (12, true)), .inl (.load 1 false (.v 13))⟩,
    ⟨some 15, (some (12, true)), .inl (.bin .leq (.v 14) (.c (.int .i64 4611686018427387904)))⟩,
    ⟨some 16, none, .inl (.pick (.v 12) (.v 15) (.c (.bool false)))⟩,
    ⟨some 2, none, .inl (.mov (.v 16))⟩]) (.ret)))⟩

def slot_Align : AFn := ⟨2, [.slot 4],
  .seq (.ops [0, 1] [
    ⟨some 4, none, .inl (.mov (.c (.int .i64 0)))⟩]) (.seq (.seq (.ops [0, 1, 10] [
    ⟨some 5, none, .inl (.mov (.v 1))⟩,
    ⟨some 6, none, .inl (.bin .lss (.v 5) (.c (.int .i64 1)))⟩,
    ⟨some 7, none, .inl (.mov (.v 6))⟩,
    ⟨some 8, (some (7, false)), .inl (.mov (.v 0))⟩,
    ⟨some 9, (some (7, false)), .inl (.bin .lss (.v 8) (.c (.int .i64 0)))⟩,
    ⟨some 10, none, .inl (.pick (.v 7) (.c (.bool true)) (.v 9))⟩]) (.cond (.v 10) (.seq (.ops [4] [
    ⟨some 11, none, .inl (.mov (.v 0))⟩,
    ⟨some 4, none, .inl (.mov (.v 11))⟩]) (.ret)) (.skip))) (.seq (.ops [4] [
    ⟨some 12, none, .inl (.mov (.v 0))⟩,
    ⟨some 13, none, .inl (.mov (.v 0))⟩,
    ⟨some 14, none, .inl (.mov (.v 1))⟩,
    ⟨some 15, none, .inl (.bin .rem (.v 13) (.v 14))⟩,
    ⟨some 16, none, .inl (.bin .sub (.v 12) (.v 15))⟩,
    ⟨some 4, none, .inl (.mov (.v 16))⟩]) (.ret)))⟩

def series_Fit_l1 : Code := .loop [1, 2, 4, 8, 9, 48, 49] false (.seq (.ops [1, 2, 4, 8, 9, 48, 49, 50] [
    ⟨some 50, none, .inl (.bin .lss (.v 49) (.v 48))⟩]) (.seq (.cond (.v 50) (.skip) (.exit 0)) (.seq (.block [1, 2, 4, 8, 9, 48, 49] 1 (.seq (.ops [1, 2, 4, 8, 9, 10, 48, 49] [
    ⟨some 51, none, .inl (.mov (.v 49))⟩,
    ⟨some 10, none, .inl (.mov (.v 51))⟩]) (.seq (.ops [1, 2, 4, 8, 9, 11, 48, 49] [
    ⟨some 52, none, .inl (.mov (.v 1))⟩,
    ⟨some 53, none, .inl (.mov (.v 10))⟩,
    ⟨some 54, none, .inl (.mov (.v 2))⟩,
    ⟨some 55, none, .inl (.bin .mul (.v 53) (.v 54))⟩,
    ⟨some 56, none, .inl (.bin .add (.v 52) (.v 55))⟩,
    ⟨some 11, none, .inl (.mov (.v 56))⟩]) (.ops [1, 2, 4, 8, 9, 48, 49] [
    ⟨some 57, none, .inl (.faddr 3 (.v 9))⟩,
    ⟨some 58, none, .inl (.load 1 false (.v 57))⟩,
    ⟨some 59, none, .inl (.load 5 true (.v 4))⟩,
    ⟨some 60, none, .inl (.call (.f 165) [(.v 59)])⟩,
    ⟨some 61, none, .inl (.load 5 true (.v 4))⟩,
    ⟨some 62, none, .inl (.mov (.v 11))⟩,
    ⟨some 63, none, .inl (.mov (.v 11))⟩,
    ⟨some 64, none, .inl (.mov (.v 2))⟩,
    ⟨some 65, none, .inl (.bin .add (.v 63) (.v 64))⟩,
    ⟨some 66, none, .inl (.call (.f 166) [(.v 61), (.v 62), (.v 65)])⟩,
    ⟨some 67, none, .inl (.call (.f 132) [(.v 60), (.v 66)])⟩,
    ⟨some 68, none, .inl (.bslice 2 true 1 [.bool false, .int .i64 0] [⟨0, 2, (.v 67)⟩])⟩,
    ⟨some 69, none, .inr (.append 2 (.v 58) (.v 68))⟩,
    ⟨some 70, none, .inl (.faddr 3 (.v 9))⟩,
    ⟨none, none, .inr (.store 1 (.v 70) (.v 69))⟩])))) (.ops [1, 2, 4, 8, 9, 48, 49] [
    ⟨some 71, none, .inl (.bin .add (.v 49) (.c (.int .i64 1)))⟩,
    ⟨some 49, none, .inl (.mov (.v 71))⟩]))))
def series_Fit : AFn := ⟨4, [.cell 8 5 true],
  .seq (.ops [1, 2, 3, 4, 8] [
    ⟨some 4, none, .inr (.box (.v 0))⟩,
    ⟨some 8, none, .inr (.alloc [.str [], .int .i64 0, .int .i64 0, .sl .nil 2 [], .int .i64 0])⟩]) (.seq (.seq (.ops [1, 2, 3, 4, 8, 38] [
    ⟨some 12, none, .inl (.load 5 true (.v 4))⟩,
    ⟨some 13, none, .inl (.call (.f 111) [(.v 12)])⟩,
    ⟨some 14, none, .inl (.un .not (.v 13))⟩,
    ⟨some 15, none, .inl (.mov (.v 14))⟩,
    ⟨some 16, (some (15, false)), .inl (.mov (.v 2))⟩,
    ⟨some 17, (some (15, false)), .inl (.bin .lss (.v 16) (.c (.int .i64 1)))⟩,
    ⟨some 18, none, .inl (.pick (.v 15) (.c (.bool true)) (.v 17))⟩,
    ⟨some 19, none, .inl (.mov (.v 18))⟩,
    ⟨some 20, (some (19, false)), .inl (.mov (.v 2))⟩,
    ⟨some 21, (some (19, false)), .inl (.bin .gtr (.v 20) (.c (.int .i64 1099511627776)))⟩,
    ⟨some 22, none, .inl (.pick (.v 19) (.c (.bool true)) (.v 21))⟩,
    ⟨some 23, none, .inl (.mov (.v 22))⟩,
    ⟨some 24, (some (23, false)), .inl (.mov (.v 3))⟩,
    ⟨some 25, (some (23, false)), .inl (.bin .lss (.v 24) (.c (.int .i64 0)))⟩,
    ⟨some 26, none, .inl (.pick (.v 23) (.c (.bool true)) (.v 25))⟩,
    ⟨some 27, none, .inl (.mov (.v 26))⟩,
    ⟨some 28, (some (27, false)), .inl (.mov (.v 3))⟩,
    ⟨some 29, (some (27, false)), .inl (.bin .gtr (.v 28) (.c (.int .i64 131072)))⟩,
    ⟨some 30, none, .inl (.pick (.v 27) (.c (.bool true)) (.v 29))⟩,
    ⟨some 31, none, .inl (.mov (.v 30))⟩,
    ⟨some 32, (some (31, false)), .inl (.mov (.v 1))⟩,
    ⟨some 33, (some (31, false)), .inl (.bin .lss (.v 32) (.c (.int .i64 0)))⟩,
    ⟨some 34, none, .inl (.pick (.v 31) (.c (.bool true)) (.v 33))⟩,
    ⟨some 35, none, .inl (.mov (.v 34))⟩,
    ⟨some 36, (some (35, false)), .inl (.mov (.v 1))⟩,
    ⟨some 37, (some (35, false)), .inl (.bin .gtr (.v 36) (.c (.int .i64 4294967295)))⟩,
    ⟨some 38, none, .inl (.pick (.v 35) (.c (.bool true)) (.v 37))⟩]) (.cond (.v 38) (.seq (.ops [8] [
    ⟨some 39, none, .inl (.load 5 true (.v 4))⟩,
    ⟨some 40, none, .inr (.callf (.f 31) [(.v 39)])⟩,
    ⟨none, none, .inr (.store 5 (.v 8) (.v 40))⟩]) (.ret)) (.skip))) (.seq (.ops [1, 2, 3, 4, 8, 9] [
    ⟨some 41, none, .inl (.faddr 0 (.v 4))⟩,
    ⟨some 42, none, .inl (.load 1 false (.v 41))⟩,
    ⟨some 43, none, .inl (.mov (.v 1))⟩,
    ⟨some 44, none, .inl (.mov (.v 2))⟩,
    ⟨some 45, none, .inl (.faddr 4 (.v 4))⟩,
    ⟨some 46, none, .inl (.load 1 false (.v 45))⟩,
    ⟨some 47, none, .inl (.build [.str [], .int .i64 0, .int .i64 0, .sl .nil 2 [], .int .i64 0] [⟨0, 1, (.v 42)⟩, ⟨1, 1, (.v 43)⟩, ⟨2, 1, (.v 44)⟩, ⟨4, 1, (.v 46)⟩])⟩,
    ⟨some 9, none, .inr (.alloc [.str [], .int .i64 0, .int .i64 0, .sl .nil 2 [], .int .i64 0])⟩,
    ⟨none, none, .inr (.store 5 (.v 9) (.v 47))⟩]) (.seq (.seq (.ops [1, 2, 4, 8, 9, 48, 49] [
    ⟨some 48, none, .inl (.mov (.v 3))⟩,
    ⟨some 49, none, .inl (.mov (.c (.int .i64 0)))⟩]) (.block [8, 9] 0 (series_Fit_l1))) (.seq (.ops [8] [
    ⟨some 72, none, .inl (.load 5 true (.v 9))⟩,
    ⟨none, none, .inr (.store 5 (.v 8) (.v 72))⟩]) (.ret)))))⟩

def series_End : AFn := ⟨1, [.slot 2],
  .seq (.ops [1] [
    ⟨some 1, none, .inr (.box (.v 0))⟩,
    ⟨some 2, none, .inl (.mov (.c (.int .i64 0)))⟩]) (.seq (.seq (.ops [1, 5] [
    ⟨some 3, none, .inl (.load 5 true (.v 1))⟩,
    ⟨some 4, none, .inl (.call (.f 111) [(.v 3)])⟩,
    ⟨some 5, none, .inl (.un .not (.v 4))⟩]) (.cond (.v 5) (.seq (.ops [2] [
    ⟨some 2, none, .inl (.mov (.c (.int .i64 0)))⟩]) (.ret)) (.skip))) (.seq (.ops [2] [
    ⟨some 6, none, .inl (.faddr 1 (.v 1))⟩,
    ⟨some 7, none, .inl (.load 1 false (.v 6))⟩,
    ⟨some 8, none, .inl (.faddr 3 (.v 1))⟩,
    ⟨some 9, none, .inl (.load 1 false (.v 8))⟩,
    ⟨some 10, none, .inl (.len false (.v 9))⟩,
    ⟨some 11, none, .inl (.faddr 2 (.v 1))⟩,
    ⟨some 12, none, .inl (.load 1 false (.v 11))⟩,
    ⟨some 13, none, .inl (.bin .mul (.v 10) (.v 12))⟩,
    ⟨some 14, none, .inl (.bin .add (.v 7) (.v 13))⟩,
    ⟨some 2, none, .inl (.mov (.v 14))⟩]) (.ret)))⟩

def fwin_hits_l1 : Code := .loop [1, 2, 10, 11, 12] true (.seq (.ops [1, 2, 10, 11, 12, 13] [
    ⟨some 13, none, .inl (.bin .lss (.v 12) (.v 11))⟩]) (.seq (.cond (.v 13) (.skip) (.exit 0)) (.seq (.block [1, 2, 10, 11, 12] 1 (.seq (.ops [1, 2, 3, 4, 10, 11, 12] [
    ⟨some 14, none, .inl (.mov (.v 12))⟩,
    ⟨some 15, none, .inl (.iaddr 2 (.v 10) (.v 12))⟩,
    ⟨some 16, none, .inl (.load 2 true (.v 15))⟩,
    ⟨some 4, none, .inr (.alloc [.bool false, .int .i64 0])⟩,
    ⟨some 3, none, .inl (.mov (.v 14))⟩,
    ⟨none, none, .inr (.store 2 (.v 4) (.v 16))⟩]) (.seq (.ops [1, 2, 3, 4, 5, 6, 10, 11, 12] [
    ⟨some 18, none, .inl (.faddr 1 (.v 4))⟩,
    ⟨some 19, none, .inl (.load 1 false (.v 18))⟩,
    ⟨some 20, none, .inl (.faddr 2 (.v 1))⟩,
    ⟨some 21, none, .inl (.load 1 false (.v 20))⟩,
    ⟨some 22, none, .inl (.call (.f 144) [(.v 19), (.v 21), (.c (.int .i64 1))])⟩,
    ⟨some 17, none, .inl (.mov (.v 22))⟩,
    ⟨some 23, none, .inl (.ext (.v 17) 0)⟩,
    ⟨some 24, none, .inl (.ext (.v 17) 1)⟩,
    ⟨some 5, none, .inl (.mov (.v 23))⟩,
    ⟨some 6, none, .inl (.mov (.v 24))⟩]) (.seq (.seq (.ops [1, 2, 3, 5, 10, 11, 12, 31] [
    ⟨some 25, none, .inl (.faddr 0 (.v 4))⟩,
    ⟨some 26, none, .inl (.load 1 false (.v 25))⟩,
    ⟨some 27, none, .inl (.un .not (.v 26))⟩,
    ⟨some 28, none, .inl (.mov (.v 27))⟩,
    ⟨some 29, (some (28, false)), .inl (.mov (.v 6))⟩,
    ⟨some 30, (some (28, false)), .inl (.un .not (.v 29))⟩,
    ⟨some 31, none, .inl (.pick (.v 28) (.c (.bool true)) (.v 30))⟩]) (.cond (.v 31) (.seq (.ops [1, 2, 10, 11, 12] [
    ⟨some 32, none, .inl (.faddr 3 (.v 1))⟩,
    ⟨some 33, none, .inl (.load 1 false (.v 32))⟩,
    ⟨some 34, none, .inl (.mov (.v 3))⟩,
    ⟨some 35, none, .inl (.build [.bool false, .int .i64 0] [])⟩,
    ⟨some 36, none, .inl (.iaddr 2 (.v 33) (.v 34))⟩,
    ⟨none, none, .inr (.store 2 (.v 36) (.v 35))⟩]) (.exit 1)) (.skip))) (.ops [1, 2, 10, 11, 12] [
    ⟨some 37, none, .inl (.faddr 3 (.v 1))⟩,
    ⟨some 38, none, .inl (.load 1 false (.v 37))⟩,
    ⟨some 39, none, .inl (.mov (.v 3))⟩,
    ⟨some 40, none, .inl (.mov (.v 5))⟩,
    ⟨some 41, none, .inl (.call (.f 143) [(.v 40)])⟩,
    ⟨some 42, none, .inl (.iaddr 2 (.v 38) (.v 39))⟩,
    ⟨none, none, .inr (.store 2 (.v 42) (.v 41))⟩]))))) (.ops [1, 2, 10, 11, 12] [
    ⟨some 43, none, .inl (.bin .add (.v 12) (.c (.int .i64 1)))⟩,
    ⟨some 12, none, .inl (.mov (.v 43))⟩]))))
def fwin_hits : AFn := ⟨1, [.cell 2 5 true],
  .seq (.ops [1, 2] [
    ⟨some 1, none, .inr (.box (.v 0))⟩,
    ⟨some 2, none, .inr (.alloc [.str [], .int .i64 0, .int .i64 0, .sl .nil 2 [], .int .i64 0])⟩]) (.seq (.ops [1, 2] [
    ⟨some 7, none, .inl (.load 5 true (.v 1))⟩,
    ⟨some 8, none, .inr (.calls (.f 31) [(.v 7)])⟩,
    ⟨none, none, .inr (.store 5 (.v 1) (.v 8))⟩]) (.seq (.seq (.ops [1, 2, 10, 11, 12] [
    ⟨some 9, none, .inl (.faddr 3 (.v 1))⟩,
    ⟨some 10, none, .inl (.load 1 false (.v 9))⟩,
    ⟨some 11, none, .inl (.len false (.v 10))⟩,
    ⟨some 12, none, .inl (.mov (.c (.int .i64 0)))⟩]) (.block [1, 2] 0 (fwin_hits_l1))) (.seq (.ops [2] [
    ⟨some 44, none, .inl (.load 5 true (.v 1))⟩,
    ⟨none, none, .inr (.store 5 (.v 2) (.v 44))⟩]) (.ret))))⟩

def agg_Name : AFn := ⟨1, [.slot 2],
  .seq (.ops [0] [
    ⟨some 2, none, .inl (.mov (.c (.str [])))⟩]) (.seq (.seq (.ops [3] [
    ⟨some 3, none, .inl (.mov (.v 0))⟩]) (.block [] 0 (.seq (.ops [3, 4] [
    ⟨some 5, none, .inl (.bin .eql (.v 3) (.c (.int .i64 1)))⟩,
    ⟨some 4, none, .inl (.mov (.v 5))⟩]) (.cond (.v 4) (.seq (.ops [2] [
    ⟨some 2, none, .inl (.mov (.c (.str [97, 118, 101, 114, 97, 103, 101])))⟩]) (.ret)) (.seq (.ops [3, 6] [
    ⟨some 7, none, .inl (.bin .eql (.v 3) (.c (.int .i64 2)))⟩,
    ⟨some 6, none, .inl (.mov (.v 7))⟩]) (.cond (.v 6) (.seq (.ops [2] [
    ⟨some 2, none, .inl (.mov (.c (.str [115, 117, 109])))⟩]) (.ret)) (.seq (.ops [3, 8] [
    ⟨some 9, none, .inl (.bin .eql (.v 3) (.c (.int .i64 3)))⟩,
    ⟨some 8, none, .inl (.mov (.v 9))⟩]) (.cond (.v 8) (.seq (.ops [2] [
    ⟨some 2, none, .inl (.mov (.c (.str [108, 97, 115, 116])))⟩]) (.ret)) (.seq (.ops [3, 10] [
    ⟨some 11, none, .inl (.bin .eql (.v 3) (.c (.int .i64 4)))⟩,
    ⟨some 10, none, .inl (.mov (.v 11))⟩]) (.cond (.v 10) (.seq (.ops [2] [
    ⟨some 2, none, .inl (.mov (.c (.str [109, 97, 120])))⟩]) (.ret)) (.seq (.ops [12] [
    ⟨some 13, none, .inl (.bin .eql (.v 3) (.c (.int .i64 5)))⟩,
    ⟨some 12, none, .inl (.mov (.v 13))⟩]) (.cond (.v 12) (.seq (.ops [2] [
    ⟨some 2, none, .inl (.mov (.c (.str [109, 105, 110])))⟩]) (.ret)) (.skip))))))))))))) (.seq (.ops [2] [
    ⟨some 2, none, .inl (.mov (.c (.str [])))⟩]) (.ret)))⟩

def r21_window : AFn := ⟨2, [.cell 4 2 true, .slot 5],
  .seq (.ops [0, 1, 4] [
    ⟨some 4, none, .inr (.alloc [.bool false, .int .i64 0])⟩,
    ⟨some 5, none, .inl (.mov (.c (.bool false)))⟩]) (.seq (.seq (.ops [1, 4, 6] [
    ⟨some 6, none, .inl (.mov (.v 0))⟩]) (.block [4] 0 (.seq (.ops [1, 4, 6, 7] [
    ⟨some 8, none, .inl (.bin .eql (.v 6) (.c (.str [109, 111, 118, 105, 110, 103, 65, 118, 101, 114, 97, 103, 101])))⟩,
    ⟨some 7, none, .inl (.mov (.v 8))⟩]) (.cond (.v 7) (.seq (.ops [4, 5] [
    ⟨some 9, none, .inl (.mov (.v 1))⟩,
    ⟨some 10, none, .inl (.call (.f 122) [(.c (.int .i64 1)), (.v 9)])⟩,
    ⟨none, none, .inr (.store 2 (.v 4) (.v 10))⟩,
    ⟨some 5, none, .inl (.mov (.c (.bool true)))⟩]) (.ret)) (.seq (.ops [1, 4, 6, 11] [
    ⟨some 12, none, .inl (.bin .eql (.v 6) (.c (.str [109, 111, 118, 105, 110, 103, 77, 105, 110])))⟩,
    ⟨some 11, none, .inl (.mov (.v 12))⟩]) (.cond (.v 11) (.seq (.ops [4, 5] [
    ⟨some 13, none, .inl (.mov (.v 1))⟩,
    ⟨some 14, none, .inl (.call (.f 122) [(.c (.int .i64 5)), (.v 13)])⟩,
    ⟨none, none, .inr (.store 2 (.v 4) (.v 14))⟩,
    ⟨some 5, none, .inl (.mov (.c (.bool true)))⟩]) (.ret)) (.seq (.ops [1, 4, 6, 15] [
    ⟨some 16, none, .inl (.bin .eql (.v 6) (.c (.str [109, 111, 118, 105, 110, 103, 77, 97, 120])))⟩,
    ⟨some 15, none, .inl (.mov (.v 16))⟩]) (.cond (.v 15) (.seq (.ops [4, 5] [
    ⟨some 17, none, .inl (.mov (.v 1))⟩,
    ⟨some 18, none, .inl (.call (.f 122) [(.c (.int .i64 4)), (.v 17)])⟩,
    ⟨none, none, .inr (.store 2 (.v 4) (.v 18))⟩,
    ⟨some 5, none, .inl (.mov (.c (.bool true)))⟩]) (.ret)) (.seq (.ops [1, 4, 6, 19] [
    ⟨some 20, none, .inl (.bin .eql (.v 6) (.c (.str [109, 111, 118, 105, 110, 103, 83, 117, 109])))⟩,
    ⟨some 19, none, .inl (.mov (.v 20))⟩]) (.cond (.v 19) (.seq (.ops [4, 5] [
    ⟨some 21, none, .inl (.mov (.v 1))⟩,
    ⟨some 22, none, .inl (.call (.f 122) [(.c (.int .i64 2)), (.v 21)])⟩,
    ⟨none, none, .inr (.store 2 (.v 4) (.v 22))⟩,
    ⟨some 5, none, .inl (.mov (.c (.bool true)))⟩]) (.ret)) (.seq (.ops [1, 4, 6, 23] [
    ⟨some 24, none, .inl (.bin .eql (.v 6) (.c (.str [109, 111, 118, 105, 110, 103, 77, 101, 100, 105, 97, 110])))⟩,
    ⟨some 23, none, .inl (.mov (.v 24))⟩]) (.cond (.v 23) (.seq (.ops [4, 5] [
    ⟨some 25, none, .inl (.mov (.v 1))⟩,
    ⟨some 26, none, .inl (.call (.f 123) [(.v 25)])⟩,
    ⟨none, none, .inr (.store 2 (.v 4) (.v 26))⟩,
    ⟨some 5, none, .inl (.mov (.c (.bool true)))⟩]) (.ret)) (.seq (.ops [1, 4, 27] [
    ⟨some 28, none, .inl (.bin .eql (.v 6) (.c (.str [115, 116, 100, 101, 118])))⟩,
    ⟨some 27, none, .inl (.mov (.v 28))⟩]) (.cond (.v 27) (.seq (.ops [4, 5] [
    ⟨some 29, none, .inl (.mov (.v 1))⟩,
    ⟨some 30, none, .inl (.call (.f 124) [(.v 29)])⟩,
    ⟨none, none, .inr (.store 2 (.v 4) (.v 30))⟩,
    ⟨some 5, none, .inl (.mov (.c (.bool true)))⟩]) (.ret)) (.skip))))))))))))))) (.seq (.ops [4, 5] [
    ⟨some 31, none, .inl (.build [.bool false, .int .i64 0] [])⟩,
    ⟨none, none, .inr (.store 2 (.v 4) (.v 31))⟩,
    ⟨some 5, none, .inl (.mov (.c (.bool false)))⟩]) (.ret)))⟩

def r2_Digits : AFn := ⟨1, [.slot 2],
  .seq (.ops [0] [
    ⟨some 2, none, .inl (.mov (.c (.str [])))⟩]) (.seq (.seq (.ops [0, 4] [
    ⟨some 3, none, .inl (.mov (.v 0))⟩,
    ⟨some 4, none, .inl (.bin .lss (.v 3) (.c (.int .i64 0)))⟩]) (.cond (.v 4) (.seq (.ops [2] [
    ⟨some 5, none, .inl (.mov (.v 0))⟩,
    ⟨some 6, none, .inl (.bin .add (.v 5) (.c (.int .i64 1)))⟩,
    ⟨some 7, none, .inl (.un .neg (.v 6))⟩,
    ⟨some 8, none, .inl (.conv .u64 (.v 7))⟩,
    ⟨some 9, none, .inl (.bin .add (.v 8) (.c (.int .u64 1)))⟩,
    ⟨some 10, none, .inl (.call (.f 121) [(.v 9)])⟩,
    ⟨some 11, none, .inl (.bin .add (.c (.str [45])) (.v 10))⟩,
    ⟨some 2, none, .inl (.mov (.v 11))⟩]) (.ret)) (.skip))) (.seq (.ops [2] [
    ⟨some 12, none, .inl (.mov (.v 0))⟩,
    ⟨some 13, none, .inl (.conv .u64 (.v 12))⟩,
    ⟨some 14, none, .inl (.call (.f 121) [(.v 13)])⟩,
    ⟨some 2, none, .inl (.mov (.v 14))⟩]) (.ret)))⟩

def r18_Label_l1 : Code := .loop [1, 5, 6] false (.seq (.seq (.ops [1, 5, 6, 12] [
    ⟨some 9, none, .inl (.mov (.v 6))⟩,
    ⟨some 10, none, .inl (.mov (.v 1))⟩,
    ⟨some 11, none, .inl (.len false (.v 10))⟩,
    ⟨some 12, none, .inl (.bin .lss (.v 9) (.v 11))⟩]) (.cond (.v 12) (.skip) (.exit 0))) (.seq (.block [1, 5, 6] 1 (.seq (.seq (.ops [1, 5, 6, 16] [
    ⟨some 15, none, .inl (.mov (.v 6))⟩,
    ⟨some 16, none, .inl (.bin .gtr (.v 15) (.c (.int .i64 0)))⟩]) (.cond (.v 16) (.ops [1, 5, 6] [
    ⟨some 17, none, .inl (.mov (.v 5))⟩,
    ⟨some 18, none, .inl (.bin .add (.v 17) (.c (.str [44])))⟩,
    ⟨some 5, none, .inl (.mov (.v 18))⟩]) (.skip))) (.ops [1, 5, 6] [
    ⟨some 19, none, .inl (.mov (.v 5))⟩,
    ⟨some 20, none, .inl (.mov (.v 1))⟩,
    ⟨some 21, none, .inl (.mov (.v 6))⟩,
    ⟨some 22, none, .inl (.iaddr 1 (.v 20) (.v 21))⟩,
    ⟨some 23, none, .inl (.load 1 false (.v 22))⟩,
    ⟨some 24, none, .inl (.bin .add (.v 19) (.v 23))⟩,
    ⟨some 5, none, .inl (.mov (.v 24))⟩]))) (.ops [1, 5, 6] [
    ⟨some 13, none, .inl (.mov (.v 6))⟩,
    ⟨some 14, none, .inl (.bin .add (.v 13) (.c (.int .i64 1)))⟩,
    ⟨some 6, none, .inl (.mov (.v 14))⟩])))
def r18_Label : AFn := ⟨2, [.slot 4],
  .seq (.ops [0, 1] [
    ⟨some 4, none, .inl (.mov (.c (.str [])))⟩]) (.seq (.ops [1, 5] [
    ⟨some 7, none, .inl (.mov (.v 0))⟩,
    ⟨some 8, none, .inl (.bin .add (.v 7) (.c (.str [40])))⟩,
    ⟨some 5, none, .inl (.mov (.v 8))⟩]) (.seq (.seq (.ops [1, 5, 6] [
    ⟨some 6, none, .inl (.mov (.c (.int .i64 0)))⟩]) (.block [5] 0 (r18_Label_l1))) (.seq (.ops [4] [
    ⟨some 25, none, .inl (.mov (.v 5))⟩,
    ⟨some 26, none, .inl (.bin .add (.v 25) (.c (.str [41])))⟩,
    ⟨some 4, none, .inl (.mov (.v 26))⟩]) (.ret))))⟩

def r18_Same_l1 : Code := .loop [2, 3, 5] false (.seq (.seq (.ops [2, 3, 5, 45] [
    ⟨some 41, none, .inl (.mov (.v 5))⟩,
    ⟨some 42, none, .inl (.faddr 3 (.v 2))⟩,
    ⟨some 43, none, .inl (.load 1 false (.v 42))⟩,
    ⟨some 44, none, .inl (.len false (.v 43))⟩,
    ⟨some 45, none, .inl (.bin .lss (.v 41) (.v 44))⟩]) (.cond (.v 45) (.skip) (.exit 0))) (.seq (.block [2, 3, 5] 1 (.seq (.ops [2, 3, 5, 58] [
    ⟨some 48, none, .inl (.faddr 3 (.v 2))⟩,
    ⟨some 49, none, .inl (.load 1 false (.v 48))⟩,
    ⟨some 50, none, .inl (.mov (.v 5))⟩,
    ⟨some 51, none, .inl (.iaddr 2 (.v 49) (.v 50))⟩,
    ⟨some 52, none, .inl (.load 2 true (.v 51))⟩,
    ⟨some 53, none, .inl (.faddr 3 (.v 3))⟩,
    ⟨some 54, none, .inl (.load 1 false (.v 53))⟩,
    ⟨some 55, none, .inl (.mov (.v 5))⟩,
    ⟨some 56, none, .inl (.iaddr 2 (.v 54) (.v 55))⟩,
    ⟨some 57, none, .inl (.load 2 true (.v 56))⟩,
    ⟨some 58, none, .inl (.eqs [1, 0] true (.v 52) (.v 57))⟩]) (.cond (.v 58) (.seq (.ops [4] [
    ⟨some 4, none, .inl (.mov (.c (.bool false)))⟩]) (.ret)) (.skip)))) (.ops [2, 3, 5] [
    ⟨some 46, none, .inl (.mov (.v 5))⟩,
    ⟨some 47, none, .inl (.bin .add (.v 46) (.c (.int .i64 1)))⟩,
    ⟨some 5, none, .inl (.mov (.v 47))⟩])))
def r18_Same : AFn := ⟨2, [.slot 4],
  .seq (.ops [2, 3] [
    ⟨some 2, none, .inr (.box (.v 0))⟩,
    ⟨some 3, none, .inr (.box (.v 1))⟩,
    ⟨some 4, none, .inl (.mov (.c (.bool false)))⟩]) (.seq (.seq (.ops [2, 3, 40] [
    ⟨some 6, none, .inl (.faddr 0 (.v 2))⟩,
    ⟨some 7, none, .inl (.load 1 false (.v 6))⟩,
    ⟨some 8, none, .inl (.faddr 0 (.v 3))⟩,
    ⟨some 9, none, .inl (.load 1 false (.v 8))⟩,
    ⟨some 10, none, .inl (.bin .neq (.v 7) (.v 9))⟩,
    ⟨some 11, none, .inl (.mov (.v 10))⟩,
    ⟨some 12, (some (11, false)), .inl (.faddr 1 (.v 2))⟩,
    ⟨some 13, (some (11, false)), .inl (.load 1 false (.v 12))⟩,
    ⟨some 14, (some (11, false)), .inl (.faddr 1 (.v 3))⟩,
    ⟨some 15, (some (11, false)), .inl (.load 1 false (.v 14))⟩,
    ⟨some 16, (some (11, false)), .inl (.bin .neq (.v 13) (.v 15))⟩,
    ⟨some 17, none, .inl (.pick (.v 11) (.c (.bool true)) (.v 16))⟩,
    ⟨some 18, none, .inl (.mov (.v 17))⟩,
    ⟨some 19, (some (18, false)), .inl (.faddr 2 (.v 2))⟩,
    ⟨some 20, (some (18, false)), .inl (.load 1 false (.v 19))⟩,
    ⟨some 21, (some (18, false)), .inl (.faddr 2 (.v 3))⟩,
    ⟨some 22, (some (18, false)), .inl (.load 1 false (.v 21))⟩,
    ⟨some 23, (some (18, false)), .inl (.bin .neq (.v 20) (.v 22))⟩,
    ⟨some 24, none, .inl (.pick (.v 18) (.c (.bool true)) (.v 23))⟩,
    ⟨some 25, none, .inl (.mov (.v 24))⟩,
    ⟨some 26, (some (25, false)), .inl (.faddr 4 (.v 2))⟩,
    ⟨some 27, (some (25, false)), .inl (.load 1 false (.v 26))⟩,
    ⟨some 28, (some (25, false)), .inl (.faddr 4 (.v 3))⟩,
    ⟨some 29, (some (25, false)), .inl (.load 1 false (.v 28))⟩,
    ⟨some 30, (some (25, false)), .inl (.bin .neq (.v 27) (.v 29))⟩,
    ⟨some 31, none, .inl (.pick (.v 25) (.c (.bool true)) (.v 30))⟩,
    ⟨some 32, none, .inl (.mov (.v 31))⟩,
    ⟨some 33, (some (32, false)), .inl (.faddr 3 (.v 2))⟩,
    ⟨some 34, (some (32, false)), .inl (.load 1 false (.v 33))⟩,
    ⟨some 35, (some (32, false)), .inl (.len false (.v 34))⟩,
    ⟨some 36, (some (32, false)), .inl (.faddr 3 (.v 3))⟩,
    ⟨some 37, (some (32, false)), .inl (.load 1 false (.v 36))⟩,
    ⟨some 38, (some (32, false)), .inl (.len false (.v 37))⟩,
    ⟨some 39, (some (32, false)), .inl (.bin .neq (.v 35) (.v 38))⟩,
    ⟨some 40, none, .inl (.pick (.v 32) (.c (.bool true)) (.v 39))⟩]) (.cond (.v 40) (.seq (.ops [4] [
    ⟨some 4, none, .inl (.mov (.c (.bool false)))⟩]) (.ret)) (.skip))) (.seq (.seq (.ops [2, 3, 5] [
    ⟨some 5, none, .inl (.mov (.c (.int .i64 0)))⟩]) (.block [] 0 (r18_Same_l1))) (.seq (.ops [4] [
    ⟨some 4, none, .inl (.mov (.c (.bool true)))⟩]) (.ret))))⟩

def series_Label : AFn := ⟨2, [.slot 4],
  .seq (.ops [0, 1] [
    ⟨some 4, none, .inl (.mov (.c (.str [])))⟩]) (.seq (.ops [4] [
    ⟨some 5, none, .inl (.mov (.v 0))⟩,
    ⟨some 6, none, .inl (.bin .add (.v 5) (.c (.str [40])))⟩,
    ⟨some 7, none, .inl (.mov (.v 1))⟩,
    ⟨some 8, none, .inl (.call (.f 48) [(.v 7), (.c (.str [44]))])⟩,
    ⟨some 9, none, .inl (.bin .add (.v 6) (.v 8))⟩,
    ⟨some 10, none, .inl (.bin .add (.v 9) (.c (.str [41])))⟩,
    ⟨some 4, none, .inl (.mov (.v 10))⟩]) (.ret))⟩

def series_Is : AFn := ⟨1, [.slot 2],
  .seq (.ops [1] [
    ⟨some 1, none, .inr (.box (.v 0))⟩,
    ⟨some 2, none, .inl (.mov (.c (.bool false)))⟩]) (.seq (.ops [2] [
    ⟨some 3, none, .inl (.faddr 0 (.v 1))⟩,
    ⟨some 4, none, .inl (.load 1 false (.v 3))⟩,
    ⟨some 5, none, .inl (.len true (.v 4))⟩,
    ⟨some 6, none, .inl (.bin .leq (.v 5) (.c (.int .i64 4096)))⟩,
    ⟨some 7, none, .inl (.mov (.v 6))⟩,
    ⟨some 8, (some (7, true)), .inl (.faddr 1 (.v 1))⟩,
    ⟨some 9, (some (7, true)), .inl (.load 1 false (.v 8))⟩,
    ⟨some 10, (some (7, true)), .inl (.bin .geq (.v 9) (.c (.int .i64 0)))⟩,
    ⟨some 11, none, .inl (.pick (.v 7) (.v 10) (.c (.bool false)))⟩,
    ⟨some 12, none, .inl (.mov (.v 11))⟩,
    ⟨some 13, (some (12, true)), .inl (.faddr 1 (.v 1))⟩,
    ⟨some 14, (some (12, true)), .inl (.load 1 false (.v 13))⟩,
    ⟨some 15, (some (12, true)), .inl (.bin .leq (.v 14) (.c (.int .i64 4294967295)))⟩,
    ⟨some 16, none, .inl (.pick (.v 12) (.v 15) (.c (.bool false)))⟩,
    ⟨some 17, none, .inl (.mov (.v 16))⟩,
    ⟨some 18, (some (17, true)), .inl (.faddr 2 (.v 1))⟩,
    ⟨some 19, (some (17, true)), .inl (.load 1 false (.v 18))⟩,
    ⟨some 20, (some (17, true)), .inl (.bin .geq (.v 19) (.c (.int .i64 1)))⟩,
    ⟨some 21, none, .inl (.pick (.v 17) (.v 20) (.c (.bool false)))⟩,
    ⟨some 22, none, .inl (.mov (.v 21))⟩,
    ⟨some 23, (some (22, true)), .inl (.faddr 2 (.v 1))⟩,
    ⟨some 24, (some (22, true)), .inl (.load 1 false (.v 23))⟩,
    ⟨some 25, (some (22, true)), .inl (.bin .leq (.v 24) (.c (.int .i64 1099511627776)))⟩,
    ⟨some 26, none, .inl (.pick (.v 22) (.v 25) (.c (.bool false)))⟩,
    ⟨some 27, none, .inl (.mov (.v 26))⟩,
    ⟨some 28, (some (27, true)), .inl (.faddr 3 (.v 1))⟩,
    ⟨some 29, (some (27, true)), .inl (.load 1 false (.v 28))⟩,
    ⟨some 30, (some (27, true)), .inl (.len false (.v 29))⟩,
    ⟨some 31, (some (27, true)), .inl (.bin .leq (.v 30) (.c (.int .i64 131072)))⟩,
    ⟨some 32, none, .inl (.pick (.v 27) (.v 31) (.c (.bool false)))⟩,
    ⟨some 33, none, .inl (.mov (.v 32))⟩,
    ⟨some 34, (some (33, true)), .inl (.faddr 4 (.v 1))⟩,
    ⟨some 35, (some (33, true)), .inl (.load 1 false (.v 34))⟩,
    ⟨some 36, (some (33, true)), .inl (.bin .geq (.v 35) (.c (.int .i64 0)))⟩,
    ⟨some 37, none, .inl (.pick (.v 33) (.v 36) (.c (.bool false)))⟩,
    ⟨some 38, none, .inl (.mov (.v 37))⟩,
    ⟨some 39, (some (38, true)), .inl (.faddr 4 (.v 1))⟩,
    ⟨some 40, (some (38, true)), .inl (.load 1 false (.v 39))⟩,
    ⟨some 41, (some (38, true)), .inl (.bin .leq (.v 40) (.c (.int .i64 5)))⟩,
    ⟨some 42, none, .inl (.pick (.v 38) (.v 41) (.c (.bool false)))⟩,
    ⟨some 43, none, .inl (.mov (.v 42))⟩,
    ⟨some 44, (some (43, true)), .inl (.faddr 3 (.v 1))⟩,
    ⟨some 45, (some (43, true)), .inl (.load 1 false (.v 44))⟩,
    ⟨some 46, (some (43, true)), .inl (.call (.f 118) [(.v 45), (.f 119)])⟩,
    ⟨some 47, (some (43, true)), .inl (.un .not (.v 46))⟩,
    ⟨some 48, none, .inl (.pick (.v 43) (.v 47) (.c (.bool false)))⟩,
    ⟨some 2, none, .inl (.mov (.v 48))⟩]) (.ret))⟩

def fwin_does : AFn := ⟨1, [.slot 2],
  .seq (.ops [0] [
    ⟨some 2, none, .inl (.mov (.c (.nilfn)))⟩]) (.seq (.ops [0, 3] [
    ⟨some 3, none, .inl (.mov (.f 117))⟩]) (.seq (.seq (.ops [3, 4] [
    ⟨some 4, none, .inl (.mov (.v 0))⟩]) (.block [] 0 (.seq (.ops [3, 4, 5] [
    ⟨some 6, none, .inl (.bin .eql (.v 4) (.c (.str [109, 111, 118, 105, 110, 103, 65, 118, 101, 114, 97, 103, 101])))⟩,
    ⟨some 5, none, .inl (.mov (.v 6))⟩]) (.cond (.v 5) (.seq (.ops [2] [
    ⟨some 7, none, .inl (.mov (.v 3))⟩,
    ⟨some 8, none, .inr (.callf (.v 7) [(.c (.int .i64 1))])⟩,
    ⟨some 2, none, .inl (.mov (.v 8))⟩]) (.ret)) (.seq (.ops [3, 4, 9] [
    ⟨some 10, none, .inl (.bin .eql (.v 4) (.c (.str [109, 111, 118, 105, 110, 103, 77, 105, 110])))⟩,
    ⟨some 9, none, .inl (.mov (.v 10))⟩]) (.cond (.v 9) (.seq (.ops [2] [
    ⟨some 11, none, .inl (.mov (.v 3))⟩,
    ⟨some 12, none, .inr (.callf (.v 11) [(.c (.int .i64 5))])⟩,
    ⟨some 2, none, .inl (.mov (.v 12))⟩]) (.ret)) (.seq (.ops [3, 4, 13] [
    ⟨some 14, none, .inl (.bin .eql (.v 4) (.c (.str [109, 111, 118, 105, 110, 103, 77, 97, 120])))⟩,
    ⟨some 13, none, .inl (.mov (.v 14))⟩]) (.cond (.v 13) (.seq (.ops [2] [
    ⟨some 15, none, .inl (.mov (.v 3))⟩,
    ⟨some 16, none, .inr (.callf (.v 15) [(.c (.int .i64 4))])⟩,
    ⟨some 2, none, .inl (.mov (.v 16))⟩]) (.ret)) (.seq (.ops [3, 4, 17] [
    ⟨some 18, none, .inl (.bin .eql (.v 4) (.c (.str [109, 111, 118, 105, 110, 103, 83, 117, 109])))⟩,
    ⟨some 17, none, .inl (.mov (.v 18))⟩]) (.cond (.v 17) (.seq (.ops [2] [
    ⟨some 19, none, .inl (.mov (.v 3))⟩,
    ⟨some 20, none, .inr (.callf (.v 19) [(.c (.int .i64 2))])⟩,
    ⟨some 2, none, .inl (.mov (.v 20))⟩]) (.ret)) (.seq (.ops [4, 21] [
    ⟨some 22, none, .inl (.bin .eql (.v 4) (.c (.str [109, 111, 118, 105, 110, 103, 77, 101, 100, 105, 97, 110])))⟩,
    ⟨some 21, none, .inl (.mov (.v 22))⟩]) (.cond (.v 21) (.seq (.ops [2] [
    ⟨some 2, none, .inl (.mov (.f 115))⟩]) (.ret)) (.seq (.ops [23] [
    ⟨some 24, none, .inl (.bin .eql (.v 4) (.c (.str [115, 116, 100, 101, 118])))⟩,
    ⟨some 23, none, .inl (.mov (.v 24))⟩]) (.cond (.v 23) (.seq (.ops [2] [
    ⟨some 2, none, .inl (.mov (.f 116))⟩]) (.ret)) (.skip))))))))))))))) (.seq (.ops [2] [
    ⟨some 2, none, .inl (.mov (.c (.nilfn)))⟩]) (.ret))))⟩

def dec_Digits : AFn := ⟨1, [.slot 2],
  .seq (.ops [0] [
    ⟨some 2, none, .inl (.mov (.c (.str [])))⟩]) (.seq (.ops [2] [
    ⟨some 3, none, .inl (.mov (.v 0))⟩,
    ⟨some 4, none, .inl (.call (.f 114) [(.v 3)])⟩,
    ⟨some 2, none, .inl (.mov (.v 4))⟩]) (.ret))⟩

def fwin_window_at : AFn := ⟨2, [.slot 4],
  .seq (.ops [1, 2] [
    ⟨some 2, none, .inr (.box (.v 0))⟩,
    ⟨some 4, none, .inl (.mov (.c (.sl .nil 2 [])))⟩]) (.seq (.ops [4] [
    ⟨some 5, none, .inl (.faddr 0 (.v 2))⟩,
    ⟨some 6, none, .inl (.faddr 3 (.v 5))⟩,
    ⟨some 7, none, .inl (.load 1 false (.v 6))⟩,
    ⟨some 8, none, .inl (.mov (.v 1))⟩,
    ⟨some 9, none, .inl (.bin .add (.v 8) (.c (.int .i64 1)))⟩,
    ⟨some 10, none, .inl (.faddr 5 (.v 2))⟩,
    ⟨some 11, none, .inl (.load 1 false (.v 10))⟩,
    ⟨some 12, none, .inl (.bin .sub (.v 9) (.v 11))⟩,
    ⟨some 13, none, .inl (.minmax true [(.c (.int .i64 0)), (.v 12)])⟩,
    ⟨some 14, none, .inl (.mov (.v 1))⟩,
    ⟨some 15, none, .inl (.bin .add (.v 14) (.c (.int .i64 1)))⟩,
    ⟨some 16, none, .inr (.slicef 2 (.v 7) (some (.v 13)) (some (.v 15)))⟩,
    ⟨some 4, none, .inl (.mov (.v 16))⟩]) (.ret))⟩

def r1_Known : AFn := ⟨1, [.slot 2],
  .seq (.ops [1] [
    ⟨some 1, none, .inr (.box (.v 0))⟩,
    ⟨some 2, none, .inl (.mov (.c (.bool false)))⟩]) (.seq (.ops [2] [
    ⟨some 3, none, .inl (.faddr 0 (.v 1))⟩,
    ⟨some 4, none, .inl (.load 1 false (.v 3))⟩,
    ⟨some 5, none, .inl (.mov (.v 4))⟩,
    ⟨some 6, (some (5, true)), .inl (.load 2 true (.v 1))⟩,
    ⟨some 7, (some (5, true)), .inl (.call (.f 120) [(.v 6)])⟩,
    ⟨some 8, none, .inl (.pick (.v 5) (.v 7) (.c (.bool false)))⟩,
    ⟨some 2, none, .inl (.mov (.v 8))⟩]) (.ret))⟩

def r21_sorted_l1 : Code := .loop [3, 4, 5, 6] false (.seq (.seq (.ops [3, 4, 5, 6, 32] [
    ⟨some 16, none, .inl (.mov (.v 6))⟩,
    ⟨some 17, none, .inl (.mov (.v 4))⟩,
    ⟨some 18, none, .inl (.len false (.v 17))⟩,
    ⟨some 19, none, .inl (.bin .lss (.v 16) (.v 18))⟩,
    ⟨some 20, none, .inl (.mov (.v 19))⟩,
    ⟨some 21, (some (20, true)), .inl (.mov (.v 4))⟩,
    ⟨some 22, (some (20, true)), .inl (.mov (.v 6))⟩,
    ⟨some 23, (some (20, true)), .inl (.iaddr 2 (.v 21) (.v 22))⟩,
    ⟨some 24, (some (20, true)), .inl (.faddr 1 (.v 23))⟩,
    ⟨some 25, (some (20, true)), .inl (.load 1 false (.v 24))⟩,
    ⟨some 26, (some (20, true)), .inl (.mov (.v 3))⟩,
    ⟨some 27, (some (20, true)), .inl (.mov (.v 5))⟩,
    ⟨some 28, (some (20, true)), .inl (.iaddr 2 (.v 26) (.v 27))⟩,
    ⟨some 29, (some (20, true)), .inl (.faddr 1 (.v 28))⟩,
    ⟨some 30, (some (20, true)), .inl (.load 1 false (.v 29))⟩,
    ⟨some 31, (some (20, true)), .inl (.bin .leq (.v 25) (.v 30))⟩,
    ⟨some 32, none, .inl (.pick (.v 20) (.v 31) (.c (.bool false)))⟩]) (.cond (.v 32) (.skip) (.exit 2))) (.block [3, 4, 5, 6] 3 (.ops [3, 4, 5, 6] [
    ⟨some 33, none, .inl (.mov (.v 6))⟩,
    ⟨some 34, none, .inl (.bin .add (.v 33) (.c (.int .i64 1)))⟩,
    ⟨some 6, none, .inl (.mov (.v 34))⟩])))
def r21_sorted_l2 : Code := .loop [3, 4, 5] true (.seq (.seq (.ops [3, 4, 5, 13] [
    ⟨some 10, none, .inl (.mov (.v 5))⟩,
    ⟨some 11, none, .inl (.mov (.v 3))⟩,
    ⟨some 12, none, .inl (.len false (.v 11))⟩,
    ⟨some 13, none, .inl (.bin .lss (.v 10) (.v 12))⟩]) (.cond (.v 13) (.skip) (.exit 0))) (.seq (.block [3, 4, 5] 1 (.seq (.ops [3, 4, 5, 6] [
    ⟨some 6, none, .inl (.mov (.c (.int .i64 0)))⟩]) (.seq (.block [3, 4, 5, 6] 2 (r21_sorted_l1)) (.seq (.ops [3, 4, 5, 6, 7] [
    ⟨some 35, none, .inl (.bslice 2 true 0 [] [])⟩,
    ⟨some 36, none, .inl (.mov (.v 4))⟩,
    ⟨some 37, none, .inl (.mov (.v 6))⟩,
    ⟨some 38, none, .inr (.slicef 2 (.v 36) none (some (.v 37)))⟩,
    ⟨some 39, none, .inr (.append 2 (.v 35) (.v 38))⟩,
    ⟨some 40, none, .inl (.mov (.v 3))⟩,
    ⟨some 41, none, .inl (.mov (.v 5))⟩,
    ⟨some 42, none, .inr (.pureq (.iaddr 2 (.v 40) (.v 41)))⟩,
    ⟨some 43, none, .inr (.pureq (.load 2 true (.v 42)))⟩,
    ⟨some 44, none, .inl (.bslice 2 true 1 [.bool false, .int .i64 0] [⟨0, 2, (.v 43)⟩])⟩,
    ⟨some 45, none, .inr (.append 2 (.v 39) (.v 44))⟩,
    ⟨some 7, none, .inl (.mov (.v 45))⟩]) (.ops [3, 4, 5] [
    ⟨some 46, none, .inl (.mov (.v 7))⟩,
    ⟨some 47, none, .inl (.mov (.v 4))⟩,
    ⟨some 48, none, .inl (.mov (.v 6))⟩,
    ⟨some 49, none, .inr (.slicef 2 (.v 47) (some (.v 48)) none)⟩,
    ⟨some 50, none, .inr (.append 2 (.v 46) (.v 49))⟩,
    ⟨some 4, none, .inl (.mov (.v 50))⟩]))))) (.ops [3, 4, 5] [
    ⟨some 14, none, .inl (.mov (.v 5))⟩,
    ⟨some 15, none, .inl (.bin .add (.v 14) (.c (.int .i64 1)))⟩,
    ⟨some 5, none, .inl (.mov (.v 15))⟩])))
def r21_sorted : AFn := ⟨1, [.slot 2],
  .seq (.ops [0] [
    ⟨some 2, none, .inl (.mov (.c (.sl .nil 2 [])))⟩]) (.seq (.ops [3] [
    ⟨some 8, none, .inl (.mov (.v 0))⟩,
    ⟨some 9, none, .inr (.callf (.f 131) [(.v 8)])⟩,
    ⟨some 3, none, .inl (.mov (.v 9))⟩]) (.seq (.ops [3, 4] [
    ⟨some 4, none, .inl (.mov (.c (.sl .nil 2 [])))⟩]) (.seq (.seq (.ops [3, 4, 5] [
    ⟨some 5, none, .inl (.mov (.c (.int .i64 0)))⟩]) (.block [4] 0 (r21_sorted_l2))) (.seq (.ops [2] [
    ⟨some 51, none, .inl (.mov (.v 4))⟩,
    ⟨some 2, none, .inl (.mov (.v 51))⟩]) (.ret)))))⟩

def r1_Int : AFn := ⟨1, [.cell 2 2 true],
  .seq (.ops [0, 2] [
    ⟨some 2, none, .inr (.alloc [.bool false, .int .i64 0])⟩]) (.seq (.seq (.ops [0, 2, 8] [
    ⟨some 3, none, .inl (.mov (.v 0))⟩,
    ⟨some 4, none, .inl (.bin .lss (.v 3) (.c (.int .i64 (-4611686018427))))⟩,
    ⟨some 5, none, .inl (.mov (.v 4))⟩,
    ⟨some 6, (some (5, false)), .inl (.mov (.v 0))⟩,
    ⟨some 7, (some (5, false)), .inl (.bin .gtr (.v 6) (.c (.int .i64 4611686018427)))⟩,
    ⟨some 8, none, .inl (.pick (.v 5) (.c (.bool true)) (.v 7))⟩]) (.cond (.v 8) (.seq (.ops [2] [
    ⟨some 9, none, .inl (.build [.bool false, .int .i64 0] [])⟩,
    ⟨none, none, .inr (.store 2 (.v 2) (.v 9))⟩]) (.ret)) (.skip))) (.seq (.ops [2] [
    ⟨some 10, none, .inl (.mov (.v 0))⟩,
    ⟨some 11, none, .inl (.bin .mul (.v 10) (.c (.int .i64 1000000)))⟩,
    ⟨some 12, none, .inl (.call (.f 134) [(.v 11)])⟩,
    ⟨none, none, .inr (.store 2 (.v 2) (.v 12))⟩]) (.ret)))⟩

def r1_Div : AFn := ⟨2, [.cell 4 2 true],
  .seq (.ops [2, 3, 4] [
    ⟨some 2, none, .inr (.box (.v 0))⟩,
    ⟨some 3, none, .inr (.box (.v 1))⟩,
    ⟨some 4, none, .inr (.alloc [.bool false, .int .i64 0])⟩]) (.seq (.seq (.ops [2, 3, 4, 10] [
    ⟨some 7, none, .inl (.load 2 true (.v 2))⟩,
    ⟨some 8, none, .inl (.load 2 true (.v 3))⟩,
    ⟨some 9, none, .inl (.call (.f 141) [(.v 7), (.v 8)])⟩,
    ⟨some 10, none, .inl (.un .not (.v 9))⟩]) (.cond (.v 10) (.seq (.ops [4] [
    ⟨some 11, none, .inl (.build [.bool false, .int .i64 0] [])⟩,
    ⟨none, none, .inr (.store 2 (.v 4) (.v 11))⟩]) (.ret)) (.skip))) (.seq (.ops [4, 5, 6] [
    ⟨some 13, none, .inl (.faddr 1 (.v 2))⟩,
    ⟨some 14, none, .inl (.load 1 false (.v 13))⟩,
    ⟨some 15, none, .inl (.faddr 1 (.v 3))⟩,
    ⟨some 16, none, .inl (.load 1 false (.v 15))⟩,
    ⟨some 17, none, .inl (.call (.f 164) [(.v 14), (.c (.int .i64 1000000)), (.v 16)])⟩,
    ⟨some 12, none, .inl (.mov (.v 17))⟩,
    ⟨some 18, none, .inl (.ext (.v 12) 0)⟩,
    ⟨some 19, none, .inl (.ext (.v 12) 1)⟩,
    ⟨some 5, none, .inl (.mov (.v 18))⟩,
    ⟨some 6, none, .inl (.mov (.v 19))⟩]) (.seq (.seq (.ops [4, 5, 21] [
    ⟨some 20, none, .inl (.mov (.v 6))⟩,
    ⟨some 21, none, .inl (.un .not (.v 20))⟩]) (.cond (.v 21) (.seq (.ops [4] [
    ⟨some 22, none, .inl (.build [.bool false, .int .i64 0] [])⟩,
    ⟨none, none, .inr (.store 2 (.v 4) (.v 22))⟩]) (.ret)) (.skip))) (.seq (.ops [4] [
    ⟨some 23, none, .inl (.mov (.v 5))⟩,
    ⟨some 24, none, .inl (.call (.f 134) [(.v 23)])⟩,
    ⟨none, none, .inr (.store 2 (.v 4) (.v 24))⟩]) (.ret)))))⟩

def r1_Add_l1 : Code := .loop [0, 2, 3, 4] false (.seq (.seq (.ops [0, 2, 3, 4, 9] [
    ⟨some 6, none, .inl (.mov (.v 4))⟩,
    ⟨some 7, none, .inl (.mov (.v 0))⟩,
    ⟨some 8, none, .inl (.len false (.v 7))⟩,
    ⟨some 9, none, .inl (.bin .lss (.v 6) (.v 8))⟩]) (.cond (.v 9) (.skip) (.exit 0))) (.seq (.block [0, 2, 3, 4] 1 (.ops [0, 2, 3, 4] [
    ⟨some 12, none, .inl (.load 2 true (.v 3))⟩,
    ⟨some 13, none, .inl (.mov (.v 0))⟩,
    ⟨some 14, none, .inl (.mov (.v 4))⟩,
    ⟨some 15, none, .inl (.iaddr 2 (.v 13) (.v 14))⟩,
    ⟨some 16, none, .inl (.load 2 true (.v 15))⟩,
    ⟨some 17, none, .inl (.call (.f 133) [(.v 12), (.v 16)])⟩,
    ⟨none, none, .inr (.store 2 (.v 3) (.v 17))⟩])) (.ops [0, 2, 3, 4] [
    ⟨some 10, none, .inl (.mov (.v 4))⟩,
    ⟨some 11, none, .inl (.bin .add (.v 10) (.c (.int .i64 1)))⟩,
    ⟨some 4, none, .inl (.mov (.v 11))⟩])))
def r1_Add : AFn := ⟨1, [.cell 2 2 true],
  .seq (.ops [0, 2] [
    ⟨some 2, none, .inr (.alloc [.bool false, .int .i64 0])⟩]) (.seq (.ops [0, 2, 3] [
    ⟨some 5, none, .inl (.call (.f 134) [(.c (.int .i64 0))])⟩,
    ⟨some 3, none, .inr (.alloc [.bool false, .int .i64 0])⟩,
    ⟨none, none, .inr (.store 2 (.v 3) (.v 5))⟩]) (.seq (.seq (.ops [0, 2, 3, 4] [
    ⟨some 4, none, .inl (.mov (.c (.int .i64 0)))⟩]) (.block [2, 3] 0 (r1_Add_l1))) (.seq (.ops [2] [
    ⟨some 18, none, .inl (.load 2 true (.v 3))⟩,
    ⟨none, none, .inr (.store 2 (.v 2) (.v 18))⟩]) (.ret))))⟩

def r6_Of_l1 : Code := .loop [0, 4, 5, 6, 7] false (.seq (.seq (.ops [0, 4, 5, 6, 7, 28] [
    ⟨some 25, none, .inl (.mov (.v 7))⟩,
    ⟨some 26, none, .inl (.mov (.v 5))⟩,
    ⟨some 27, none, .inl (.len false (.v 26))⟩,
    ⟨some 28, none, .inl (.bin .lss (.v 25) (.v 27))⟩]) (.cond (.v 28) (.skip) (.exit 0))) (.seq (.block [0, 4, 5, 6, 7] 1 (.seq (.ops [0, 4, 5, 6, 7, 56] [
    ⟨some 31, none, .inl (.mov (.v 0))⟩,
    ⟨some 32, none, .inl (.bin .eql (.v 31) (.c (.int .i64 4)))⟩,
    ⟨some 33, none, .inl (.mov (.v 32))⟩,
    ⟨some 34, (some (33, true)), .inl (.mov (.v 5))⟩,
    ⟨some 35, (some (33, true)), .inl (.mov (.v 7))⟩,
    ⟨some 36, (some (33, true)), .inl (.iaddr 2 (.v 34) (.v 35))⟩,
    ⟨some 37, (some (33, true)), .inl (.faddr 1 (.v 36))⟩,
    ⟨some 38, (some (33, true)), .inl (.load 1 false (.v 37))⟩,
    ⟨some 39, (some (33, true)), .inl (.faddr 1 (.v 6))⟩,
    ⟨some 40, (some (33, true)), .inl (.load 1 false (.v 39))⟩,
    ⟨some 41, (some (33, true)), .inl (.bin .gtr (.v 38) (.v 40))⟩,
    ⟨some 42, none, .inl (.pick (.v 33) (.v 41) (.c (.bool false)))⟩,
    ⟨some 43, none, .inl (.mov (.v 42))⟩,
    ⟨some 44, (some (43, false)), .inl (.mov (.v 0))⟩,
    ⟨some 45, (some (43, false)), .inl (.bin .eql (.v 44) (.c (.int .i64 5)))⟩,
    ⟨some 46, (some (43, false)), .inl (.mov (.v 45))⟩,
    ⟨some 47, (some (46, true)), .inl (.mov (.v 5))⟩,
    ⟨some 48, (some (46, true)), .inl (.mov (.v 7))⟩,
    ⟨some 49, (some (46, true)), .inl (.iaddr 2 (.v 47) (.v 48))⟩,
    ⟨some 50, (some (46, true)), .inl (.faddr 1 (.v 49))⟩,
    ⟨some 51, (some (46, true)), .inl (.load 1 false (.v 50))⟩,
    ⟨some 52, (some (46, true)), .inl (.faddr 1 (.v 6))⟩,
    ⟨some 53, (some (46, true)), .inl (.load 1 false (.v 52))⟩,
    ⟨some 54, (some (46, true)), .inl (.bin .lss (.v 51) (.v 53))⟩,
    ⟨some 55, (some (43, false)), .inl (.pick (.v 46) (.v 54) (.c (.bool false)))⟩,
    ⟨some 56, none, .inl (.pick (.v 43) (.c (.bool true)) (.v 55))⟩]) (.cond (.v 56) (.ops [0, 4, 5, 6, 7] [
    ⟨some 57, none, .inl (.mov (.v 5))⟩,
    ⟨some 58, none, .inl (.mov (.v 7))⟩,
    ⟨some 59, none, .inl (.iaddr 2 (.v 57) (.v 58))⟩,
    ⟨some 60, none, .inl (.load 2 true (.v 59))⟩,
    ⟨none, none, .inr (.store 2 (.v 6) (.v 60))⟩]) (.skip)))) (.ops [0, 4, 5, 6, 7] [
    ⟨some 29, none, .inl (.mov (.v 7))⟩,
    ⟨some 30, none, .inl (.bin .add (.v 29) (.c (.int .i64 1)))⟩,
    ⟨some 7, none, .inl (.mov (.v 30))⟩])))
def r6_Of : AFn := ⟨2, [.cell 4 2 true],
  .seq (.ops [0, 1, 4] [
    ⟨some 4, none, .inr (.alloc [.bool false, .int .i64 0])⟩]) (.seq (.ops [0, 4, 5] [
    ⟨some 8, none, .inl (.mov (.v 1))⟩,
    ⟨some 9, none, .inr (.callf (.f 131) [(.v 8)])⟩,
    ⟨some 5, none, .inl (.mov (.v 9))⟩]) (.seq (.seq (.ops [0, 4, 5, 20] [
    ⟨some 10, none, .inl (.mov (.v 5))⟩,
    ⟨some 11, none, .inl (.len false (.v 10))⟩,
    ⟨some 12, none, .inl (.bin .eql (.v 11) (.c (.int .i64 0)))⟩,
    ⟨some 13, none, .inl (.mov (.v 12))⟩,
    ⟨some 14, (some (13, false)), .inl (.mov (.v 0))⟩,
    ⟨some 15, (some (13, false)), .inl (.bin .lss (.v 14) (.c (.int .i64 1)))⟩,
    ⟨some 16, none, .inl (.pick (.v 13) (.c (.bool true)) (.v 15))⟩,
    ⟨some 17, none, .inl (.mov (.v 16))⟩,
    ⟨some 18, (some (17, false)), .inl (.mov (.v 0))⟩,
    ⟨some 19, (some (17, false)), .inl (.bin .gtr (.v 18) (.c (.int .i64 5)))⟩,
    ⟨some 20, none, .inl (.pick (.v 17) (.c (.bool true)) (.v 19))⟩]) (.cond (.v 20) (.seq (.ops [4] [
    ⟨some 21, none, .inl (.build [.bool false, .int .i64 0] [])⟩,
    ⟨none, none, .inr (.store 2 (.v 4) (.v 21))⟩]) (.ret)) (.skip))) (.seq (.ops [0, 4, 5, 6] [
    ⟨some 22, none, .inl (.mov (.v 5))⟩,
    ⟨some 23, none, .inl (.iaddr 2 (.v 22) (.c (.int .i64 0)))⟩,
    ⟨some 24, none, .inl (.load 2 true (.v 23))⟩,
    ⟨some 6, none, .inr (.alloc [.bool false, .int .i64 0])⟩,
    ⟨none, none, .inr (.store 2 (.v 6) (.v 24))⟩]) (.seq (.seq (.ops [0, 4, 5, 6, 7] [
    ⟨some 7, none, .inl (.mov (.c (.int .i64 1)))⟩]) (.block [0, 4, 5, 6] 0 (r6_Of_l1))) (.seq (.seq (.ops [4, 5, 6, 61] [
    ⟨some 61, none, .inl (.mov (.v 0))⟩]) (.block [4, 6] 2 (.seq (.ops [4, 5, 6, 61, 62] [
    ⟨some 63, none, .inl (.bin .eql (.v 61) (.c (.int .i64 2)))⟩,
    ⟨some 62, none, .inl (.mov (.v 63))⟩]) (.cond (.v 62) (.seq (.ops [4] [
    ⟨some 64, none, .inl (.mov (.v 5))⟩,
    ⟨some 65, none, .inl (.call (.f 128) [(.v 64)])⟩,
    ⟨none, none, .inr (.store 2 (.v 4) (.v 65))⟩]) (.ret)) (.seq (.ops [4, 5, 6, 61, 66] [
    ⟨some 67, none, .inl (.bin .eql (.v 61) (.c (.int .i64 1)))⟩,
    ⟨some 66, none, .inl (.mov (.v 67))⟩]) (.cond (.v 66) (.seq (.ops [4] [
    ⟨some 68, none, .inl (.mov (.v 5))⟩,
    ⟨some 69, none, .inl (.call (.f 128) [(.v 68)])⟩,
    ⟨some 70, none, .inl (.mov (.v 5))⟩,
    ⟨some 71, none, .inl (.len false (.v 70))⟩,
    ⟨some 72, none, .inl (.call (.f 129) [(.v 71)])⟩,
    ⟨some 73, none, .inl (.call (.f 130) [(.v 69), (.v 72)])⟩,
    ⟨none, none, .inr (.store 2 (.v 4) (.v 73))⟩]) (.ret)) (.seq (.ops [4, 5, 6, 74] [
    ⟨some 75, none, .inl (.bin .eql (.v 61) (.c (.int .i64 3)))⟩,
    ⟨some 74, none, .inl (.mov (.v 75))⟩]) (.cond (.v 74) (.seq (.ops [4] [
    ⟨some 76, none, .inl (.mov (.v 5))⟩,
    ⟨some 77, none, .inl (.mov (.v 5))⟩,
    ⟨some 78, none, .inl (.len false (.v 77))⟩,
    ⟨some 79, none, .inl (.bin .sub (.v 78) (.c (.int .i64 1)))⟩,
    ⟨some 80, none, .inl (.iaddr 2 (.v 76) (.v 79))⟩,
    ⟨some 81, none, .inl (.load 2 true (.v 80))⟩,
    ⟨none, none, .inr (.store 2 (.v 4) (.v 81))⟩]) (.ret)) (.skip))))))))) (.seq (.ops [4] [
    ⟨some 82, none, .inl (.load 2 true (.v 6))⟩,
    ⟨none, none, .inr (.store 2 (.v 4) (.v 82))⟩]) (.ret)))))))⟩

def r6_Known_l1 : Code := .loop [0, 3, 4] false (.seq (.seq (.ops [0, 3, 4, 8] [
    ⟨some 5, none, .inl (.mov (.v 4))⟩,
    ⟨some 6, none, .inl (.mov (.v 0))⟩,
    ⟨some 7, none, .inl (.len false (.v 6))⟩,
    ⟨some 8, none, .inl (.bin .lss (.v 5) (.v 7))⟩]) (.cond (.v 8) (.skip) (.exit 0))) (.seq (.block [0, 3, 4] 1 (.seq (.ops [0, 3, 4, 15] [
    ⟨some 11, none, .inl (.mov (.v 0))⟩,
    ⟨some 12, none, .inl (.mov (.v 4))⟩,
    ⟨some 13, none, .inl (.iaddr 2 (.v 11) (.v 12))⟩,
    ⟨some 14, none, .inl (.load 2 true (.v 13))⟩,
    ⟨some 15, none, .inl (.call (.f 135) [(.v 14)])⟩]) (.cond (.v 15) (.ops [0, 3, 4] [
    ⟨some 16, none, .inl (.mov (.v 3))⟩,
    ⟨some 17, none, .inl (.mov (.v 0))⟩,
    ⟨some 18, none, .inl (.mov (.v 4))⟩,
    ⟨some 19, none, .inl (.iaddr 2 (.v 17) (.v 18))⟩,
    ⟨some 20, none, .inl (.load 2 true (.v 19))⟩,
    ⟨some 21, none, .inl (.bslice 2 true 1 [.bool false, .int .i64 0] [⟨0, 2, (.v 20)⟩])⟩,
    ⟨some 22, none, .inr (.append 2 (.v 16) (.v 21))⟩,
    ⟨some 3, none, .inl (.mov (.v 22))⟩]) (.skip)))) (.ops [0, 3, 4] [
    ⟨some 9, none, .inl (.mov (.v 4))⟩,
    ⟨some 10, none, .inl (.bin .add (.v 9) (.c (.int .i64 1)))⟩,
    ⟨some 4, none, .inl (.mov (.v 10))⟩])))
def r6_Known : AFn := ⟨1, [.slot 2],
  .seq (.ops [0] [
    ⟨some 2, none, .inl (.mov (.c (.sl .nil 2 [])))⟩]) (.seq (.ops [0, 3] [
    ⟨some 3, none, .inr (.newrow 2)⟩]) (.seq (.seq (.ops [0, 3, 4] [
    ⟨some 4, none, .inl (.mov (.c (.int .i64 0)))⟩]) (.block [3] 0 (r6_Known_l1))) (.seq (.ops [2] [
    ⟨some 23, none, .inl (.mov (.v 3))⟩,
    ⟨some 2, none, .inl (.mov (.v 23))⟩]) (.ret))))⟩

def r1_Sub : AFn := ⟨2, [.cell 4 2 true],
  .seq (.ops [2, 3, 4] [
    ⟨some 2, none, .inr (.box (.v 0))⟩,
    ⟨some 3, none, .inr (.box (.v 1))⟩,
    ⟨some 4, none, .inr (.alloc [.bool false, .int .i64 0])⟩]) (.seq (.seq (.ops [2, 3, 4, 8] [
    ⟨some 5, none, .inl (.load 2 true (.v 2))⟩,
    ⟨some 6, none, .inl (.load 2 true (.v 3))⟩,
    ⟨some 7, none, .inl (.call (.f 141) [(.v 5), (.v 6)])⟩,
    ⟨some 8, none, .inl (.un .not (.v 7))⟩]) (.cond (.v 8) (.seq (.ops [4] [
    ⟨some 9, none, .inl (.build [.bool false, .int .i64 0] [])⟩,
    ⟨none, none, .inr (.store 2 (.v 4) (.v 9))⟩]) (.ret)) (.skip))) (.seq (.ops [4] [
    ⟨some 10, none, .inl (.load 2 true (.v 2))⟩,
    ⟨some 11, none, .inl (.faddr 1 (.v 3))⟩,
    ⟨some 12, none, .inl (.load 1 false (.v 11))⟩,
    ⟨some 13, none, .inl (.un .neg (.v 12))⟩,
    ⟨some 14, none, .inl (.call (.f 134) [(.v 13)])⟩,
    ⟨some 15, none, .inl (.call (.f 133) [(.v 10), (.v 14)])⟩,
    ⟨none, none, .inr (.store 2 (.v 4) (.v 15))⟩]) (.ret)))⟩

def r1_Sqrt_l1 : Code := .loop [2, 3, 4, 5, 6] false (.seq (.seq (.ops [2, 3, 4, 5, 6, 27] [
    ⟨some 26, none, .inl (.mov (.v 6))⟩,
    ⟨some 27, none, .inl (.bin .geq (.v 26) (.c (.int .i64 0)))⟩]) (.cond (.v 27) (.skip) (.exit 0))) (.seq (.block [2, 3, 4, 5, 6] 1 (.seq (.ops [2, 3, 4, 5, 6, 7] [
    ⟨some 30, none, .inl (.mov (.v 5))⟩,
    ⟨some 31, none, .inl (.mov (.v 6))⟩,
    ⟨some 32, none, .inl (.conv .u64 (.v 31))⟩,
    ⟨some 33, none, .inl (.bin .shl (.c (.int .u64 1)) (.v 32))⟩,
    ⟨some 34, none, .inl (.bin .or (.v 30) (.v 33))⟩,
    ⟨some 7, none, .inl (.mov (.v 34))⟩]) (.seq (.ops [2, 3, 4, 5, 6, 7, 8, 9] [
    ⟨some 36, none, .inl (.mov (.v 7))⟩,
    ⟨some 37, none, .inl (.mov (.v 7))⟩,
    ⟨some 38, none, .inl (.call (.f 168) [(.v 36), (.v 37)])⟩,
    ⟨some 35, none, .inl (.mov (.v 38))⟩,
    ⟨some 39, none, .inl (.ext (.v 35) 0)⟩,
    ⟨some 40, none, .inl (.ext (.v 35) 1)⟩,
    ⟨some 8, none, .inl (.mov (.v 39))⟩,
    ⟨some 9, none, .inl (.mov (.v 40))⟩]) (.seq (.ops [2, 3, 4, 5, 6, 7, 53] [
    ⟨some 41, none, .inl (.mov (.v 8))⟩,
    ⟨some 42, none, .inl (.mov (.v 3))⟩,
    ⟨some 43, none, .inl (.bin .lss (.v 41) (.v 42))⟩,
    ⟨some 44, none, .inl (.mov (.v 43))⟩,
    ⟨some 45, (some (44, false)), .inl (.mov (.v 8))⟩,
    ⟨some 46, (some (44, false)), .inl (.mov (.v 3))⟩,
    ⟨some 47, (some (44, false)), .inl (.bin .eql (.v 45) (.v 46))⟩,
    ⟨some 48, (some (44, false)), .inl (.mov (.v 47))⟩,
    ⟨some 49, (some (48, true)), .inl (.mov (.v 9))⟩,
    ⟨some 50, (some (48, true)), .inl (.mov (.v 4))⟩,
    ⟨some 51, (some (48, true)), .inl (.bin .leq (.v 49) (.v 50))⟩,
    ⟨some 52, (some (44, false)), .inl (.pick (.v 48) (.v 51) (.c (.bool false)))⟩,
    ⟨some 53, none, .inl (.pick (.v 44) (.c (.bool true)) (.v 52))⟩]) (.cond (.v 53) (.ops [2, 3, 4, 5, 6] [
    ⟨some 54, none, .inl (.mov (.v 7))⟩,
    ⟨some 5, none, .inl (.mov (.v 54))⟩]) (.skip)))))) (.ops [2, 3, 4, 5, 6] [
    ⟨some 28, none, .inl (.mov (.v 6))⟩,
    ⟨some 29, none, .inl (.bin .sub (.v 28) (.c (.int .i64 1)))⟩,
    ⟨some 6, none, .inl (.mov (.v 29))⟩])))
def r1_Sqrt : AFn := ⟨1, [.cell 2 2 true],
  .seq (.ops [1, 2] [
    ⟨some 1, none, .inr (.box (.v 0))⟩,
    ⟨some 2, none, .inr (.alloc [.bool false, .int .i64 0])⟩]) (.seq (.seq (.ops [1, 2, 17] [
    ⟨some 10, none, .inl (.load 2 true (.v 1))⟩,
    ⟨some 11, none, .inl (.call (.f 135) [(.v 10)])⟩,
    ⟨some 12, none, .inl (.un .not (.v 11))⟩,
    ⟨some 13, none, .inl (.mov (.v 12))⟩,
    ⟨some 14, (some (13, false)), .inl (.faddr 1 (.v 1))⟩,
    ⟨some 15, (some (13, false)), .inl (.load 1 false (.v 14))⟩,
    ⟨some 16, (some (13, false)), .inl (.bin .lss (.v 15) (.c (.int .i64 0)))⟩,
    ⟨some 17, none, .inl (.pick (.v 13) (.c (.bool true)) (.v 16))⟩]) (.cond (.v 17) (.seq (.ops [2] [
    ⟨some 18, none, .inl (.build [.bool false, .int .i64 0] [])⟩,
    ⟨none, none, .inr (.store 2 (.v 2) (.v 18))⟩]) (.ret)) (.skip))) (.seq (.ops [2, 3, 4] [
    ⟨some 20, none, .inl (.faddr 1 (.v 1))⟩,
    ⟨some 21, none, .inl (.load 1 false (.v 20))⟩,
    ⟨some 22, none, .inl (.conv .u64 (.v 21))⟩,
    ⟨some 23, none, .inl (.call (.f 168) [(.v 22), (.c (.int .u64 1000000))])⟩,
    ⟨some 19, none, .inl (.mov (.v 23))⟩,
    ⟨some 24, none, .inl (.ext (.v 19) 0)⟩,
    ⟨some 25, none, .inl (.ext (.v 19) 1)⟩,
    ⟨some 3, none, .inl (.mov (.v 24))⟩,
    ⟨some 4, none, .inl (.mov (.v 25))⟩]) (.seq (.ops [2, 3, 4, 5] [
    ⟨some 5, none, .inl (.mov (.c (.int .u64 0)))⟩]) (.seq (.seq (.ops [2, 3, 4, 5, 6] [
    ⟨some 6, none, .inl (.mov (.c (.int .i64 41)))⟩]) (.block [2, 5] 0 (r1_Sqrt_l1))) (.seq (.ops [2] [
    ⟨some 55, none, .inl (.mov (.v 5))⟩,
    ⟨some 56, none, .inl (.conv .i64 (.v 55))⟩,
    ⟨some 57, none, .inl (.call (.f 134) [(.v 56)])⟩,
    ⟨none, none, .inr (.store 2 (.v 2) (.v 57))⟩]) (.ret))))))⟩

def r1_Mul : AFn := ⟨2, [.cell 4 2 true],
  .seq (.ops [2, 3, 4] [
    ⟨some 2, none, .inr (.box (.v 0))⟩,
    ⟨some 3, none, .inr (.box (.v 1))⟩,
    ⟨some 4, none, .inr (.alloc [.bool false, .int .i64 0])⟩]) (.seq (.seq (.ops [2, 3, 4, 10] [
    ⟨some 7, none, .inl (.load 2 true (.v 2))⟩,
    ⟨some 8, none, .inl (.load 2 true (.v 3))⟩,
    ⟨some 9, none, .inl (.call (.f 141) [(.v 7), (.v 8)])⟩,
    ⟨some 10, none, .inl (.un .not (.v 9))⟩]) (.cond (.v 10) (.seq (.ops [4] [
    ⟨some 11, none, .inl (.build [.bool false, .int .i64 0] [])⟩,
    ⟨none, none, .inr (.store 2 (.v 4) (.v 11))⟩]) (.ret)) (.skip))) (.seq (.ops [4, 5, 6] [
    ⟨some 13, none, .inl (.faddr 1 (.v 2))⟩,
    ⟨some 14, none, .inl (.load 1 false (.v 13))⟩,
    ⟨some 15, none, .inl (.faddr 1 (.v 3))⟩,
    ⟨some 16, none, .inl (.load 1 false (.v 15))⟩,
    ⟨some 17, none, .inl (.call (.f 164) [(.v 14), (.v 16), (.c (.int .i64 1000000))])⟩,
    ⟨some 12, none, .inl (.mov (.v 17))⟩,
    ⟨some 18, none, .inl (.ext (.v 12) 0)⟩,
    ⟨some 19, none, .inl (.ext (.v 12) 1)⟩,
    ⟨some 5, none, .inl (.mov (.v 18))⟩,
    ⟨some 6, none, .inl (.mov (.v 19))⟩]) (.seq (.seq (.ops [4, 5, 21] [
    ⟨some 20, none, .inl (.mov (.v 6))⟩,
    ⟨some 21, none, .inl (.un .not (.v 20))⟩]) (.cond (.v 21) (.seq (.ops [4] [
    ⟨some 22, none, .inl (.build [.bool false, .int .i64 0] [])⟩,
    ⟨none, none, .inr (.store 2 (.v 4) (.v 22))⟩]) (.ret)) (.skip))) (.seq (.ops [4] [
    ⟨some 23, none, .inl (.mov (.v 5))⟩,
    ⟨some 24, none, .inl (.call (.f 134) [(.v 23)])⟩,
    ⟨none, none, .inr (.store 2 (.v 4) (.v 24))⟩]) (.ret)))))⟩

def fwin_sorted : AFn := ⟨1, [.slot 2],
  .seq (.ops [0] [
    ⟨some 2, none, .inl (.mov (.c (.sl .nil 2 [])))⟩]) (.seq (.ops [3] [
    ⟨some 4, none, .inl (.mov (.v 0))⟩,
    ⟨some 5, none, .inr (.calls (.f 140) [(.v 4)])⟩,
    ⟨some 3, none, .inl (.mov (.v 5))⟩]) (.seq (.ops [3] [
    ⟨some 6, none, .inl (.mov (.v 3))⟩,
    ⟨some 7, none, .inr (.calls (.f 182) [(.v 6), (.f 183)])⟩]) (.seq (.ops [2] [
    ⟨some 8, none, .inl (.mov (.v 3))⟩,
    ⟨some 2, none, .inl (.mov (.v 8))⟩]) (.ret))))⟩

def fixed_Int : AFn := ⟨1, [.cell 2 2 true],
  .seq (.ops [0, 2] [
    ⟨some 2, none, .inr (.alloc [.bool false, .int .i64 0])⟩]) (.seq (.seq (.ops [0, 2, 8] [
    ⟨some 3, none, .inl (.mov (.v 0))⟩,
    ⟨some 4, none, .inl (.bin .gtr (.v 3) (.c (.int .i64 4611686018427)))⟩,
    ⟨some 5, none, .inl (.mov (.v 4))⟩,
    ⟨some 6, (some (5, false)), .inl (.mov (.v 0))⟩,
    ⟨some 7, (some (5, false)), .inl (.bin .lss (.v 6) (.c (.int .i64 (-4611686018427))))⟩,
    ⟨some 8, none, .inl (.pick (.v 5) (.c (.bool true)) (.v 7))⟩]) (.cond (.v 8) (.seq (.ops [2] [
    ⟨some 9, none, .inl (.build [.bool false, .int .i64 0] [])⟩,
    ⟨none, none, .inr (.store 2 (.v 2) (.v 9))⟩]) (.ret)) (.skip))) (.seq (.ops [2] [
    ⟨some 10, none, .inl (.mov (.v 0))⟩,
    ⟨some 11, none, .inl (.bin .mul (.v 10) (.c (.int .i64 1000000)))⟩,
    ⟨some 12, none, .inl (.call (.f 143) [(.v 11)])⟩,
    ⟨none, none, .inr (.store 2 (.v 2) (.v 12))⟩]) (.ret)))⟩

def fixed_Div : AFn := ⟨2, [.cell 4 2 true],
  .seq (.ops [2, 3, 4] [
    ⟨some 2, none, .inr (.box (.v 0))⟩,
    ⟨some 3, none, .inr (.box (.v 1))⟩,
    ⟨some 4, none, .inr (.alloc [.bool false, .int .i64 0])⟩]) (.seq (.seq (.ops [2, 3, 4, 12] [
    ⟨some 5, none, .inl (.load 2 true (.v 2))⟩,
    ⟨some 6, none, .inl (.call (.f 146) [(.v 5)])⟩,
    ⟨some 7, none, .inl (.un .not (.v 6))⟩,
    ⟨some 8, none, .inl (.mov (.v 7))⟩,
    ⟨some 9, (some (8, false)), .inl (.load 2 true (.v 3))⟩,
    ⟨some 10, (some (8, false)), .inl (.call (.f 146) [(.v 9)])⟩,
    ⟨some 11, (some (8, false)), .inl (.un .not (.v 10))⟩,
    ⟨some 12, none, .inl (.pick (.v 8) (.c (.bool true)) (.v 11))⟩]) (.cond (.v 12) (.seq (.ops [4] [
    ⟨some 13, none, .inl (.build [.bool false, .int .i64 0] [])⟩,
    ⟨none, none, .inr (.store 2 (.v 4) (.v 13))⟩]) (.ret)) (.skip))) (.seq (.ops [4] [
    ⟨some 14, none, .inl (.faddr 1 (.v 2))⟩,
    ⟨some 15, none, .inl (.load 1 false (.v 14))⟩,
    ⟨some 16, none, .inl (.faddr 1 (.v 3))⟩,
    ⟨some 17, none, .inl (.load 1 false (.v 16))⟩,
    ⟨some 18, none, .inl (.call (.f 144) [(.v 15), (.c (.int .i64 1000000)), (.v 17)])⟩,
    ⟨some 19, none, .inl (.ext (.v 18) 0)⟩,
    ⟨some 20, none, .inl (.ext (.v 18) 1)⟩,
    ⟨some 21, none, .inl (.call (.f 145) [(.v 19), (.v 20)])⟩,
    ⟨none, none, .inr (.store 2 (.v 4) (.v 21))⟩]) (.ret)))⟩

def fixed_Add_l1 : Code := .loop [2, 3, 7, 8, 9] true (.seq (.ops [2, 3, 7, 8, 9, 10] [
    ⟨some 10, none, .inl (.bin .lss (.v 9) (.v 8))⟩]) (.seq (.cond (.v 10) (.skip) (.exit 0)) (.seq (.block [2, 3, 7, 8, 9] 1 (.seq (.ops [2, 3, 5, 7, 8, 9] [
    ⟨some 11, none, .inl (.iaddr 2 (.v 7) (.v 9))⟩,
    ⟨some 12, none, .inl (.load 2 true (.v 11))⟩,
    ⟨some 5, none, .inr (.alloc [.bool false, .int .i64 0])⟩,
    ⟨none, none, .inr (.store 2 (.v 5) (.v 12))⟩]) (.ops [2, 3, 7, 8, 9] [
    ⟨some 13, none, .inl (.load 2 true (.v 3))⟩,
    ⟨some 14, none, .inl (.load 2 true (.v 5))⟩,
    ⟨some 15, none, .inl (.call (.f 142) [(.v 13), (.v 14)])⟩,
    ⟨none, none, .inr (.store 2 (.v 3) (.v 15))⟩]))) (.ops [2, 3, 7, 8, 9] [
    ⟨some 16, none, .inl (.bin .add (.v 9) (.c (.int .i64 1)))⟩,
    ⟨some 9, none, .inl (.mov (.v 16))⟩]))))
def fixed_Add : AFn := ⟨1, [.cell 2 2 true],
  .seq (.ops [0, 2] [
    ⟨some 2, none, .inr (.alloc [.bool false, .int .i64 0])⟩]) (.seq (.ops [0, 2, 3] [
    ⟨some 6, none, .inl (.call (.f 143) [(.c (.int .i64 0))])⟩,
    ⟨some 3, none, .inr (.alloc [.bool false, .int .i64 0])⟩,
    ⟨none, none, .inr (.store 2 (.v 3) (.v 6))⟩]) (.seq (.seq (.ops [2, 3, 7, 8, 9] [
    ⟨some 7, none, .inl (.mov (.v 0))⟩,
    ⟨some 8, none, .inl (.len false (.v 7))⟩,
    ⟨some 9, none, .inl (.mov (.c (.int .i64 0)))⟩]) (.block [2, 3] 0 (fixed_Add_l1))) (.seq (.ops [2] [
    ⟨some 17, none, .inl (.load 2 true (.v 3))⟩,
    ⟨none, none, .inr (.store 2 (.v 2) (.v 17))⟩]) (.ret))))⟩

def fixed_Sub : AFn := ⟨2, [.cell 4 2 true],
  .seq (.ops [2, 3, 4] [
    ⟨some 2, none, .inr (.box (.v 0))⟩,
    ⟨some 3, none, .inr (.box (.v 1))⟩,
    ⟨some 4, none, .inr (.alloc [.bool false, .int .i64 0])⟩]) (.seq (.seq (.ops [2, 3, 4, 7] [
    ⟨some 5, none, .inl (.load 2 true (.v 3))⟩,
    ⟨some 6, none, .inl (.call (.f 146) [(.v 5)])⟩,
    ⟨some 7, none, .inl (.un .not (.v 6))⟩]) (.cond (.v 7) (.seq (.ops [4] [
    ⟨some 8, none, .inl (.build [.bool false, .int .i64 0] [])⟩,
    ⟨none, none, .inr (.store 2 (.v 4) (.v 8))⟩]) (.ret)) (.skip))) (.seq (.ops [4] [
    ⟨some 9, none, .inl (.load 2 true (.v 2))⟩,
    ⟨some 10, none, .inl (.faddr 1 (.v 3))⟩,
    ⟨some 11, none, .inl (.load 1 false (.v 10))⟩,
    ⟨some 12, none, .inl (.un .neg (.v 11))⟩,
    ⟨some 13, none, .inl (.call (.f 143) [(.v 12)])⟩,
    ⟨some 14, none, .inl (.call (.f 142) [(.v 9), (.v 13)])⟩,
    ⟨none, none, .inr (.store 2 (.v 4) (.v 14))⟩]) (.ret)))⟩

def fixed_Sqrt_l1 : Code := .loop [2, 3, 4, 5, 6] false (.seq (.seq (.ops [2, 3, 4, 5, 6, 27] [
    ⟨some 26, none, .inl (.mov (.v 6))⟩,
    ⟨some 27, none, .inl (.bin .gtr (.v 26) (.c (.int .u64 0)))⟩]) (.cond (.v 27) (.skip) (.exit 0))) (.seq (.block [2, 3, 4, 5, 6] 1 (.seq (.ops [2, 3, 4, 5, 6, 7] [
    ⟨some 30, none, .inl (.mov (.v 5))⟩,
    ⟨some 31, none, .inl (.mov (.v 6))⟩,
    ⟨some 32, none, .inl (.bin .or (.v 30) (.v 31))⟩,
    ⟨some 7, none, .inl (.mov (.v 32))⟩]) (.seq (.ops [2, 3, 4, 5, 6, 7, 8, 9] [
    ⟨some 34, none, .inl (.mov (.v 7))⟩,
    ⟨some 35, none, .inl (.mov (.v 7))⟩,
    ⟨some 36, none, .inl (.call (.f 149) [(.v 34), (.v 35)])⟩,
    ⟨some 33, none, .inl (.mov (.v 36))⟩,
    ⟨some 37, none, .inl (.ext (.v 33) 0)⟩,
    ⟨some 38, none, .inl (.ext (.v 33) 1)⟩,
    ⟨some 8, none, .inl (.mov (.v 37))⟩,
    ⟨some 9, none, .inl (.mov (.v 38))⟩]) (.seq (.ops [2, 3, 4, 5, 6, 7, 51] [
    ⟨some 39, none, .inl (.mov (.v 8))⟩,
    ⟨some 40, none, .inl (.mov (.v 3))⟩,
    ⟨some 41, none, .inl (.bin .lss (.v 39) (.v 40))⟩,
    ⟨some 42, none, .inl (.mov (.v 41))⟩,
    ⟨some 43, (some (42, false)), .inl (.mov (.v 8))⟩,
    ⟨some 44, (some (42, false)), .inl (.mov (.v 3))⟩,
    ⟨some 45, (some (42, false)), .inl (.bin .eql (.v 43) (.v 44))⟩,
    ⟨some 46, (some (42, false)), .inl (.mov (.v 45))⟩,
    ⟨some 47, (some (46, true)), .inl (.mov (.v 9))⟩,
    ⟨some 48, (some (46, true)), .inl (.mov (.v 4))⟩,
    ⟨some 49, (some (46, true)), .inl (.bin .leq (.v 47) (.v 48))⟩,
    ⟨some 50, (some (42, false)), .inl (.pick (.v 46) (.v 49) (.c (.bool false)))⟩,
    ⟨some 51, none, .inl (.pick (.v 42) (.c (.bool true)) (.v 50))⟩]) (.cond (.v 51) (.ops [2, 3, 4, 5, 6] [
    ⟨some 52, none, .inl (.mov (.v 7))⟩,
    ⟨some 5, none, .inl (.mov (.v 52))⟩]) (.skip)))))) (.ops [2, 3, 4, 5, 6] [
    ⟨some 28, none, .inl (.mov (.v 6))⟩,
    ⟨some 29, none, .inl (.bin .shr (.v 28) (.c (.int .u64 1)))⟩,
    ⟨some 6, none, .inl (.mov (.v 29))⟩])))
def fixed_Sqrt : AFn := ⟨1, [.cell 2 2 true],
  .seq (.ops [1, 2] [
    ⟨some 1, none, .inr (.box (.v 0))⟩,
    ⟨some 2, none, .inr (.alloc [.bool false, .int .i64 0])⟩]) (.seq (.seq (.ops [1, 2, 17] [
    ⟨some 10, none, .inl (.load 2 true (.v 1))⟩,
    ⟨some 11, none, .inl (.call (.f 146) [(.v 10)])⟩,
    ⟨some 12, none, .inl (.un .not (.v 11))⟩,
    ⟨some 13, none, .inl (.mov (.v 12))⟩,
    ⟨some 14, (some (13, false)), .inl (.faddr 1 (.v 1))⟩,
    ⟨some 15, (some (13, false)), .inl (.load 1 false (.v 14))⟩,
    ⟨some 16, (some (13, false)), .inl (.bin .lss (.v 15) (.c (.int .i64 0)))⟩,
    ⟨some 17, none, .inl (.pick (.v 13) (.c (.bool true)) (.v 16))⟩]) (.cond (.v 17) (.seq (.ops [2] [
    ⟨some 18, none, .inl (.build [.bool false, .int .i64 0] [])⟩,
    ⟨none, none, .inr (.store 2 (.v 2) (.v 18))⟩]) (.ret)) (.skip))) (.seq (.ops [2, 3, 4] [
    ⟨some 20, none, .inl (.faddr 1 (.v 1))⟩,
    ⟨some 21, none, .inl (.load 1 false (.v 20))⟩,
    ⟨some 22, none, .inl (.conv .u64 (.v 21))⟩,
    ⟨some 23, none, .inl (.call (.f 149) [(.v 22), (.c (.int .u64 1000000))])⟩,
    ⟨some 19, none, .inl (.mov (.v 23))⟩,
    ⟨some 24, none, .inl (.ext (.v 19) 0)⟩,
    ⟨some 25, none, .inl (.ext (.v 19) 1)⟩,
    ⟨some 3, none, .inl (.mov (.v 24))⟩,
    ⟨some 4, none, .inl (.mov (.v 25))⟩]) (.seq (.ops [2, 3, 4, 5] [
    ⟨some 5, none, .inl (.mov (.c (.int .u64 0)))⟩]) (.seq (.seq (.ops [2, 3, 4, 5, 6] [
    ⟨some 6, none, .inl (.mov (.c (.int .u64 4398046511104)))⟩]) (.block [2, 5] 0 (fixed_Sqrt_l1))) (.seq (.ops [2] [
    ⟨some 53, none, .inl (.mov (.v 5))⟩,
    ⟨some 54, none, .inl (.conv .i64 (.v 53))⟩,
    ⟨some 55, none, .inl (.call (.f 143) [(.v 54)])⟩,
    ⟨none, none, .inr (.store 2 (.v 2) (.v 55))⟩]) (.ret))))))⟩

def fixed_Mul : AFn := ⟨2, [.cell 4 2 true],
  .seq (.ops [2, 3, 4] [
    ⟨some 2, none, .inr (.box (.v 0))⟩,
    ⟨some 3, none, .inr (.box (.v 1))⟩,
    ⟨some 4, none, .inr (.alloc [.bool false, .int .i64 0])⟩]) (.seq (.seq (.ops [2, 3, 4, 12] [
    ⟨some 5, none, .inl (.load 2 true (.v 2))⟩,
    ⟨some 6, none, .inl (.call (.f 146) [(.v 5)])⟩,
    ⟨some 7, none, .inl (.un .not (.v 6))⟩,
    ⟨some 8, none, .inl (.mov (.v 7))⟩,
    ⟨some 9, (some (8, false)), .inl (.load 2 true (.v 3))⟩,
    ⟨some 10, (some (8, false)), .inl (.call (.f 146) [(.v 9)])⟩,
    ⟨some 11, (some (8, false)), .inl (.un .not (.v 10))⟩,
    ⟨some 12, none, .inl (.pick (.v 8) (.c (.bool true)) (.v 11))⟩]) (.cond (.v 12) (.seq (.ops [4] [
    ⟨some 13, none, .inl (.build [.bool false, .int .i64 0] [])⟩,
    ⟨none, none, .inr (.store 2 (.v 4) (.v 13))⟩]) (.ret)) (.skip))) (.seq (.ops [4] [
    ⟨some 14, none, .inl (.faddr 1 (.v 2))⟩,
    ⟨some 15, none, .inl (.load 1 false (.v 14))⟩,
    ⟨some 16, none, .inl (.faddr 1 (.v 3))⟩,
    ⟨some 17, none, .inl (.load 1 false (.v 16))⟩,
    ⟨some 18, none, .inl (.call (.f 144) [(.v 15), (.v 17), (.c (.int .i64 1000000))])⟩,
    ⟨some 19, none, .inl (.ext (.v 18) 0)⟩,
    ⟨some 20, none, .inl (.ext (.v 18) 1)⟩,
    ⟨some 21, none, .inl (.call (.f 145) [(.v 19), (.v 20)])⟩,
    ⟨none, none, .inr (.store 2 (.v 4) (.v 21))⟩]) (.ret)))⟩

def agg_Of_l1 : Code := .loop [4, 6, 43, 44, 45] true (.seq (.ops [4, 6, 43, 44, 45, 46] [
    ⟨some 46, none, .inl (.bin .lss (.v 45) (.v 44))⟩]) (.seq (.cond (.v 46) (.skip) (.exit 1)) (.seq (.block [4, 6, 43, 44, 45] 2 (.seq (.ops [4, 6, 8, 43, 44, 45] [
    ⟨some 47, none, .inl (.iaddr 2 (.v 43) (.v 45))⟩,
    ⟨some 48, none, .inl (.load 2 true (.v 47))⟩,
    ⟨some 8, none, .inr (.alloc [.bool false, .int .i64 0])⟩,
    ⟨none, none, .inr (.store 2 (.v 8) (.v 48))⟩]) (.seq (.ops [4, 6, 8, 43, 44, 45, 51] [
    ⟨some 49, none, .inl (.load 2 true (.v 6))⟩,
    ⟨some 50, none, .inl (.load 2 true (.v 8))⟩,
    ⟨some 51, none, .inl (.call (.f 139) [(.v 49), (.v 50)])⟩]) (.cond (.v 51) (.ops [4, 6, 43, 44, 45] [
    ⟨some 52, none, .inl (.load 2 true (.v 8))⟩,
    ⟨none, none, .inr (.store 2 (.v 6) (.v 52))⟩]) (.skip))))) (.ops [4, 6, 43, 44, 45] [
    ⟨some 53, none, .inl (.bin .add (.v 45) (.c (.int .i64 1)))⟩,
    ⟨some 45, none, .inl (.mov (.v 53))⟩]))))
def agg_Of_l2 : Code := .loop [4, 6, 57, 58, 59] true (.seq (.ops [4, 6, 57, 58, 59, 60] [
    ⟨some 60, none, .inl (.bin .lss (.v 59) (.v 58))⟩]) (.seq (.cond (.v 60) (.skip) (.exit 3)) (.seq (.block [4, 6, 57, 58, 59] 4 (.seq (.ops [4, 6, 10, 57, 58, 59] [
    ⟨some 61, none, .inl (.iaddr 2 (.v 57) (.v 59))⟩,
    ⟨some 62, none, .inl (.load 2 true (.v 61))⟩,
    ⟨some 10, none, .inr (.alloc [.bool false, .int .i64 0])⟩,
    ⟨none, none, .inr (.store 2 (.v 10) (.v 62))⟩]) (.seq (.ops [4, 6, 10, 57, 58, 59, 65] [
    ⟨some 63, none, .inl (.load 2 true (.v 10))⟩,
    ⟨some 64, none, .inl (.load 2 true (.v 6))⟩,
    ⟨some 65, none, .inl (.call (.f 139) [(.v 63), (.v 64)])⟩]) (.cond (.v 65) (.ops [4, 6, 57, 58, 59] [
    ⟨some 66, none, .inl (.load 2 true (.v 10))⟩,
    ⟨none, none, .inr (.store 2 (.v 6) (.v 66))⟩]) (.skip))))) (.ops [4, 6, 57, 58, 59] [
    ⟨some 67, none, .inl (.bin .add (.v 59) (.c (.int .i64 1)))⟩,
    ⟨some 59, none, .inl (.mov (.v 67))⟩]))))
def agg_Of : AFn := ⟨2, [.cell 4 2 true],
  .seq (.ops [0, 1, 4] [
    ⟨some 4, none, .inr (.alloc [.bool false, .int .i64 0])⟩]) (.seq (.ops [0, 4, 5] [
    ⟨some 11, none, .inl (.mov (.v 1))⟩,
    ⟨some 12, none, .inr (.callf (.f 140) [(.v 11)])⟩,
    ⟨some 5, none, .inl (.mov (.v 12))⟩]) (.seq (.seq (.ops [0, 4, 5, 15] [
    ⟨some 13, none, .inl (.mov (.v 5))⟩,
    ⟨some 14, none, .inl (.len false (.v 13))⟩,
    ⟨some 15, none, .inl (.bin .eql (.v 14) (.c (.int .i64 0)))⟩]) (.cond (.v 15) (.seq (.ops [4] [
    ⟨some 16, none, .inl (.build [.bool false, .int .i64 0] [])⟩,
    ⟨none, none, .inr (.store 2 (.v 4) (.v 16))⟩]) (.ret)) (.skip))) (.seq (.ops [0, 4, 5, 6] [
    ⟨some 17, none, .inl (.mov (.v 5))⟩,
    ⟨some 18, none, .inl (.iaddr 2 (.v 17) (.c (.int .i64 0)))⟩,
    ⟨some 19, none, .inl (.load 2 true (.v 18))⟩,
    ⟨some 6, none, .inr (.alloc [.bool false, .int .i64 0])⟩,
    ⟨none, none, .inr (.store 2 (.v 6) (.v 19))⟩]) (.seq (.seq (.ops [4, 5, 6, 20] [
    ⟨some 20, none, .inl (.mov (.v 0))⟩]) (.block [4] 0 (.seq (.ops [4, 5, 6, 20, 21] [
    ⟨some 22, none, .inl (.bin .eql (.v 20) (.c (.int .i64 2)))⟩,
    ⟨some 21, none, .inl (.mov (.v 22))⟩]) (.cond (.v 21) (.seq (.ops [4] [
    ⟨some 23, none, .inl (.mov (.v 5))⟩,
    ⟨some 24, none, .inl (.call (.f 136) [(.v 23)])⟩,
    ⟨none, none, .inr (.store 2 (.v 4) (.v 24))⟩]) (.ret)) (.seq (.ops [4, 5, 6, 20, 25] [
    ⟨some 26, none, .inl (.bin .eql (.v 20) (.c (.int .i64 1)))⟩,
    ⟨some 25, none, .inl (.mov (.v 26))⟩]) (.cond (.v 25) (.seq (.ops [4] [
    ⟨some 27, none, .inl (.mov (.v 5))⟩,
    ⟨some 28, none, .inl (.call (.f 136) [(.v 27)])⟩,
    ⟨some 29, none, .inl (.mov (.v 5))⟩,
    ⟨some 30, none, .inl (.len false (.v 29))⟩,
    ⟨some 31, none, .inl (.call (.f 137) [(.v 30)])⟩,
    ⟨some 32, none, .inl (.call (.f 138) [(.v 28), (.v 31)])⟩,
    ⟨none, none, .inr (.store 2 (.v 4) (.v 32))⟩]) (.ret)) (.seq (.ops [4, 5, 6, 20, 33] [
    ⟨some 34, none, .inl (.bin .eql (.v 20) (.c (.int .i64 3)))⟩,
    ⟨some 33, none, .inl (.mov (.v 34))⟩]) (.cond (.v 33) (.seq (.ops [4] [
    ⟨some 35, none, .inl (.mov (.v 5))⟩,
    ⟨some 36, none, .inl (.mov (.v 5))⟩,
    ⟨some 37, none, .inl (.len false (.v 36))⟩,
    ⟨some 38, none, .inl (.bin .sub (.v 37) (.c (.int .i64 1)))⟩,
    ⟨some 39, none, .inl (.iaddr 2 (.v 35) (.v 38))⟩,
    ⟨some 40, none, .inl (.load 2 true (.v 39))⟩,
    ⟨none, none, .inr (.store 2 (.v 4) (.v 40))⟩]) (.ret)) (.seq (.ops [4, 5, 6, 20, 41] [
    ⟨some 42, none, .inl (.bin .eql (.v 20) (.c (.int .i64 4)))⟩,
    ⟨some 41, none, .inl (.mov (.v 42))⟩]) (.cond (.v 41) (.seq (.seq (.ops [4, 6, 43, 44, 45] [
    ⟨some 43, none, .inl (.mov (.v 5))⟩,
    ⟨some 44, none, .inl (.len false (.v 43))⟩,
    ⟨some 45, none, .inl (.mov (.c (.int .i64 0)))⟩]) (.block [4, 6] 1 (agg_Of_l1))) (.seq (.ops [4] [
    ⟨some 54, none, .inl (.load 2 true (.v 6))⟩,
    ⟨none, none, .inr (.store 2 (.v 4) (.v 54))⟩]) (.ret))) (.seq (.ops [4, 5, 6, 55] [
    ⟨some 56, none, .inl (.bin .eql (.v 20) (.c (.int .i64 5)))⟩,
    ⟨some 55, none, .inl (.mov (.v 56))⟩]) (.cond (.v 55) (.seq (.seq (.ops [4, 6, 57, 58, 59] [
    ⟨some 57, none, .inl (.mov (.v 5))⟩,
    ⟨some 58, none, .inl (.len false (.v 57))⟩,
    ⟨some 59, none, .inl (.mov (.c (.int .i64 0)))⟩]) (.block [4, 6] 3 (agg_Of_l2))) (.seq (.ops [4] [
    ⟨some 68, none, .inl (.load 2 true (.v 6))⟩,
    ⟨none, none, .inr (.store 2 (.v 4) (.v 68))⟩]) (.ret))) (.skip))))))))))))) (.seq (.ops [4] [
    ⟨some 69, none, .inl (.build [.bool false, .int .i64 0] [])⟩,
    ⟨none, none, .inr (.store 2 (.v 4) (.v 69))⟩]) (.ret))))))⟩

def agg_Known_l1 : Code := .loop [3, 6, 7, 8] true (.seq (.ops [3, 6, 7, 8, 9] [
    ⟨some 9, none, .inl (.bin .lss (.v 8) (.v 7))⟩]) (.seq (.cond (.v 9) (.skip) (.exit 0)) (.seq (.block [3, 6, 7, 8] 1 (.seq (.ops [3, 5, 6, 7, 8] [
    ⟨some 10, none, .inl (.iaddr 2 (.v 6) (.v 8))⟩,
    ⟨some 11, none, .inl (.load 2 true (.v 10))⟩,
    ⟨some 5, none, .inr (.alloc [.bool false, .int .i64 0])⟩,
    ⟨none, none, .inr (.store 2 (.v 5) (.v 11))⟩]) (.seq (.ops [3, 5, 6, 7, 8, 17] [
    ⟨some 12, none, .inl (.faddr 0 (.v 5))⟩,
    ⟨some 13, none, .inl (.load 1 false (.v 12))⟩,
    ⟨some 14, none, .inl (.mov (.v 13))⟩,
    ⟨some 15, (some (14, true)), .inl (.load 2 true (.v 5))⟩,
    ⟨some 16, (some (14, true)), .inl (.call (.f 126) [(.v 15)])⟩,
    ⟨some 17, none, .inl (.pick (.v 14) (.v 16) (.c (.bool false)))⟩]) (.cond (.v 17) (.ops [3, 6, 7, 8] [
    ⟨some 18, none, .inl (.mov (.v 3))⟩,
    ⟨some 19, none, .inl (.load 2 true (.v 5))⟩,
    ⟨some 20, none, .inl (.bslice 2 true 1 [.bool false, .int .i64 0] [⟨0, 2, (.v 19)⟩])⟩,
    ⟨some 21, none, .inr (.append 2 (.v 18) (.v 20))⟩,
    ⟨some 3, none, .inl (.mov (.v 21))⟩]) (.skip))))) (.ops [3, 6, 7, 8] [
    ⟨some 22, none, .inl (.bin .add (.v 8) (.c (.int .i64 1)))⟩,
    ⟨some 8, none, .inl (.mov (.v 22))⟩]))))
def agg_Known : AFn := ⟨1, [.slot 2],
  .seq (.ops [0] [
    ⟨some 2, none, .inl (.mov (.c (.sl .nil 2 [])))⟩]) (.seq (.ops [0, 3] [
    ⟨some 3, none, .inr (.newrow 2)⟩]) (.seq (.seq (.ops [3, 6, 7, 8] [
    ⟨some 6, none, .inl (.mov (.v 0))⟩,
    ⟨some 7, none, .inl (.len false (.v 6))⟩,
    ⟨some 8, none, .inl (.mov (.c (.int .i64 0)))⟩]) (.block [3] 0 (agg_Known_l1))) (.seq (.ops [2] [
    ⟨some 23, none, .inl (.mov (.v 3))⟩,
    ⟨some 2, none, .inl (.mov (.v 23))⟩]) (.ret))))⟩

def r21_Buckets_l1 : Code := .loop [0, 2, 3, 5, 8, 10, 11, 12] false (.seq (.seq (.ops [0, 2, 3, 5, 8, 10, 11, 12, 52] [
    ⟨some 48, none, .inl (.mov (.v 12))⟩,
    ⟨some 49, none, .inl (.faddr 3 (.v 10))⟩,
    ⟨some 50, none, .inl (.load 1 false (.v 49))⟩,
    ⟨some 51, none, .inl (.len false (.v 50))⟩,
    ⟨some 52, none, .inl (.bin .lss (.v 48) (.v 51))⟩]) (.cond (.v 52) (.skip) (.exit 0))) (.seq (.block [0, 2, 3, 5, 8, 10, 11, 12] 1 (.seq (.ops [0, 2, 3, 5, 8, 10, 11, 12, 13, 14] [
    ⟨some 56, none, .inl (.faddr 3 (.v 10))⟩,
    ⟨some 57, none, .inl (.load 1 false (.v 56))⟩,
    ⟨some 58, none, .inl (.mov (.v 12))⟩,
    ⟨some 59, none, .inl (.iaddr 2 (.v 57) (.v 58))⟩,
    ⟨some 60, none, .inl (.faddr 1 (.v 59))⟩,
    ⟨some 61, none, .inl (.load 1 false (.v 60))⟩,
    ⟨some 62, none, .inl (.faddr 2 (.v 5))⟩,
    ⟨some 63, none, .inl (.load 1 false (.v 62))⟩,
    ⟨some 64, none, .inl (.call (.f 164) [(.v 61), (.v 63), (.c (.int .i64 1))])⟩,
    ⟨some 55, none, .inl (.mov (.v 64))⟩,
    ⟨some 65, none, .inl (.ext (.v 55) 0)⟩,
    ⟨some 66, none, .inl (.ext (.v 55) 1)⟩,
    ⟨some 13, none, .inl (.mov (.v 65))⟩,
    ⟨some 14, none, .inl (.mov (.v 66))⟩]) (.seq (.ops [0, 2, 3, 5, 8, 10, 11, 12, 13, 77] [
    ⟨some 67, none, .inl (.mov (.v 14))⟩,
    ⟨some 68, none, .inl (.un .not (.v 67))⟩,
    ⟨some 69, none, .inl (.mov (.v 68))⟩,
    ⟨some 70, (some (69, false)), .inl (.faddr 3 (.v 10))⟩,
    ⟨some 71, (some (69, false)), .inl (.load 1 false (.v 70))⟩,
    ⟨some 72, (some (69, false)), .inl (.mov (.v 12))⟩,
    ⟨some 73, (some (69, false)), .inl (.iaddr 2 (.v 71) (.v 72))⟩,
    ⟨some 74, (some (69, false)), .inl (.faddr 0 (.v 73))⟩,
    ⟨some 75, (some (69, false)), .inl (.load 1 false (.v 74))⟩,
    ⟨some 76, (some (69, false)), .inl (.un .not (.v 75))⟩,
    ⟨some 77, none, .inl (.pick (.v 69) (.c (.bool true)) (.v 76))⟩]) (.cond (.v 77) (.ops [0, 2, 3, 5, 8, 10, 11, 12] [
    ⟨some 78, none, .inl (.faddr 3 (.v 10))⟩,
    ⟨some 79, none, .inl (.load 1 false (.v 78))⟩,
    ⟨some 80, none, .inl (.mov (.v 12))⟩,
    ⟨some 81, none, .inl (.build [.bool false, .int .i64 0] [])⟩,
    ⟨some 82, none, .inl (.iaddr 2 (.v 79) (.v 80))⟩,
    ⟨none, none, .inr (.store 2 (.v 82) (.v 81))⟩]) (.ops [0, 2, 3, 5, 8, 10, 11, 12] [
    ⟨some 83, none, .inl (.faddr 3 (.v 10))⟩,
    ⟨some 84, none, .inl (.load 1 false (.v 83))⟩,
    ⟨some 85, none, .inl (.mov (.v 12))⟩,
    ⟨some 86, none, .inl (.mov (.v 13))⟩,
    ⟨some 87, none, .inl (.call (.f 134) [(.v 86)])⟩,
    ⟨some 88, none, .inl (.iaddr 2 (.v 84) (.v 85))⟩,
    ⟨none, none, .inr (.store 2 (.v 88) (.v 87))⟩]))))) (.ops [0, 2, 3, 5, 8, 10, 11, 12] [
    ⟨some 53, none, .inl (.mov (.v 12))⟩,
    ⟨some 54, none, .inl (.bin .add (.v 53) (.c (.int .i64 1)))⟩,
    ⟨some 12, none, .inl (.mov (.v 54))⟩])))
def r21_Buckets : AFn := ⟨4, [.cell 8 5 true, .slot 9],
  .seq (.ops [0, 2, 3, 5, 8] [
    ⟨some 5, none, .inr (.box (.v 1))⟩,
    ⟨some 8, none, .inr (.alloc [.str [], .int .i64 0, .int .i64 0, .sl .nil 2 [], .int .i64 0])⟩,
    ⟨some 9, none, .inl (.mov (.c (.bool false)))⟩]) (.seq (.seq (.ops [0, 2, 3, 5, 8, 37] [
    ⟨some 19, none, .inl (.load 5 true (.v 5))⟩,
    ⟨some 20, none, .inl (.call (.f 113) [(.v 19)])⟩,
    ⟨some 21, none, .inl (.un .not (.v 20))⟩,
    ⟨some 22, none, .inl (.mov (.v 21))⟩,
    ⟨some 23, (some (22, false)), .inl (.mov (.v 2))⟩,
    ⟨some 24, (some (22, false)), .inl (.bin .lss (.v 23) (.c (.int .i64 1)))⟩,
    ⟨some 25, none, .inl (.pick (.v 22) (.c (.bool true)) (.v 24))⟩,
    ⟨some 26, none, .inl (.mov (.v 25))⟩,
    ⟨some 27, (some (26, false)), .inl (.mov (.v 2))⟩,
    ⟨some 28, (some (26, false)), .inl (.bin .gtr (.v 27) (.c (.int .i64 16777216)))⟩,
    ⟨some 29, none, .inl (.pick (.v 26) (.c (.bool true)) (.v 28))⟩,
    ⟨some 30, none, .inl (.mov (.v 29))⟩,
    ⟨some 31, (some (30, false)), .inl (.mov (.v 0))⟩,
    ⟨some 32, (some (30, false)), .inl (.bin .neq (.v 31) (.c (.str [115, 117, 109, 109, 97, 114, 105, 122, 101])))⟩,
    ⟨some 33, (some (30, false)), .inl (.mov (.v 32))⟩,
    ⟨some 34, (some (33, true)), .inl (.mov (.v 0))⟩,
    ⟨some 35, (some (33, true)), .inl (.bin .neq (.v 34) (.c (.str [104, 105, 116, 99, 111, 117, 110, 116])))⟩,
    ⟨some 36, (some (30, false)), .inl (.pick (.v 33) (.v 35) (.c (.bool false)))⟩,
    ⟨some 37, none, .inl (.pick (.v 30) (.c (.bool true)) (.v 36))⟩]) (.cond (.v 37) (.seq (.ops [8, 9] [
    ⟨some 38, none, .inl (.build [.str [], .int .i64 0, .int .i64 0, .sl .nil 2 [], .int .i64 0] [])⟩,
    ⟨none, none, .inr (.store 5 (.v 8) (.v 38))⟩,
    ⟨some 9, none, .inl (.mov (.c (.bool false)))⟩]) (.ret)) (.skip))) (.seq (.ops [0, 2, 3, 5, 8, 10] [
    ⟨some 39, none, .inl (.load 5 true (.v 5))⟩,
    ⟨some 40, none, .inr (.calls (.f 34) [(.v 39)])⟩,
    ⟨some 10, none, .inr (.alloc [.str [], .int .i64 0, .int .i64 0, .sl .nil 2 [], .int .i64 0])⟩,
    ⟨none, none, .inr (.store 5 (.v 10) (.v 40))⟩]) (.seq (.ops [0, 2, 3, 5, 8, 10, 11] [
    ⟨some 41, none, .inl (.faddr 0 (.v 5))⟩,
    ⟨some 42, none, .inl (.load 1 false (.v 41))⟩,
    ⟨some 43, none, .inl (.mov (.v 2))⟩,
    ⟨some 44, none, .inl (.call (.f 107) [(.v 43)])⟩,
    ⟨some 45, none, .inl (.bslice 1 false 2 ([.str []] ++ [.str []]) [⟨0, 1, (.v 42)⟩, ⟨1, 1, (.v 44)⟩])⟩,
    ⟨some 11, none, .inl (.mov (.v 45))⟩]) (.seq (.seq (.ops [0, 2, 3, 5, 8, 10, 11, 47] [
    ⟨some 46, none, .inl (.mov (.v 0))⟩,
    ⟨some 47, none, .inl (.bin .eql (.v 46) (.c (.str [104, 105, 116, 99, 111, 117, 110, 116])))⟩]) (.cond (.v 47) (.seq (.ops [0, 2, 3, 5, 8, 10, 11] [
    ⟨some 3, none, .inl (.mov (.c (.int .i64 2)))⟩]) (.seq (.ops [0, 2, 3, 5, 8, 10, 11, 12] [
    ⟨some 12, none, .inl (.mov (.c (.int .i64 0)))⟩]) (.block [0, 2, 3, 5, 8, 10, 11] 0 (r21_Buckets_l1)))) (.ops [0, 2, 3, 5, 8, 10, 11] [
    ⟨some 89, none, .inl (.mov (.v 11))⟩,
    ⟨some 90, none, .inl (.mov (.v 3))⟩,
    ⟨some 91, none, .inl (.call (.f 32) [(.v 90)])⟩,
    ⟨some 92, none, .inl (.bslice 1 false 1 [.str []] [⟨0, 1, (.v 91)⟩])⟩,
    ⟨some 93, none, .inr (.append 1 (.v 89) (.v 92))⟩,
    ⟨some 11, none, .inl (.mov (.v 93))⟩]))) (.seq (.seq (.ops [0, 2, 3, 5, 8, 10, 11, 99] [
    ⟨some 94, none, .inl (.mov (.v 3))⟩,
    ⟨some 95, none, .inl (.bin .lss (.v 94) (.c (.int .i64 1)))⟩,
    ⟨some 96, none, .inl (.mov (.v 95))⟩,
    ⟨some 97, (some (96, false)), .inl (.mov (.v 3))⟩,
    ⟨some 98, (some (96, false)), .inl (.bin .gtr (.v 97) (.c (.int .i64 5)))⟩,
    ⟨some 99, none, .inl (.pick (.v 96) (.c (.bool true)) (.v 98))⟩]) (.cond (.v 99) (.seq (.ops [8, 9] [
    ⟨some 100, none, .inl (.build [.str [], .int .i64 0, .int .i64 0, .sl .nil 2 [], .int .i64 0] [])⟩,
    ⟨none, none, .inr (.store 5 (.v 8) (.v 100))⟩,
    ⟨some 9, none, .inl (.mov (.c (.bool false)))⟩]) (.ret)) (.skip))) (.seq (.ops [0, 2, 3, 5, 8, 10, 11, 15] [
    ⟨some 101, none, .inl (.faddr 1 (.v 5))⟩,
    ⟨some 102, none, .inl (.load 1 false (.v 101))⟩,
    ⟨some 103, none, .inl (.mov (.v 2))⟩,
    ⟨some 104, none, .inl (.call (.f 163) [(.v 102), (.v 103)])⟩,
    ⟨some 15, none, .inl (.mov (.v 104))⟩]) (.seq (.ops [0, 2, 3, 5, 8, 10, 11, 15, 16] [
    ⟨some 16, none, .inl (.mov (.c (.int .i64 0)))⟩]) (.seq (.seq (.ops [0, 2, 3, 5, 8, 10, 11, 15, 16, 108] [
    ⟨some 105, none, .inl (.faddr 3 (.v 5))⟩,
    ⟨some 106, none, .inl (.load 1 false (.v 105))⟩,
    ⟨some 107, none, .inl (.len false (.v 106))⟩,
    ⟨some 108, none, .inl (.bin .gtr (.v 107) (.c (.int .i64 0)))⟩]) (.cond (.v 108) (.seq (.ops [0, 2, 3, 5, 8, 10, 11, 15, 17] [
    ⟨some 109, none, .inl (.faddr 1 (.v 5))⟩,
    ⟨some 110, none, .inl (.load 1 false (.v 109))⟩,
    ⟨some 111, none, .inl (.faddr 3 (.v 5))⟩,
    ⟨some 112, none, .inl (.load 1 false (.v 111))⟩,
    ⟨some 113, none, .inl (.len false (.v 112))⟩,
    ⟨some 114, none, .inl (.bin .sub (.v 113) (.c (.int .i64 1)))⟩,
    ⟨some 115, none, .inl (.faddr 2 (.v 5))⟩,
    ⟨some 116, none, .inl (.load 1 false (.v 115))⟩,
    ⟨some 117, none, .inl (.bin .mul (.v 114) (.v 116))⟩,
    ⟨some 118, none, .inl (.bin .add (.v 110) (.v 117))⟩,
    ⟨some 17, none, .inl (.mov (.v 118))⟩]) (.ops [0, 2, 3, 5, 8, 10, 11, 15, 16] [
    ⟨some 119, none, .inl (.mov (.v 17))⟩,
    ⟨some 120, none, .inl (.mov (.v 15))⟩,
    ⟨some 121, none, .inl (.bin .sub (.v 119) (.v 120))⟩,
    ⟨some 122, none, .inl (.mov (.v 2))⟩,
    ⟨some 123, none, .inl (.bin .quo (.v 121) (.v 122))⟩,
    ⟨some 124, none, .inl (.bin .add (.v 123) (.c (.int .i64 1)))⟩,
    ⟨some 16, none, .inl (.mov (.v 124))⟩])) (.skip))) (.seq (.seq (.ops [0, 2, 3, 5, 8, 10, 11, 15, 16, 126] [
    ⟨some 125, none, .inl (.mov (.v 16))⟩,
    ⟨some 126, none, .inl (.bin .gtr (.v 125) (.c (.int .i64 131072)))⟩]) (.cond (.v 126) (.seq (.ops [8, 9] [
    ⟨some 127, none, .inl (.build [.str [], .int .i64 0, .int .i64 0, .sl .nil 2 [], .int .i64 0] [])⟩,
    ⟨none, none, .inr (.store 5 (.v 8) (.v 127))⟩,
    ⟨some 9, none, .inl (.mov (.c (.bool false)))⟩]) (.ret)) (.skip))) (.seq (.ops [0, 2, 5, 8, 10, 11, 15, 16] [
    ⟨some 128, none, .inl (.mov (.v 3))⟩,
    ⟨some 129, none, .inl (.faddr 4 (.v 10))⟩,
    ⟨none, none, .inr (.store 1 (.v 129) (.v 128))⟩]) (.seq (.ops [0, 5, 8, 11, 18] [
    ⟨some 130, none, .inl (.load 5 true (.v 10))⟩,
    ⟨some 131, none, .inl (.mov (.v 15))⟩,
    ⟨some 132, none, .inl (.mov (.v 2))⟩,
    ⟨some 133, none, .inl (.mov (.v 16))⟩,
    ⟨some 134, none, .inr (.callf (.f 162) [(.v 130), (.v 131), (.v 132), (.v 133)])⟩,
    ⟨some 18, none, .inr (.alloc [.str [], .int .i64 0, .int .i64 0, .sl .nil 2 [], .int .i64 0])⟩,
    ⟨none, none, .inr (.store 5 (.v 18) (.v 134))⟩]) (.seq (.ops [8, 18] [
    ⟨some 135, none, .inl (.faddr 4 (.v 5))⟩,
    ⟨some 136, none, .inl (.load 1 false (.v 135))⟩,
    ⟨some 137, none, .inl (.mov (.v 0))⟩,
    ⟨some 138, none, .inl (.mov (.v 11))⟩,
    ⟨some 139, none, .inl (.call (.f 33) [(.v 137), (.v 138)])⟩,
    ⟨some 140, none, .inl (.faddr 4 (.v 18))⟩,
    ⟨none, none, .inr (.store 1 (.v 140) (.v 136))⟩,
    ⟨some 141, none, .inl (.faddr 0 (.v 18))⟩,
    ⟨none, none, .inr (.store 1 (.v 141) (.v 139))⟩]) (.seq (.ops [8, 9] [
    ⟨some 142, none, .inl (.load 5 true (.v 18))⟩,
    ⟨none, none, .inr (.store 5 (.v 8) (.v 142))⟩,
    ⟨some 9, none, .inl (.mov (.c (.bool true)))⟩]) (.ret))))))))))))))⟩

def r18_Is_l1 : Code := .loop [1, 3] false (.seq (.seq (.ops [1, 3, 48] [
    ⟨some 44, none, .inl (.mov (.v 3))⟩,
    ⟨some 45, none, .inl (.faddr 3 (.v 1))⟩,
    ⟨some 46, none, .inl (.load 1 false (.v 45))⟩,
    ⟨some 47, none, .inl (.len false (.v 46))⟩,
    ⟨some 48, none, .inl (.bin .lss (.v 44) (.v 47))⟩]) (.cond (.v 48) (.skip) (.exit 0))) (.seq (.block [1, 3] 1 (.seq (.ops [1, 3, 57] [
    ⟨some 51, none, .inl (.faddr 3 (.v 1))⟩,
    ⟨some 52, none, .inl (.load 1 false (.v 51))⟩,
    ⟨some 53, none, .inl (.mov (.v 3))⟩,
    ⟨some 54, none, .inl (.iaddr 2 (.v 52) (.v 53))⟩,
    ⟨some 55, none, .inl (.load 2 true (.v 54))⟩,
    ⟨some 56, none, .inl (.call (.f 120) [(.v 55)])⟩,
    ⟨some 57, none, .inl (.un .not (.v 56))⟩]) (.cond (.v 57) (.seq (.ops [2] [
    ⟨some 2, none, .inl (.mov (.c (.bool false)))⟩]) (.ret)) (.skip)))) (.ops [1, 3] [
    ⟨some 49, none, .inl (.mov (.v 3))⟩,
    ⟨some 50, none, .inl (.bin .add (.v 49) (.c (.int .i64 1)))⟩,
    ⟨some 3, none, .inl (.mov (.v 50))⟩])))
def r18_Is : AFn := ⟨1, [.slot 2],
  .seq (.ops [1] [
    ⟨some 1, none, .inr (.box (.v 0))⟩,
    ⟨some 2, none, .inl (.mov (.c (.bool false)))⟩]) (.seq (.seq (.ops [1, 43] [
    ⟨some 4, none, .inl (.faddr 0 (.v 1))⟩,
    ⟨some 5, none, .inl (.load 1 false (.v 4))⟩,
    ⟨some 6, none, .inl (.len true (.v 5))⟩,
    ⟨some 7, none, .inl (.bin .gtr (.v 6) (.c (.int .i64 4096)))⟩,
    ⟨some 8, none, .inl (.mov (.v 7))⟩,
    ⟨some 9, (some (8, false)), .inl (.faddr 1 (.v 1))⟩,
    ⟨some 10, (some (8, false)), .inl (.load 1 false (.v 9))⟩,
    ⟨some 11, (some (8, false)), .inl (.bin .lss (.v 10) (.c (.int .i64 0)))⟩,
    ⟨some 12, none, .inl (.pick (.v 8) (.c (.bool true)) (.v 11))⟩,
    ⟨some 13, none, .inl (.mov (.v 12))⟩,
    ⟨some 14, (some (13, false)), .inl (.faddr 1 (.v 1))⟩,
    ⟨some 15, (some (13, false)), .inl (.load 1 false (.v 14))⟩,
    ⟨some 16, (some (13, false)), .inl (.bin .gtr (.v 15) (.c (.int .i64 4294967295)))⟩,
    ⟨some 17, none, .inl (.pick (.v 13) (.c (.bool true)) (.v 16))⟩,
    ⟨some 18, none, .inl (.mov (.v 17))⟩,
    ⟨some 19, (some (18, false)), .inl (.faddr 2 (.v 1))⟩,
    ⟨some 20, (some (18, false)), .inl (.load 1 false (.v 19))⟩,
    ⟨some 21, (some (18, false)), .inl (.bin .lss (.v 20) (.c (.int .i64 1)))⟩,
    ⟨some 22, none, .inl (.pick (.v 18) (.c (.bool true)) (.v 21))⟩,
    ⟨some 23, none, .inl (.mov (.v 22))⟩,
    ⟨some 24, (some (23, false)), .inl (.faddr 2 (.v 1))⟩,
    ⟨some 25, (some (23, false)), .inl (.load 1 false (.v 24))⟩,
    ⟨some 26, (some (23, false)), .inl (.bin .gtr (.v 25) (.c (.int .i64 1099511627776)))⟩,
    ⟨some 27, none, .inl (.pick (.v 23) (.c (.bool true)) (.v 26))⟩,
    ⟨some 28, none, .inl (.mov (.v 27))⟩,
    ⟨some 29, (some (28, false)), .inl (.faddr 3 (.v 1))⟩,
    ⟨some 30, (some (28, false)), .inl (.load 1 false (.v 29))⟩,
    ⟨some 31, (some (28, false)), .inl (.len false (.v 30))⟩,
    ⟨some 32, (some (28, false)), .inl (.bin .gtr (.v 31) (.c (.int .i64 131072)))⟩,
    ⟨some 33, none, .inl (.pick (.v 28) (.c (.bool true)) (.v 32))⟩,
    ⟨some 34, none, .inl (.mov (.v 33))⟩,
    ⟨some 35, (some (34, false)), .inl (.faddr 4 (.v 1))⟩,
    ⟨some 36, (some (34, false)), .inl (.load 1 false (.v 35))⟩,
    ⟨some 37, (some (34, false)), .inl (.bin .lss (.v 36) (.c (.int .i64 0)))⟩,
    ⟨some 38, none, .inl (.pick (.v 34) (.c (.bool true)) (.v 37))⟩,
    ⟨some 39, none, .inl (.mov (.v 38))⟩,
    ⟨some 40, (some (39, false)), .inl (.faddr 4 (.v 1))⟩,
    ⟨some 41, (some (39, false)), .inl (.load 1 false (.v 40))⟩,
    ⟨some 42, (some (39, false)), .inl (.bin .gtr (.v 41) (.c (.int .i64 5)))⟩,
    ⟨some 43, none, .inl (.pick (.v 39) (.c (.bool true)) (.v 42))⟩]) (.cond (.v 43) (.seq (.ops [2] [
    ⟨some 2, none, .inl (.mov (.c (.bool false)))⟩]) (.ret)) (.skip))) (.seq (.seq (.ops [1, 3] [
    ⟨some 3, none, .inl (.mov (.c (.int .i64 0)))⟩]) (.block [] 0 (r18_Is_l1))) (.seq (.ops [2] [
    ⟨some 2, none, .inl (.mov (.c (.bool true)))⟩]) (.ret))))⟩

def fwin_Buckets : AFn := ⟨4, [.cell 8 5 true, .slot 9],
  .seq (.ops [0, 2, 3, 5, 8] [
    ⟨some 5, none, .inr (.fbox (.v 1))⟩,
    ⟨some 8, none, .inr (.alloc [.str [], .int .i64 0, .int .i64 0, .sl .nil 2 [], .int .i64 0])⟩,
    ⟨some 9, none, .inl (.mov (.c (.bool false)))⟩]) (.seq (.seq (.ops [0, 2, 3, 5, 8, 25] [
    ⟨some 15, none, .inl (.load 5 true (.v 5))⟩,
    ⟨some 16, none, .inl (.call (.f 111) [(.v 15)])⟩,
    ⟨some 17, none, .inl (.un .not (.v 16))⟩,
    ⟨some 18, none, .inl (.mov (.v 17))⟩,
    ⟨some 19, (some (18, false)), .inl (.mov (.v 2))⟩,
    ⟨some 20, (some (18, false)), .inl (.bin .lss (.v 19) (.c (.int .i64 1)))⟩,
    ⟨some 21, none, .inl (.pick (.v 18) (.c (.bool true)) (.v 20))⟩,
    ⟨some 22, none, .inl (.mov (.v 21))⟩,
    ⟨some 23, (some (22, false)), .inl (.mov (.v 2))⟩,
    ⟨some 24, (some (22, false)), .inl (.bin .gtr (.v 23) (.c (.int .i64 16777216)))⟩,
    ⟨some 25, none, .inl (.pick (.v 22) (.c (.bool true)) (.v 24))⟩]) (.cond (.v 25) (.seq (.ops [8, 9] [
    ⟨some 26, none, .inl (.build [.str [], .int .i64 0, .int .i64 0, .sl .nil 2 [], .int .i64 0] [])⟩,
    ⟨none, none, .inr (.store 5 (.v 8) (.v 26))⟩,
    ⟨some 9, none, .inl (.mov (.c (.bool false)))⟩]) (.ret)) (.skip))) (.seq (.ops [0, 2, 3, 5, 8, 10] [
    ⟨some 27, none, .inl (.faddr 0 (.v 5))⟩,
    ⟨some 28, none, .inl (.load 1 false (.v 27))⟩,
    ⟨some 29, none, .inl (.mov (.v 2))⟩,
    ⟨some 30, none, .inl (.call (.f 105) [(.v 29)])⟩,
    ⟨some 31, none, .inl (.bslice 1 false 2 ([.str []] ++ [.str []]) [⟨0, 1, (.v 28)⟩, ⟨1, 1, (.v 30)⟩])⟩,
    ⟨some 10, none, .inl (.mov (.v 31))⟩]) (.seq (.ops [0, 2, 3, 5, 8, 10, 11] [
    ⟨some 32, none, .inl (.load 5 true (.v 5))⟩,
    ⟨some 11, none, .inr (.alloc [.str [], .int .i64 0, .int .i64 0, .sl .nil 2 [], .int .i64 0])⟩,
    ⟨none, none, .inr (.store 5 (.v 11) (.v 32))⟩]) (.seq (.seq (.ops [0, 2, 3, 5, 8, 10, 11, 33] [
    ⟨some 33, none, .inl (.mov (.v 0))⟩]) (.block [0, 2, 5, 8, 10, 11] 0 (.seq (.ops [0, 2, 3, 5, 8, 10, 11, 33, 35] [
    ⟨some 36, none, .inl (.bin .eql (.v 33) (.c (.str [115, 117, 109, 109, 97, 114, 105, 122, 101])))⟩,
    ⟨some 35, none, .inl (.mov (.v 36))⟩]) (.cond (.v 35) (.seq (.seq (.ops [0, 2, 3, 5, 8, 10, 11, 39] [
    ⟨some 37, none, .inl (.mov (.v 3))⟩,
    ⟨some 38, none, .inl (.call (.f 29) [(.v 37)])⟩,
    ⟨some 39, none, .inl (.bin .eql (.v 38) (.c (.str [])))⟩]) (.cond (.v 39) (.seq (.ops [8, 9] [
    ⟨some 40, none, .inl (.build [.str [], .int .i64 0, .int .i64 0, .sl .nil 2 [], .int .i64 0] [])⟩,
    ⟨none, none, .inr (.store 5 (.v 8) (.v 40))⟩,
    ⟨some 9, none, .inl (.mov (.c (.bool false)))⟩]) (.ret)) (.skip))) (.seq (.ops [0, 2, 3, 5, 8, 10, 11] [
    ⟨some 41, none, .inl (.mov (.v 10))⟩,
    ⟨some 42, none, .inl (.mov (.v 3))⟩,
    ⟨some 43, none, .inl (.call (.f 29) [(.v 42)])⟩,
    ⟨some 44, none, .inl (.bslice 1 false 1 [.str []] [⟨0, 1, (.v 43)⟩])⟩,
    ⟨some 45, none, .inr (.append 1 (.v 41) (.v 44))⟩,
    ⟨some 10, none, .inl (.mov (.v 45))⟩]) (.ops [0, 2, 5, 8, 10, 11] [
    ⟨some 46, none, .inl (.mov (.v 3))⟩,
    ⟨some 47, none, .inl (.faddr 4 (.v 11))⟩,
    ⟨none, none, .inr (.store 1 (.v 47) (.v 46))⟩]))) (.seq (.ops [0, 2, 5, 8, 10, 11, 48] [
    ⟨some 49, none, .inl (.bin .eql (.v 33) (.c (.str [104, 105, 116, 99, 111, 117, 110, 116])))⟩,
    ⟨some 48, none, .inl (.mov (.v 49))⟩]) (.cond (.v 48) (.seq (.ops [0, 2, 5, 8, 10, 11] [
    ⟨some 50, none, .inl (.load 5 true (.v 5))⟩,
    ⟨some 51, none, .inr (.callf (.f 161) [(.v 50)])⟩,
    ⟨none, none, .inr (.store 5 (.v 11) (.v 51))⟩]) (.ops [0, 2, 5, 8, 10, 11] [
    ⟨some 52, none, .inl (.faddr 4 (.v 11))⟩,
    ⟨none, none, .inr (.store 1 (.v 52) (.c (.int .i64 2)))⟩])) (.seq (.ops [8, 9] [
    ⟨some 34, none, .inl (.build [.str [], .int .i64 0, .int .i64 0, .sl .nil 2 [], .int .i64 0] [])⟩,
    ⟨none, none, .inr (.store 5 (.v 8) (.v 34))⟩,
    ⟨some 9, none, .inl (.mov (.c (.bool false)))⟩]) (.ret)))))))) (.seq (.ops [0, 2, 5, 8, 10, 11, 12, 13] [
    ⟨some 53, none, .inl (.faddr 1 (.v 5))⟩,
    ⟨some 54, none, .inl (.load 1 false (.v 53))⟩,
    ⟨some 55, none, .inl (.mov (.v 2))⟩,
    ⟨some 56, none, .inl (.call (.f 160) [(.v 54), (.v 55)])⟩,
    ⟨some 12, none, .inl (.mov (.v 56))⟩,
    ⟨some 13, none, .inl (.mov (.c (.int .i64 0)))⟩]) (.seq (.seq (.ops [0, 2, 5, 8, 10, 11, 12, 13, 60] [
    ⟨some 57, none, .inl (.faddr 3 (.v 5))⟩,
    ⟨some 58, none, .inl (.load 1 false (.v 57))⟩,
    ⟨some 59, none, .inl (.len false (.v 58))⟩,
    ⟨some 60, none, .inl (.bin .gtr (.v 59) (.c (.int .i64 0)))⟩]) (.cond (.v 60) (.ops [0, 2, 5, 8, 10, 11, 12, 13] [
    ⟨some 61, none, .inl (.load 5 true (.v 5))⟩,
    ⟨some 62, none, .inl (.call (.f 159) [(.v 61)])⟩,
    ⟨some 63, none, .inl (.faddr 2 (.v 5))⟩,
    ⟨some 64, none, .inl (.load 1 false (.v 63))⟩,
    ⟨some 65, none, .inl (.bin .sub (.v 62) (.v 64))⟩,
    ⟨some 66, none, .inl (.mov (.v 12))⟩,
    ⟨some 67, none, .inl (.bin .sub (.v 65) (.v 66))⟩,
    ⟨some 68, none, .inl (.mov (.v 2))⟩,
    ⟨some 69, none, .inl (.bin .quo (.v 67) (.v 68))⟩,
    ⟨some 70, none, .inl (.bin .add (.v 69) (.c (.int .i64 1)))⟩,
    ⟨some 13, none, .inl (.mov (.v 70))⟩]) (.skip))) (.seq (.seq (.ops [0, 2, 5, 8, 10, 11, 12, 13, 72] [
    ⟨some 71, none, .inl (.mov (.v 13))⟩,
    ⟨some 72, none, .inl (.bin .gtr (.v 71) (.c (.int .i64 131072)))⟩]) (.cond (.v 72) (.seq (.ops [8, 9] [
    ⟨some 73, none, .inl (.build [.str [], .int .i64 0, .int .i64 0, .sl .nil 2 [], .int .i64 0] [])⟩,
    ⟨none, none, .inr (.store 5 (.v 8) (.v 73))⟩,
    ⟨some 9, none, .inl (.mov (.c (.bool false)))⟩]) (.ret)) (.skip))) (.seq (.ops [0, 5, 8, 10, 14] [
    ⟨some 74, none, .inl (.load 5 true (.v 11))⟩,
    ⟨some 75, none, .inl (.mov (.v 12))⟩,
    ⟨some 76, none, .inl (.mov (.v 2))⟩,
    ⟨some 77, none, .inl (.mov (.v 13))⟩,
    ⟨some 78, none, .inr (.callf (.f 158) [(.v 74), (.v 75), (.v 76), (.v 77)])⟩,
    ⟨some 14, none, .inr (.alloc [.str [], .int .i64 0, .int .i64 0, .sl .nil 2 [], .int .i64 0])⟩,
    ⟨none, none, .inr (.store 5 (.v 14) (.v 78))⟩]) (.seq (.ops [8, 14] [
    ⟨some 79, none, .inl (.mov (.v 0))⟩,
    ⟨some 80, none, .inl (.mov (.v 10))⟩,
    ⟨some 81, none, .inl (.call (.f 30) [(.v 79), (.v 80)])⟩,
    ⟨some 82, none, .inr (.pureq (.faddr 4 (.v 5)))⟩,
    ⟨some 83, none, .inr (.pureq (.load 1 false (.v 82)))⟩,
    ⟨some 84, none, .inl (.faddr 0 (.v 14))⟩,
    ⟨none, none, .inr (.store 1 (.v 84) (.v 81))⟩,
    ⟨some 85, none, .inl (.faddr 4 (.v 14))⟩,
    ⟨none, none, .inr (.store 1 (.v 85) (.v 83))⟩]) (.seq (.ops [8, 9] [
    ⟨some 86, none, .inl (.load 5 true (.v 14))⟩,
    ⟨none, none, .inr (.store 5 (.v 8) (.v 86))⟩,
    ⟨some 9, none, .inl (.mov (.c (.bool true)))⟩]) (.ret)))))))))))⟩

def r21_Move_l1 : Code := .loop [0, 2, 4, 6, 10, 11] true (.seq (.seq (.ops [0, 2, 4, 6, 10, 11, 53] [
    ⟨some 49, none, .inl (.mov (.v 11))⟩,
    ⟨some 50, none, .inl (.faddr 3 (.v 4))⟩,
    ⟨some 51, none, .inl (.load 1 false (.v 50))⟩,
    ⟨some 52, none, .inl (.len false (.v 51))⟩,
    ⟨some 53, none, .inl (.bin .lss (.v 49) (.v 52))⟩]) (.cond (.v 53) (.skip) (.exit 0))) (.seq (.block [0, 2, 4, 6, 10, 11] 1 (.seq (.ops [0, 2, 4, 6, 10, 11, 12] [
    ⟨some 57, none, .inl (.mov (.v 0))⟩,
    ⟨some 58, none, .inl (.faddr 3 (.v 4))⟩,
    ⟨some 59, none, .inl (.load 1 false (.v 58))⟩,
    ⟨some 60, none, .inl (.mov (.v 11))⟩,
    ⟨some 61, none, .inl (.bin .add (.v 60) (.c (.int .i64 1)))⟩,
    ⟨some 62, none, .inl (.mov (.v 2))⟩,
    ⟨some 63, none, .inl (.bin .sub (.v 61) (.v 62))⟩,
    ⟨some 64, none, .inl (.minmax true [(.c (.int .i64 0)), (.v 63)])⟩,
    ⟨some 65, none, .inl (.mov (.v 11))⟩,
    ⟨some 66, none, .inl (.bin .add (.v 65) (.c (.int .i64 1)))⟩,
    ⟨some 67, none, .inr (.slicef 2 (.v 59) (some (.v 64)) (some (.v 66)))⟩,
    ⟨some 68, none, .inl (.call (.f 106) [(.v 57), (.v 67)])⟩,
    ⟨some 56, none, .inl (.mov (.v 68))⟩,
    ⟨some 69, none, .inl (.ext (.v 56) 0)⟩,
    ⟨some 70, none, .inl (.ext (.v 56) 1)⟩,
    ⟨some 12, none, .inr (.alloc [.bool false, .int .i64 0])⟩,
    ⟨none, none, .inr (.store 2 (.v 12) (.v 69))⟩,
    ⟨some 13, none, .inl (.mov (.v 70))⟩]) (.ops [0, 2, 4, 6, 10, 11] [
    ⟨some 71, none, .inl (.faddr 3 (.v 10))⟩,
    ⟨some 72, none, .inl (.load 1 false (.v 71))⟩,
    ⟨some 73, none, .inl (.load 2 true (.v 12))⟩,
    ⟨some 74, none, .inl (.bslice 2 true 1 [.bool false, .int .i64 0] [⟨0, 2, (.v 73)⟩])⟩,
    ⟨some 75, none, .inr (.append 2 (.v 72) (.v 74))⟩,
    ⟨some 76, none, .inl (.faddr 3 (.v 10))⟩,
    ⟨none, none, .inr (.store 1 (.v 76) (.v 75))⟩]))) (.ops [0, 2, 4, 6, 10, 11] [
    ⟨some 54, none, .inl (.mov (.v 11))⟩,
    ⟨some 55, none, .inl (.bin .add (.v 54) (.c (.int .i64 1)))⟩,
    ⟨some 11, none, .inl (.mov (.v 55))⟩])))
def r21_Move : AFn := ⟨3, [.cell 6 5 true, .slot 7],
  .seq (.ops [0, 2, 4, 6] [
    ⟨some 4, none, .inr (.box (.v 1))⟩,
    ⟨some 6, none, .inr (.alloc [.str [], .int .i64 0, .int .i64 0, .sl .nil 2 [], .int .i64 0])⟩,
    ⟨some 7, none, .inl (.mov (.c (.bool false)))⟩]) (.seq (.ops [0, 2, 4, 6, 9] [
    ⟨some 15, none, .inl (.mov (.v 0))⟩,
    ⟨some 16, none, .inl (.call (.f 106) [(.v 15), (.c (.sl .nil 2 []))])⟩,
    ⟨some 14, none, .inl (.mov (.v 16))⟩,
    ⟨some 17, none, .inl (.ext (.v 14) 0)⟩,
    ⟨some 18, none, .inl (.ext (.v 14) 1)⟩,
    ⟨some 8, none, .inr (.alloc [.bool false, .int .i64 0])⟩,
    ⟨none, none, .inr (.store 2 (.v 8) (.v 17))⟩,
    ⟨some 9, none, .inl (.mov (.v 18))⟩]) (.seq (.seq (.ops [0, 2, 4, 6, 33] [
    ⟨some 19, none, .inl (.mov (.v 9))⟩,
    ⟨some 20, none, .inl (.un .not (.v 19))⟩,
    ⟨some 21, none, .inl (.mov (.v 20))⟩,
    ⟨some 22, (some (21, false)), .inl (.load 5 true (.v 4))⟩,
    ⟨some 23, (some (21, false)), .inl (.call (.f 113) [(.v 22)])⟩,
    ⟨some 24, (some (21, false)), .inl (.un .not (.v 23))⟩,
    ⟨some 25, none, .inl (.pick (.v 21) (.c (.bool true)) (.v 24))⟩,
    ⟨some 26, none, .inl (.mov (.v 25))⟩,
    ⟨some 27, (some (26, false)), .inl (.mov (.v 2))⟩,
    ⟨some 28, (some (26, false)), .inl (.bin .lss (.v 27) (.c (.int .i64 1)))⟩,
    ⟨some 29, none, .inl (.pick (.v 26) (.c (.bool true)) (.v 28))⟩,
    ⟨some 30, none, .inl (.mov (.v 29))⟩,
    ⟨some 31, (some (30, false)), .inl (.mov (.v 2))⟩,
    ⟨some 32, (some (30, false)), .inl (.bin .gtr (.v 31) (.c (.int .i64 131072)))⟩,
    ⟨some 33, none, .inl (.pick (.v 30) (.c (.bool true)) (.v 32))⟩]) (.cond (.v 33) (.seq (.ops [6, 7] [
    ⟨some 34, none, .inl (.build [.str [], .int .i64 0, .int .i64 0, .sl .nil 2 [], .int .i64 0] [])⟩,
    ⟨none, none, .inr (.store 5 (.v 6) (.v 34))⟩,
    ⟨some 7, none, .inl (.mov (.c (.bool false)))⟩]) (.ret)) (.skip))) (.seq (.ops [0, 2, 4, 6, 10] [
    ⟨some 35, none, .inl (.mov (.v 0))⟩,
    ⟨some 36, none, .inl (.faddr 0 (.v 4))⟩,
    ⟨some 37, none, .inl (.load 1 false (.v 36))⟩,
    ⟨some 38, none, .inl (.mov (.v 2))⟩,
    ⟨some 39, none, .inl (.call (.f 107) [(.v 38)])⟩,
    ⟨some 40, none, .inl (.bslice 1 false 2 ([.str []] ++ [.str []]) [⟨0, 1, (.v 37)⟩, ⟨1, 1, (.v 39)⟩])⟩,
    ⟨some 41, none, .inl (.call (.f 33) [(.v 35), (.v 40)])⟩,
    ⟨some 42, none, .inl (.faddr 1 (.v 4))⟩,
    ⟨some 43, none, .inl (.load 1 false (.v 42))⟩,
    ⟨some 44, none, .inl (.faddr 2 (.v 4))⟩,
    ⟨some 45, none, .inl (.load 1 false (.v 44))⟩,
    ⟨some 46, none, .inl (.faddr 4 (.v 4))⟩,
    ⟨some 47, none, .inl (.load 1 false (.v 46))⟩,
    ⟨some 48, none, .inl (.build [.str [], .int .i64 0, .int .i64 0, .sl .nil 2 [], .int .i64 0] [⟨0, 1, (.v 41)⟩, ⟨1, 1, (.v 43)⟩, ⟨2, 1, (.v 45)⟩, ⟨4, 1, (.v 47)⟩])⟩,
    ⟨some 10, none, .inr (.alloc [.str [], .int .i64 0, .int .i64 0, .sl .nil 2 [], .int .i64 0])⟩,
    ⟨none, none, .inr (.store 5 (.v 10) (.v 48))⟩]) (.seq (.seq (.ops [0, 2, 4, 6, 10, 11] [
    ⟨some 11, none, .inl (.mov (.c (.int .i64 0)))⟩]) (.block [6, 10] 0 (r21_Move_l1))) (.seq (.ops [6, 7] [
    ⟨some 77, none, .inl (.load 5 true (.v 10))⟩,
    ⟨none, none, .inr (.store 5 (.v 6) (.v 77))⟩,
    ⟨some 7, none, .inl (.mov (.c (.bool true)))⟩]) (.ret))))))⟩

def r18_Own : AFn := ⟨1, [.cell 2 5 true],
  .seq (.ops [1, 2] [
    ⟨some 1, none, .inr (.box (.v 0))⟩,
    ⟨some 2, none, .inr (.alloc [.str [], .int .i64 0, .int .i64 0, .sl .nil 2 [], .int .i64 0])⟩]) (.seq (.ops [1, 2] [
    ⟨some 3, none, .inl (.bslice 2 true 0 [] [])⟩,
    ⟨some 4, none, .inl (.faddr 3 (.v 1))⟩,
    ⟨some 5, none, .inl (.load 1 false (.v 4))⟩,
    ⟨some 6, none, .inr (.append 2 (.v 3) (.v 5))⟩,
    ⟨some 7, none, .inl (.faddr 3 (.v 1))⟩,
    ⟨none, none, .inr (.store 1 (.v 7) (.v 6))⟩]) (.seq (.ops [2] [
    ⟨some 8, none, .inl (.load 5 true (.v 1))⟩,
    ⟨none, none, .inr (.store 5 (.v 2) (.v 8))⟩]) (.ret)))⟩

def l21_same : AFn := ⟨2, [.slot 4],
  .seq (.ops [2, 3] [
    ⟨some 2, none, .inr (.box (.v 0))⟩,
    ⟨some 3, none, .inr (.box (.v 1))⟩,
    ⟨some 4, none, .inl (.mov (.c (.bool false)))⟩]) (.seq (.ops [4] [
    ⟨some 5, none, .inl (.load 5 true (.v 2))⟩,
    ⟨some 6, none, .inl (.load 5 true (.v 3))⟩,
    ⟨some 7, none, .inl (.call (.f 28) [(.v 5), (.v 6)])⟩,
    ⟨some 4, none, .inl (.mov (.v 7))⟩]) (.ret))⟩

def l21_heavy_l1 : Code := .loop [0, 3, 4] false (.seq (.seq (.ops [0, 3, 4, 11] [
    ⟨some 8, none, .inl (.mov (.v 4))⟩,
    ⟨some 9, none, .inl (.mov (.v 0))⟩,
    ⟨some 10, none, .inl (.len false (.v 9))⟩,
    ⟨some 11, none, .inl (.bin .lss (.v 8) (.v 10))⟩]) (.cond (.v 11) (.skip) (.exit 0))) (.seq (.block [0, 3, 4] 1 (.seq (.ops [0, 3, 4] [
    ⟨some 14, none, .inl (.mov (.v 3))⟩,
    ⟨some 15, none, .inl (.mov (.v 0))⟩,
    ⟨some 16, none, .inl (.mov (.v 4))⟩,
    ⟨some 17, none, .inl (.iaddr 5 (.v 15) (.v 16))⟩,
    ⟨some 18, none, .inl (.faddr 3 (.v 17))⟩,
    ⟨some 19, none, .inl (.load 1 false (.v 18))⟩,
    ⟨some 20, none, .inl (.len false (.v 19))⟩,
    ⟨some 21, none, .inl (.bin .add (.v 14) (.v 20))⟩,
    ⟨some 3, none, .inl (.mov (.v 21))⟩]) (.seq (.ops [0, 3, 4, 37] [
    ⟨some 22, none, .inl (.mov (.v 0))⟩,
    ⟨some 23, none, .inl (.mov (.v 4))⟩,
    ⟨some 24, none, .inl (.iaddr 5 (.v 22) (.v 23))⟩,
    ⟨some 25, none, .inl (.faddr 3 (.v 24))⟩,
    ⟨some 26, none, .inl (.load 1 false (.v 25))⟩,
    ⟨some 27, none, .inl (.len false (.v 26))⟩,
    ⟨some 28, none, .inl (.bin .gtr (.v 27) (.c (.int .i64 120)))⟩,
    ⟨some 29, none, .inl (.mov (.v 28))⟩,
    ⟨some 30, (some (29, false)), .inl (.mov (.v 0))⟩,
    ⟨some 31, (some (29, false)), .inl (.mov (.v 4))⟩,
    ⟨some 32, (some (29, false)), .inl (.iaddr 5 (.v 30) (.v 31))⟩,
    ⟨some 33, (some (29, false)), .inl (.faddr 0 (.v 32))⟩,
    ⟨some 34, (some (29, false)), .inl (.load 1 false (.v 33))⟩,
    ⟨some 35, (some (29, false)), .inl (.len true (.v 34))⟩,
    ⟨some 36, (some (29, false)), .inl (.bin .gtr (.v 35) (.c (.int .i64 300)))⟩,
    ⟨some 37, none, .inl (.pick (.v 29) (.c (.bool true)) (.v 36))⟩]) (.cond (.v 37) (.seq (.ops [2] [
    ⟨some 2, none, .inl (.mov (.c (.bool true)))⟩]) (.ret)) (.skip))))) (.ops [0, 3, 4] [
    ⟨some 12, none, .inl (.mov (.v 4))⟩,
    ⟨some 13, none, .inl (.bin .add (.v 12) (.c (.int .i64 1)))⟩,
    ⟨some 4, none, .inl (.mov (.v 13))⟩])))
def l21_heavy : AFn := ⟨1, [.slot 2],
  .seq (.ops [0] [
    ⟨some 2, none, .inl (.mov (.c (.bool false)))⟩]) (.seq (.ops [0, 3] [
    ⟨some 3, none, .inl (.mov (.c (.int .i64 0)))⟩]) (.seq (.seq (.ops [0, 3, 7] [
    ⟨some 5, none, .inl (.mov (.v 0))⟩,
    ⟨some 6, none, .inl (.len false (.v 5))⟩,
    ⟨some 7, none, .inl (.bin .gtr (.v 6) (.c (.int .i64 20)))⟩]) (.cond (.v 7) (.seq (.ops [2] [
    ⟨some 2, none, .inl (.mov (.c (.bool true)))⟩]) (.ret)) (.skip))) (.seq (.seq (.ops [0, 3, 4] [
    ⟨some 4, none, .inl (.mov (.c (.int .i64 0)))⟩]) (.block [3] 0 (l21_heavy_l1))) (.seq (.ops [2] [
    ⟨some 38, none, .inl (.mov (.v 3))⟩,
    ⟨some 39, none, .inl (.bin .gtr (.v 38) (.c (.int .i64 400)))⟩,
    ⟨some 2, none, .inl (.mov (.v 39))⟩]) (.ret)))))⟩

def fwin_Move_l1 : Code := .loop [6, 8, 9, 10, 49, 50] false (.seq (.ops [6, 8, 9, 10, 49, 50, 51] [
    ⟨some 51, none, .inl (.bin .lss (.v 50) (.v 49))⟩]) (.seq (.cond (.v 51) (.skip) (.exit 0)) (.seq (.block [6, 8, 9, 10, 49, 50] 1 (.seq (.ops [6, 8, 9, 10, 11, 49, 50] [
    ⟨some 52, none, .inl (.mov (.v 50))⟩,
    ⟨some 11, none, .inl (.mov (.v 52))⟩]) (.ops [6, 8, 9, 10, 49, 50] [
    ⟨some 53, none, .inl (.faddr 3 (.v 10))⟩,
    ⟨some 54, none, .inl (.load 1 false (.v 53))⟩,
    ⟨some 55, none, .inl (.mov (.v 8))⟩,
    ⟨some 56, none, .inl (.load 6 true (.v 9))⟩,
    ⟨some 57, none, .inl (.mov (.v 11))⟩,
    ⟨some 58, none, .inl (.call (.f 104) [(.v 56), (.v 57)])⟩,
    ⟨some 59, none, .inl (.call (.v 55) [(.v 58)])⟩,
    ⟨some 60, none, .inl (.bslice 2 true 1 [.bool false, .int .i64 0] [⟨0, 2, (.v 59)⟩])⟩,
    ⟨some 61, none, .inr (.append 2 (.v 54) (.v 60))⟩,
    ⟨some 62, none, .inl (.faddr 3 (.v 10))⟩,
    ⟨none, none, .inr (.store 1 (.v 62) (.v 61))⟩]))) (.ops [6, 8, 9, 10, 49, 50] [
    ⟨some 63, none, .inl (.bin .add (.v 50) (.c (.int .i64 1)))⟩,
    ⟨some 50, none, .inl (.mov (.v 63))⟩]))))
def fwin_Move : AFn := ⟨3, [.cell 6 5 true, .slot 7],
  .seq (.ops [0, 2, 4, 6] [
    ⟨some 4, none, .inr (.box (.v 1))⟩,
    ⟨some 6, none, .inr (.alloc [.str [], .int .i64 0, .int .i64 0, .sl .nil 2 [], .int .i64 0])⟩,
    ⟨some 7, none, .inl (.mov (.c (.bool false)))⟩]) (.seq (.ops [0, 2, 4, 6, 8] [
    ⟨some 12, none, .inl (.mov (.v 0))⟩,
    ⟨some 13, none, .inr (.callf (.f 112) [(.v 12)])⟩,
    ⟨some 8, none, .inl (.mov (.v 13))⟩]) (.seq (.seq (.ops [0, 2, 4, 6, 8, 28] [
    ⟨some 14, none, .inl (.load 5 true (.v 4))⟩,
    ⟨some 15, none, .inl (.call (.f 111) [(.v 14)])⟩,
    ⟨some 16, none, .inl (.un .not (.v 15))⟩,
    ⟨some 17, none, .inl (.mov (.v 16))⟩,
    ⟨some 18, (some (17, false)), .inl (.mov (.v 2))⟩,
    ⟨some 19, (some (17, false)), .inl (.bin .lss (.v 18) (.c (.int .i64 1)))⟩,
    ⟨some 20, none, .inl (.pick (.v 17) (.c (.bool true)) (.v 19))⟩,
    ⟨some 21, none, .inl (.mov (.v 20))⟩,
    ⟨some 22, (some (21, false)), .inl (.mov (.v 2))⟩,
    ⟨some 23, (some (21, false)), .inl (.bin .gtr (.v 22) (.c (.int .i64 131072)))⟩,
    ⟨some 24, none, .inl (.pick (.v 21) (.c (.bool true)) (.v 23))⟩,
    ⟨some 25, none, .inl (.mov (.v 24))⟩,
    ⟨some 26, (some (25, false)), .inl (.mov (.v 8))⟩,
    ⟨some 27, (some (25, false)), .inl (.eqk 5 false (.v 26) (.c (.nilfn)))⟩,
    ⟨some 28, none, .inl (.pick (.v 25) (.c (.bool true)) (.v 27))⟩]) (.cond (.v 28) (.seq (.ops [6, 7] [
    ⟨some 29, none, .inl (.build [.str [], .int .i64 0, .int .i64 0, .sl .nil 2 [], .int .i64 0] [])⟩,
    ⟨none, none, .inr (.store 5 (.v 6) (.v 29))⟩,
    ⟨some 7, none, .inl (.mov (.c (.bool false)))⟩]) (.ret)) (.skip))) (.seq (.ops [0, 2, 4, 6, 8, 9] [
    ⟨some 30, none, .inl (.load 5 true (.v 4))⟩,
    ⟨some 31, none, .inl (.mov (.v 2))⟩,
    ⟨some 32, none, .inl (.build [.str [], .int .i64 0, .int .i64 0, .sl .nil 2 [], .int .i64 0, .int .i64 0] [⟨0, 5, (.v 30)⟩, ⟨5, 1, (.v 31)⟩])⟩,
    ⟨some 9, none, .inr (.alloc [.str [], .int .i64 0, .int .i64 0, .sl .nil 2 [], .int .i64 0, .int .i64 0])⟩,
    ⟨none, none, .inr (.store 6 (.v 9) (.v 32))⟩]) (.seq (.ops [4, 6, 8, 9, 10] [
    ⟨some 33, none, .inl (.mov (.v 0))⟩,
    ⟨some 34, none, .inl (.faddr 0 (.v 4))⟩,
    ⟨some 35, none, .inl (.load 1 false (.v 34))⟩,
    ⟨some 36, none, .inl (.mov (.v 2))⟩,
    ⟨some 37, none, .inl (.call (.f 105) [(.v 36)])⟩,
    ⟨some 38, none, .inl (.bslice 1 false 2 ([.str []] ++ [.str []]) [⟨0, 1, (.v 35)⟩, ⟨1, 1, (.v 37)⟩])⟩,
    ⟨some 39, none, .inl (.call (.f 30) [(.v 33), (.v 38)])⟩,
    ⟨some 40, none, .inl (.faddr 1 (.v 4))⟩,
    ⟨some 41, none, .inl (.load 1 false (.v 40))⟩,
    ⟨some 42, none, .inl (.faddr 2 (.v 4))⟩,
    ⟨some 43, none, .inl (.load 1 false (.v 42))⟩,
    ⟨some 44, none, .inl (.faddr 4 (.v 4))⟩,
    ⟨some 45, none, .inl (.load 1 false (.v 44))⟩,
    ⟨some 46, none, .inl (.build [.str [], .int .i64 0, .int .i64 0, .sl .nil 2 [], .int .i64 0] [⟨0, 1, (.v 39)⟩, ⟨1, 1, (.v 41)⟩, ⟨2, 1, (.v 43)⟩, ⟨4, 1, (.v 45)⟩])⟩,
    ⟨some 10, none, .inr (.alloc [.str [], .int .i64 0, .int .i64 0, .sl .nil 2 [], .int .i64 0])⟩,
    ⟨none, none, .inr (.store 5 (.v 10) (.v 46))⟩]) (.seq (.seq (.ops [6, 8, 9, 10, 49, 50] [
    ⟨some 47, none, .inl (.faddr 3 (.v 4))⟩,
    ⟨some 48, none, .inl (.load 1 false (.v 47))⟩,
    ⟨some 49, none, .inl (.len false (.v 48))⟩,
    ⟨some 50, none, .inl (.mov (.c (.int .i64 0)))⟩]) (.block [6, 10] 0 (fwin_Move_l1))) (.seq (.ops [6, 7] [
    ⟨some 64, none, .inl (.load 5 true (.v 10))⟩,
    ⟨none, none, .inr (.store 5 (.v 6) (.v 64))⟩,
    ⟨some 7, none, .inl (.mov (.c (.bool true)))⟩]) (.ret)))))))⟩

def r21_Names : AFn := ⟨0, [.slot 0],
  .seq (.ops [] [
    ⟨some 0, none, .inl (.mov (.c (.sl .nil 1 [])))⟩]) (.seq (.ops [0] [
    ⟨some 1, none, .inl (.bslice 1 false 8 (List.replicate 8 (.str [])) [⟨0, 1, (.c (.str [104, 105, 116, 99, 111, 117, 110, 116]))⟩, ⟨1, 1, (.c (.str [109, 111, 118, 105, 110, 103, 65, 118, 101, 114, 97, 103, 101]))⟩, ⟨2, 1, (.c (.str [109, 111, 118, 105, 110, 103, 77, 97, 120]))⟩, ⟨3, 1, (.c (.str [109, 111, 118, 105, 110, 103, 77, 101, 100, 105, 97, 110]))⟩, ⟨4, 1, (.c (.str [109, 111, 118, 105, 110, 103, 77, 105, 110]))⟩, ⟨5, 1, (.c (.str [109, 111, 118, 105, 110, 103, 83, 117, 109]))⟩, ⟨6, 1, (.c (.str [115, 116, 100, 101, 118]))⟩, ⟨7, 1, (.c (.str [115, 117, 109, 109, 97, 114, 105, 122, 101]))⟩])⟩,
    ⟨some 0, none, .inl (.mov (.v 1))⟩]) (.ret))⟩

def fwin_Names : AFn := ⟨0, [.slot 0],
  .seq (.ops [] [
    ⟨some 0, none, .inl (.mov (.c (.sl .nil 1 [])))⟩]) (.seq (.ops [0] [
    ⟨some 1, none, .inl (.bslice 1 false 8 (List.replicate 8 (.str [])) [⟨0, 1, (.c (.str [104, 105, 116, 99, 111, 117, 110, 116]))⟩, ⟨1, 1, (.c (.str [109, 111, 118, 105, 110, 103, 65, 118, 101, 114, 97, 103, 101]))⟩, ⟨2, 1, (.c (.str [109, 111, 118, 105, 110, 103, 77, 97, 120]))⟩, ⟨3, 1, (.c (.str [109, 111, 118, 105, 110, 103, 77, 101, 100, 105, 97, 110]))⟩, ⟨4, 1, (.c (.str [109, 111, 118, 105, 110, 103, 77, 105, 110]))⟩, ⟨5, 1, (.c (.str [109, 111, 118, 105, 110, 103, 83, 117, 109]))⟩, ⟨6, 1, (.c (.str [115, 116, 100, 101, 118]))⟩, ⟨7, 1, (.c (.str [115, 117, 109, 109, 97, 114, 105, 122, 101]))⟩])⟩,
    ⟨some 0, none, .inl (.mov (.v 1))⟩]) (.ret))⟩

def r21_Rank : AFn := ⟨2, [.cell 4 2 true],
  .seq (.ops [1, 2, 4] [
    ⟨some 2, none, .inr (.box (.v 0))⟩,
    ⟨some 4, none, .inr (.alloc [.bool false, .int .i64 0])⟩]) (.seq (.ops [2, 4, 5] [
    ⟨some 7, none, .inl (.mov (.v 1))⟩,
    ⟨some 8, none, .inr (.callf (.f 181) [(.v 7)])⟩,
    ⟨some 5, none, .inl (.mov (.v 8))⟩]) (.seq (.seq (.ops [2, 4, 5, 26] [
    ⟨some 9, none, .inl (.load 2 true (.v 2))⟩,
    ⟨some 10, none, .inl (.call (.f 135) [(.v 9)])⟩,
    ⟨some 11, none, .inl (.un .not (.v 10))⟩,
    ⟨some 12, none, .inl (.mov (.v 11))⟩,
    ⟨some 13, (some (12, false)), .inl (.faddr 1 (.v 2))⟩,
    ⟨some 14, (some (12, false)), .inl (.load 1 false (.v 13))⟩,
    ⟨some 15, (some (12, false)), .inl (.bin .lss (.v 14) (.c (.int .i64 0)))⟩,
    ⟨some 16, none, .inl (.pick (.v 12) (.c (.bool true)) (.v 15))⟩,
    ⟨some 17, none, .inl (.mov (.v 16))⟩,
    ⟨some 18, (some (17, false)), .inl (.faddr 1 (.v 2))⟩,
    ⟨some 19, (some (17, false)), .inl (.load 1 false (.v 18))⟩,
    ⟨some 20, (some (17, false)), .inl (.bin .gtr (.v 19) (.c (.int .i64 100000000)))⟩,
    ⟨some 21, none, .inl (.pick (.v 17) (.c (.bool true)) (.v 20))⟩,
    ⟨some 22, none, .inl (.mov (.v 21))⟩,
    ⟨some 23, (some (22, false)), .inl (.mov (.v 5))⟩,
    ⟨some 24, (some (22, false)), .inl (.len false (.v 23))⟩,
    ⟨some 25, (some (22, false)), .inl (.bin .eql (.v 24) (.c (.int .i64 0)))⟩,
    ⟨some 26, none, .inl (.pick (.v 22) (.c (.bool true)) (.v 25))⟩]) (.cond (.v 26) (.seq (.ops [4] [
    ⟨some 27, none, .inl (.build [.bool false, .int .i64 0] [])⟩,
    ⟨none, none, .inr (.store 2 (.v 4) (.v 27))⟩]) (.ret)) (.skip))) (.seq (.ops [4, 5, 6] [
    ⟨some 28, none, .inl (.faddr 1 (.v 2))⟩,
    ⟨some 29, none, .inl (.load 1 false (.v 28))⟩,
    ⟨some 30, none, .inl (.mov (.v 5))⟩,
    ⟨some 31, none, .inl (.len false (.v 30))⟩,
    ⟨some 32, none, .inl (.bin .mul (.v 29) (.v 31))⟩,
    ⟨some 33, none, .inl (.bin .add (.v 32) (.c (.int .i64 100000000)))⟩,
    ⟨some 34, none, .inl (.bin .sub (.v 33) (.c (.int .i64 1)))⟩,
    ⟨some 35, none, .inl (.bin .quo (.v 34) (.c (.int .i64 100000000)))⟩,
    ⟨some 6, none, .inl (.mov (.v 35))⟩]) (.seq (.ops [4] [
    ⟨some 36, none, .inl (.mov (.v 5))⟩,
    ⟨some 37, none, .inl (.mov (.v 6))⟩,
    ⟨some 38, none, .inl (.minmax true [(.c (.int .i64 1)), (.v 37)])⟩,
    ⟨some 39, none, .inl (.bin .sub (.v 38) (.c (.int .i64 1)))⟩,
    ⟨some 40, none, .inl (.iaddr 2 (.v 36) (.v 39))⟩,
    ⟨some 41, none, .inl (.load 2 true (.v 40))⟩,
    ⟨none, none, .inr (.store 2 (.v 4) (.v 41))⟩]) (.ret)))))⟩

def r21_Median : AFn := ⟨1, [.cell 2 2 true],
  .seq (.ops [0, 2] [
    ⟨some 2, none, .inr (.alloc [.bool false, .int .i64 0])⟩]) (.seq (.ops [2, 3] [
    ⟨some 5, none, .inl (.mov (.v 0))⟩,
    ⟨some 6, none, .inr (.callf (.f 181) [(.v 5)])⟩,
    ⟨some 3, none, .inl (.mov (.v 6))⟩]) (.seq (.ops [2, 3, 4] [
    ⟨some 7, none, .inl (.mov (.v 3))⟩,
    ⟨some 8, none, .inl (.len false (.v 7))⟩,
    ⟨some 4, none, .inl (.mov (.v 8))⟩]) (.seq (.block [2, 3, 4] 0 (.seq (.ops [2, 3, 4, 9] [
    ⟨some 10, none, .inl (.mov (.v 4))⟩,
    ⟨some 11, none, .inl (.bin .eql (.v 10) (.c (.int .i64 0)))⟩,
    ⟨some 9, none, .inl (.mov (.v 11))⟩]) (.cond (.v 9) (.seq (.ops [2] [
    ⟨some 12, none, .inl (.build [.bool false, .int .i64 0] [])⟩,
    ⟨none, none, .inr (.store 2 (.v 2) (.v 12))⟩]) (.ret)) (.seq (.ops [2, 3, 4, 13] [
    ⟨some 14, none, .inl (.mov (.v 4))⟩,
    ⟨some 15, none, .inl (.bin .rem (.v 14) (.c (.int .i64 2)))⟩,
    ⟨some 16, none, .inl (.bin .eql (.v 15) (.c (.int .i64 1)))⟩,
    ⟨some 13, none, .inl (.mov (.v 16))⟩]) (.cond (.v 13) (.seq (.ops [2] [
    ⟨some 17, none, .inl (.mov (.v 3))⟩,
    ⟨some 18, none, .inl (.mov (.v 4))⟩,
    ⟨some 19, none, .inl (.bin .quo (.v 18) (.c (.int .i64 2)))⟩,
    ⟨some 20, none, .inl (.iaddr 2 (.v 17) (.v 19))⟩,
    ⟨some 21, none, .inl (.load 2 true (.v 20))⟩,
    ⟨none, none, .inr (.store 2 (.v 2) (.v 21))⟩]) (.ret)) (.skip)))))) (.seq (.ops [2] [
    ⟨some 22, none, .inl (.mov (.v 3))⟩,
    ⟨some 23, none, .inl (.mov (.v 4))⟩,
    ⟨some 24, none, .inl (.bin .quo (.v 23) (.c (.int .i64 2)))⟩,
    ⟨some 25, none, .inl (.bin .sub (.v 24) (.c (.int .i64 1)))⟩,
    ⟨some 26, none, .inl (.iaddr 2 (.v 22) (.v 25))⟩,
    ⟨some 27, none, .inl (.load 2 true (.v 26))⟩,
    ⟨some 28, none, .inl (.mov (.v 3))⟩,
    ⟨some 29, none, .inl (.mov (.v 4))⟩,
    ⟨some 30, none, .inl (.bin .quo (.v 29) (.c (.int .i64 2)))⟩,
    ⟨some 31, none, .inl (.iaddr 2 (.v 28) (.v 30))⟩,
    ⟨some 32, none, .inl (.load 2 true (.v 31))⟩,
    ⟨some 33, none, .inl (.bslice 2 true 2 ([.bool false, .int .i64 0] ++ [.bool false, .int .i64 0]) [⟨0, 2, (.v 27)⟩, ⟨2, 2, (.v 32)⟩])⟩,
    ⟨some 34, none, .inl (.call (.f 128) [(.v 33)])⟩,
    ⟨some 35, none, .inl (.call (.f 129) [(.c (.int .i64 2))])⟩,
    ⟨some 36, none, .inl (.call (.f 130) [(.v 34), (.v 35)])⟩,
    ⟨none, none, .inr (.store 2 (.v 2) (.v 36))⟩]) (.ret)))))⟩

def r21_Deviation_l1 : Code := .loop [2, 3, 4, 5, 6] true (.seq (.seq (.ops [2, 3, 4, 5, 6, 16] [
    ⟨some 13, none, .inl (.mov (.v 6))⟩,
    ⟨some 14, none, .inl (.mov (.v 3))⟩,
    ⟨some 15, none, .inl (.len false (.v 14))⟩,
    ⟨some 16, none, .inl (.bin .lss (.v 13) (.v 15))⟩]) (.cond (.v 16) (.skip) (.exit 0))) (.seq (.block [2, 3, 4, 5, 6] 1 (.seq (.ops [2, 3, 4, 5, 6, 7] [
    ⟨some 19, none, .inl (.mov (.v 3))⟩,
    ⟨some 20, none, .inl (.mov (.v 6))⟩,
    ⟨some 21, none, .inl (.iaddr 2 (.v 19) (.v 20))⟩,
    ⟨some 22, none, .inl (.load 2 true (.v 21))⟩,
    ⟨some 23, none, .inl (.load 2 true (.v 4))⟩,
    ⟨some 24, none, .inl (.call (.f 180) [(.v 22), (.v 23)])⟩,
    ⟨some 7, none, .inr (.alloc [.bool false, .int .i64 0])⟩,
    ⟨none, none, .inr (.store 2 (.v 7) (.v 24))⟩]) (.seq (.ops [2, 3, 4, 5, 6, 8] [
    ⟨some 25, none, .inl (.load 2 true (.v 7))⟩,
    ⟨some 26, none, .inl (.load 2 true (.v 7))⟩,
    ⟨some 27, none, .inl (.call (.f 179) [(.v 25), (.v 26)])⟩,
    ⟨some 8, none, .inr (.alloc [.bool false, .int .i64 0])⟩,
    ⟨none, none, .inr (.store 2 (.v 8) (.v 27))⟩]) (.seq (.seq (.ops [2, 3, 4, 5, 6, 8, 30] [
    ⟨some 28, none, .inl (.faddr 0 (.v 8))⟩,
    ⟨some 29, none, .inl (.load 1 false (.v 28))⟩,
    ⟨some 30, none, .inl (.un .not (.v 29))⟩]) (.cond (.v 30) (.seq (.ops [2] [
    ⟨some 31, none, .inl (.build [.bool false, .int .i64 0] [])⟩,
    ⟨none, none, .inr (.store 2 (.v 2) (.v 31))⟩]) (.ret)) (.skip))) (.ops [2, 3, 4, 5, 6] [
    ⟨some 32, none, .inl (.mov (.v 5))⟩,
    ⟨some 33, none, .inl (.load 2 true (.v 8))⟩,
    ⟨some 34, none, .inl (.bslice 2 true 1 [.bool false, .int .i64 0] [⟨0, 2, (.v 33)⟩])⟩,
    ⟨some 35, none, .inr (.append 2 (.v 32) (.v 34))⟩,
    ⟨some 5, none, .inl (.mov (.v 35))⟩]))))) (.ops [2, 3, 4, 5, 6] [
    ⟨some 17, none, .inl (.mov (.v 6))⟩,
    ⟨some 18, none, .inl (.bin .add (.v 17) (.c (.int .i64 1)))⟩,
    ⟨some 6, none, .inl (.mov (.v 18))⟩])))
def r21_Deviation : AFn := ⟨1, [.cell 2 2 true],
  .seq (.ops [0, 2] [
    ⟨some 2, none, .inr (.alloc [.bool false, .int .i64 0])⟩]) (.seq (.ops [2, 3] [
    ⟨some 9, none, .inl (.mov (.v 0))⟩,
    ⟨some 10, none, .inr (.callf (.f 131) [(.v 9)])⟩,
    ⟨some 3, none, .inl (.mov (.v 10))⟩]) (.seq (.ops [2, 3, 4] [
    ⟨some 11, none, .inl (.mov (.v 3))⟩,
    ⟨some 12, none, .inl (.call (.f 122) [(.c (.int .i64 1)), (.v 11)])⟩,
    ⟨some 4, none, .inr (.alloc [.bool false, .int .i64 0])⟩,
    ⟨none, none, .inr (.store 2 (.v 4) (.v 12))⟩]) (.seq (.ops [2, 3, 4, 5] [
    ⟨some 5, none, .inr (.newrow 2)⟩]) (.seq (.seq (.ops [2, 3, 4, 5, 6] [
    ⟨some 6, none, .inl (.mov (.c (.int .i64 0)))⟩]) (.block [2, 5] 0 (r21_Deviation_l1))) (.seq (.ops [2] [
    ⟨some 36, none, .inl (.mov (.v 5))⟩,
    ⟨some 37, none, .inl (.call (.f 122) [(.c (.int .i64 1)), (.v 36)])⟩,
    ⟨some 38, none, .inl (.call (.f 178) [(.v 37)])⟩,
    ⟨none, none, .inr (.store 2 (.v 2) (.v 38))⟩]) (.ret))))))⟩

def l21_known : AFn := ⟨0, [.slot 0],
  .seq (.ops [] [
    ⟨some 0, none, .inl (.mov (.c (.bool false)))⟩]) (.seq (.ops [1] [
    ⟨some 4, none, .inl (.build [.bool false, .int .i64 0] [⟨0, 1, (.c (.bool true))⟩, ⟨1, 1, (.c (.int .i64 1))⟩])⟩,
    ⟨some 5, none, .inl (.build [.bool false, .int .i64 0] [⟨0, 1, (.c (.bool true))⟩, ⟨1, 1, (.c (.int .i64 3))⟩])⟩,
    ⟨some 6, none, .inl (.build [.bool false, .int .i64 0] [])⟩,
    ⟨some 7, none, .inl (.build [.bool false, .int .i64 0] [⟨0, 1, (.c (.bool true))⟩, ⟨1, 1, (.c (.int .i64 5))⟩])⟩,
    ⟨some 8, none, .inl (.bslice 2 true 4 ((List.replicate 4 [.bool false, .int .i64 0]).flatten) [⟨0, 2, (.v 4)⟩, ⟨2, 2, (.v 5)⟩, ⟨4, 2, (.v 6)⟩, ⟨6, 2, (.v 7)⟩])⟩,
    ⟨some 9, none, .inl (.build [.str [], .int .i64 0, .int .i64 0, .sl .nil 2 [], .int .i64 0] [⟨0, 1, (.c (.str [97]))⟩, ⟨2, 1, (.c (.int .i64 1))⟩, ⟨3, 1, (.v 8)⟩])⟩,
    ⟨some 1, none, .inr (.alloc [.str [], .int .i64 0, .int .i64 0, .sl .nil 2 [], .int .i64 0])⟩,
    ⟨none, none, .inr (.store 5 (.v 1) (.v 9))⟩]) (.seq (.ops [2, 3] [
    ⟨some 11, none, .inl (.load 5 true (.v 1))⟩,
    ⟨some 12, none, .inr (.callf (.f 102) [(.c (.str [109, 111, 118, 105, 110, 103, 65, 118, 101, 114, 97, 103, 101])), (.v 11), (.c (.int .i64 2))])⟩,
    ⟨some 10, none, .inl (.mov (.v 12))⟩,
    ⟨some 13, none, .inl (.ext (.v 10) 0)⟩,
    ⟨some 14, none, .inl (.ext (.v 10) 1)⟩,
    ⟨some 2, none, .inr (.alloc [.str [], .int .i64 0, .int .i64 0, .sl .nil 2 [], .int .i64 0])⟩,
    ⟨none, none, .inr (.store 5 (.v 2) (.v 13))⟩,
    ⟨some 3, none, .inl (.mov (.v 14))⟩]) (.seq (.ops [0] [
    ⟨some 15, none, .inl (.mov (.v 3))⟩,
    ⟨some 16, none, .inl (.mov (.v 15))⟩,
    ⟨some 17, (some (16, true)), .inl (.faddr 0 (.v 2))⟩,
    ⟨some 18, (some (16, true)), .inl (.load 1 false (.v 17))⟩,
    ⟨some 19, (some (16, true)), .inl (.bin .eql (.v 18) (.c (.str [109, 111, 118, 105, 110, 103, 65, 118, 101, 114, 97, 103, 101, 40, 97, 44, 50, 41])))⟩,
    ⟨some 20, none, .inl (.pick (.v 16) (.v 19) (.c (.bool false)))⟩,
    ⟨some 21, none, .inl (.mov (.v 20))⟩,
    ⟨some 22, (some (21, true)), .inl (.faddr 3 (.v 2))⟩,
    ⟨some 23, (some (21, true)), .inl (.load 1 false (.v 22))⟩,
    ⟨some 24, (some (21, true)), .inl (.len false (.v 23))⟩,
    ⟨some 25, (some (21, true)), .inl (.bin .eql (.v 24) (.c (.int .i64 4)))⟩,
    ⟨some 26, none, .inl (.pick (.v 21) (.v 25) (.c (.bool false)))⟩,
    ⟨some 27, none, .inl (.mov (.v 26))⟩,
    ⟨some 28, (some (27, true)), .inl (.faddr 3 (.v 2))⟩,
    ⟨some 29, (some (27, true)), .inl (.load 1 false (.v 28))⟩,
    ⟨some 30, (some (27, true)), .inl (.iaddr 2 (.v 29) (.c (.int .i64 1)))⟩,
    ⟨some 31, (some (27, true)), .inl (.load 2 true (.v 30))⟩,
    ⟨some 32, (some (27, true)), .inl (.build [.bool false, .int .i64 0] [⟨0, 1, (.c (.bool true))⟩, ⟨1, 1, (.c (.int .i64 2))⟩])⟩,
    ⟨some 33, (some (27, true)), .inl (.eqs [1, 0] false (.v 31) (.v 32))⟩,
    ⟨some 34, none, .inl (.pick (.v 27) (.v 33) (.c (.bool false)))⟩,
    ⟨some 35, none, .inl (.mov (.v 34))⟩,
    ⟨some 36, (some (35, true)), .inl (.faddr 3 (.v 2))⟩,
    ⟨some 37, (some (35, true)), .inl (.load 1 false (.v 36))⟩,
    ⟨some 38, (some (35, true)), .inl (.iaddr 2 (.v 37) (.c (.int .i64 2)))⟩,
    ⟨some 39, (some (35, true)), .inl (.load 2 true (.v 38))⟩,
    ⟨some 40, (some (35, true)), .inl (.build [.bool false, .int .i64 0] [⟨0, 1, (.c (.bool true))⟩, ⟨1, 1, (.c (.int .i64 3))⟩])⟩,
    ⟨some 41, (some (35, true)), .inl (.eqs [1, 0] false (.v 39) (.v 40))⟩,
    ⟨some 42, none, .inl (.pick (.v 35) (.v 41) (.c (.bool false)))⟩,
    ⟨some 0, none, .inl (.mov (.v 42))⟩]) (.ret))))⟩

def fwin_Rank : AFn := ⟨2, [.cell 4 2 true],
  .seq (.ops [1, 2, 4] [
    ⟨some 2, none, .inr (.box (.v 0))⟩,
    ⟨some 4, none, .inr (.alloc [.bool false, .int .i64 0])⟩]) (.seq (.ops [1, 2, 4, 5] [
    ⟨some 8, none, .inl (.call (.f 137) [(.c (.int .i64 100))])⟩,
    ⟨some 9, none, .inl (.fld 1 1 false (.v 8))⟩,
    ⟨some 5, none, .inl (.mov (.v 9))⟩]) (.seq (.seq (.ops [1, 2, 4, 5, 23] [
    ⟨some 10, none, .inl (.faddr 0 (.v 2))⟩,
    ⟨some 11, none, .inl (.load 1 false (.v 10))⟩,
    ⟨some 12, none, .inl (.un .not (.v 11))⟩,
    ⟨some 13, none, .inl (.mov (.v 12))⟩,
    ⟨some 14, (some (13, false)), .inl (.faddr 1 (.v 2))⟩,
    ⟨some 15, (some (13, false)), .inl (.load 1 false (.v 14))⟩,
    ⟨some 16, (some (13, false)), .inl (.bin .lss (.v 15) (.c (.int .i64 0)))⟩,
    ⟨some 17, none, .inl (.pick (.v 13) (.c (.bool true)) (.v 16))⟩,
    ⟨some 18, none, .inl (.mov (.v 17))⟩,
    ⟨some 19, (some (18, false)), .inl (.faddr 1 (.v 2))⟩,
    ⟨some 20, (some (18, false)), .inl (.load 1 false (.v 19))⟩,
    ⟨some 21, (some (18, false)), .inl (.mov (.v 5))⟩,
    ⟨some 22, (some (18, false)), .inl (.bin .gtr (.v 20) (.v 21))⟩,
    ⟨some 23, none, .inl (.pick (.v 18) (.c (.bool true)) (.v 22))⟩]) (.cond (.v 23) (.seq (.ops [4] [
    ⟨some 24, none, .inl (.build [.bool false, .int .i64 0] [])⟩,
    ⟨none, none, .inr (.store 2 (.v 4) (.v 24))⟩]) (.ret)) (.skip))) (.seq (.ops [2, 4, 5, 6] [
    ⟨some 25, none, .inl (.mov (.v 1))⟩,
    ⟨some 26, none, .inr (.callf (.f 177) [(.v 25)])⟩,
    ⟨some 6, none, .inl (.mov (.v 26))⟩]) (.seq (.seq (.ops [2, 4, 5, 6, 29] [
    ⟨some 27, none, .inl (.mov (.v 6))⟩,
    ⟨some 28, none, .inl (.len false (.v 27))⟩,
    ⟨some 29, none, .inl (.bin .eql (.v 28) (.c (.int .i64 0)))⟩]) (.cond (.v 29) (.seq (.ops [4] [
    ⟨some 30, none, .inl (.build [.bool false, .int .i64 0] [])⟩,
    ⟨none, none, .inr (.store 2 (.v 4) (.v 30))⟩]) (.ret)) (.skip))) (.seq (.ops [4, 6, 7] [
    ⟨some 31, none, .inl (.faddr 1 (.v 2))⟩,
    ⟨some 32, none, .inl (.load 1 false (.v 31))⟩,
    ⟨some 33, none, .inl (.mov (.v 6))⟩,
    ⟨some 34, none, .inl (.len false (.v 33))⟩,
    ⟨some 35, none, .inl (.bin .mul (.v 32) (.v 34))⟩,
    ⟨some 36, none, .inl (.mov (.v 5))⟩,
    ⟨some 37, none, .inl (.bin .add (.v 35) (.v 36))⟩,
    ⟨some 38, none, .inl (.bin .sub (.v 37) (.c (.int .i64 1)))⟩,
    ⟨some 39, none, .inl (.mov (.v 5))⟩,
    ⟨some 40, none, .inl (.bin .quo (.v 38) (.v 39))⟩,
    ⟨some 41, none, .inl (.minmax true [(.c (.int .i64 1)), (.v 40)])⟩,
    ⟨some 7, none, .inl (.mov (.v 41))⟩]) (.seq (.ops [4] [
    ⟨some 42, none, .inl (.mov (.v 6))⟩,
    ⟨some 43, none, .inl (.mov (.v 7))⟩,
    ⟨some 44, none, .inl (.bin .sub (.v 43) (.c (.int .i64 1)))⟩,
    ⟨some 45, none, .inl (.iaddr 2 (.v 42) (.v 44))⟩,
    ⟨some 46, none, .inl (.load 2 true (.v 45))⟩,
    ⟨none, none, .inr (.store 2 (.v 4) (.v 46))⟩]) (.ret)))))))⟩

def fwin_Median : AFn := ⟨1, [.cell 2 2 true],
  .seq (.ops [0, 2] [
    ⟨some 2, none, .inr (.alloc [.bool false, .int .i64 0])⟩]) (.seq (.ops [2, 3] [
    ⟨some 5, none, .inl (.mov (.v 0))⟩,
    ⟨some 6, none, .inr (.callf (.f 177) [(.v 5)])⟩,
    ⟨some 3, none, .inl (.mov (.v 6))⟩]) (.seq (.ops [2, 3, 4] [
    ⟨some 7, none, .inl (.mov (.v 3))⟩,
    ⟨some 8, none, .inl (.len false (.v 7))⟩,
    ⟨some 4, none, .inl (.mov (.v 8))⟩]) (.seq (.block [2, 3, 4] 0 (.seq (.ops [2, 3, 4, 9] [
    ⟨some 10, none, .inl (.mov (.v 4))⟩,
    ⟨some 11, none, .inl (.bin .eql (.v 10) (.c (.int .i64 0)))⟩,
    ⟨some 9, none, .inl (.mov (.v 11))⟩]) (.cond (.v 9) (.seq (.ops [2] [
    ⟨some 12, none, .inl (.build [.bool false, .int .i64 0] [])⟩,
    ⟨none, none, .inr (.store 2 (.v 2) (.v 12))⟩]) (.ret)) (.seq (.ops [2, 3, 4, 13] [
    ⟨some 14, none, .inl (.mov (.v 4))⟩,
    ⟨some 15, none, .inl (.bin .rem (.v 14) (.c (.int .i64 2)))⟩,
    ⟨some 16, none, .inl (.bin .eql (.v 15) (.c (.int .i64 1)))⟩,
    ⟨some 13, none, .inl (.mov (.v 16))⟩]) (.cond (.v 13) (.seq (.ops [2] [
    ⟨some 17, none, .inl (.mov (.v 3))⟩,
    ⟨some 18, none, .inl (.mov (.v 4))⟩,
    ⟨some 19, none, .inl (.bin .quo (.v 18) (.c (.int .i64 2)))⟩,
    ⟨some 20, none, .inl (.iaddr 2 (.v 17) (.v 19))⟩,
    ⟨some 21, none, .inl (.load 2 true (.v 20))⟩,
    ⟨none, none, .inr (.store 2 (.v 2) (.v 21))⟩]) (.ret)) (.skip)))))) (.seq (.ops [2] [
    ⟨some 22, none, .inl (.mov (.v 3))⟩,
    ⟨some 23, none, .inl (.mov (.v 4))⟩,
    ⟨some 24, none, .inl (.bin .quo (.v 23) (.c (.int .i64 2)))⟩,
    ⟨some 25, none, .inl (.bin .sub (.v 24) (.c (.int .i64 1)))⟩,
    ⟨some 26, none, .inl (.iaddr 2 (.v 22) (.v 25))⟩,
    ⟨some 27, none, .inl (.load 2 true (.v 26))⟩,
    ⟨some 28, none, .inl (.mov (.v 3))⟩,
    ⟨some 29, none, .inl (.mov (.v 4))⟩,
    ⟨some 30, none, .inl (.bin .quo (.v 29) (.c (.int .i64 2)))⟩,
    ⟨some 31, none, .inl (.iaddr 2 (.v 28) (.v 30))⟩,
    ⟨some 32, none, .inl (.load 2 true (.v 31))⟩,
    ⟨some 33, none, .inl (.bslice 2 true 2 ([.bool false, .int .i64 0] ++ [.bool false, .int .i64 0]) [⟨0, 2, (.v 27)⟩, ⟨2, 2, (.v 32)⟩])⟩,
    ⟨some 34, none, .inl (.call (.f 136) [(.v 33)])⟩,
    ⟨some 35, none, .inl (.call (.f 137) [(.c (.int .i64 2))])⟩,
    ⟨some 36, none, .inl (.call (.f 138) [(.v 34), (.v 35)])⟩,
    ⟨none, none, .inr (.store 2 (.v 2) (.v 36))⟩]) (.ret)))))⟩

def fwin_Deviation_l1 : Code := .loop [2, 4, 5, 14, 15, 16] true (.seq (.ops [2, 4, 5, 14, 15, 16, 17] [
    ⟨some 17, none, .inl (.bin .lss (.v 16) (.v 15))⟩]) (.seq (.cond (.v 17) (.skip) (.exit 0)) (.seq (.block [2, 4, 5, 14, 15, 16] 1 (.seq (.ops [2, 4, 5, 7, 14, 15, 16] [
    ⟨some 18, none, .inl (.iaddr 2 (.v 14) (.v 16))⟩,
    ⟨some 19, none, .inl (.load 2 true (.v 18))⟩,
    ⟨some 7, none, .inr (.alloc [.bool false, .int .i64 0])⟩,
    ⟨none, none, .inr (.store 2 (.v 7) (.v 19))⟩]) (.seq (.ops [2, 4, 5, 8, 14, 15, 16] [
    ⟨some 20, none, .inl (.load 2 true (.v 7))⟩,
    ⟨some 21, none, .inl (.load 2 true (.v 4))⟩,
    ⟨some 22, none, .inl (.call (.f 176) [(.v 20), (.v 21)])⟩,
    ⟨some 8, none, .inr (.alloc [.bool false, .int .i64 0])⟩,
    ⟨none, none, .inr (.store 2 (.v 8) (.v 22))⟩]) (.seq (.ops [2, 4, 5, 9, 14, 15, 16] [
    ⟨some 23, none, .inl (.load 2 true (.v 8))⟩,
    ⟨some 24, none, .inl (.load 2 true (.v 8))⟩,
    ⟨some 25, none, .inl (.call (.f 175) [(.v 23), (.v 24)])⟩,
    ⟨some 9, none, .inr (.alloc [.bool false, .int .i64 0])⟩,
    ⟨none, none, .inr (.store 2 (.v 9) (.v 25))⟩]) (.seq (.seq (.ops [2, 4, 5, 9, 14, 15, 16, 28] [
    ⟨some 26, none, .inl (.faddr 0 (.v 9))⟩,
    ⟨some 27, none, .inl (.load 1 false (.v 26))⟩,
    ⟨some 28, none, .inl (.un .not (.v 27))⟩]) (.cond (.v 28) (.seq (.ops [2] [
    ⟨some 29, none, .inl (.build [.bool false, .int .i64 0] [])⟩,
    ⟨none, none, .inr (.store 2 (.v 2) (.v 29))⟩]) (.ret)) (.skip))) (.ops [2, 4, 5, 14, 15, 16] [
    ⟨some 30, none, .inl (.mov (.v 5))⟩,
    ⟨some 31, none, .inl (.load 2 true (.v 9))⟩,
    ⟨some 32, none, .inl (.bslice 2 true 1 [.bool false, .int .i64 0] [⟨0, 2, (.v 31)⟩])⟩,
    ⟨some 33, none, .inr (.append 2 (.v 30) (.v 32))⟩,
    ⟨some 5, none, .inl (.mov (.v 33))⟩])))))) (.ops [2, 4, 5, 14, 15, 16] [
    ⟨some 34, none, .inl (.bin .add (.v 16) (.c (.int .i64 1)))⟩,
    ⟨some 16, none, .inl (.mov (.v 34))⟩]))))
def fwin_Deviation : AFn := ⟨1, [.cell 2 2 true],
  .seq (.ops [0, 2] [
    ⟨some 2, none, .inr (.alloc [.bool false, .int .i64 0])⟩]) (.seq (.ops [2, 3] [
    ⟨some 10, none, .inl (.mov (.v 0))⟩,
    ⟨some 11, none, .inr (.callf (.f 140) [(.v 10)])⟩,
    ⟨some 3, none, .inl (.mov (.v 11))⟩]) (.seq (.ops [2, 3, 4] [
    ⟨some 12, none, .inl (.mov (.v 3))⟩,
    ⟨some 13, none, .inl (.call (.f 132) [(.c (.int .i64 1)), (.v 12)])⟩,
    ⟨some 4, none, .inr (.alloc [.bool false, .int .i64 0])⟩,
    ⟨none, none, .inr (.store 2 (.v 4) (.v 13))⟩]) (.seq (.ops [2, 3, 4, 5] [
    ⟨some 5, none, .inr (.newrow 2)⟩]) (.seq (.seq (.ops [2, 4, 5, 14, 15, 16] [
    ⟨some 14, none, .inl (.mov (.v 3))⟩,
    ⟨some 15, none, .inl (.len false (.v 14))⟩,
    ⟨some 16, none, .inl (.mov (.c (.int .i64 0)))⟩]) (.block [2, 5] 0 (fwin_Deviation_l1))) (.seq (.ops [2] [
    ⟨some 35, none, .inl (.mov (.v 5))⟩,
    ⟨some 36, none, .inl (.call (.f 132) [(.c (.int .i64 1)), (.v 35)])⟩,
    ⟨some 37, none, .inl (.call (.f 174) [(.v 36)])⟩,
    ⟨none, none, .inr (.store 2 (.v 2) (.v 37))⟩]) (.ret))))))⟩

def l21_buckets : AFn := ⟨4, [.slot 8],
  .seq (.ops [0, 2, 3, 5] [
    ⟨some 5, none, .inr (.box (.v 1))⟩,
    ⟨some 8, none, .inl (.mov (.c (.bool false)))⟩]) (.seq (.seq (.ops [0, 2, 3, 5, 35] [
    ⟨some 14, none, .inl (.load 5 true (.v 5))⟩,
    ⟨some 15, none, .inl (.bslice 5 true 1 [.str [], .int .i64 0, .int .i64 0, .sl .nil 2 [], .int .i64 0] [⟨0, 5, (.v 14)⟩])⟩,
    ⟨some 16, none, .inl (.call (.f 103) [(.v 15)])⟩,
    ⟨some 17, none, .inl (.mov (.v 16))⟩,
    ⟨some 18, (some (17, false)), .inl (.load 5 true (.v 5))⟩,
    ⟨some 19, (some (17, false)), .inl (.call (.f 113) [(.v 18)])⟩,
    ⟨some 20, (some (17, false)), .inl (.mov (.v 19))⟩,
    ⟨some 21, (some (20, true)), .inl (.mov (.v 2))⟩,
    ⟨some 22, (some (20, true)), .inl (.bin .gtr (.v 21) (.c (.int .i64 0)))⟩,
    ⟨some 23, (some (17, false)), .inl (.pick (.v 20) (.v 22) (.c (.bool false)))⟩,
    ⟨some 24, (some (17, false)), .inl (.mov (.v 23))⟩,
    ⟨some 25, (some (24, true)), .inl (.faddr 3 (.v 5))⟩,
    ⟨some 26, (some (24, true)), .inl (.load 1 false (.v 25))⟩,
    ⟨some 27, (some (24, true)), .inl (.len false (.v 26))⟩,
    ⟨some 28, (some (24, true)), .inl (.faddr 2 (.v 5))⟩,
    ⟨some 29, (some (24, true)), .inl (.load 1 false (.v 28))⟩,
    ⟨some 30, (some (24, true)), .inl (.mov (.v 2))⟩,
    ⟨some 31, (some (24, true)), .inl (.bin .quo (.v 29) (.v 30))⟩,
    ⟨some 32, (some (24, true)), .inl (.bin .mul (.v 27) (.v 31))⟩,
    ⟨some 33, (some (24, true)), .inl (.bin .gtr (.v 32) (.c (.int .i64 1000)))⟩,
    ⟨some 34, (some (17, false)), .inl (.pick (.v 24) (.v 33) (.c (.bool false)))⟩,
    ⟨some 35, none, .inl (.pick (.v 17) (.c (.bool true)) (.v 34))⟩]) (.cond (.v 35) (.seq (.ops [8] [
    ⟨some 8, none, .inl (.mov (.c (.bool true)))⟩]) (.ret)) (.skip))) (.seq (.ops [0, 2, 3, 5, 9] [
    ⟨some 36, none, .inl (.load 5 true (.v 5))⟩,
    ⟨some 37, none, .inr (.callf (.f 34) [(.v 36)])⟩,
    ⟨some 9, none, .inr (.alloc [.str [], .int .i64 0, .int .i64 0, .sl .nil 2 [], .int .i64 0])⟩,
    ⟨none, none, .inr (.store 5 (.v 9) (.v 37))⟩]) (.seq (.ops [0, 2, 3, 5, 9, 10, 11] [
    ⟨some 39, none, .inl (.mov (.v 0))⟩,
    ⟨some 40, none, .inl (.load 5 true (.v 9))⟩,
    ⟨some 41, none, .inl (.mov (.v 2))⟩,
    ⟨some 42, none, .inl (.mov (.v 3))⟩,
    ⟨some 43, none, .inr (.callf (.f 157) [(.v 39), (.v 40), (.v 41), (.v 42)])⟩,
    ⟨some 38, none, .inl (.mov (.v 43))⟩,
    ⟨some 44, none, .inl (.ext (.v 38) 0)⟩,
    ⟨some 45, none, .inl (.ext (.v 38) 1)⟩,
    ⟨some 10, none, .inr (.alloc [.str [], .int .i64 0, .int .i64 0, .sl .nil 2 [], .int .i64 0])⟩,
    ⟨none, none, .inr (.store 5 (.v 10) (.v 44))⟩,
    ⟨some 11, none, .inl (.mov (.v 45))⟩]) (.seq (.ops [5, 9, 10, 11, 12, 13] [
    ⟨some 47, none, .inl (.mov (.v 0))⟩,
    ⟨some 48, none, .inl (.load 5 true (.v 5))⟩,
    ⟨some 49, none, .inl (.mov (.v 2))⟩,
    ⟨some 50, none, .inl (.mov (.v 3))⟩,
    ⟨some 51, none, .inr (.callf (.f 156) [(.v 47), (.v 48), (.v 49), (.v 50)])⟩,
    ⟨some 46, none, .inl (.mov (.v 51))⟩,
    ⟨some 52, none, .inl (.ext (.v 46) 0)⟩,
    ⟨some 53, none, .inl (.ext (.v 46) 1)⟩,
    ⟨some 12, none, .inr (.alloc [.str [], .int .i64 0, .int .i64 0, .sl .nil 2 [], .int .i64 0])⟩,
    ⟨none, none, .inr (.store 5 (.v 12) (.v 52))⟩,
    ⟨some 13, none, .inl (.mov (.v 53))⟩]) (.seq (.ops [8] [
    ⟨some 54, none, .inl (.load 5 true (.v 10))⟩,
    ⟨some 55, none, .inl (.load 5 true (.v 12))⟩,
    ⟨some 56, none, .inl (.call (.f 99) [(.v 54), (.v 55)])⟩,
    ⟨some 57, none, .inl (.mov (.v 56))⟩,
    ⟨some 58, (some (57, true)), .inl (.mov (.v 11))⟩,
    ⟨some 59, (some (57, true)), .inl (.mov (.v 13))⟩,
    ⟨some 60, (some (57, true)), .inl (.eqk 1 false (.v 58) (.v 59))⟩,
    ⟨some 61, none, .inl (.pick (.v 57) (.v 60) (.c (.bool false)))⟩,
    ⟨some 62, none, .inl (.mov (.v 61))⟩,
    ⟨some 63, (some (62, true)), .inl (.load 5 true (.v 9))⟩,
    ⟨some 64, (some (62, true)), .inl (.load 5 true (.v 5))⟩,
    ⟨some 65, (some (62, true)), .inl (.call (.f 99) [(.v 63), (.v 64)])⟩,
    ⟨some 66, none, .inl (.pick (.v 62) (.v 65) (.c (.bool false)))⟩,
    ⟨some 67, none, .inl (.mov (.v 66))⟩,
    ⟨some 68, (some (67, true)), .inl (.call (.f 100) [])⟩,
    ⟨some 69, none, .inl (.pick (.v 67) (.v 68) (.c (.bool false)))⟩,
    ⟨some 8, none, .inl (.mov (.v 69))⟩]) (.ret))))))⟩

def l21_moved : AFn := ⟨3, [.slot 6],
  .seq (.ops [0, 2, 4] [
    ⟨some 4, none, .inr (.box (.v 1))⟩,
    ⟨some 6, none, .inl (.mov (.c (.bool false)))⟩]) (.seq (.seq (.ops [0, 2, 4, 14] [
    ⟨some 12, none, .inl (.load 5 true (.v 4))⟩,
    ⟨some 13, none, .inl (.bslice 5 true 1 [.str [], .int .i64 0, .int .i64 0, .sl .nil 2 [], .int .i64 0] [⟨0, 5, (.v 12)⟩])⟩,
    ⟨some 14, none, .inl (.call (.f 103) [(.v 13)])⟩]) (.cond (.v 14) (.seq (.ops [6] [
    ⟨some 6, none, .inl (.mov (.c (.bool true)))⟩]) (.ret)) (.skip))) (.seq (.ops [0, 2, 4, 7] [
    ⟨some 15, none, .inl (.load 5 true (.v 4))⟩,
    ⟨some 16, none, .inr (.callf (.f 34) [(.v 15)])⟩,
    ⟨some 7, none, .inr (.alloc [.str [], .int .i64 0, .int .i64 0, .sl .nil 2 [], .int .i64 0])⟩,
    ⟨none, none, .inr (.store 5 (.v 7) (.v 16))⟩]) (.seq (.ops [0, 2, 4, 7, 8, 9] [
    ⟨some 18, none, .inl (.mov (.v 0))⟩,
    ⟨some 19, none, .inl (.load 5 true (.v 7))⟩,
    ⟨some 20, none, .inl (.mov (.v 2))⟩,
    ⟨some 21, none, .inr (.callf (.f 102) [(.v 18), (.v 19), (.v 20)])⟩,
    ⟨some 17, none, .inl (.mov (.v 21))⟩,
    ⟨some 22, none, .inl (.ext (.v 17) 0)⟩,
    ⟨some 23, none, .inl (.ext (.v 17) 1)⟩,
    ⟨some 8, none, .inr (.alloc [.str [], .int .i64 0, .int .i64 0, .sl .nil 2 [], .int .i64 0])⟩,
    ⟨none, none, .inr (.store 5 (.v 8) (.v 22))⟩,
    ⟨some 9, none, .inl (.mov (.v 23))⟩]) (.seq (.ops [4, 7, 8, 9, 10, 11] [
    ⟨some 25, none, .inl (.mov (.v 0))⟩,
    ⟨some 26, none, .inl (.load 5 true (.v 4))⟩,
    ⟨some 27, none, .inl (.mov (.v 2))⟩,
    ⟨some 28, none, .inr (.callf (.f 101) [(.v 25), (.v 26), (.v 27)])⟩,
    ⟨some 24, none, .inl (.mov (.v 28))⟩,
    ⟨some 29, none, .inl (.ext (.v 24) 0)⟩,
    ⟨some 30, none, .inl (.ext (.v 24) 1)⟩,
    ⟨some 10, none, .inr (.alloc [.str [], .int .i64 0, .int .i64 0, .sl .nil 2 [], .int .i64 0])⟩,
    ⟨none, none, .inr (.store 5 (.v 10) (.v 29))⟩,
    ⟨some 11, none, .inl (.mov (.v 30))⟩]) (.seq (.ops [6] [
    ⟨some 31, none, .inl (.load 5 true (.v 8))⟩,
    ⟨some 32, none, .inl (.load 5 true (.v 10))⟩,
    ⟨some 33, none, .inl (.call (.f 99) [(.v 31), (.v 32)])⟩,
    ⟨some 34, none, .inl (.mov (.v 33))⟩,
    ⟨some 35, (some (34, true)), .inl (.mov (.v 9))⟩,
    ⟨some 36, (some (34, true)), .inl (.mov (.v 11))⟩,
    ⟨some 37, (some (34, true)), .inl (.eqk 1 false (.v 35) (.v 36))⟩,
    ⟨some 38, none, .inl (.pick (.v 34) (.v 37) (.c (.bool false)))⟩,
    ⟨some 39, none, .inl (.mov (.v 38))⟩,
    ⟨some 40, (some (39, true)), .inl (.load 5 true (.v 7))⟩,
    ⟨some 41, (some (39, true)), .inl (.load 5 true (.v 4))⟩,
    ⟨some 42, (some (39, true)), .inl (.call (.f 99) [(.v 40), (.v 41)])⟩,
    ⟨some 43, none, .inl (.pick (.v 39) (.v 42) (.c (.bool false)))⟩,
    ⟨some 44, none, .inl (.mov (.v 43))⟩,
    ⟨some 45, (some (44, true)), .inl (.call (.f 100) [])⟩,
    ⟨some 46, none, .inl (.pick (.v 44) (.v 45) (.c (.bool false)))⟩,
    ⟨some 6, none, .inl (.mov (.v 46))⟩]) (.ret))))))⟩

def l21_FwinOthers_l1 : Code := .loop [0, 2, 3, 5, 9, 10, 11] false (.seq (.seq (.ops [0, 2, 3, 5, 9, 10, 11, 25] [
    ⟨some 22, none, .inl (.mov (.v 11))⟩,
    ⟨some 23, none, .inl (.mov (.v 9))⟩,
    ⟨some 24, none, .inl (.len false (.v 23))⟩,
    ⟨some 25, none, .inl (.bin .lss (.v 22) (.v 24))⟩]) (.cond (.v 25) (.skip) (.exit 0))) (.seq (.block [0, 2, 3, 5, 9, 10, 11] 1 (.seq (.ops [0, 2, 3, 5, 9, 10, 11, 36] [
    ⟨some 28, none, .inl (.mov (.v 9))⟩,
    ⟨some 29, none, .inl (.mov (.v 11))⟩,
    ⟨some 30, none, .inl (.iaddr 1 (.v 28) (.v 29))⟩,
    ⟨some 31, none, .inl (.load 1 false (.v 30))⟩,
    ⟨some 32, none, .inl (.mov (.v 10))⟩,
    ⟨some 33, none, .inl (.mov (.v 11))⟩,
    ⟨some 34, none, .inl (.iaddr 1 (.v 32) (.v 33))⟩,
    ⟨some 35, none, .inl (.load 1 false (.v 34))⟩,
    ⟨some 36, none, .inl (.bin .neq (.v 31) (.v 35))⟩]) (.cond (.v 36) (.seq (.ops [8] [
    ⟨some 8, none, .inl (.mov (.c (.bool false)))⟩]) (.ret)) (.skip)))) (.ops [0, 2, 3, 5, 9, 10, 11] [
    ⟨some 26, none, .inl (.mov (.v 11))⟩,
    ⟨some 27, none, .inl (.bin .add (.v 26) (.c (.int .i64 1)))⟩,
    ⟨some 11, none, .inl (.mov (.v 27))⟩])))
def l21_FwinOthers : AFn := ⟨4, [.slot 8],
  .seq (.ops [0, 2, 3, 5] [
    ⟨some 5, none, .inr (.box (.v 1))⟩,
    ⟨some 8, none, .inl (.mov (.c (.bool false)))⟩]) (.seq (.seq (.ops [0, 2, 3, 5, 14] [
    ⟨some 12, none, .inl (.mov (.v 0))⟩,
    ⟨some 13, none, .inl (.len true (.v 12))⟩,
    ⟨some 14, none, .inl (.bin .gtr (.v 13) (.c (.int .i64 300)))⟩]) (.cond (.v 14) (.seq (.ops [8] [
    ⟨some 8, none, .inl (.mov (.c (.bool true)))⟩]) (.ret)) (.skip))) (.seq (.ops [0, 2, 3, 5, 9, 10] [
    ⟨some 15, none, .inr (.callf (.f 206) [])⟩,
    ⟨some 16, none, .inr (.callf (.f 207) [])⟩,
    ⟨some 9, none, .inl (.mov (.v 15))⟩,
    ⟨some 10, none, .inl (.mov (.v 16))⟩]) (.seq (.seq (.ops [0, 2, 3, 5, 9, 10, 21] [
    ⟨some 17, none, .inl (.mov (.v 9))⟩,
    ⟨some 18, none, .inl (.len false (.v 17))⟩,
    ⟨some 19, none, .inl (.mov (.v 10))⟩,
    ⟨some 20, none, .inl (.len false (.v 19))⟩,
    ⟨some 21, none, .inl (.bin .neq (.v 18) (.v 20))⟩]) (.cond (.v 21) (.seq (.ops [8] [
    ⟨some 8, none, .inl (.mov (.c (.bool false)))⟩]) (.ret)) (.skip))) (.seq (.seq (.ops [0, 2, 3, 5, 9, 10, 11] [
    ⟨some 11, none, .inl (.mov (.c (.int .i64 0)))⟩]) (.block [0, 2, 3, 5] 0 (l21_FwinOthers_l1))) (.seq (.ops [8] [
    ⟨some 37, none, .inl (.mov (.v 0))⟩,
    ⟨some 38, none, .inl (.load 5 true (.v 5))⟩,
    ⟨some 39, none, .inl (.mov (.v 2))⟩,
    ⟨some 40, none, .inl (.call (.f 98) [(.v 37), (.v 38), (.v 39)])⟩,
    ⟨some 41, none, .inl (.mov (.v 40))⟩,
    ⟨some 42, (some (41, true)), .inl (.mov (.v 0))⟩,
    ⟨some 43, (some (41, true)), .inl (.load 5 true (.v 5))⟩,
    ⟨some 44, (some (41, true)), .inl (.mov (.v 2))⟩,
    ⟨some 45, (some (41, true)), .inl (.mov (.v 3))⟩,
    ⟨some 46, (some (41, true)), .inl (.call (.f 155) [(.v 42), (.v 43), (.v 44), (.v 45)])⟩,
    ⟨some 47, none, .inl (.pick (.v 41) (.v 46) (.c (.bool false)))⟩,
    ⟨some 48, none, .inl (.mov (.v 47))⟩,
    ⟨some 49, (some (48, true)), .inl (.call (.f 100) [])⟩,
    ⟨some 50, none, .inl (.pick (.v 48) (.v 49) (.c (.bool false)))⟩,
    ⟨some 8, none, .inl (.mov (.v 50))⟩]) (.ret))))))⟩

def l21_FwinMedian : AFn := ⟨2, [.slot 4],
  .seq (.ops [0, 3] [
    ⟨some 3, none, .inr (.box (.v 1))⟩,
    ⟨some 4, none, .inl (.mov (.c (.bool false)))⟩]) (.seq (.seq (.ops [0, 3, 7] [
    ⟨some 5, none, .inl (.mov (.v 0))⟩,
    ⟨some 6, none, .inl (.len false (.v 5))⟩,
    ⟨some 7, none, .inl (.bin .gtr (.v 6) (.c (.int .i64 100)))⟩]) (.cond (.v 7) (.seq (.ops [4] [
    ⟨some 4, none, .inl (.mov (.c (.bool true)))⟩]) (.ret)) (.skip))) (.seq (.ops [4] [
    ⟨some 8, none, .inl (.mov (.v 0))⟩,
    ⟨some 9, none, .inl (.call (.f 115) [(.v 8)])⟩,
    ⟨some 10, none, .inl (.mov (.v 0))⟩,
    ⟨some 11, none, .inl (.call (.f 123) [(.v 10)])⟩,
    ⟨some 12, none, .inl (.eqs [1, 0] false (.v 9) (.v 11))⟩,
    ⟨some 13, none, .inl (.mov (.v 12))⟩,
    ⟨some 14, (some (13, true)), .inl (.mov (.v 0))⟩,
    ⟨some 15, (some (13, true)), .inl (.call (.f 116) [(.v 14)])⟩,
    ⟨some 16, (some (13, true)), .inl (.mov (.v 0))⟩,
    ⟨some 17, (some (13, true)), .inl (.call (.f 124) [(.v 16)])⟩,
    ⟨some 18, (some (13, true)), .inl (.eqs [1, 0] false (.v 15) (.v 17))⟩,
    ⟨some 19, none, .inl (.pick (.v 13) (.v 18) (.c (.bool false)))⟩,
    ⟨some 20, none, .inl (.mov (.v 19))⟩,
    ⟨some 21, (some (20, true)), .inl (.load 2 true (.v 3))⟩,
    ⟨some 22, (some (20, true)), .inl (.mov (.v 0))⟩,
    ⟨some 23, (some (20, true)), .inl (.call (.f 204) [(.v 21), (.v 22)])⟩,
    ⟨some 24, (some (20, true)), .inl (.load 2 true (.v 3))⟩,
    ⟨some 25, (some (20, true)), .inl (.mov (.v 0))⟩,
    ⟨some 26, (some (20, true)), .inl (.call (.f 205) [(.v 24), (.v 25)])⟩,
    ⟨some 27, (some (20, true)), .inl (.eqs [1, 0] false (.v 23) (.v 26))⟩,
    ⟨some 28, none, .inl (.pick (.v 20) (.v 27) (.c (.bool false)))⟩,
    ⟨some 29, none, .inl (.mov (.v 28))⟩,
    ⟨some 30, (some (29, true)), .inl (.call (.f 100) [])⟩,
    ⟨some 31, none, .inl (.pick (.v 29) (.v 30) (.c (.bool false)))⟩,
    ⟨some 4, none, .inl (.mov (.v 31))⟩]) (.ret)))⟩

def l21_FwinMovingMedian : AFn := ⟨2, [.slot 4],
  .seq (.ops [1, 2] [
    ⟨some 2, none, .inr (.box (.v 0))⟩,
    ⟨some 4, none, .inl (.mov (.c (.bool false)))⟩]) (.seq (.ops [4] [
    ⟨some 5, none, .inl (.load 5 true (.v 2))⟩,
    ⟨some 6, none, .inl (.mov (.v 1))⟩,
    ⟨some 7, none, .inl (.call (.f 98) [(.c (.str [109, 111, 118, 105, 110, 103, 77, 101, 100, 105, 97, 110])), (.v 5), (.v 6)])⟩,
    ⟨some 4, none, .inl (.mov (.v 7))⟩]) (.ret))⟩

def l21_FwinHitcount : AFn := ⟨2, [.slot 4],
  .seq (.ops [1, 2] [
    ⟨some 2, none, .inr (.box (.v 0))⟩,
    ⟨some 4, none, .inl (.mov (.c (.bool false)))⟩]) (.seq (.ops [4] [
    ⟨some 5, none, .inl (.load 5 true (.v 2))⟩,
    ⟨some 6, none, .inl (.mov (.v 1))⟩,
    ⟨some 7, none, .inl (.call (.f 155) [(.c (.str [104, 105, 116, 99, 111, 117, 110, 116])), (.v 5), (.v 6), (.c (.int .i64 0))])⟩,
    ⟨some 4, none, .inl (.mov (.v 7))⟩]) (.ret))⟩

def l21_FwinSummarize : AFn := ⟨3, [.slot 6],
  .seq (.ops [1, 2, 3] [
    ⟨some 3, none, .inr (.box (.v 0))⟩,
    ⟨some 6, none, .inl (.mov (.c (.bool false)))⟩]) (.seq (.ops [6] [
    ⟨some 7, none, .inl (.load 5 true (.v 3))⟩,
    ⟨some 8, none, .inl (.mov (.v 1))⟩,
    ⟨some 9, none, .inl (.mov (.v 2))⟩,
    ⟨some 10, none, .inl (.call (.f 155) [(.c (.str [115, 117, 109, 109, 97, 114, 105, 122, 101])), (.v 7), (.v 8), (.v 9)])⟩,
    ⟨some 6, none, .inl (.mov (.v 10))⟩]) (.ret))⟩

def l21_FwinStdev : AFn := ⟨2, [.slot 4],
  .seq (.ops [1, 2] [
    ⟨some 2, none, .inr (.box (.v 0))⟩,
    ⟨some 4, none, .inl (.mov (.c (.bool false)))⟩]) (.seq (.ops [4] [
    ⟨some 5, none, .inl (.load 5 true (.v 2))⟩,
    ⟨some 6, none, .inl (.mov (.v 1))⟩,
    ⟨some 7, none, .inl (.call (.f 98) [(.c (.str [115, 116, 100, 101, 118])), (.v 5), (.v 6)])⟩,
    ⟨some 4, none, .inl (.mov (.v 7))⟩]) (.ret))⟩

/-- All functions. -/
def Γ : Ctx := ⟨fun n => match n with
  | 203 => some (.code l21_FwinStdev)
  | 172 => some (.code l21_FwinSummarize)
  | 173 => some (.code l21_FwinHitcount)
  | 208 => some (.code l21_FwinMovingMedian)
  | 209 => some (.code l21_FwinMedian)
  | 210 => some (.code l21_FwinOthers)
  | 98 => some (.code l21_moved)
  | 155 => some (.code l21_buckets)
  | 116 => some (.code fwin_Deviation)
  | 115 => some (.code fwin_Median)
  | 204 => some (.code fwin_Rank)
  | 100 => some (.code l21_known)
  | 124 => some (.code r21_Deviation)
  | 123 => some (.code r21_Median)
  | 205 => some (.code r21_Rank)
  | 206 => some (.code fwin_Names)
  | 207 => some (.code r21_Names)
  | 102 => some (.code fwin_Move)
  | 103 => some (.code l21_heavy)
  | 99 => some (.code l21_same)
  | 34 => some (.code r18_Own)
  | 101 => some (.code r21_Move)
  | 157 => some (.code fwin_Buckets)
  | 113 => some (.code r18_Is)
  | 156 => some (.code r21_Buckets)
  | 140 => some (.code agg_Known)
  | 132 => some (.code agg_Of)
  | 175 => some (.code fixed_Mul)
  | 174 => some (.code fixed_Sqrt)
  | 176 => some (.code fixed_Sub)
  | 136 => some (.code fixed_Add)
  | 138 => some (.code fixed_Div)
  | 137 => some (.code fixed_Int)
  | 177 => some (.code fwin_sorted)
  | 179 => some (.code r1_Mul)
  | 178 => some (.code r1_Sqrt)
  | 180 => some (.code r1_Sub)
  | 131 => some (.code r6_Known)
  | 122 => some (.code r6_Of)
  | 128 => some (.code r1_Add)
  | 130 => some (.code r1_Div)
  | 129 => some (.code r1_Int)
  | 181 => some (.code r21_sorted)
  | 135 => some (.code r1_Known)
  | 104 => some (.code fwin_window_at)
  | 105 => some (.code dec_Digits)
  | 112 => some (.code fwin_does)
  | 111 => some (.code series_Is)
  | 30 => some (.code series_Label)
  | 28 => some (.code r18_Same)
  | 33 => some (.code r18_Label)
  | 107 => some (.code r2_Digits)
  | 106 => some (.code r21_window)
  | 29 => some (.code agg_Name)
  | 161 => some (.code fwin_hits)
  | 159 => some (.code series_End)
  | 158 => some (.code series_Fit)
  | 160 => some (.code slot_Align)
  | 120 => some (.code r1_Is)
  | 164 => some (.code r1_MulDiv)
  | 134 => some (.code r1_Of)
  | 162 => some (.code r18_Fit)
  | 163 => some (.code r5_Align)
  | 32 => some (.code r6_Name)
  | 126 => some (.code fixed_Is)
  | 139 => some (.code fixed_Less)
  | 144 => some (.code fixed_MulDiv)
  | 146 => some (.code fixed_known)
  | 145 => some (.code fixed_val)
  | 143 => some (.code fixed_Of)
  | 149 => some (.code math_bits_Mul64)
  | 142 => some (.code fixed_sum)
  | 183 => some (.code fwin_sorted_1)
  | 182 => some (.upd (sortG 183))
  | 141 => some (.code r1_two)
  | 168 => some (.code r1_times)
  | 133 => some (.code r1_plus)
  | 114 => some (.prim itoaG)
  | 117 => some (.code fwin_does_1)
  | 119 => some (.code series_Is_1)
  | 118 => some (.code slices_ContainsFunc_api_Val_api_Val)
  | 48 => some (.prim joinG)
  | 121 => some (.code r2_plain)
  | 31 => some (.code series_Own)
  | 165 => some (.code series_Cons)
  | 166 => some (.code series_within)
  | 167 => some (.code r1_size)
  | 169 => some (.code r18_Cons)
  | 148 => some (.code fixed_size)
  | 147 => some (.code math_bits_Div64)
  | 184 => some (.code cmp_Compare_int)
  | 125 => some (.code fwin_does_1_1)
  | 127 => some (.code slices_IndexFunc_api_Val_api_Val)
  | 49 => some (.fresh (cloneG 2))
  | 170 => some (.code series_within_1)
  | 150 => some (.code math_bits_LeadingZeros64)
  | 187 => some (.code cmp_isNaN_int)
  | 153 => some (.code math_bits_Len64)
  | _ => none, fun n => match n with
  | 154 => some pow10P
  | _ => none⟩
end Ab
