/- Part 3 of the texts that this claim needs. No conditions. -/
import Derived.Test.YtildhljhbbhmmaaProg
import Derived.KernelRfl
import Derived.Laws.Externs
import Derived.Test.YtildhljhbbhmmaaCv2
/- Compiled functions. WRITTEN BY A PROGRAM (mk.py). -/
namespace Go.Proofs.Ytildhljhbbhmmaa.AM
open Go
set_option maxRecDepth 100000
set_option linter.all false
def k121 : MCode := (.seq (.ops [⟨(some 4), none, false, (.mov (.const (.int .u32 0)))⟩]) (.seq (.ops [⟨(some 6), none, false, (.mov (.tmp 1))⟩, ⟨(some 7), none, false, (.conv .u64 (.tmp 6))⟩, ⟨(some 8), none, false, (.bin .int .and (.tmp 7) (.const (.int .u64 31)))⟩, ⟨(some 5), none, false, (.mov (.tmp 8))⟩]) (.seq (.ops [⟨(some 9), none, false, (.mov (.tmp 0))⟩, ⟨(some 10), none, false, (.mov (.tmp 5))⟩, ⟨(some 11), none, false, (.bin .int .shl (.tmp 9) (.tmp 10))⟩, ⟨(some 12), none, false, (.mov (.tmp 0))⟩, ⟨(some 13), none, false, (.mov (.tmp 5))⟩, ⟨(some 14), none, false, (.bin .int .sub (.const (.int .u64 32)) (.tmp 13))⟩, ⟨(some 15), none, false, (.bin .int .shr (.tmp 12) (.tmp 14))⟩, ⟨(some 16), none, false, (.bin .int .or (.tmp 11) (.tmp 15))⟩, ⟨(some 4), none, false, (.mov (.tmp 16))⟩]) .ret)))
def m121 : MFun := ⟨k121, [(.tmp 4)]⟩
theorem c121 : compFn Try.prog Try.f121 = some m121 := by kernel_rfl
def k114 : MCode := (.seq (.opsD [⟨(some 10), none, false, (.mov (.tmp 0))⟩, ⟨(some 11), none, false, (.mov (.tmp 1))⟩, ⟨(some 12), none, false, (.nilCheck (.tmp 10))⟩, ⟨(some 13), none, false, (.idxA 16 1 (.tmp 12) (.tmp 11))⟩, ⟨(some 14), none, false, (.load false 1 (.tmp 13))⟩, ⟨(some 15), none, false, (.mov (.tmp 0))⟩, ⟨(some 16), none, false, (.mov (.tmp 2))⟩, ⟨(some 17), none, false, (.nilCheck (.tmp 15))⟩, ⟨(some 18), none, false, (.idxA 16 1 (.tmp 17) (.tmp 16))⟩, ⟨(some 19), none, false, (.load false 1 (.tmp 18))⟩, ⟨(some 20), none, false, (.bin .int .add (.tmp 14) (.tmp 19))⟩, ⟨(some 21), none, false, (.nilCheck (.tmp 10))⟩, ⟨(some 22), none, false, (.idxA 16 1 (.tmp 21) (.tmp 11))⟩, ⟨none, none, false, (.store 1 (.tmp 22) (.tmp 20))⟩]) (.seq (.opsD [⟨(some 23), none, false, (.mov (.tmp 0))⟩, ⟨(some 24), none, false, (.mov (.tmp 4))⟩, ⟨(some 25), none, false, (.mov (.tmp 0))⟩, ⟨(some 26), none, false, (.mov (.tmp 4))⟩, ⟨(some 27), none, false, (.nilCheck (.tmp 25))⟩, ⟨(some 28), none, false, (.idxA 16 1 (.tmp 27) (.tmp 26))⟩, ⟨(some 29), none, false, (.load false 1 (.tmp 28))⟩, ⟨(some 30), none, false, (.mov (.tmp 0))⟩, ⟨(some 31), none, false, (.mov (.tmp 1))⟩, ⟨(some 32), none, false, (.nilCheck (.tmp 30))⟩, ⟨(some 33), none, false, (.idxA 16 1 (.tmp 32) (.tmp 31))⟩, ⟨(some 34), none, false, (.load false 1 (.tmp 33))⟩, ⟨(some 35), none, false, (.bin .int .xor (.tmp 29) (.tmp 34))⟩, ⟨(some 36), none, false, (.call false (.func 121) [(.tmp 35), (.const (.int .i64 16))])⟩, ⟨(some 37), none, false, (.nilCheck (.tmp 23))⟩, ⟨(some 38), none, false, (.idxA 16 1 (.tmp 37) (.tmp 24))⟩, ⟨none, none, false, (.store 1 (.tmp 38) (.tmp 36))⟩]) (.seq (.opsD [⟨(some 39), none, false, (.mov (.tmp 0))⟩, ⟨(some 40), none, false, (.mov (.tmp 3))⟩, ⟨(some 41), none, false, (.nilCheck (.tmp 39))⟩, ⟨(some 42), none, false, (.idxA 16 1 (.tmp 41) (.tmp 40))⟩, ⟨(some 43), none, false, (.load false 1 (.tmp 42))⟩, ⟨(some 44), none, false, (.mov (.tmp 0))⟩, ⟨(some 45), none, false, (.mov (.tmp 4))⟩, ⟨(some 46), none, false, (.nilCheck (.tmp 44))⟩, ⟨(some 47), none, false, (.idxA 16 1 (.tmp 46) (.tmp 45))⟩, ⟨(some 48), none, false, (.load false 1 (.tmp 47))⟩, ⟨(some 49), none, false, (.bin .int .add (.tmp 43) (.tmp 48))⟩, ⟨(some 50), none, false, (.nilCheck (.tmp 39))⟩, ⟨(some 51), none, false, (.idxA 16 1 (.tmp 50) (.tmp 40))⟩, ⟨none, none, false, (.store 1 (.tmp 51) (.tmp 49))⟩]) (.seq (.opsD [⟨(some 52), none, false, (.mov (.tmp 0))⟩, ⟨(some 53), none, false, (.mov (.tmp 2))⟩, ⟨(some 54), none, false, (.mov (.tmp 0))⟩, ⟨(some 55), none, false, (.mov (.tmp 2))⟩, ⟨(some 56), none, false, (.nilCheck (.tmp 54))⟩, ⟨(some 57), none, false, (.idxA 16 1 (.tmp 56) (.tmp 55))⟩, ⟨(some 58), none, false, (.load false 1 (.tmp 57))⟩, ⟨(some 59), none, false, (.mov (.tmp 0))⟩, ⟨(some 60), none, false, (.mov (.tmp 3))⟩, ⟨(some 61), none, false, (.nilCheck (.tmp 59))⟩, ⟨(some 62), none, false, (.idxA 16 1 (.tmp 61) (.tmp 60))⟩, ⟨(some 63), none, false, (.load false 1 (.tmp 62))⟩, ⟨(some 64), none, false, (.bin .int .xor (.tmp 58) (.tmp 63))⟩, ⟨(some 65), none, false, (.call false (.func 121) [(.tmp 64), (.const (.int .i64 12))])⟩, ⟨(some 66), none, false, (.nilCheck (.tmp 52))⟩, ⟨(some 67), none, false, (.idxA 16 1 (.tmp 66) (.tmp 53))⟩, ⟨none, none, false, (.store 1 (.tmp 67) (.tmp 65))⟩]) (.seq (.opsD [⟨(some 68), none, false, (.mov (.tmp 0))⟩, ⟨(some 69), none, false, (.mov (.tmp 1))⟩, ⟨(some 70), none, false, (.nilCheck (.tmp 68))⟩, ⟨(some 71), none, false, (.idxA 16 1 (.tmp 70) (.tmp 69))⟩, ⟨(some 72), none, false, (.load false 1 (.tmp 71))⟩, ⟨(some 73), none, false, (.mov (.tmp 0))⟩, ⟨(some 74), none, false, (.mov (.tmp 2))⟩, ⟨(some 75), none, false, (.nilCheck (.tmp 73))⟩, ⟨(some 76), none, false, (.idxA 16 1 (.tmp 75) (.tmp 74))⟩, ⟨(some 77), none, false, (.load false 1 (.tmp 76))⟩, ⟨(some 78), none, false, (.bin .int .add (.tmp 72) (.tmp 77))⟩, ⟨(some 79), none, false, (.nilCheck (.tmp 68))⟩, ⟨(some 80), none, false, (.idxA 16 1 (.tmp 79) (.tmp 69))⟩, ⟨none, none, false, (.store 1 (.tmp 80) (.tmp 78))⟩]) (.seq (.opsD [⟨(some 81), none, false, (.mov (.tmp 0))⟩, ⟨(some 82), none, false, (.mov (.tmp 4))⟩, ⟨(some 83), none, false, (.mov (.tmp 0))⟩, ⟨(some 84), none, false, (.mov (.tmp 4))⟩, ⟨(some 85), none, false, (.nilCheck (.tmp 83))⟩, ⟨(some 86), none, false, (.idxA 16 1 (.tmp 85) (.tmp 84))⟩, ⟨(some 87), none, false, (.load false 1 (.tmp 86))⟩, ⟨(some 88), none, false, (.mov (.tmp 0))⟩, ⟨(some 89), none, false, (.mov (.tmp 1))⟩, ⟨(some 90), none, false, (.nilCheck (.tmp 88))⟩, ⟨(some 91), none, false, (.idxA 16 1 (.tmp 90) (.tmp 89))⟩, ⟨(some 92), none, false, (.load false 1 (.tmp 91))⟩, ⟨(some 93), none, false, (.bin .int .xor (.tmp 87) (.tmp 92))⟩, ⟨(some 94), none, false, (.call false (.func 121) [(.tmp 93), (.const (.int .i64 8))])⟩, ⟨(some 95), none, false, (.nilCheck (.tmp 81))⟩, ⟨(some 96), none, false, (.idxA 16 1 (.tmp 95) (.tmp 82))⟩, ⟨none, none, false, (.store 1 (.tmp 96) (.tmp 94))⟩]) (.seq (.opsD [⟨(some 97), none, false, (.mov (.tmp 0))⟩, ⟨(some 98), none, false, (.mov (.tmp 3))⟩, ⟨(some 99), none, false, (.nilCheck (.tmp 97))⟩, ⟨(some 100), none, false, (.idxA 16 1 (.tmp 99) (.tmp 98))⟩, ⟨(some 101), none, false, (.load false 1 (.tmp 100))⟩, ⟨(some 102), none, false, (.mov (.tmp 0))⟩, ⟨(some 103), none, false, (.mov (.tmp 4))⟩, ⟨(some 104), none, false, (.nilCheck (.tmp 102))⟩, ⟨(some 105), none, false, (.idxA 16 1 (.tmp 104) (.tmp 103))⟩, ⟨(some 106), none, false, (.load false 1 (.tmp 105))⟩, ⟨(some 107), none, false, (.bin .int .add (.tmp 101) (.tmp 106))⟩, ⟨(some 108), none, false, (.nilCheck (.tmp 97))⟩, ⟨(some 109), none, false, (.idxA 16 1 (.tmp 108) (.tmp 98))⟩, ⟨none, none, false, (.store 1 (.tmp 109) (.tmp 107))⟩]) (.opsD [⟨(some 110), none, false, (.mov (.tmp 0))⟩, ⟨(some 111), none, false, (.mov (.tmp 2))⟩, ⟨(some 112), none, false, (.mov (.tmp 0))⟩, ⟨(some 113), none, false, (.mov (.tmp 2))⟩, ⟨(some 114), none, false, (.nilCheck (.tmp 112))⟩, ⟨(some 115), none, false, (.idxA 16 1 (.tmp 114) (.tmp 113))⟩, ⟨(some 116), none, false, (.load false 1 (.tmp 115))⟩, ⟨(some 117), none, false, (.mov (.tmp 0))⟩, ⟨(some 118), none, false, (.mov (.tmp 3))⟩, ⟨(some 119), none, false, (.nilCheck (.tmp 117))⟩, ⟨(some 120), none, false, (.idxA 16 1 (.tmp 119) (.tmp 118))⟩, ⟨(some 121), none, false, (.load false 1 (.tmp 120))⟩, ⟨(some 122), none, false, (.bin .int .xor (.tmp 116) (.tmp 121))⟩, ⟨(some 123), none, false, (.call false (.func 121) [(.tmp 122), (.const (.int .i64 7))])⟩, ⟨(some 124), none, false, (.nilCheck (.tmp 110))⟩, ⟨(some 125), none, false, (.idxA 16 1 (.tmp 124) (.tmp 111))⟩, ⟨none, none, false, (.store 1 (.tmp 125) (.tmp 123))⟩]))))))))
def m114 : MFun := ⟨k114, []⟩
theorem c114 : compFn Try.prog Try.f114 = some m114 := by kernel_rfl
def k96 : MCode := (.seq (.ops [⟨(some 2), none, false, (.mov (.const (.int .u32 0)))⟩]) (.seq (.opsD [⟨(some 3), none, false, (.mov (.tmp 0))⟩, ⟨(some 4), none, false, (.strIdx (.tmp 3) (.const (.int .i64 0)))⟩, ⟨(some 5), none, false, (.conv .u32 (.tmp 4))⟩, ⟨(some 6), none, false, (.mov (.tmp 0))⟩, ⟨(some 7), none, false, (.strIdx (.tmp 6) (.const (.int .i64 1)))⟩, ⟨(some 8), none, false, (.conv .u32 (.tmp 7))⟩, ⟨(some 9), none, false, (.bin .int .shl (.tmp 8) (.const (.int .u64 8)))⟩, ⟨(some 10), none, false, (.bin .int .or (.tmp 5) (.tmp 9))⟩, ⟨(some 11), none, false, (.mov (.tmp 0))⟩, ⟨(some 12), none, false, (.strIdx (.tmp 11) (.const (.int .i64 2)))⟩, ⟨(some 13), none, false, (.conv .u32 (.tmp 12))⟩, ⟨(some 14), none, false, (.bin .int .shl (.tmp 13) (.const (.int .u64 16)))⟩, ⟨(some 15), none, false, (.bin .int .or (.tmp 10) (.tmp 14))⟩, ⟨(some 16), none, false, (.mov (.tmp 0))⟩, ⟨(some 17), none, false, (.strIdx (.tmp 16) (.const (.int .i64 3)))⟩, ⟨(some 18), none, false, (.conv .u32 (.tmp 17))⟩, ⟨(some 19), none, false, (.bin .int .shl (.tmp 18) (.const (.int .u64 24)))⟩, ⟨(some 20), none, false, (.bin .int .or (.tmp 15) (.tmp 19))⟩, ⟨(some 2), none, false, (.mov (.tmp 20))⟩]) .ret))
def m96 : MFun := ⟨k96, [(.tmp 2)]⟩
theorem c96 : compFn Try.prog Try.f96 = some m96 := by kernel_rfl
def k95 : MCode := (.seq (.ops [⟨(some 6), none, false, (.alloc [(.int .u8 0), (.int .u8 0), (.int .u8 0), (.int .u8 0), (.int .u8 0), (.int .u8 0), (.int .u8 0), (.int .u8 0), (.int .u8 0), (.int .u8 0), (.int .u8 0), (.int .u8 0), (.int .u8 0), (.int .u8 0), (.int .u8 0), (.int .u8 0), (.int .u8 0), (.int .u8 0), (.int .u8 0), (.int .u8 0), (.int .u8 0), (.int .u8 0), (.int .u8 0), (.int .u8 0), (.int .u8 0), (.int .u8 0), (.int .u8 0), (.int .u8 0), (.int .u8 0), (.int .u8 0), (.int .u8 0), (.int .u8 0), (.int .u8 0), (.int .u8 0), (.int .u8 0), (.int .u8 0), (.int .u8 0), (.int .u8 0), (.int .u8 0), (.int .u8 0), (.int .u8 0), (.int .u8 0), (.int .u8 0), (.int .u8 0), (.int .u8 0), (.int .u8 0), (.int .u8 0), (.int .u8 0), (.int .u8 0), (.int .u8 0), (.int .u8 0), (.int .u8 0), (.int .u8 0), (.int .u8 0), (.int .u8 0), (.int .u8 0), (.int .u8 0), (.int .u8 0), (.int .u8 0), (.int .u8 0), (.int .u8 0), (.int .u8 0), (.int .u8 0), (.int .u8 0)] 1)⟩]) (.seq (.ops [⟨(some 16), none, false, (.build [(.int .u32 0), (.int .u32 0), (.int .u32 0), (.int .u32 0), (.int .u32 0), (.int .u32 0), (.int .u32 0), (.int .u32 0), (.int .u32 0), (.int .u32 0), (.int .u32 0), (.int .u32 0), (.int .u32 0), (.int .u32 0), (.int .u32 0), (.int .u32 0)] [(0, (1, (.const (.int .u32 1634760805)))), (1, (1, (.const (.int .u32 857760878)))), (2, (1, (.const (.int .u32 2036477234)))), (3, (1, (.const (.int .u32 1797285236))))])⟩, ⟨(some 7), none, false, (.alloc [(.int .u32 0), (.int .u32 0), (.int .u32 0), (.int .u32 0), (.int .u32 0), (.int .u32 0), (.int .u32 0), (.int .u32 0), (.int .u32 0), (.int .u32 0), (.int .u32 0), (.int .u32 0), (.int .u32 0), (.int .u32 0), (.int .u32 0), (.int .u32 0)] 1)⟩, ⟨none, none, false, (.store 16 (.tmp 7) (.tmp 16))⟩]) (.seq (.seq (.ops [⟨(some 17), none, false, (.mov (.const (.int .i64 0)))⟩]) (.block 0 (.loop (.seq (.ops [⟨(some 18), none, false, (.bin .int .lss (.tmp 17) (.const (.int .i64 8)))⟩]) (.seq (.cond (.tmp 18) .skip (.exit 0)) (.seq (.block 1 (.seq (.ops [⟨(some 19), none, false, (.mov (.tmp 17))⟩, ⟨(some 8), none, false, (.mov (.tmp 19))⟩]) (.ops [⟨(some 20), none, false, (.mov (.tmp 8))⟩, ⟨(some 21), none, false, (.bin .int .add (.const (.int .i64 4)) (.tmp 20))⟩, ⟨(some 22), none, false, (.mov (.tmp 0))⟩, ⟨(some 23), none, false, (.mov (.tmp 8))⟩, ⟨(some 24), none, false, (.bin .int .mul (.const (.int .i64 4)) (.tmp 23))⟩, ⟨(some 25), none, false, (.sliceStr (.tmp 22) (some (.tmp 24)) none)⟩, ⟨(some 26), none, false, (.call false (.func 96) [(.tmp 25)])⟩, ⟨(some 27), none, false, (.idxA 16 1 (.tmp 7) (.tmp 21))⟩, ⟨none, none, false, (.store 1 (.tmp 27) (.tmp 26))⟩]))) (.ops [⟨(some 28), none, false, (.bin .int .add (.tmp 17) (.const (.int .i64 1)))⟩, ⟨(some 17), none, false, (.mov (.tmp 28))⟩]))))))) (.seq (.ops [⟨(some 29), none, false, (.mov (.tmp 2))⟩, ⟨(some 30), none, false, (.idxA 16 1 (.tmp 7) (.const (.int .i64 12)))⟩, ⟨none, none, false, (.store 1 (.tmp 30) (.tmp 29))⟩]) (.seq (.seq (.ops [⟨(some 31), none, false, (.mov (.const (.int .i64 0)))⟩]) (.block 2 (.loop (.seq (.ops [⟨(some 32), none, false, (.bin .int .lss (.tmp 31) (.const (.int .i64 3)))⟩]) (.seq (.cond (.tmp 32) .skip (.exit 2)) (.seq (.block 3 (.seq (.ops [⟨(some 33), none, false, (.mov (.tmp 31))⟩, ⟨(some 9), none, false, (.mov (.tmp 33))⟩]) (.ops [⟨(some 34), none, false, (.mov (.tmp 9))⟩, ⟨(some 35), none, false, (.bin .int .add (.const (.int .i64 13)) (.tmp 34))⟩, ⟨(some 36), none, false, (.mov (.tmp 1))⟩, ⟨(some 37), none, false, (.mov (.tmp 9))⟩, ⟨(some 38), none, false, (.bin .int .mul (.const (.int .i64 4)) (.tmp 37))⟩, ⟨(some 39), none, false, (.sliceStr (.tmp 36) (some (.tmp 38)) none)⟩, ⟨(some 40), none, false, (.call false (.func 96) [(.tmp 39)])⟩, ⟨(some 41), none, false, (.idxA 16 1 (.tmp 7) (.tmp 35))⟩, ⟨none, none, false, (.store 1 (.tmp 41) (.tmp 40))⟩]))) (.ops [⟨(some 42), none, false, (.bin .int .add (.tmp 31) (.const (.int .i64 1)))⟩, ⟨(some 31), none, false, (.mov (.tmp 42))⟩]))))))) (.seq (.ops [⟨(some 43), none, false, (.load true 16 (.tmp 7))⟩, ⟨(some 10), none, false, (.alloc [(.int .u32 0), (.int .u32 0), (.int .u32 0), (.int .u32 0), (.int .u32 0), (.int .u32 0), (.int .u32 0), (.int .u32 0), (.int .u32 0), (.int .u32 0), (.int .u32 0), (.int .u32 0), (.int .u32 0), (.int .u32 0), (.int .u32 0), (.int .u32 0)] 1)⟩, ⟨none, none, false, (.store 16 (.tmp 10) (.tmp 43))⟩]) (.seq (.seq (.ops [⟨(some 44), none, false, (.mov (.const (.int .i64 0)))⟩]) (.block 4 (.loop (.seq (.ops [⟨(some 45), none, false, (.bin .int .lss (.tmp 44) (.const (.int .i64 10)))⟩]) (.seq (.cond (.tmp 45) .skip (.exit 4)) (.seq (.block 5 (.seq (.seq (.ops [⟨(some 46), none, false, (.mov (.const (.int .i64 0)))⟩]) (.block 6 (.loop (.seq (.ops [⟨(some 47), none, false, (.bin .int .lss (.tmp 46) (.const (.int .i64 4)))⟩]) (.seq (.cond (.tmp 47) .skip (.exit 6)) (.seq (.block 7 (.seq (.ops [⟨(some 48), none, false, (.mov (.tmp 46))⟩, ⟨(some 11), none, false, (.mov (.tmp 48))⟩]) (.ops [⟨(some 49), none, false, (.mov (.tmp 11))⟩, ⟨(some 50), none, false, (.mov (.tmp 11))⟩, ⟨(some 51), none, false, (.bin .int .add (.const (.int .i64 4)) (.tmp 50))⟩, ⟨(some 52), none, false, (.mov (.tmp 11))⟩, ⟨(some 53), none, false, (.bin .int .add (.const (.int .i64 8)) (.tmp 52))⟩, ⟨(some 54), none, false, (.mov (.tmp 11))⟩, ⟨(some 55), none, false, (.bin .int .add (.const (.int .i64 12)) (.tmp 54))⟩, ⟨(some 56), none, false, (.call false (.func 114) [(.tmp 10), (.tmp 49), (.tmp 51), (.tmp 53), (.tmp 55)])⟩]))) (.ops [⟨(some 57), none, false, (.bin .int .add (.tmp 46) (.const (.int .i64 1)))⟩, ⟨(some 46), none, false, (.mov (.tmp 57))⟩]))))))) (.seq (.ops [⟨(some 58), none, false, (.mov (.const (.int .i64 0)))⟩]) (.block 8 (.loop (.seq (.ops [⟨(some 59), none, false, (.bin .int .lss (.tmp 58) (.const (.int .i64 4)))⟩]) (.seq (.cond (.tmp 59) .skip (.exit 8)) (.seq (.block 9 (.seq (.ops [⟨(some 60), none, false, (.mov (.tmp 58))⟩, ⟨(some 12), none, false, (.mov (.tmp 60))⟩]) (.ops [⟨(some 61), none, false, (.mov (.tmp 12))⟩, ⟨(some 62), none, false, (.mov (.tmp 12))⟩, ⟨(some 63), none, false, (.bin .int .add (.tmp 62) (.const (.int .i64 1)))⟩, ⟨(some 64), none, false, (.bin .int .rem (.tmp 63) (.const (.int .i64 4)))⟩, ⟨(some 65), none, false, (.bin .int .add (.const (.int .i64 4)) (.tmp 64))⟩, ⟨(some 66), none, false, (.mov (.tmp 12))⟩, ⟨(some 67), none, false, (.bin .int .add (.tmp 66) (.const (.int .i64 2)))⟩, ⟨(some 68), none, false, (.bin .int .rem (.tmp 67) (.const (.int .i64 4)))⟩, ⟨(some 69), none, false, (.bin .int .add (.const (.int .i64 8)) (.tmp 68))⟩, ⟨(some 70), none, false, (.mov (.tmp 12))⟩, ⟨(some 71), none, false, (.bin .int .add (.tmp 70) (.const (.int .i64 3)))⟩, ⟨(some 72), none, false, (.bin .int .rem (.tmp 71) (.const (.int .i64 4)))⟩, ⟨(some 73), none, false, (.bin .int .add (.const (.int .i64 12)) (.tmp 72))⟩, ⟨(some 74), none, false, (.call false (.func 114) [(.tmp 10), (.tmp 61), (.tmp 65), (.tmp 69), (.tmp 73)])⟩]))) (.ops [⟨(some 75), none, false, (.bin .int .add (.tmp 58) (.const (.int .i64 1)))⟩, ⟨(some 58), none, false, (.mov (.tmp 75))⟩]))))))))) (.ops [⟨(some 76), none, false, (.bin .int .add (.tmp 44) (.const (.int .i64 1)))⟩, ⟨(some 44), none, false, (.mov (.tmp 76))⟩]))))))) (.seq (.ops [⟨(some 13), none, false, (.alloc [(.int .u8 0), (.int .u8 0), (.int .u8 0), (.int .u8 0), (.int .u8 0), (.int .u8 0), (.int .u8 0), (.int .u8 0), (.int .u8 0), (.int .u8 0), (.int .u8 0), (.int .u8 0), (.int .u8 0), (.int .u8 0), (.int .u8 0), (.int .u8 0), (.int .u8 0), (.int .u8 0), (.int .u8 0), (.int .u8 0), (.int .u8 0), (.int .u8 0), (.int .u8 0), (.int .u8 0), (.int .u8 0), (.int .u8 0), (.int .u8 0), (.int .u8 0), (.int .u8 0), (.int .u8 0), (.int .u8 0), (.int .u8 0), (.int .u8 0), (.int .u8 0), (.int .u8 0), (.int .u8 0), (.int .u8 0), (.int .u8 0), (.int .u8 0), (.int .u8 0), (.int .u8 0), (.int .u8 0), (.int .u8 0), (.int .u8 0), (.int .u8 0), (.int .u8 0), (.int .u8 0), (.int .u8 0), (.int .u8 0), (.int .u8 0), (.int .u8 0), (.int .u8 0), (.int .u8 0), (.int .u8 0), (.int .u8 0), (.int .u8 0), (.int .u8 0), (.int .u8 0), (.int .u8 0), (.int .u8 0), (.int .u8 0), (.int .u8 0), (.int .u8 0), (.int .u8 0)] 1)⟩]) (.seq (.seq (.ops [⟨(some 77), none, false, (.mov (.const (.int .i64 0)))⟩]) (.block 10 (.loop (.seq (.ops [⟨(some 78), none, false, (.bin .int .lss (.tmp 77) (.const (.int .i64 16)))⟩]) (.seq (.cond (.tmp 78) .skip (.exit 10)) (.seq (.block 11 (.seq (.ops [⟨(some 79), none, false, (.mov (.tmp 77))⟩, ⟨(some 14), none, false, (.mov (.tmp 79))⟩]) (.seq (.opsD [⟨(some 80), none, false, (.mov (.tmp 14))⟩, ⟨(some 81), none, false, (.idxA 16 1 (.tmp 10) (.tmp 80))⟩, ⟨(some 82), none, false, (.load false 1 (.tmp 81))⟩, ⟨(some 83), none, false, (.mov (.tmp 14))⟩, ⟨(some 84), none, false, (.idxA 16 1 (.tmp 7) (.tmp 83))⟩, ⟨(some 85), none, false, (.load false 1 (.tmp 84))⟩, ⟨(some 86), none, false, (.bin .int .add (.tmp 82) (.tmp 85))⟩, ⟨(some 15), none, false, (.mov (.tmp 86))⟩]) (.ops [⟨(some 87), none, false, (.mov (.tmp 14))⟩, ⟨(some 88), none, false, (.bin .int .mul (.const (.int .i64 4)) (.tmp 87))⟩, ⟨(some 89), none, false, (.mov (.tmp 14))⟩, ⟨(some 90), none, false, (.bin .int .mul (.const (.int .i64 4)) (.tmp 89))⟩, ⟨(some 91), none, false, (.bin .int .add (.tmp 90) (.const (.int .i64 1)))⟩, ⟨(some 92), none, false, (.mov (.tmp 14))⟩, ⟨(some 93), none, false, (.bin .int .mul (.const (.int .i64 4)) (.tmp 92))⟩, ⟨(some 94), none, false, (.bin .int .add (.tmp 93) (.const (.int .i64 2)))⟩, ⟨(some 95), none, false, (.mov (.tmp 14))⟩, ⟨(some 96), none, false, (.bin .int .mul (.const (.int .i64 4)) (.tmp 95))⟩, ⟨(some 97), none, false, (.bin .int .add (.tmp 96) (.const (.int .i64 3)))⟩, ⟨(some 98), none, false, (.mov (.tmp 15))⟩, ⟨(some 99), none, false, (.conv .u8 (.tmp 98))⟩, ⟨(some 100), none, false, (.mov (.tmp 15))⟩, ⟨(some 101), none, false, (.bin .int .shr (.tmp 100) (.const (.int .u64 8)))⟩, ⟨(some 102), none, false, (.conv .u8 (.tmp 101))⟩, ⟨(some 103), none, false, (.mov (.tmp 15))⟩, ⟨(some 104), none, false, (.bin .int .shr (.tmp 103) (.const (.int .u64 16)))⟩, ⟨(some 105), none, false, (.conv .u8 (.tmp 104))⟩, ⟨(some 106), none, false, (.mov (.tmp 15))⟩, ⟨(some 107), none, false, (.bin .int .shr (.tmp 106) (.const (.int .u64 24)))⟩, ⟨(some 108), none, false, (.conv .u8 (.tmp 107))⟩, ⟨(some 109), none, false, (.idxA 64 1 (.tmp 13) (.tmp 88))⟩, ⟨none, none, false, (.store 1 (.tmp 109) (.tmp 99))⟩, ⟨(some 110), none, false, (.idxA 64 1 (.tmp 13) (.tmp 91))⟩, ⟨none, none, false, (.store 1 (.tmp 110) (.tmp 102))⟩, ⟨(some 111), none, false, (.idxA 64 1 (.tmp 13) (.tmp 94))⟩, ⟨none, none, false, (.store 1 (.tmp 111) (.tmp 105))⟩, ⟨(some 112), none, false, (.idxA 64 1 (.tmp 13) (.tmp 97))⟩, ⟨none, none, false, (.store 1 (.tmp 112) (.tmp 108))⟩])))) (.ops [⟨(some 113), none, false, (.bin .int .add (.tmp 77) (.const (.int .i64 1)))⟩, ⟨(some 77), none, false, (.mov (.tmp 113))⟩]))))))) (.seq (.ops [⟨(some 114), none, false, (.load true 64 (.tmp 13))⟩, ⟨none, none, false, (.store 64 (.tmp 6) (.tmp 114))⟩]) .ret))))))))))
def m95 : MFun := ⟨k95, [(.cell 6 true 64)]⟩
theorem c95 : compFn Try.prog Try.f95 = some m95 := by kernel_rfl
def k62 : MCode := (.seq (.ops [⟨(some 8), none, false, (.mov (.const (.string ⟨#[]⟩)))⟩]) (.seq (.ops [⟨(some 13), none, false, (.mov (.tmp 3))⟩, ⟨(some 14), none, false, (.toBytes (.tmp 13))⟩, ⟨(some 9), none, false, (.mov (.tmp 14))⟩]) (.seq (.seq (.ops [⟨(some 10), none, false, (.mov (.const (.int .i64 0)))⟩]) (.block 0 (.loop (.seq (.seq (.ops [⟨(some 15), none, false, (.mov (.tmp 10))⟩, ⟨(some 16), none, false, (.mov (.tmp 9))⟩, ⟨(some 17), none, false, (.len (.tmp 16))⟩, ⟨(some 18), none, false, (.bin .int .lss (.tmp 15) (.tmp 17))⟩]) (.cond (.tmp 18) .skip (.exit 0))) (.seq (.block 1 (.seq (.ops [⟨(some 21), none, false, (.mov (.tmp 0))⟩, ⟨(some 22), none, false, (.mov (.tmp 1))⟩, ⟨(some 23), none, false, (.mov (.tmp 2))⟩, ⟨(some 24), none, false, (.call false (.func 95) [(.tmp 21), (.tmp 22), (.tmp 23)])⟩, ⟨(some 11), none, false, (.alloc [(.int .u8 0), (.int .u8 0), (.int .u8 0), (.int .u8 0), (.int .u8 0), (.int .u8 0), (.int .u8 0), (.int .u8 0), (.int .u8 0), (.int .u8 0), (.int .u8 0), (.int .u8 0), (.int .u8 0), (.int .u8 0), (.int .u8 0), (.int .u8 0), (.int .u8 0), (.int .u8 0), (.int .u8 0), (.int .u8 0), (.int .u8 0), (.int .u8 0), (.int .u8 0), (.int .u8 0), (.int .u8 0), (.int .u8 0), (.int .u8 0), (.int .u8 0), (.int .u8 0), (.int .u8 0), (.int .u8 0), (.int .u8 0), (.int .u8 0), (.int .u8 0), (.int .u8 0), (.int .u8 0), (.int .u8 0), (.int .u8 0), (.int .u8 0), (.int .u8 0), (.int .u8 0), (.int .u8 0), (.int .u8 0), (.int .u8 0), (.int .u8 0), (.int .u8 0), (.int .u8 0), (.int .u8 0), (.int .u8 0), (.int .u8 0), (.int .u8 0), (.int .u8 0), (.int .u8 0), (.int .u8 0), (.int .u8 0), (.int .u8 0), (.int .u8 0), (.int .u8 0), (.int .u8 0), (.int .u8 0), (.int .u8 0), (.int .u8 0), (.int .u8 0), (.int .u8 0)] 1)⟩, ⟨none, none, false, (.store 64 (.tmp 11) (.tmp 24))⟩]) (.seq (.seq (.ops [⟨(some 25), none, false, (.mov (.tmp 10))⟩, ⟨(some 12), none, false, (.mov (.tmp 25))⟩]) (.block 2 (.loop (.seq (.seq (.ops [⟨(some 26), none, false, (.mov (.tmp 12))⟩, ⟨(some 27), none, false, (.mov (.tmp 10))⟩, ⟨(some 28), none, false, (.bin .int .add (.tmp 27) (.const (.int .i64 64)))⟩, ⟨(some 29), none, false, (.mov (.tmp 9))⟩, ⟨(some 30), none, false, (.len (.tmp 29))⟩, ⟨(some 31), none, false, (.min (.tmp 28) [(.tmp 30)])⟩, ⟨(some 32), none, false, (.bin .int .lss (.tmp 26) (.tmp 31))⟩]) (.cond (.tmp 32) .skip (.exit 2))) (.seq (.block 3 (.opsD [⟨(some 35), none, false, (.mov (.tmp 9))⟩, ⟨(some 36), none, false, (.mov (.tmp 12))⟩, ⟨(some 37), none, false, (.idxS 1 (.tmp 35) (.tmp 36))⟩, ⟨(some 38), none, false, (.load false 1 (.tmp 37))⟩, ⟨(some 39), none, false, (.mov (.tmp 12))⟩, ⟨(some 40), none, false, (.mov (.tmp 10))⟩, ⟨(some 41), none, false, (.bin .int .sub (.tmp 39) (.tmp 40))⟩, ⟨(some 42), none, false, (.idxA 64 1 (.tmp 11) (.tmp 41))⟩, ⟨(some 43), none, false, (.load false 1 (.tmp 42))⟩, ⟨(some 44), none, false, (.bin .int .xor (.tmp 38) (.tmp 43))⟩, ⟨(some 45), none, false, (.idxS 1 (.tmp 35) (.tmp 36))⟩, ⟨none, none, false, (.store 1 (.tmp 45) (.tmp 44))⟩])) (.ops [⟨(some 33), none, false, (.mov (.tmp 12))⟩, ⟨(some 34), none, false, (.bin .int .add (.tmp 33) (.const (.int .i64 1)))⟩, ⟨(some 12), none, false, (.mov (.tmp 34))⟩])))))) (.ops [⟨(some 46), none, false, (.mov (.tmp 2))⟩, ⟨(some 47), none, false, (.bin .int .add (.tmp 46) (.const (.int .u32 1)))⟩, ⟨(some 2), none, false, (.mov (.tmp 47))⟩])))) (.ops [⟨(some 19), none, false, (.mov (.tmp 10))⟩, ⟨(some 20), none, false, (.bin .int .add (.tmp 19) (.const (.int .i64 64)))⟩, ⟨(some 10), none, false, (.mov (.tmp 20))⟩])))))) (.seq (.ops [⟨(some 48), none, false, (.mov (.tmp 9))⟩, ⟨(some 49), none, false, (.toStr (.tmp 48))⟩, ⟨(some 8), none, false, (.mov (.tmp 49))⟩]) .ret))))
def m62 : MFun := ⟨k62, [(.tmp 8)]⟩
theorem c62 : compFn Try.prog Try.f62 = some m62 := by kernel_rfl
def k56 : MCode := (.seq (.ops [⟨(some 4), none, false, (.mov (.const (.int .i64 0)))⟩]) (.seq (.seq (.ops [⟨(some 5), none, false, (.mov (.tmp 0))⟩, ⟨(some 6), none, false, (.lenStr (.tmp 5))⟩, ⟨(some 7), none, false, (.bin .int .neq (.tmp 6) (.const (.int .i64 32)))⟩, ⟨(some 8), none, false, (.mov (.tmp 7))⟩, ⟨(some 9), (some (8, false)), false, (.mov (.tmp 1))⟩, ⟨(some 10), (some (8, false)), false, (.lenStr (.tmp 9))⟩, ⟨(some 11), (some (8, false)), false, (.bin .int .neq (.tmp 10) (.const (.int .i64 12)))⟩, ⟨(some 12), none, false, (.pick (.tmp 8) (.const (.bool true)) (.tmp 11))⟩]) (.cond (.tmp 12) (.seq (.ops [⟨(some 4), none, false, (.mov (.const (.int .i64 6)))⟩]) .ret) .skip)) (.seq (.ops [⟨(some 4), none, false, (.mov (.const (.int .i64 0)))⟩]) .ret)))
def m56 : MFun := ⟨k56, [(.tmp 4)]⟩
theorem c56 : compFn Try.prog Try.f56 = some m56 := by kernel_rfl
def k93 : MCode := (.seq (.opsD [⟨(some 9), none, false, (.mov (.tmp 0))⟩, ⟨(some 10), none, false, (.idxA 16 1 (.tmp 4) (.tmp 9))⟩, ⟨(some 11), none, false, (.load false 1 (.tmp 10))⟩, ⟨(some 12), none, false, (.mov (.tmp 1))⟩, ⟨(some 13), none, false, (.idxA 16 1 (.tmp 4) (.tmp 12))⟩, ⟨(some 14), none, false, (.load false 1 (.tmp 13))⟩, ⟨(some 15), none, false, (.bin .int .add (.tmp 11) (.tmp 14))⟩, ⟨(some 16), none, false, (.idxA 16 1 (.tmp 4) (.tmp 9))⟩, ⟨none, none, false, (.store 1 (.tmp 16) (.tmp 15))⟩]) (.seq (.opsD [⟨(some 17), none, false, (.mov (.tmp 3))⟩, ⟨(some 18), none, false, (.mov (.tmp 3))⟩, ⟨(some 19), none, false, (.idxA 16 1 (.tmp 4) (.tmp 18))⟩, ⟨(some 20), none, false, (.load false 1 (.tmp 19))⟩, ⟨(some 21), none, false, (.mov (.tmp 0))⟩, ⟨(some 22), none, false, (.idxA 16 1 (.tmp 4) (.tmp 21))⟩, ⟨(some 23), none, false, (.load false 1 (.tmp 22))⟩, ⟨(some 24), none, false, (.bin .int .xor (.tmp 20) (.tmp 23))⟩, ⟨(some 25), none, false, (.call false (.func 94) [(.tmp 24), (.const (.int .i64 16))])⟩, ⟨(some 26), none, false, (.idxA 16 1 (.tmp 4) (.tmp 17))⟩, ⟨none, none, false, (.store 1 (.tmp 26) (.tmp 25))⟩]) (.seq (.opsD [⟨(some 27), none, false, (.mov (.tmp 2))⟩, ⟨(some 28), none, false, (.idxA 16 1 (.tmp 4) (.tmp 27))⟩, ⟨(some 29), none, false, (.load false 1 (.tmp 28))⟩, ⟨(some 30), none, false, (.mov (.tmp 3))⟩, ⟨(some 31), none, false, (.idxA 16 1 (.tmp 4) (.tmp 30))⟩, ⟨(some 32), none, false, (.load false 1 (.tmp 31))⟩, ⟨(some 33), none, false, (.bin .int .add (.tmp 29) (.tmp 32))⟩, ⟨(some 34), none, false, (.idxA 16 1 (.tmp 4) (.tmp 27))⟩, ⟨none, none, false, (.store 1 (.tmp 34) (.tmp 33))⟩]) (.seq (.opsD [⟨(some 35), none, false, (.mov (.tmp 1))⟩, ⟨(some 36), none, false, (.mov (.tmp 1))⟩, ⟨(some 37), none, false, (.idxA 16 1 (.tmp 4) (.tmp 36))⟩, ⟨(some 38), none, false, (.load false 1 (.tmp 37))⟩, ⟨(some 39), none, false, (.mov (.tmp 2))⟩, ⟨(some 40), none, false, (.idxA 16 1 (.tmp 4) (.tmp 39))⟩, ⟨(some 41), none, false, (.load false 1 (.tmp 40))⟩, ⟨(some 42), none, false, (.bin .int .xor (.tmp 38) (.tmp 41))⟩, ⟨(some 43), none, false, (.call false (.func 94) [(.tmp 42), (.const (.int .i64 12))])⟩, ⟨(some 44), none, false, (.idxA 16 1 (.tmp 4) (.tmp 35))⟩, ⟨none, none, false, (.store 1 (.tmp 44) (.tmp 43))⟩]) (.seq (.opsD [⟨(some 45), none, false, (.mov (.tmp 0))⟩, ⟨(some 46), none, false, (.idxA 16 1 (.tmp 4) (.tmp 45))⟩, ⟨(some 47), none, false, (.load false 1 (.tmp 46))⟩, ⟨(some 48), none, false, (.mov (.tmp 1))⟩, ⟨(some 49), none, false, (.idxA 16 1 (.tmp 4) (.tmp 48))⟩, ⟨(some 50), none, false, (.load false 1 (.tmp 49))⟩, ⟨(some 51), none, false, (.bin .int .add (.tmp 47) (.tmp 50))⟩, ⟨(some 52), none, false, (.idxA 16 1 (.tmp 4) (.tmp 45))⟩, ⟨none, none, false, (.store 1 (.tmp 52) (.tmp 51))⟩]) (.seq (.opsD [⟨(some 53), none, false, (.mov (.tmp 3))⟩, ⟨(some 54), none, false, (.mov (.tmp 3))⟩, ⟨(some 55), none, false, (.idxA 16 1 (.tmp 4) (.tmp 54))⟩, ⟨(some 56), none, false, (.load false 1 (.tmp 55))⟩, ⟨(some 57), none, false, (.mov (.tmp 0))⟩, ⟨(some 58), none, false, (.idxA 16 1 (.tmp 4) (.tmp 57))⟩, ⟨(some 59), none, false, (.load false 1 (.tmp 58))⟩, ⟨(some 60), none, false, (.bin .int .xor (.tmp 56) (.tmp 59))⟩, ⟨(some 61), none, false, (.call false (.func 94) [(.tmp 60), (.const (.int .i64 8))])⟩, ⟨(some 62), none, false, (.idxA 16 1 (.tmp 4) (.tmp 53))⟩, ⟨none, none, false, (.store 1 (.tmp 62) (.tmp 61))⟩]) (.seq (.opsD [⟨(some 63), none, false, (.mov (.tmp 2))⟩, ⟨(some 64), none, false, (.idxA 16 1 (.tmp 4) (.tmp 63))⟩, ⟨(some 65), none, false, (.load false 1 (.tmp 64))⟩, ⟨(some 66), none, false, (.mov (.tmp 3))⟩, ⟨(some 67), none, false, (.idxA 16 1 (.tmp 4) (.tmp 66))⟩, ⟨(some 68), none, false, (.load false 1 (.tmp 67))⟩, ⟨(some 69), none, false, (.bin .int .add (.tmp 65) (.tmp 68))⟩, ⟨(some 70), none, false, (.idxA 16 1 (.tmp 4) (.tmp 63))⟩, ⟨none, none, false, (.store 1 (.tmp 70) (.tmp 69))⟩]) (.opsD [⟨(some 71), none, false, (.mov (.tmp 1))⟩, ⟨(some 72), none, false, (.mov (.tmp 1))⟩, ⟨(some 73), none, false, (.idxA 16 1 (.tmp 4) (.tmp 72))⟩, ⟨(some 74), none, false, (.load false 1 (.tmp 73))⟩, ⟨(some 75), none, false, (.mov (.tmp 2))⟩, ⟨(some 76), none, false, (.idxA 16 1 (.tmp 4) (.tmp 75))⟩, ⟨(some 77), none, false, (.load false 1 (.tmp 76))⟩, ⟨(some 78), none, false, (.bin .int .xor (.tmp 74) (.tmp 77))⟩, ⟨(some 79), none, false, (.call false (.func 94) [(.tmp 78), (.const (.int .i64 7))])⟩, ⟨(some 80), none, false, (.idxA 16 1 (.tmp 4) (.tmp 71))⟩, ⟨none, none, false, (.store 1 (.tmp 80) (.tmp 79))⟩]))))))))
def m93 : MFun := ⟨k93, []⟩
def k59 : MCode := (.seq (.ops [⟨(some 6), none, false, (.mov (.const (.string ⟨#[]⟩)))⟩]) (.seq (.ops [⟨(some 16), none, false, (.mov (.tmp 0))⟩, ⟨(some 17), none, false, (.bin .str .add (.const (.string ⟨#[101, 120, 112, 97, 110, 100, 32, 51, 50, 45, 98, 121, 116, 101, 32, 107]⟩)) (.tmp 16))⟩, ⟨(some 18), none, false, (.mov (.tmp 2))⟩, ⟨(some 19), none, false, (.call false (.func 91) [(.tmp 18)])⟩, ⟨(some 20), none, false, (.bin .str .add (.tmp 17) (.tmp 19))⟩, ⟨(some 21), none, false, (.mov (.tmp 1))⟩, ⟨(some 22), none, false, (.bin .str .add (.tmp 20) (.tmp 21))⟩, ⟨(some 7), none, false, (.mov (.tmp 22))⟩]) (.seq (.ops [⟨(some 8), none, false, (.alloc [(.int .u32 0), (.int .u32 0), (.int .u32 0), (.int .u32 0), (.int .u32 0), (.int .u32 0), (.int .u32 0), (.int .u32 0), (.int .u32 0), (.int .u32 0), (.int .u32 0), (.int .u32 0), (.int .u32 0), (.int .u32 0), (.int .u32 0), (.int .u32 0)] 1)⟩]) (.seq (.seq (.ops [⟨(some 23), none, false, (.mov (.const (.int .i64 0)))⟩]) (.block 0 (.loop (.seq (.ops [⟨(some 24), none, false, (.bin .int .lss (.tmp 23) (.const (.int .i64 16)))⟩]) (.seq (.cond (.tmp 24) .skip (.exit 0)) (.seq (.block 1 (.seq (.ops [⟨(some 25), none, false, (.mov (.tmp 23))⟩, ⟨(some 9), none, false, (.mov (.tmp 25))⟩]) (.ops [⟨(some 26), none, false, (.mov (.tmp 9))⟩, ⟨(some 27), none, false, (.mov (.tmp 7))⟩, ⟨(some 28), none, false, (.mov (.tmp 9))⟩, ⟨(some 29), none, false, (.bin .int .mul (.const (.int .i64 4)) (.tmp 28))⟩, ⟨(some 30), none, false, (.call false (.func 92) [(.tmp 27), (.tmp 29)])⟩, ⟨(some 31), none, false, (.idxA 16 1 (.tmp 8) (.tmp 26))⟩, ⟨none, none, false, (.store 1 (.tmp 31) (.tmp 30))⟩]))) (.ops [⟨(some 32), none, false, (.bin .int .add (.tmp 23) (.const (.int .i64 1)))⟩, ⟨(some 23), none, false, (.mov (.tmp 32))⟩]))))))) (.seq (.ops [⟨(some 33), none, false, (.load true 16 (.tmp 8))⟩, ⟨(some 10), none, false, (.alloc [(.int .u32 0), (.int .u32 0), (.int .u32 0), (.int .u32 0), (.int .u32 0), (.int .u32 0), (.int .u32 0), (.int .u32 0), (.int .u32 0), (.int .u32 0), (.int .u32 0), (.int .u32 0), (.int .u32 0), (.int .u32 0), (.int .u32 0), (.int .u32 0)] 1)⟩, ⟨none, none, false, (.store 16 (.tmp 10) (.tmp 33))⟩]) (.seq (.ops [⟨(some 34), none, false, (.mkFunc (.func 93) [] [(.tmp 8)])⟩, ⟨(some 11), none, false, (.mov (.tmp 34))⟩]) (.seq (.seq (.ops [⟨(some 35), none, false, (.mov (.const (.int .i64 0)))⟩]) (.block 2 (.loop (.seq (.ops [⟨(some 36), none, false, (.bin .int .lss (.tmp 35) (.const (.int .i64 10)))⟩]) (.seq (.cond (.tmp 36) .skip (.exit 2)) (.seq (.block 3 (.seq (.seq (.ops [⟨(some 37), none, false, (.mov (.const (.int .i64 0)))⟩]) (.block 4 (.loop (.seq (.ops [⟨(some 38), none, false, (.bin .int .lss (.tmp 37) (.const (.int .i64 4)))⟩]) (.seq (.cond (.tmp 38) .skip (.exit 4)) (.seq (.block 5 (.seq (.ops [⟨(some 39), none, false, (.mov (.tmp 37))⟩, ⟨(some 12), none, false, (.mov (.tmp 39))⟩]) (.ops [⟨(some 40), none, false, (.mov (.tmp 11))⟩, ⟨(some 41), none, false, (.mov (.tmp 12))⟩, ⟨(some 42), none, false, (.mov (.tmp 12))⟩, ⟨(some 43), none, false, (.bin .int .add (.const (.int .i64 4)) (.tmp 42))⟩, ⟨(some 44), none, false, (.mov (.tmp 12))⟩, ⟨(some 45), none, false, (.bin .int .add (.const (.int .i64 8)) (.tmp 44))⟩, ⟨(some 46), none, false, (.mov (.tmp 12))⟩, ⟨(some 47), none, false, (.bin .int .add (.const (.int .i64 12)) (.tmp 46))⟩, ⟨(some 48), none, false, (.call false (.tmp 40) [(.tmp 41), (.tmp 43), (.tmp 45), (.tmp 47)])⟩]))) (.ops [⟨(some 49), none, false, (.bin .int .add (.tmp 37) (.const (.int .i64 1)))⟩, ⟨(some 37), none, false, (.mov (.tmp 49))⟩]))))))) (.seq (.ops [⟨(some 50), none, false, (.mov (.const (.int .i64 0)))⟩]) (.block 6 (.loop (.seq (.ops [⟨(some 51), none, false, (.bin .int .lss (.tmp 50) (.const (.int .i64 4)))⟩]) (.seq (.cond (.tmp 51) .skip (.exit 6)) (.seq (.block 7 (.seq (.ops [⟨(some 52), none, false, (.mov (.tmp 50))⟩, ⟨(some 13), none, false, (.mov (.tmp 52))⟩]) (.ops [⟨(some 53), none, false, (.mov (.tmp 11))⟩, ⟨(some 54), none, false, (.mov (.tmp 13))⟩, ⟨(some 55), none, false, (.mov (.tmp 13))⟩, ⟨(some 56), none, false, (.bin .int .add (.tmp 55) (.const (.int .i64 1)))⟩, ⟨(some 57), none, false, (.bin .int .rem (.tmp 56) (.const (.int .i64 4)))⟩, ⟨(some 58), none, false, (.bin .int .add (.const (.int .i64 4)) (.tmp 57))⟩, ⟨(some 59), none, false, (.mov (.tmp 13))⟩, ⟨(some 60), none, false, (.bin .int .add (.tmp 59) (.const (.int .i64 2)))⟩, ⟨(some 61), none, false, (.bin .int .rem (.tmp 60) (.const (.int .i64 4)))⟩, ⟨(some 62), none, false, (.bin .int .add (.const (.int .i64 8)) (.tmp 61))⟩, ⟨(some 63), none, false, (.mov (.tmp 13))⟩, ⟨(some 64), none, false, (.bin .int .add (.tmp 63) (.const (.int .i64 3)))⟩, ⟨(some 65), none, false, (.bin .int .rem (.tmp 64) (.const (.int .i64 4)))⟩, ⟨(some 66), none, false, (.bin .int .add (.const (.int .i64 12)) (.tmp 65))⟩, ⟨(some 67), none, false, (.call false (.tmp 53) [(.tmp 54), (.tmp 58), (.tmp 62), (.tmp 66)])⟩]))) (.ops [⟨(some 68), none, false, (.bin .int .add (.tmp 50) (.const (.int .i64 1)))⟩, ⟨(some 50), none, false, (.mov (.tmp 68))⟩]))))))))) (.ops [⟨(some 69), none, false, (.bin .int .add (.tmp 35) (.const (.int .i64 1)))⟩, ⟨(some 35), none, false, (.mov (.tmp 69))⟩]))))))) (.seq (.ops [⟨(some 14), none, false, (.mov (.const (.string ⟨#[]⟩)))⟩]) (.seq (.seq (.ops [⟨(some 70), none, false, (.mov (.const (.int .i64 0)))⟩]) (.block 8 (.loop (.seq (.ops [⟨(some 71), none, false, (.bin .int .lss (.tmp 70) (.const (.int .i64 16)))⟩]) (.seq (.cond (.tmp 71) .skip (.exit 8)) (.seq (.block 9 (.seq (.ops [⟨(some 72), none, false, (.mov (.tmp 70))⟩, ⟨(some 15), none, false, (.mov (.tmp 72))⟩]) (.opsD [⟨(some 73), none, false, (.mov (.tmp 14))⟩, ⟨(some 74), none, false, (.mov (.tmp 15))⟩, ⟨(some 75), none, false, (.idxA 16 1 (.tmp 8) (.tmp 74))⟩, ⟨(some 76), none, false, (.load false 1 (.tmp 75))⟩, ⟨(some 77), none, false, (.mov (.tmp 15))⟩, ⟨(some 78), none, false, (.idxA 16 1 (.tmp 10) (.tmp 77))⟩, ⟨(some 79), none, false, (.load false 1 (.tmp 78))⟩, ⟨(some 80), none, false, (.bin .int .add (.tmp 76) (.tmp 79))⟩, ⟨(some 81), none, false, (.call false (.func 91) [(.tmp 80)])⟩, ⟨(some 82), none, false, (.bin .str .add (.tmp 73) (.tmp 81))⟩, ⟨(some 14), none, false, (.mov (.tmp 82))⟩]))) (.ops [⟨(some 83), none, false, (.bin .int .add (.tmp 70) (.const (.int .i64 1)))⟩, ⟨(some 70), none, false, (.mov (.tmp 83))⟩]))))))) (.seq (.ops [⟨(some 84), none, false, (.mov (.tmp 14))⟩, ⟨(some 6), none, false, (.mov (.tmp 84))⟩]) .ret))))))))))
def m59 : MFun := ⟨k59, [(.tmp 6)]⟩
def k91 : MCode := (.seq (.ops [⟨(some 2), none, false, (.mov (.const (.string ⟨#[]⟩)))⟩]) (.seq (.ops [⟨(some 3), none, false, (.mov (.tmp 0))⟩, ⟨(some 4), none, false, (.conv .u8 (.tmp 3))⟩, ⟨(some 5), none, false, (.mov (.tmp 0))⟩, ⟨(some 6), none, false, (.bin .int .shr (.tmp 5) (.const (.int .u64 8)))⟩, ⟨(some 7), none, false, (.conv .u8 (.tmp 6))⟩, ⟨(some 8), none, false, (.mov (.tmp 0))⟩, ⟨(some 9), none, false, (.bin .int .shr (.tmp 8) (.const (.int .u64 16)))⟩, ⟨(some 10), none, false, (.conv .u8 (.tmp 9))⟩, ⟨(some 11), none, false, (.mov (.tmp 0))⟩, ⟨(some 12), none, false, (.bin .int .shr (.tmp 11) (.const (.int .u64 24)))⟩, ⟨(some 13), none, false, (.conv .u8 (.tmp 12))⟩, ⟨(some 14), none, false, (.buildSlice [(.int .u8 0), (.int .u8 0), (.int .u8 0), (.int .u8 0)] 1 4 [(0, (1, (.tmp 4))), (1, (1, (.tmp 7))), (2, (1, (.tmp 10))), (3, (1, (.tmp 13)))])⟩, ⟨(some 15), none, false, (.toStr (.tmp 14))⟩, ⟨(some 2), none, false, (.mov (.tmp 15))⟩]) .ret))
def m91 : MFun := ⟨k91, [(.tmp 2)]⟩
def k92 : MCode := (.seq (.ops [⟨(some 4), none, false, (.mov (.const (.int .u32 0)))⟩]) (.seq (.opsD [⟨(some 5), none, false, (.mov (.tmp 0))⟩, ⟨(some 6), none, false, (.mov (.tmp 1))⟩, ⟨(some 7), none, false, (.bin .int .add (.tmp 6) (.const (.int .i64 3)))⟩, ⟨(some 8), none, false, (.strIdx (.tmp 5) (.tmp 7))⟩, ⟨(some 9), none, false, (.conv .u32 (.tmp 8))⟩, ⟨(some 10), none, false, (.bin .int .shl (.tmp 9) (.const (.int .u64 24)))⟩, ⟨(some 11), none, false, (.mov (.tmp 0))⟩, ⟨(some 12), none, false, (.mov (.tmp 1))⟩, ⟨(some 13), none, false, (.bin .int .add (.tmp 12) (.const (.int .i64 2)))⟩, ⟨(some 14), none, false, (.strIdx (.tmp 11) (.tmp 13))⟩, ⟨(some 15), none, false, (.conv .u32 (.tmp 14))⟩, ⟨(some 16), none, false, (.bin .int .shl (.tmp 15) (.const (.int .u64 16)))⟩, ⟨(some 17), none, false, (.bin .int .or (.tmp 10) (.tmp 16))⟩, ⟨(some 18), none, false, (.mov (.tmp 0))⟩, ⟨(some 19), none, false, (.mov (.tmp 1))⟩, ⟨(some 20), none, false, (.bin .int .add (.tmp 19) (.const (.int .i64 1)))⟩, ⟨(some 21), none, false, (.strIdx (.tmp 18) (.tmp 20))⟩, ⟨(some 22), none, false, (.conv .u32 (.tmp 21))⟩, ⟨(some 23), none, false, (.bin .int .shl (.tmp 22) (.const (.int .u64 8)))⟩, ⟨(some 24), none, false, (.bin .int .or (.tmp 17) (.tmp 23))⟩, ⟨(some 25), none, false, (.mov (.tmp 0))⟩, ⟨(some 26), none, false, (.mov (.tmp 1))⟩, ⟨(some 27), none, false, (.strIdx (.tmp 25) (.tmp 26))⟩, ⟨(some 28), none, false, (.conv .u32 (.tmp 27))⟩, ⟨(some 29), none, false, (.bin .int .or (.tmp 24) (.tmp 28))⟩, ⟨(some 4), none, false, (.mov (.tmp 29))⟩]) .ret))
def m92 : MFun := ⟨k92, [(.tmp 4)]⟩
def k94 : MCode := (.seq (.ops [⟨(some 4), none, false, (.mov (.const (.int .u32 0)))⟩]) (.seq (.opsD [⟨(some 5), none, false, (.mov (.tmp 0))⟩, ⟨(some 6), none, false, (.mov (.tmp 1))⟩, ⟨(some 7), none, false, (.bin .int .shl (.tmp 5) (.tmp 6))⟩, ⟨(some 8), none, false, (.mov (.tmp 0))⟩, ⟨(some 9), none, false, (.mov (.tmp 1))⟩, ⟨(some 10), none, false, (.bin .int .sub (.const (.int .i64 32)) (.tmp 9))⟩, ⟨(some 11), none, false, (.bin .int .shr (.tmp 8) (.tmp 10))⟩, ⟨(some 12), none, false, (.bin .int .or (.tmp 7) (.tmp 11))⟩, ⟨(some 4), none, false, (.mov (.tmp 12))⟩]) .ret))
def m94 : MFun := ⟨k94, [(.tmp 4)]⟩
end Go.Proofs.Ytildhljhbbhmmaa.AM
namespace Go.Proofs.Ytildhljhbbhmmaa.AM
open Go
set_option linter.all false
set_option maxRecDepth 10000
variable {tbl : Tbl} [hT : TMono tbl]

def U32 (n : Int) : Value := .int .u32 n
def add32 (a b : Int) : Int := IntKind.wrap .u32 (a + b)
def xor32 (a b : Int) : Int := bitsK .xor .u32 a b
def rot32 (x n : Int) : Int := bitsK .or .u32 (shiftK .shl .u32 x n) (shiftK .shr .u32 x (32 - n))
/-- A row of words. -/
def wds (x : List Int) : Blk := ⟨x.map U32, 1, false⟩
def gw (x : List Int) (i : Nat) : Int := x.getD i 0
theorem wds_len {x : List Int} : (wds x).cells.length = x.length := by simp [wds]
theorem wds_ro {x : List Int} : (wds x).ro = false := rfl
theorem wds_es {x : List Int} : (wds x).es = 1 := rfl
theorem wds_at {x : List Int} {i : Nat} (h : i < x.length) : List.take 1 (List.drop i (wds x).cells) = [.int .u32 (gw x i)] := by
  rw [take_one (by rw [wds_len]; exact h)]
  simp [wds, gw, U32, h]
theorem wds_set {x : List Int} {i : Nat} {n : Int} : (⟨(wds x).cells.set i (.int .u32 n), 1, false⟩ : Blk) = wds (x.set i n) := by
  simp [wds, U32, List.map_set]
theorem splice_one {l : List Value} {i : Nat} {v : Value} : splice l i [v] = l.set i v := rfl
theorem u64w {n : Int} (h : 0 ≤ n) (h2 : n < 18446744073709551616) : IntKind.wrap .u64 n = n := by
  simp [IntKind.wrap, IntKind.bits, IntKind.signed]; omega
theorem v121 (h121 : tbl 121 = some (.code m121)) (x n : Int) (hn : 0 ≤ n ∧ n < 32) (hb : bitsK .and .u64 n 31 = n) (H : AH) : Val tbl 121 [.int .u32 x, .int .i64 n] H (.int .u32 (rot32 x n)) H := by
  refine Val.of_all fun Q hQ => ?_
  rw [rn_fun h121, k121]
  have w1 := u64w (n := n) (by omega) (by omega)
  have w2 := u64w (n := 32 - n) (by omega) (by omega)
  have n1 : ¬ n < 0 := by omega
  have n2 : ¬ 32 - n < 0 := by omega
  simp only [w1, w2, n1, n2, hb, go_sem, Nat.reduceEqDiff, Nat.reduceAdd, Nat.reduceLeDiff, Int.reduceEq, Int.reduceLT, Int.reduceLE, Int.reduceAdd, Int.reduceSub, Int.reduceMul, Int.reduceNeg, Int.reduceToNat, Nat.reduceMul]
  exact hQ
theorem v94 (h94 : tbl 94 = some (.code m94)) (x n : Int) (hn : 0 ≤ n ∧ n < 32) (H : AH) : Val tbl 94 [.int .u32 x, .int .i64 n] H (.int .u32 (rot32 x n)) H := by
  refine Val.of_all fun Q hQ => ?_
  rw [rn_fun h94, k94]
  have w2 := w64 (x := 32 - n) (by omega) (by omega)
  have n1 : ¬ n < 0 := by omega
  have n2 : ¬ 32 - n < 0 := by omega
  simp only [w2, n1, n2, go_sem, Nat.reduceEqDiff, Nat.reduceAdd, Nat.reduceLeDiff, Int.reduceEq, Int.reduceLT, Int.reduceLE, Int.reduceAdd, Int.reduceSub, Int.reduceMul, Int.reduceNeg, Int.reduceToNat, Nat.reduceMul]
  exact hQ
def stA (x : List Int) (a b : Nat) : List Int := x.set a (add32 (gw x a) (gw x b))
def stX (x : List Int) (d a : Nat) (n : Int) : List Int := x.set d (rot32 (xor32 (gw x d) (gw x a)) n)
/-- A quarter of a round. -/
def qr (x : List Int) (a b c d : Nat) : List Int :=
  stX (stA (stX (stA (stX (stA (stX (stA x a b) d a 16) c d) b c 12) a b) d a 8) c d) b c 7
theorem foldA {x : List Int} {a b : Nat} : x.set a (IntKind.wrap .u32 (gw x a + gw x b)) = stA x a b := rfl
theorem foldX {x : List Int} {d a : Nat} {n : Int} : x.set d (rot32 (bitsK .xor .u32 (gw x d) (gw x a)) n) = stX x d a n := rfl
theorem stA_len {x : List Int} {a b : Nat} : (stA x a b).length = x.length := by simp [stA]
theorem stX_len {x : List Int} {a b : Nat} {n : Int} : (stX x a b n).length = x.length := by simp [stX]
theorem qr_len {x : List Int} {a b c d : Nat} : (qr x a b c d).length = x.length := by simp [qr, stA_len, stX_len]
theorem v114 (h121 : tbl 121 = some (.code m121)) (h114 : tbl 114 = some (.code m114)) {H : AH} {k : Nat} {x : List Int} (hx : x.length = 16) (hk : H.get k = some (wds x)) (a b c d : Nat) (ha : a < 16) (hb : b < 16) (hc : c < 16) (hd : d < 16) :
    Val tbl 114 [.pointer (some ⟨k, 0, none⟩), .int .i64 a, .int .i64 b, .int .i64 c, .int .i64 d] H (.tuple #[]) (H.set k (some (wds (qr x a b c d)))) := by
  refine Val.of_all fun Q hQ => ?_
  rw [rn_fun h114, k114]
  have hlt := AH.get_lt hk
  have a0 : (0 : Int) ≤ a := by omega
  have a1 : (a : Int) < 16 := by omega
  have a2 : a + 1 ≤ 16 := by omega
  have b0 : (0 : Int) ≤ b := by omega
  have b1 : (b : Int) < 16 := by omega
  have b2 : b + 1 ≤ 16 := by omega
  have c0 : (0 : Int) ≤ c := by omega
  have c1 : (c : Int) < 16 := by omega
  have c2 : c + 1 ≤ 16 := by omega
  have d0 : (0 : Int) ≤ d := by omega
  have d1 : (d : Int) < 16 := by omega
  have d2 : d + 1 ≤ 16 := by omega
  have r16 := fun x H => v121 (tbl := tbl) h121 x 16 (by omega) (by decide) H
  have r12 := fun x H => v121 (tbl := tbl) h121 x 12 (by omega) (by decide) H
  have r8 := fun x H => v121 (tbl := tbl) h121 x 8 (by omega) (by decide) H
  have r7 := fun x H => v121 (tbl := tbl) h121 x 7 (by omega) (by decide) H
  simp only [hk, hx, hlt, nilV, wds_len, wds_ro, wds_es, a0, a1, a2, b0, b1, b2, c0, c1, c2, d0, d1, d2, ha, hb, hc, hd, wds_at, Int.toNat_natCast, ↓(r16 _ _).run, ↓(r12 _ _).run, ↓(r8 _ _).run, ↓(r7 _ _).run, stc_eq, stB_some, set_get, set_set, AH.next_set, addA, splice_one, wds_set, foldA, foldX, stA_len, stX_len, go_sem, Nat.reduceEqDiff, Nat.reduceAdd, Nat.reduceLeDiff, Int.reduceEq, Int.reduceLT, Int.reduceLE, Int.reduceAdd, Int.reduceSub, Int.reduceMul, Int.reduceNeg, Int.reduceToNat, Nat.reduceMul]
  rw [back_set hlt]
  exact hQ
theorem v93 (h94 : tbl 94 = some (.code m94)) (h93 : tbl 93 = some (.code m93)) {H : AH} {k : Nat} {x : List Int} (hx : x.length = 16) (hk : H.get k = some (wds x)) (a b c d : Nat) (ha : a < 16) (hb : b < 16) (hc : c < 16) (hd : d < 16) :
    Val tbl 93 [.int .i64 a, .int .i64 b, .int .i64 c, .int .i64 d, .pointer (some ⟨k, 0, none⟩)] H (.tuple #[]) (H.set k (some (wds (qr x a b c d)))) := by
  refine Val.of_all fun Q hQ => ?_
  rw [rn_fun h93, k93]
  have hlt := AH.get_lt hk
  have a0 : (0 : Int) ≤ a := by omega
  have a1 : (a : Int) < 16 := by omega
  have a2 : a + 1 ≤ 16 := by omega
  have b0 : (0 : Int) ≤ b := by omega
  have b1 : (b : Int) < 16 := by omega
  have b2 : b + 1 ≤ 16 := by omega
  have c0 : (0 : Int) ≤ c := by omega
  have c1 : (c : Int) < 16 := by omega
  have c2 : c + 1 ≤ 16 := by omega
  have d0 : (0 : Int) ≤ d := by omega
  have d1 : (d : Int) < 16 := by omega
  have d2 : d + 1 ≤ 16 := by omega
  have r16 := fun x H => v94 (tbl := tbl) h94 x 16 (by omega) H
  have r12 := fun x H => v94 (tbl := tbl) h94 x 12 (by omega) H
  have r8 := fun x H => v94 (tbl := tbl) h94 x 8 (by omega) H
  have r7 := fun x H => v94 (tbl := tbl) h94 x 7 (by omega) H
  simp only [hk, hx, hlt, nilV, wds_len, wds_ro, wds_es, a0, a1, a2, b0, b1, b2, c0, c1, c2, d0, d1, d2, ha, hb, hc, hd, wds_at, Int.toNat_natCast, ↓(r16 _ _).run, ↓(r12 _ _).run, ↓(r8 _ _).run, ↓(r7 _ _).run, stc_eq, stB_some, set_get, set_set, AH.next_set, addA, splice_one, wds_set, foldA, foldX, stA_len, stX_len, go_sem, Nat.reduceEqDiff, Nat.reduceAdd, Nat.reduceLeDiff, Int.reduceEq, Int.reduceLT, Int.reduceLE, Int.reduceAdd, Int.reduceSub, Int.reduceMul, Int.reduceNeg, Int.reduceToNat, Nat.reduceMul]
  rw [back_set hlt]
  exact hQ
end Go.Proofs.Ytildhljhbbhmmaa.AM
namespace Go.Proofs.Ytildhljhbbhmmaa.AM
open Go
set_option linter.all false
set_option maxRecDepth 10000
variable {tbl : Tbl} [hT : TMono tbl]

/-! ### Bits -/
theorem ofInt_nat (w x : Nat) : (BitVec.ofInt w (x : Int)).toNat = x % 2 ^ w := by
  rw [BitVec.toNat_ofInt]
  have : ((x : Int) % ((2 ^ w : Nat) : Int)) = ((x % 2 ^ w : Nat) : Int) := by rw [Int.natCast_emod]
  rw [this, Int.toNat_natCast]
theorem u32w {n : Int} (h : 0 ≤ n) (h2 : n < 4294967296) : IntKind.wrap .u32 n = n := by rw [IntKind.wrap_u32]; omega
theorem or32 (x y : Nat) (hx : x < 4294967296) (hy : y < 4294967296) : bitsK .or .u32 (x : Int) (y : Int) = ((x ||| y : Nat) : Int) := by
  simp only [bitsK, BitVec.toNat_or, ofInt_nat]
  have e1 : x % 2 ^ IntKind.u32.bits = x := Nat.mod_eq_of_lt hx
  have e2 : y % 2 ^ IntKind.u32.bits = y := Nat.mod_eq_of_lt hy
  rw [e1, e2]
  have := Nat.or_lt_two_pow (n := 32) hx hy
  exact u32w (by omega) (by omega)
theorem or_low {x y i : Nat} (hx : x < 2 ^ i) : x ||| (y * 2 ^ i) = x + y * 2 ^ i := by
  have := Nat.shiftLeft_add_eq_or_of_lt hx y
  rw [Nat.shiftLeft_eq] at this
  rw [Nat.or_comm, ← this, Nat.add_comm]
theorem shl32 (x n : Nat) (hn : n ≤ 32) (hx : x * 2 ^ n < 4294967296) : shiftK .shl .u32 (x : Int) (n : Int) = ((x * 2 ^ n : Nat) : Int) := by
  have e : Nat.min n 32 = n := Nat.min_eq_left hn
  simp only [shiftK, Int.toNat_natCast]
  rw [show IntKind.u32.bits = 32 from rfl, e]
  rw [show (x : Int) * 2 ^ n = ((x * 2 ^ n : Nat) : Int) by simp]
  exact u32w (by omega) (by omega)
def le4 (b0 b1 b2 b3 : Nat) : Nat := b0 + b1 * 256 + b2 * 65536 + b3 * 16777216
theorem le_prog {b0 b1 b2 b3 : Nat} (h0 : b0 < 256) (h1 : b1 < 256) (h2 : b2 < 256) (h3 : b3 < 256) :
    bitsK .or .u32 (bitsK .or .u32 (bitsK .or .u32 (IntKind.wrap .u32 b0) (shiftK .shl .u32 (IntKind.wrap .u32 b1) 8)) (shiftK .shl .u32 (IntKind.wrap .u32 b2) 16)) (shiftK .shl .u32 (IntKind.wrap .u32 b3) 24) = (le4 b0 b1 b2 b3 : Int) := by
  rw [u32w (n := b0) (by omega) (by omega), u32w (n := b1) (by omega) (by omega), u32w (n := b2) (by omega) (by omega), u32w (n := b3) (by omega) (by omega)]
  have s1 := shl32 b1 8 (by omega) (by omega)
  have s2 := shl32 b2 16 (by omega) (by omega)
  have s3 := shl32 b3 24 (by omega) (by omega)
  have o1 := or_low (x := b0) (y := b1) (i := 8) (by omega)
  have o2 := or_low (x := b0 + b1 * 2 ^ 8) (y := b2) (i := 16) (by omega)
  have o3 := or_low (x := b0 + b1 * 2 ^ 8 + b2 * 2 ^ 16) (y := b3) (i := 24) (by omega)
  rw [show (8 : Int) = ((8 : Nat) : Int) from rfl, show (16 : Int) = ((16 : Nat) : Int) from rfl, show (24 : Int) = ((24 : Nat) : Int) from rfl, s1, s2, s3]
  rw [or32 _ _ (by omega) (by omega), o1, or32 _ _ (by omega) (by omega), o2, or32 _ _ (by omega) (by omega), o3]
  rfl
theorem le_ref {b0 b1 b2 b3 : Nat} (h0 : b0 < 256) (h1 : b1 < 256) (h2 : b2 < 256) (h3 : b3 < 256) :
    bitsK .or .u32 (bitsK .or .u32 (bitsK .or .u32 (shiftK .shl .u32 (IntKind.wrap .u32 b3) 24) (shiftK .shl .u32 (IntKind.wrap .u32 b2) 16)) (shiftK .shl .u32 (IntKind.wrap .u32 b1) 8)) (IntKind.wrap .u32 b0) = (le4 b0 b1 b2 b3 : Int) := by
  rw [u32w (n := b0) (by omega) (by omega), u32w (n := b1) (by omega) (by omega), u32w (n := b2) (by omega) (by omega), u32w (n := b3) (by omega) (by omega)]
  have s1 := shl32 b1 8 (by omega) (by omega)
  have s2 := shl32 b2 16 (by omega) (by omega)
  have s3 := shl32 b3 24 (by omega) (by omega)
  have o1 := or_low (x := b2 * 2 ^ 16) (y := b3) (i := 24) (by omega)
  rw [show (8 : Int) = ((8 : Nat) : Int) from rfl, show (16 : Int) = ((16 : Nat) : Int) from rfl, show (24 : Int) = ((24 : Nat) : Int) from rfl, s1, s2, s3]
  rw [or32 _ _ (by omega) (by omega), Nat.or_comm, o1]
  have o2 := or_low (x := b1 * 2 ^ 8) (y := b2 + b3 * 2 ^ 8) (i := 16) (by omega)
  have e2 : (b2 + b3 * 2 ^ 8) * 2 ^ 16 = b2 * 2 ^ 16 + b3 * 2 ^ 24 := by omega
  rw [e2] at o2
  rw [or32 _ _ (by omega) (by omega), Nat.or_comm, o2]
  have o3 := or_low (x := b0) (y := b1 + b2 * 2 ^ 8 + b3 * 2 ^ 16) (i := 8) (by omega)
  have e3 : (b1 + b2 * 2 ^ 8 + b3 * 2 ^ 16) * 2 ^ 8 = b1 * 2 ^ 8 + (b2 * 2 ^ 16 + b3 * 2 ^ 24) := by omega
  rw [e3] at o3
  rw [or32 _ _ (by omega) (by omega), Nat.or_comm, o3]
  unfold le4
  omega
/-- A byte of a text, and a word of four. -/
def sb (s : ByteArray) (i : Nat) : Nat := (s.data.toList.getD i 0).toNat
theorem byteAt_nat {s : ByteArray} {i : Nat} : byteAt s (i : Int) = (sb s i : Int) := rfl
theorem sb_lt (s : ByteArray) (i : Nat) : sb s i < 256 := UInt8.toNat_lt _
def wordAt (s : ByteArray) (i : Nat) : Int := (le4 (sb s i) (sb s (i + 1)) (sb s (i + 2)) (sb s (i + 3)) : Nat)
theorem v96 (h96 : tbl 96 = some (.code m96)) (s : ByteArray) (hs : 4 ≤ s.size) (H : AH) : Val tbl 96 [.string s] H (.int .u32 (wordAt s 0)) H := by
  refine Val.of_all fun Q hQ => ?_
  rw [rn_fun h96, k96]
  have a0 : (0 : Int) < s.size := by omega
  have a1 : (1 : Int) < s.size := by omega
  have a2 : (2 : Int) < s.size := by omega
  have a3 : (3 : Int) < s.size := by omega
  simp only [a0, a1, a2, a3, go_sem, Nat.reduceEqDiff, Nat.reduceAdd, Nat.reduceLeDiff, Int.reduceEq, Int.reduceLT, Int.reduceLE, Int.reduceAdd, Int.reduceSub, Int.reduceMul, Int.reduceNeg, Int.reduceToNat, Nat.reduceMul]
  have e := le_prog (sb_lt s 0) (sb_lt s 1) (sb_lt s 2) (sb_lt s 3)
  rw [← byteAt_nat, ← byteAt_nat, ← byteAt_nat, ← byteAt_nat] at e
  refine leaf hQ ?_ rfl
  exact congrArg (Value.int .u32) e
theorem v92 (h92 : tbl 92 = some (.code m92)) (s : ByteArray) (i : Nat) (hs : i + 4 ≤ s.size) (hi : i < 9223372036854775800) (H : AH) : Val tbl 92 [.string s, .int .i64 i] H (.int .u32 (wordAt s i)) H := by
  refine Val.of_all fun Q hQ => ?_
  rw [rn_fun h92, k92]
  have w1 := w64 (x := (i : Int) + 1) (by omega) (by omega)
  have w2 := w64 (x := (i : Int) + 2) (by omega) (by omega)
  have w3 := w64 (x := (i : Int) + 3) (by omega) (by omega)
  have b0 : (0 : Int) ≤ i := by omega
  have b1 : (0 : Int) ≤ i + 1 := by omega
  have b2 : (0 : Int) ≤ i + 2 := by omega
  have b3 : (0 : Int) ≤ i + 3 := by omega
  have a0 : (i : Int) < s.size := by omega
  have a1 : (i : Int) + 1 < s.size := by omega
  have a2 : (i : Int) + 2 < s.size := by omega
  have a3 : (i : Int) + 3 < s.size := by omega
  have t1 : ((i : Int) + 1).toNat = i + 1 := by omega
  have t2 : ((i : Int) + 2).toNat = i + 2 := by omega
  have t3 : ((i : Int) + 3).toNat = i + 3 := by omega
  simp only [a0, a1, a2, a3, b0, b1, b2, b3, w1, w2, w3, t1, t2, t3, Int.toNat_natCast, go_sem, Nat.reduceEqDiff, Nat.reduceAdd, Nat.reduceLeDiff, Int.reduceEq, Int.reduceLT, Int.reduceLE, Int.reduceAdd, Int.reduceSub, Int.reduceMul, Int.reduceNeg, Int.reduceToNat, Nat.reduceMul]
  have e := le_ref (sb_lt s i) (sb_lt s (i + 1)) (sb_lt s (i + 2)) (sb_lt s (i + 3))
  rw [← byteAt_nat, ← byteAt_nat, ← byteAt_nat, ← byteAt_nat] at e
  refine leaf hQ ?_ rfl
  exact congrArg (Value.int .u32) e
end Go.Proofs.Ytildhljhbbhmmaa.AM
namespace Go.Proofs.Ytildhljhbbhmmaa.AM
open Go
set_option linter.all false
set_option maxRecDepth 10000
variable {tbl : Tbl} [hT : TMono tbl]

/-! ### Rows of bytes -/
def U8 (b : UInt8) : Value := .int .u8 (b.toNat : Int)
def bc (l : List UInt8) : List Value := l.map U8
def u8r (l : List UInt8) : Blk := ⟨bc l, 1, false⟩
/-- A number's lowest byte. -/
def b8 (n : Int) : UInt8 := UInt8.ofNat (n % 256).toNat
theorem b8_nat (n : Int) : IntKind.wrap .u8 n = ((b8 n).toNat : Int) := by
  rw [IntKind.wrap_u8, b8, UInt8.toNat_ofNat']
  omega
theorem byteOf_U8 (b : UInt8) : byteOf (U8 b) = some b := by
  simp only [U8, byteOf, Int.toNat_natCast]
  congr 1
  exact UInt8.ofNat_toNat
theorem bytesOf_bc : ∀ l : List UInt8, bytesOf (bc l) = some l := by
  intro l
  induction l with
  | nil => rfl
  | cons b l ih =>
    have : bc (b :: l) = U8 b :: bc l := rfl
    rw [this, bytesOf, byteOf_U8, ih]
theorem bc_len {l : List UInt8} : (bc l).length = l.length := by simp [bc]
theorem bc_p1 (l : List UInt8) : (bc l).all p1 = true := by
  induction l with
  | nil => rfl
  | cons b l ih => simp only [bc, List.map_cons, List.all_cons] at ih ⊢; rw [ih]; rfl
theorem byteCells_eq {s : ByteArray} : byteCells s = bc s.data.toList := rfl
theorem bc_set {l : List UInt8} {i : Nat} {b : UInt8} : (bc l).set i (.int .u8 (b.toNat : Int)) = bc (l.set i b) := by
  simp [bc, U8, List.map_set]
theorem u8r_len {l : List UInt8} : (u8r l).cells.length = l.length := bc_len
theorem u8r_ro {l : List UInt8} : (u8r l).ro = false := rfl
theorem u8r_es {l : List UInt8} : (u8r l).es = 1 := rfl
def gb (l : List UInt8) (i : Nat) : UInt8 := l.getD i 0
theorem u8r_at {l : List UInt8} {i : Nat} (h : i < l.length) : List.take 1 (List.drop i (u8r l).cells) = [.int .u8 ((gb l i).toNat : Int)] := by
  rw [take_one (by rw [u8r_len]; exact h)]
  simp [u8r, bc, U8, gb, h]
theorem u8r_set {l : List UInt8} {i : Nat} {b : UInt8} : (⟨(u8r l).cells.set i (.int .u8 (b.toNat : Int)), 1, false⟩ : Blk) = u8r (l.set i b) := by
  simp only [u8r, bc_set]
/-- A text of bytes. -/
def tx (l : List UInt8) : ByteArray := ⟨l.toArray⟩
theorem tx_data (l : List UInt8) : (tx l).data.toList = l := by simp [tx]
theorem tx_size (l : List UInt8) : (tx l).size = l.length := by simp [tx, ByteArray.size]
theorem tx_of (s : ByteArray) : tx s.data.toList = s := by simp [tx]
theorem tx_cat (l r : List UInt8) : tx l ++ tx r = tx (l ++ r) := by
  have : (tx l ++ tx r).data.toList = (tx (l ++ r)).data.toList := by simp [tx]
  rw [← tx_of (tx l ++ tx r), this, tx_data]
theorem tx_inj {l r : List UInt8} : tx l = tx r ↔ l = r := by
  constructor
  · intro h
    rw [← tx_data l, h, tx_data]
  · rintro rfl; rfl
theorem tx_extract (l : List UInt8) (a b : Nat) : (tx l).extract a b = tx ((l.take b).drop a) := by
  have : ((tx l).extract a b).data.toList = (l.take b).drop a := by
    rw [ByteArray.data_extract]
    simp [tx, Array.toList_extract, List.extract, List.drop_take]
  rw [← tx_of ((tx l).extract a b), this]
theorem tx_sb {l : List UInt8} {i : Nat} : sb (tx l) i = (gb l i).toNat := by rw [sb, tx_data]; rfl
theorem byteAt_tx {l : List UInt8} {i : Nat} : byteAt (tx l) (i : Int) = ((gb l i).toNat : Int) := by rw [byteAt_nat, tx_sb]
theorem slcBytes_row {H : AH} {k n c : Nat} {l : List UInt8} (h : H.get k = some (u8r l)) (hn : n = l.length) : slcBytes H (.slice (some ⟨k, 0, none⟩) n c) = some (tx l) := by
  simp only [slcBytes, ldc_eq, h, ldcB_some, u8r_len, List.drop_zero]
  rw [if_pos (by omega), hn, List.take_of_length_le (by rw [u8r_len]; omega)]
  simp only [u8r, bytesOf_bc]
  rfl
/-! ### Words in bytes -/
def little (n : Int) : List UInt8 := [b8 n, b8 (shiftK .shr .u32 n 8), b8 (shiftK .shr .u32 n 16), b8 (shiftK .shr .u32 n 24)]
theorem v91 (h91 : tbl 91 = some (.code m91)) (n : Int) (H : AH) : Val tbl 91 [.int .u32 n] H (.string (tx (little n))) H := by
  refine Val.of_all fun Q hQ => ?_
  rw [rn_fun h91, k91]
  have hr : (H.enter.push (u8r (little n))).get H.next = some (u8r (little n)) := AH.get_push_eq H.enter _
  have hs := slcBytes_row (n := 4) (c := 4) hr rfl
  simp only [u8r, bc, little, U8, List.map_cons, List.map_nil] at hs
  simp only [b8_nat, hs, go_sem, Nat.reduceEqDiff, Nat.reduceAdd, Nat.reduceLeDiff, Int.reduceEq, Int.reduceLT, Int.reduceLE, Int.reduceAdd, Int.reduceSub, Int.reduceMul, Int.reduceNeg, Int.reduceToNat, Nat.reduceMul]
  exact hQ
end Go.Proofs.Ytildhljhbbhmmaa.AM
namespace Go.Proofs.Ytildhljhbbhmmaa.AM
open Go
set_option linter.all false
set_option maxRecDepth 10000
variable {tbl : Tbl} [hT : TMono tbl]

theorem gb_drop {l : List UInt8} {a i : Nat} : gb (l.drop a) i = gb l (a + i) := by simp [gb, List.getD_eq_getElem?_getD, List.getElem?_drop]
theorem wordAt_tx {l : List UInt8} {i : Nat} : wordAt (tx l) i = (le4 (gb l i).toNat (gb l (i + 1)).toNat (gb l (i + 2)).toNat (gb l (i + 3)).toNat : Nat) := by
  simp only [wordAt, tx_sb]
theorem wordAt_drop {l : List UInt8} {a i : Nat} : wordAt (tx (l.drop a)) i = wordAt (tx l) (a + i) := by
  simp only [wordAt_tx, gb_drop, Nat.add_assoc]
theorem v96t (h96 : tbl 96 = some (.code m96)) (l : List UInt8) (a n : Nat) (hn : l.length = n) (ha : a + 4 ≤ n) (H : AH) : Val tbl 96 [.string ((tx l).extract a n)] H (.int .u32 (wordAt (tx l) a)) H := by
  have e : (tx l).extract a n = tx (l.drop a) := by rw [tx_extract, List.take_of_length_le (by omega)]
  rw [e]
  have := v96 h96 (tx (l.drop a)) (by rw [tx_size]; simp; omega) H
  rw [wordAt_drop] at this
  exact this
/-- How a block starts. -/
def start (k n : List UInt8) (c : Int) : List Int := [1634760805, 857760878, 2036477234, 1797285236, wordAt (tx k) 0, wordAt (tx k) 4, wordAt (tx k) 8, wordAt (tx k) 12, wordAt (tx k) 16, wordAt (tx k) 20, wordAt (tx k) 24, wordAt (tx k) 28, c, wordAt (tx n) 0, wordAt (tx n) 4, wordAt (tx n) 8]
def dr (x : List Int) : List Int := qr (qr (qr (qr (qr (qr (qr (qr x 0 4 8 12) 1 5 9 13) 2 6 10 14) 3 7 11 15) 0 5 10 15) 1 6 11 12) 2 7 8 13) 3 4 9 14
def drs : Nat → List Int → List Int
  | 0, x => x
  | n + 1, x => dr (drs n x)
theorem dr_len {x : List Int} : (dr x).length = x.length := by simp [dr, qr_len]
theorem drs_len {x : List Int} : ∀ n, (drs n x).length = x.length := by
  intro n
  induction n with
  | zero => rfl
  | succ n ih => simp [drs, dr_len, ih]
def zb : Nat → List UInt8 := fun n => List.replicate n 0
def outP (g : Nat → Int) : Nat → List UInt8
  | 0 => []
  | i + 1 => outP g i ++ little (g i)
theorem outP_len (g : Nat → Int) : ∀ i, (outP g i).length = 4 * i := by
  intro i
  induction i with
  | zero => rfl
  | succ i ih => simp only [outP, List.length_append, ih, little, List.length_cons, List.length_nil]; omega
theorem set_mid {A R : List UInt8} {x y : UInt8} {j i : Nat} (h : j = A.length + i) : (A ++ R).set j x = A ++ R.set i x := by
  subst h
  rw [List.set_append_right _ _ (by omega)]
  congr 2
  omega
theorem out_step (g : Nat → Int) {i : Nat} (h : i < 16) (w : Int) : ((((outP g i ++ zb (64 - 4 * i)).set (4 * i) (b8 w)).set (4 * i + 1) (b8 (shiftK .shr .u32 w 8))).set (4 * i + 2) (b8 (shiftK .shr .u32 w 16))).set (4 * i + 3) (b8 (shiftK .shr .u32 w 24)) = outP g i ++ little w ++ zb (64 - 4 * (i + 1)) := by
  have hl := outP_len g i
  have hz : zb (64 - 4 * i) = 0 :: 0 :: 0 :: 0 :: zb (64 - 4 * (i + 1)) := by
    rw [show 64 - 4 * i = (64 - 4 * (i + 1)) + 4 by omega]
    simp only [zb, List.replicate_succ]
  rw [hz, set_mid (x := b8 w) (y := 0) (i := 0) (by omega), set_mid (y := 0) (i := 1) (by omega), set_mid (y := 0) (i := 2) (by omega), set_mid (y := 0) (i := 3) (by omega), List.append_assoc]
  rfl
def sumW (k n : List UInt8) (c : Int) (i : Nat) : Int := add32 (gw (drs 10 (start k n c)) i) (gw (start k n c) i)
/-- A block of the stream. -/
def chacha (k n : List UInt8) (c : Int) : List UInt8 := outP (sumW k n c) 16
theorem chacha_len {k n : List UInt8} {c : Int} : (chacha k n c).length = 64 := outP_len _ 16
attribute [irreducible] chacha
theorem start_len {k n : List UInt8} {c : Int} : (start k n c).length = 16 := rfl
structure CSt (H H' : AH) (k n : List UInt8) (c : Int) (x : List Int) : Prop where
  old : ∀ id, id < H.next → H'.get id = H.get id
  nx : H'.next = H.next + 3
  low : H.next ≤ H'.low
  g6 : H'.get H.next = some (u8r (zb 64))
  g7 : H'.get (H.next + 1) = some (wds (start k n c))
  g10 : H'.get (H.next + 1 + 1) = some (wds x)
theorem CSt.turn {H H' : AH} {k n : List UInt8} {c : Int} {x : List Int} (st : CSt H H' k n c x) (y : List Int) : CSt H (H'.set (H.next + 1 + 1) (some (wds y))) k n c y := by
  have := st.nx
  have := st.low
  exact ⟨fun id hid => by rw [AH.get_set_ne _ _ (by omega)]; exact st.old id hid, by rw [AH.next_set]; exact st.nx, by rw [lw_set]; omega, by rw [AH.get_set_ne _ _ (by omega)]; exact st.g6, by rw [AH.get_set_ne _ _ (by omega)]; exact st.g7, AH.get_set_eq _ _ (by omega)⟩
theorem splice_eq : ∀ (vs l : List Value) (off : Nat), off + vs.length ≤ l.length → splice l off vs = l.take off ++ vs ++ l.drop (off + vs.length) := by
  intro vs
  induction vs with
  | nil => intro l off _; simp [splice]
  | cons v vs ih =>
    intro l off h
    simp only [List.length_cons] at h
    simp only [splice]
    rw [ih _ _ (by rw [List.length_set]; omega)]
    have h1 : off < l.length := by omega
    rw [List.set_eq_take_append_cons_drop, if_pos h1]
    simp only [List.length_cons]
    rw [List.take_append, List.drop_append]
    have e1 : (l.take off).length = off := by rw [List.length_take]; omega
    rw [e1, List.take_of_length_le (by omega : (l.take off).length ≤ off + 1), List.drop_eq_nil_of_le (by omega : (l.take off).length ≤ off + 1 + vs.length)]
    rw [show off + 1 - off = 1 by omega, show off + 1 + vs.length - off = vs.length + 1 by omega]
    simp only [List.take_succ_cons, List.take_zero, List.drop_succ_cons, List.nil_append, List.drop_drop, List.append_assoc, List.cons_append]
    rw [show off + 1 + vs.length = off + (vs.length + 1) by omega]
theorem splice_all {l vs : List Value} (h : vs.length = l.length) : splice l 0 vs = vs := by
  rw [splice_eq _ _ _ (by omega)]
  simp [h]
theorem agg_bc (l : List UInt8) : p3 (.agg (bc l).toArray) = true := by
  show ((bc l).toArray.toList).all p1 = true
  rw [List.toList_toArray]
  exact bc_p1 l
section
variable (h121 : tbl 121 = some (.code m121)) (h114 : tbl 114 = some (.code m114)) (h96 : tbl 96 = some (.code m96)) (h95 : tbl 95 = some (.code m95))
include h121 h114 h96 h95
set_option maxHeartbeats 1600000 in
theorem v95 (k n : List UInt8) (c : Int) (hk : k.length = 32) (hn : n.length = 12) (H : AH) : Val tbl 95 [.string (tx k), .string (tx n), .int .u32 c] H (.agg (bc (chacha k n c)).toArray) H := by
  refine Val.of_all fun Q hQ => ?_
  rw [rn_fun h95, k95]
  have hw := fun a (ha : a + 4 ≤ 32) H => v96t h96 k a 32 hk ha H
  have hw2 := fun a (ha : a + 4 ≤ 12) H => v96t h96 n a 12 hn ha H
  have hz : H.next + 1 < H.next + 1 + 1 := by omega
  simp only [hz, stc_eq, stB_some, go_sem, Nat.reduceEqDiff, Nat.reduceAdd, Nat.reduceLeDiff, Int.reduceEq, Int.reduceLT, Int.reduceLE, Int.reduceAdd, Int.reduceSub, Int.reduceMul, Int.reduceNeg, Int.reduceToNat, Nat.reduceMul]
  rw [rn_round]
  simp only [↓(hw 0 (by omega) _).run, tx_size, hk, hn, hz, stc_eq, stB_some, set_get, set_set, AH.next_set, addA, Nat.zero_add, w64, go_sem, Nat.reduceEqDiff, Nat.reduceAdd, Nat.reduceLeDiff, Int.reduceEq, Int.reduceLT, Int.reduceLE, Int.reduceAdd, Int.reduceSub, Int.reduceMul, Int.reduceNeg, Int.reduceToNat, Nat.reduceMul]
  rw [rn_round]
  simp only [↓(hw 4 (by omega) _).run, tx_size, hk, hn, hz, stc_eq, stB_some, set_get, set_set, AH.next_set, addA, Nat.zero_add, w64, go_sem, Nat.reduceEqDiff, Nat.reduceAdd, Nat.reduceLeDiff, Int.reduceEq, Int.reduceLT, Int.reduceLE, Int.reduceAdd, Int.reduceSub, Int.reduceMul, Int.reduceNeg, Int.reduceToNat, Nat.reduceMul]
  rw [rn_round]
  simp only [↓(hw 8 (by omega) _).run, tx_size, hk, hn, hz, stc_eq, stB_some, set_get, set_set, AH.next_set, addA, Nat.zero_add, w64, go_sem, Nat.reduceEqDiff, Nat.reduceAdd, Nat.reduceLeDiff, Int.reduceEq, Int.reduceLT, Int.reduceLE, Int.reduceAdd, Int.reduceSub, Int.reduceMul, Int.reduceNeg, Int.reduceToNat, Nat.reduceMul]
  rw [rn_round]
  simp only [↓(hw 12 (by omega) _).run, tx_size, hk, hn, hz, stc_eq, stB_some, set_get, set_set, AH.next_set, addA, Nat.zero_add, w64, go_sem, Nat.reduceEqDiff, Nat.reduceAdd, Nat.reduceLeDiff, Int.reduceEq, Int.reduceLT, Int.reduceLE, Int.reduceAdd, Int.reduceSub, Int.reduceMul, Int.reduceNeg, Int.reduceToNat, Nat.reduceMul]
  rw [rn_round]
  simp only [↓(hw 16 (by omega) _).run, tx_size, hk, hn, hz, stc_eq, stB_some, set_get, set_set, AH.next_set, addA, Nat.zero_add, w64, go_sem, Nat.reduceEqDiff, Nat.reduceAdd, Nat.reduceLeDiff, Int.reduceEq, Int.reduceLT, Int.reduceLE, Int.reduceAdd, Int.reduceSub, Int.reduceMul, Int.reduceNeg, Int.reduceToNat, Nat.reduceMul]
  rw [rn_round]
  simp only [↓(hw 20 (by omega) _).run, tx_size, hk, hn, hz, stc_eq, stB_some, set_get, set_set, AH.next_set, addA, Nat.zero_add, w64, go_sem, Nat.reduceEqDiff, Nat.reduceAdd, Nat.reduceLeDiff, Int.reduceEq, Int.reduceLT, Int.reduceLE, Int.reduceAdd, Int.reduceSub, Int.reduceMul, Int.reduceNeg, Int.reduceToNat, Nat.reduceMul]
  rw [rn_round]
  simp only [↓(hw 24 (by omega) _).run, tx_size, hk, hn, hz, stc_eq, stB_some, set_get, set_set, AH.next_set, addA, Nat.zero_add, w64, go_sem, Nat.reduceEqDiff, Nat.reduceAdd, Nat.reduceLeDiff, Int.reduceEq, Int.reduceLT, Int.reduceLE, Int.reduceAdd, Int.reduceSub, Int.reduceMul, Int.reduceNeg, Int.reduceToNat, Nat.reduceMul]
  rw [rn_round]
  simp only [↓(hw 28 (by omega) _).run, tx_size, hk, hn, hz, stc_eq, stB_some, set_get, set_set, AH.next_set, addA, Nat.zero_add, w64, go_sem, Nat.reduceEqDiff, Nat.reduceAdd, Nat.reduceLeDiff, Int.reduceEq, Int.reduceLT, Int.reduceLE, Int.reduceAdd, Int.reduceSub, Int.reduceMul, Int.reduceNeg, Int.reduceToNat, Nat.reduceMul]
  rw [rn_round]
  simp only [tx_size, hk, hn, hz, stc_eq, stB_some, set_get, set_set, AH.next_set, addA, Nat.zero_add, w64, go_sem, Nat.reduceEqDiff, Nat.reduceAdd, Nat.reduceLeDiff, Int.reduceEq, Int.reduceLT, Int.reduceLE, Int.reduceAdd, Int.reduceSub, Int.reduceMul, Int.reduceNeg, Int.reduceToNat, Nat.reduceMul]
  rw [rn_round]
  simp only [↓(hw2 0 (by omega) _).run, tx_size, hk, hn, hz, stc_eq, stB_some, set_get, set_set, AH.next_set, addA, Nat.zero_add, w64, go_sem, Nat.reduceEqDiff, Nat.reduceAdd, Nat.reduceLeDiff, Int.reduceEq, Int.reduceLT, Int.reduceLE, Int.reduceAdd, Int.reduceSub, Int.reduceMul, Int.reduceNeg, Int.reduceToNat, Nat.reduceMul]
  rw [rn_round]
  simp only [↓(hw2 4 (by omega) _).run, tx_size, hk, hn, hz, stc_eq, stB_some, set_get, set_set, AH.next_set, addA, Nat.zero_add, w64, go_sem, Nat.reduceEqDiff, Nat.reduceAdd, Nat.reduceLeDiff, Int.reduceEq, Int.reduceLT, Int.reduceLE, Int.reduceAdd, Int.reduceSub, Int.reduceMul, Int.reduceNeg, Int.reduceToNat, Nat.reduceMul]
  rw [rn_round]
  simp only [↓(hw2 8 (by omega) _).run, tx_size, hk, hn, hz, stc_eq, stB_some, set_get, set_set, AH.next_set, addA, Nat.zero_add, w64, go_sem, Nat.reduceEqDiff, Nat.reduceAdd, Nat.reduceLeDiff, Int.reduceEq, Int.reduceLT, Int.reduceLE, Int.reduceAdd, Int.reduceSub, Int.reduceMul, Int.reduceNeg, Int.reduceToNat, Nat.reduceMul]
  rw [rn_round]
  simp only [tx_size, hk, hn, hz, stc_eq, stB_some, set_get, set_set, AH.next_set, addA, Nat.zero_add, w64, go_sem, Nat.reduceEqDiff, Nat.reduceAdd, Nat.reduceLeDiff, Int.reduceEq, Int.reduceLT, Int.reduceLE, Int.reduceAdd, Int.reduceSub, Int.reduceMul, Int.reduceNeg, Int.reduceToNat, Nat.reduceMul]
  have hl := drs_len (x := start k n c)
  refine rn_loop (fun m f H' => ∃ i : Nat, i ≤ 10 ∧ m = 10 - i ∧ f 6 = .pointer (some ⟨H.next, 0, none⟩) ∧ f 7 = .pointer (some ⟨H.next + 1, 0, none⟩) ∧ f 10 = .pointer (some ⟨H.next + 1 + 1, 0, none⟩) ∧ f 44 = .int .i64 i ∧ CSt H H' k n c (drs i (start k n c))) ?_ (n := 10)
    ⟨0, by omega, rfl, by simp only [go_sem, Nat.reduceEqDiff, Nat.reduceAdd, Nat.reduceLeDiff, Int.reduceEq, Int.reduceLT, Int.reduceLE, Int.reduceAdd, Int.reduceSub, Int.reduceMul, Int.reduceNeg, Int.reduceToNat, Nat.reduceMul], by simp only [go_sem, Nat.reduceEqDiff, Nat.reduceAdd, Nat.reduceLeDiff, Int.reduceEq, Int.reduceLT, Int.reduceLE, Int.reduceAdd, Int.reduceSub, Int.reduceMul, Int.reduceNeg, Int.reduceToNat, Nat.reduceMul], by simp only [go_sem, Nat.reduceEqDiff, Nat.reduceAdd, Nat.reduceLeDiff, Int.reduceEq, Int.reduceLT, Int.reduceLE, Int.reduceAdd, Int.reduceSub, Int.reduceMul, Int.reduceNeg, Int.reduceToNat, Nat.reduceMul], by simp only [go_sem, Nat.reduceEqDiff, Nat.reduceAdd, Nat.reduceLeDiff, Int.reduceEq, Int.reduceLT, Int.reduceLE, Int.reduceAdd, Int.reduceSub, Int.reduceMul, Int.reduceNeg, Int.reduceToNat, Nat.reduceMul] <;> rfl, ?_⟩
  · rintro m f H' ⟨i, hi, rfl, f6, f7, f10, f44, st⟩
    have hli := hl i
    rw [start_len] at hli
    have hA : Val tbl 114 [.pointer (some ⟨H.next + 1 + 1, 0, none⟩), .int .i64 0, .int .i64 4, .int .i64 8, .int .i64 12] H' (.tuple #[]) (H'.set (H.next + 1 + 1) (some (wds (qr (drs i (start k n c)) 0 4 8 12)))) := v114 h121 h114 hli st.g10 0 4 8 12 (by omega) (by omega) (by omega) (by omega)
    have hB : ∀ (x : List Int), x.length = 16 → ∀ (a b c d : Nat), a < 16 → b < 16 → c < 16 → d < 16 → Val tbl 114 [.pointer (some ⟨H.next + 1 + 1, 0, none⟩), .int .i64 a, .int .i64 b, .int .i64 c, .int .i64 d] (H'.set (H.next + 1 + 1) (some (wds x))) (.tuple #[]) (H'.set (H.next + 1 + 1) (some (wds (qr x a b c d)))) := fun x hx a b c d ha hb hc hd => by
      have := v114 h121 h114 hx (set_get (H := H') (x := some (wds x)) (AH.get_lt st.g10)) a b c d ha hb hc hd
      rw [set_set] at this
      exact this
    have hB1 : ∀ (x : List Int), x.length = 16 → Val tbl 114 [.pointer (some ⟨H.next + 1 + 1, 0, none⟩), .int .i64 1, .int .i64 5, .int .i64 9, .int .i64 13] (H'.set (H.next + 1 + 1) (some (wds x))) (.tuple #[]) (H'.set (H.next + 1 + 1) (some (wds (qr x 1 5 9 13)))) := fun x hx => hB x hx 1 5 9 13 (by omega) (by omega) (by omega) (by omega)
    have hB2 : ∀ (x : List Int), x.length = 16 → Val tbl 114 [.pointer (some ⟨H.next + 1 + 1, 0, none⟩), .int .i64 2, .int .i64 6, .int .i64 10, .int .i64 14] (H'.set (H.next + 1 + 1) (some (wds x))) (.tuple #[]) (H'.set (H.next + 1 + 1) (some (wds (qr x 2 6 10 14)))) := fun x hx => hB x hx 2 6 10 14 (by omega) (by omega) (by omega) (by omega)
    have hB3 : ∀ (x : List Int), x.length = 16 → Val tbl 114 [.pointer (some ⟨H.next + 1 + 1, 0, none⟩), .int .i64 3, .int .i64 7, .int .i64 11, .int .i64 15] (H'.set (H.next + 1 + 1) (some (wds x))) (.tuple #[]) (H'.set (H.next + 1 + 1) (some (wds (qr x 3 7 11 15)))) := fun x hx => hB x hx 3 7 11 15 (by omega) (by omega) (by omega) (by omega)
    have hB4 : ∀ (x : List Int), x.length = 16 → Val tbl 114 [.pointer (some ⟨H.next + 1 + 1, 0, none⟩), .int .i64 0, .int .i64 5, .int .i64 10, .int .i64 15] (H'.set (H.next + 1 + 1) (some (wds x))) (.tuple #[]) (H'.set (H.next + 1 + 1) (some (wds (qr x 0 5 10 15)))) := fun x hx => hB x hx 0 5 10 15 (by omega) (by omega) (by omega) (by omega)
    have hB5 : ∀ (x : List Int), x.length = 16 → Val tbl 114 [.pointer (some ⟨H.next + 1 + 1, 0, none⟩), .int .i64 1, .int .i64 6, .int .i64 11, .int .i64 12] (H'.set (H.next + 1 + 1) (some (wds x))) (.tuple #[]) (H'.set (H.next + 1 + 1) (some (wds (qr x 1 6 11 12)))) := fun x hx => hB x hx 1 6 11 12 (by omega) (by omega) (by omega) (by omega)
    have hB6 : ∀ (x : List Int), x.length = 16 → Val tbl 114 [.pointer (some ⟨H.next + 1 + 1, 0, none⟩), .int .i64 2, .int .i64 7, .int .i64 8, .int .i64 13] (H'.set (H.next + 1 + 1) (some (wds x))) (.tuple #[]) (H'.set (H.next + 1 + 1) (some (wds (qr x 2 7 8 13)))) := fun x hx => hB x hx 2 7 8 13 (by omega) (by omega) (by omega) (by omega)
    have hB7 : ∀ (x : List Int), x.length = 16 → Val tbl 114 [.pointer (some ⟨H.next + 1 + 1, 0, none⟩), .int .i64 3, .int .i64 4, .int .i64 9, .int .i64 14] (H'.set (H.next + 1 + 1) (some (wds x))) (.tuple #[]) (H'.set (H.next + 1 + 1) (some (wds (qr x 3 4 9 14)))) := fun x hx => hB x hx 3 4 9 14 (by omega) (by omega) (by omega) (by omega)
    by_cases hlt : (i : Int) < 10
    · have wi := w64 (x := (i : Int) + 1) (by omega) (by omega)
      simp only [hlt, f6, f7, f10, f44, w64, Int.reduceTMod, go_sem, Nat.reduceEqDiff, Nat.reduceAdd, Nat.reduceLeDiff, Int.reduceEq, Int.reduceLT, Int.reduceLE, Int.reduceAdd, Int.reduceSub, Int.reduceMul, Int.reduceNeg, Int.reduceToNat, Nat.reduceMul]
      rw [rn_round]
      simp only [↓hA.run, f6, f7, f10, f44, w64, Int.reduceTMod, go_sem, Nat.reduceEqDiff, Nat.reduceAdd, Nat.reduceLeDiff, Int.reduceEq, Int.reduceLT, Int.reduceLE, Int.reduceAdd, Int.reduceSub, Int.reduceMul, Int.reduceNeg, Int.reduceToNat, Nat.reduceMul]
      rw [rn_round]
      simp only [↓(hB1 (qr (drs i (start k n c)) 0 4 8 12) (by simp only [qr_len, hli])).run, f6, f7, f10, f44, w64, Int.reduceTMod, go_sem, Nat.reduceEqDiff, Nat.reduceAdd, Nat.reduceLeDiff, Int.reduceEq, Int.reduceLT, Int.reduceLE, Int.reduceAdd, Int.reduceSub, Int.reduceMul, Int.reduceNeg, Int.reduceToNat, Nat.reduceMul]
      rw [rn_round]
      simp only [↓(hB2 (qr (qr (drs i (start k n c)) 0 4 8 12) 1 5 9 13) (by simp only [qr_len, hli])).run, f6, f7, f10, f44, w64, Int.reduceTMod, go_sem, Nat.reduceEqDiff, Nat.reduceAdd, Nat.reduceLeDiff, Int.reduceEq, Int.reduceLT, Int.reduceLE, Int.reduceAdd, Int.reduceSub, Int.reduceMul, Int.reduceNeg, Int.reduceToNat, Nat.reduceMul]
      rw [rn_round]
      simp only [↓(hB3 (qr (qr (qr (drs i (start k n c)) 0 4 8 12) 1 5 9 13) 2 6 10 14) (by simp only [qr_len, hli])).run, f6, f7, f10, f44, w64, Int.reduceTMod, go_sem, Nat.reduceEqDiff, Nat.reduceAdd, Nat.reduceLeDiff, Int.reduceEq, Int.reduceLT, Int.reduceLE, Int.reduceAdd, Int.reduceSub, Int.reduceMul, Int.reduceNeg, Int.reduceToNat, Nat.reduceMul]
      rw [rn_round]
      simp only [f6, f7, f10, f44, w64, Int.reduceTMod, go_sem, Nat.reduceEqDiff, Nat.reduceAdd, Nat.reduceLeDiff, Int.reduceEq, Int.reduceLT, Int.reduceLE, Int.reduceAdd, Int.reduceSub, Int.reduceMul, Int.reduceNeg, Int.reduceToNat, Nat.reduceMul]
      rw [rn_round]
      simp only [↓(hB4 (qr (qr (qr (qr (drs i (start k n c)) 0 4 8 12) 1 5 9 13) 2 6 10 14) 3 7 11 15) (by simp only [qr_len, hli])).run, f6, f7, f10, f44, w64, Int.reduceTMod, go_sem, Nat.reduceEqDiff, Nat.reduceAdd, Nat.reduceLeDiff, Int.reduceEq, Int.reduceLT, Int.reduceLE, Int.reduceAdd, Int.reduceSub, Int.reduceMul, Int.reduceNeg, Int.reduceToNat, Nat.reduceMul]
      rw [rn_round]
      simp only [↓(hB5 (qr (qr (qr (qr (qr (drs i (start k n c)) 0 4 8 12) 1 5 9 13) 2 6 10 14) 3 7 11 15) 0 5 10 15) (by simp only [qr_len, hli])).run, f6, f7, f10, f44, w64, Int.reduceTMod, go_sem, Nat.reduceEqDiff, Nat.reduceAdd, Nat.reduceLeDiff, Int.reduceEq, Int.reduceLT, Int.reduceLE, Int.reduceAdd, Int.reduceSub, Int.reduceMul, Int.reduceNeg, Int.reduceToNat, Nat.reduceMul]
      rw [rn_round]
      simp only [↓(hB6 (qr (qr (qr (qr (qr (qr (drs i (start k n c)) 0 4 8 12) 1 5 9 13) 2 6 10 14) 3 7 11 15) 0 5 10 15) 1 6 11 12) (by simp only [qr_len, hli])).run, f6, f7, f10, f44, w64, Int.reduceTMod, go_sem, Nat.reduceEqDiff, Nat.reduceAdd, Nat.reduceLeDiff, Int.reduceEq, Int.reduceLT, Int.reduceLE, Int.reduceAdd, Int.reduceSub, Int.reduceMul, Int.reduceNeg, Int.reduceToNat, Nat.reduceMul]
      rw [rn_round]
      simp only [↓(hB7 (qr (qr (qr (qr (qr (qr (qr (drs i (start k n c)) 0 4 8 12) 1 5 9 13) 2 6 10 14) 3 7 11 15) 0 5 10 15) 1 6 11 12) 2 7 8 13) (by simp only [qr_len, hli])).run, f6, f7, f10, f44, w64, Int.reduceTMod, go_sem, Nat.reduceEqDiff, Nat.reduceAdd, Nat.reduceLeDiff, Int.reduceEq, Int.reduceLT, Int.reduceLE, Int.reduceAdd, Int.reduceSub, Int.reduceMul, Int.reduceNeg, Int.reduceToNat, Nat.reduceMul]
      rw [rn_round]
      simp only [wi, f6, f7, f10, f44, w64, Int.reduceTMod, go_sem, Nat.reduceEqDiff, Nat.reduceAdd, Nat.reduceLeDiff, Int.reduceEq, Int.reduceLT, Int.reduceLE, Int.reduceAdd, Int.reduceSub, Int.reduceMul, Int.reduceNeg, Int.reduceToNat, Nat.reduceMul]
      exact ⟨10 - (i + 1), by omega, i + 1, by omega, rfl, by simp only [f6, go_sem, Nat.reduceEqDiff, Nat.reduceAdd, Nat.reduceLeDiff, Int.reduceEq, Int.reduceLT, Int.reduceLE, Int.reduceAdd, Int.reduceSub, Int.reduceMul, Int.reduceNeg, Int.reduceToNat, Nat.reduceMul], by simp only [f7, go_sem, Nat.reduceEqDiff, Nat.reduceAdd, Nat.reduceLeDiff, Int.reduceEq, Int.reduceLT, Int.reduceLE, Int.reduceAdd, Int.reduceSub, Int.reduceMul, Int.reduceNeg, Int.reduceToNat, Nat.reduceMul], by simp only [f10, go_sem, Nat.reduceEqDiff, Nat.reduceAdd, Nat.reduceLeDiff, Int.reduceEq, Int.reduceLT, Int.reduceLE, Int.reduceAdd, Int.reduceSub, Int.reduceMul, Int.reduceNeg, Int.reduceToNat, Nat.reduceMul], by simp only [go_sem, Nat.reduceEqDiff, Nat.reduceAdd, Nat.reduceLeDiff, Int.reduceEq, Int.reduceLT, Int.reduceLE, Int.reduceAdd, Int.reduceSub, Int.reduceMul, Int.reduceNeg, Int.reduceToNat, Nat.reduceMul] <;> rfl, st.turn _⟩
    · have hi10 : i = 10 := by omega
      subst hi10
      have hn3 := st.nx
      have hlow := st.low
      have hg6 := st.g6
      have hg7 := st.g7
      have hg10 := st.g10
      simp only [hlt, f6, f7, f10, f44, hn3, go_sem, Nat.reduceEqDiff, Nat.reduceAdd, Nat.reduceLeDiff, Int.reduceEq, Int.reduceLT, Int.reduceLE, Int.reduceAdd, Int.reduceSub, Int.reduceMul, Int.reduceNeg, Int.reduceToNat, Nat.reduceMul]
      refine rn_loop (fun m f H2 => ∃ j : Nat, j ≤ 16 ∧ m = 16 - j ∧ f 6 = .pointer (some ⟨H.next, 0, none⟩) ∧ f 7 = .pointer (some ⟨H.next + 1, 0, none⟩) ∧ f 10 = .pointer (some ⟨H.next + 1 + 1, 0, none⟩) ∧ f 13 = .pointer (some ⟨H.next + 3, 0, none⟩) ∧ f 77 = .int .i64 j ∧
        H2.next = H.next + 4 ∧ (∀ id, id < H.next + 3 → H2.get id = H'.get id) ∧ H.next ≤ H2.low ∧ H2.get (H.next + 3) = some (u8r (outP (sumW k n c) j ++ zb (64 - 4 * j)))) ?_ (n := 16)
        ⟨0, by omega, rfl, by simp only [f6, go_sem, Nat.reduceEqDiff, Nat.reduceAdd, Nat.reduceLeDiff, Int.reduceEq, Int.reduceLT, Int.reduceLE, Int.reduceAdd, Int.reduceSub, Int.reduceMul, Int.reduceNeg, Int.reduceToNat, Nat.reduceMul], by simp only [f7, go_sem, Nat.reduceEqDiff, Nat.reduceAdd, Nat.reduceLeDiff, Int.reduceEq, Int.reduceLT, Int.reduceLE, Int.reduceAdd, Int.reduceSub, Int.reduceMul, Int.reduceNeg, Int.reduceToNat, Nat.reduceMul], by simp only [f10, go_sem, Nat.reduceEqDiff, Nat.reduceAdd, Nat.reduceLeDiff, Int.reduceEq, Int.reduceLT, Int.reduceLE, Int.reduceAdd, Int.reduceSub, Int.reduceMul, Int.reduceNeg, Int.reduceToNat, Nat.reduceMul], by simp only [go_sem, Nat.reduceEqDiff, Nat.reduceAdd, Nat.reduceLeDiff, Int.reduceEq, Int.reduceLT, Int.reduceLE, Int.reduceAdd, Int.reduceSub, Int.reduceMul, Int.reduceNeg, Int.reduceToNat, Nat.reduceMul], by simp only [go_sem, Nat.reduceEqDiff, Nat.reduceAdd, Nat.reduceLeDiff, Int.reduceEq, Int.reduceLT, Int.reduceLE, Int.reduceAdd, Int.reduceSub, Int.reduceMul, Int.reduceNeg, Int.reduceToNat, Nat.reduceMul] <;> rfl, by rw [AH.next_push, hn3], fun id hid => AH.get_push_lt _ _ (by omega), by rw [lw_push]; exact hlow, ?_⟩
      · rintro m f H2 ⟨j, hj, rfl, f6, f7, f10, f13, f77, n2, o2, l2, g13⟩
        have e7 : H2.get (H.next + 1) = some (wds (start k n c)) := by rw [o2 _ (by omega)]; exact hg7
        have e10 : H2.get (H.next + 1 + 1) = some (wds (drs 10 (start k n c))) := by rw [o2 _ (by omega)]; exact hg10
        have e6 : H2.get H.next = some (u8r (zb 64)) := by rw [o2 _ (by omega)]; exact hg6
        have hlen : (outP (sumW k n c) j ++ zb (64 - 4 * j)).length = 64 := by rw [List.length_append, outP_len]; simp only [zb, List.length_replicate]; omega
        by_cases hlt2 : (j : Int) < 16
        · have j0 : (0 : Int) ≤ j := by omega
          have j1 : j < 16 := by omega
          have j2 : j + 1 ≤ 16 := by omega
          have k0 : (0 : Int) ≤ 4 * j := by omega
          have k1 : (0 : Int) ≤ 4 * j + 1 := by omega
          have k2 : (0 : Int) ≤ 4 * j + 2 := by omega
          have k3 : (0 : Int) ≤ 4 * j + 3 := by omega
          have m0 : (4 : Int) * j < 64 := by omega
          have m1 : (4 : Int) * j + 1 < 64 := by omega
          have m2 : (4 : Int) * j + 2 < 64 := by omega
          have m3 : (4 : Int) * j + 3 < 64 := by omega
          have t0 : ((4 : Int) * j).toNat = 4 * j := by omega
          have t1 : ((4 : Int) * j + 1).toNat = 4 * j + 1 := by omega
          have t2 : ((4 : Int) * j + 2).toNat = 4 * j + 2 := by omega
          have t3 : ((4 : Int) * j + 3).toNat = 4 * j + 3 := by omega
          have p0 : 4 * j + 1 ≤ 64 := by omega
          have p1 : 4 * j + 1 + 1 ≤ 64 := by omega
          have p2 : 4 * j + 2 + 1 ≤ 64 := by omega
          have p3 : 4 * j + 3 + 1 ≤ 64 := by omega
          have w0 := w64 (x := 4 * (j : Int)) (by omega) (by omega)
          have w1 := w64 (x := 4 * (j : Int) + 1) (by omega) (by omega)
          have w2 := w64 (x := 4 * (j : Int) + 2) (by omega) (by omega)
          have w3 := w64 (x := 4 * (j : Int) + 3) (by omega) (by omega)
          have wj := w64 (x := (j : Int) + 1) (by omega) (by omega)
          have hl10 := hl 10
          rw [start_len] at hl10
          have hlt3 : H.next + 3 < H.next + 4 := by omega
          have hs := out_step (sumW k n c) j1 (sumW k n c j)
          have hfold : IntKind.wrap .u32 (gw (drs 10 (start k n c)) j + gw (start k n c) j) = sumW k n c j := rfl
          simp only [f6, f7, f10, f13, f77, hlt2, e7, e10, g13, n2, hl10, start_len, wds_len, u8r_len, u8r_ro, u8r_es, hlen, j0, j1, j2, k0, k1, k2, k3, m0, m1, m2, m3, t0, t1, t2, t3, p0, p1, p2, p3, w0, w1, w2, w3, wj, hlt3, hfold, Int.toNat_natCast, wds_at (x := start k n c) (i := j) (by rw [start_len]; exact j1), wds_at (x := drs 10 (start k n c)) (i := j) (by rw [hl10]; exact j1), stc_eq, stB_some, set_get, set_set, AH.next_set, addA, splice_one, b8_nat, u8r_set, List.length_set, hs, go_sem, Nat.reduceEqDiff, Nat.reduceAdd, Nat.reduceLeDiff, Int.reduceEq, Int.reduceLT, Int.reduceLE, Int.reduceAdd, Int.reduceSub, Int.reduceMul, Int.reduceNeg, Int.reduceToNat, Nat.reduceMul]
          refine ⟨16 - (j + 1), by omega, j + 1, by omega, rfl, by simp only [f6, go_sem, Nat.reduceEqDiff, Nat.reduceAdd, Nat.reduceLeDiff, Int.reduceEq, Int.reduceLT, Int.reduceLE, Int.reduceAdd, Int.reduceSub, Int.reduceMul, Int.reduceNeg, Int.reduceToNat, Nat.reduceMul], by simp only [f7, go_sem, Nat.reduceEqDiff, Nat.reduceAdd, Nat.reduceLeDiff, Int.reduceEq, Int.reduceLT, Int.reduceLE, Int.reduceAdd, Int.reduceSub, Int.reduceMul, Int.reduceNeg, Int.reduceToNat, Nat.reduceMul], by simp only [f10, go_sem, Nat.reduceEqDiff, Nat.reduceAdd, Nat.reduceLeDiff, Int.reduceEq, Int.reduceLT, Int.reduceLE, Int.reduceAdd, Int.reduceSub, Int.reduceMul, Int.reduceNeg, Int.reduceToNat, Nat.reduceMul], by simp only [f13, go_sem, Nat.reduceEqDiff, Nat.reduceAdd, Nat.reduceLeDiff, Int.reduceEq, Int.reduceLT, Int.reduceLE, Int.reduceAdd, Int.reduceSub, Int.reduceMul, Int.reduceNeg, Int.reduceToNat, Nat.reduceMul], by simp only [go_sem, Nat.reduceEqDiff, Nat.reduceAdd, Nat.reduceLeDiff, Int.reduceEq, Int.reduceLT, Int.reduceLE, Int.reduceAdd, Int.reduceSub, Int.reduceMul, Int.reduceNeg, Int.reduceToNat, Nat.reduceMul] <;> rfl, by rw [AH.next_set, n2], fun id hid => ?_, by rw [lw_set]; omega, ?_⟩
          · rw [AH.get_set_ne _ _ (by omega)]; exact o2 id hid
          · exact AH.get_set_eq _ _ (by omega)
        · have hj16 : j = 16 := by omega
          subst hj16
          have hap : outP (sumW k n c) 16 ++ zb (64 - 4 * 16) = chacha k n c := by unfold chacha; simp [zb]
          rw [hap] at g13 hlen
          have htk : List.take 64 (u8r (chacha k n c)).cells = bc (chacha k n c) := List.take_of_length_le (by rw [u8r_len]; omega)
          have hlt3 : H.next < H.next + 4 := by omega
          have hone := p1_one (bc_p1 (chacha k n c))
          have hzl : (zb 64).length = 64 := rfl
          have hbl : (bc (chacha k n c)).length = 64 := by rw [bc_len, hlen]
          simp only [f6, f7, f10, f13, f77, hlt2, g13, e6, u8r_len, hlen, htk, hone, hbl, hzl, hlt3, u8r_ro, u8r_es, stc_eq, stB_some, List.toList_toArray, go_sem, Nat.reduceEqDiff, Nat.reduceAdd, Nat.reduceLeDiff, Int.reduceEq, Int.reduceLT, Int.reduceLE, Int.reduceAdd, Int.reduceSub, Int.reduceMul, Int.reduceNeg, Int.reduceToNat, Nat.reduceMul]
          have hsp : splice (u8r (zb 64)).cells 0 (bc (chacha k n c)) = bc (chacha k n c) := splice_all (by rw [bc_len, chacha_len, u8r_len]; rfl)
          have hg : ∀ X : Option Blk, (H2.set H.next X).get H.next = X := fun X => AH.get_set_eq _ _ (by omega)
          have htk2 : List.take 64 (bc (chacha k n c)) = bc (chacha k n c) := List.take_of_length_le (by omega)
          rw [hsp]
          simp only [resL, resV, upd_ne, f6, hg, hbl, htk2, go_sem, Nat.reduceEqDiff, Nat.reduceAdd, Nat.reduceLeDiff, Int.reduceEq, Int.reduceLT, Int.reduceLE, Int.reduceAdd, Int.reduceSub, Int.reduceMul, Int.reduceNeg, Int.reduceToNat, Nat.reduceMul]
          have hlow2 : ∀ X : Option Blk, ¬ (H2.set H.next X).low < H.next := fun X => by rw [lw_set]; omega
          rw [back_p3 (hlow2 _) (agg_bc _)]
          exact hQ
      · have := AH.get_push_eq H' (u8r (zb 64))
        rw [hn3] at this
        exact this
  · refine ⟨fun id hid => ?_, ?_, ?_, ?_, ?_, ?_⟩
    · rw [AH.get_set_ne _ _ (by omega), AH.get_push_lt _ _ (by rw [AH.next_set, AH.next_push, AH.next_push, nx_enter]; omega), AH.get_set_ne _ _ (by omega), AH.get_push_lt _ _ (by rw [AH.next_push, nx_enter]; omega), AH.get_push_lt _ _ (by rw [nx_enter]; exact hid), gt_enter]
    · rw [AH.next_set, AH.next_push, AH.next_set, AH.next_push, AH.next_push, nx_enter]
    · rw [lw_set, lw_push, lw_set, lw_push, lw_push, lw_enter]; omega
    · rw [AH.get_set_ne _ _ (by omega), AH.get_push_lt _ _ (by rw [AH.next_set, AH.next_push, AH.next_push, nx_enter]; omega), AH.get_set_ne _ _ (by omega), AH.get_push_lt _ _ (by rw [AH.next_push, nx_enter]; omega)]
      exact AH.get_push_eq H.enter _
    · rw [AH.get_set_ne _ _ (by omega), AH.get_push_lt _ _ (by rw [AH.next_set, AH.next_push, AH.next_push, nx_enter]; omega)]
      exact AH.get_set_eq _ _ (by rw [AH.next_push, AH.next_push, nx_enter]; omega)
    · exact AH.get_set_eq _ _ (by rw [AH.next_push, AH.next_set, AH.next_push, AH.next_push, nx_enter]; omega)
end
end Go.Proofs.Ytildhljhbbhmmaa.AM
namespace Go.Proofs.Ytildhljhbbhmmaa.AM
open Go
set_option linter.all false
set_option maxRecDepth 10000
variable {tbl : Tbl} [hT : TMono tbl]

theorem shr32 (c : Int) (j : Nat) (hj : j ≤ 32) : shiftK .shr .u32 c (j : Int) = c / 2 ^ j := by
  simp only [shiftK, Int.toNat_natCast]
  rw [show IntKind.u32.bits = 32 from rfl, show Nat.min j 32 = j from Nat.min_eq_left hj, Int.fdiv_eq_ediv_of_nonneg _ (by
    have : (0 : Int) ≤ ((2 ^ j : Nat) : Int) := Int.natCast_nonneg _
    simpa using this)]
theorem b8_val (n : Int) : ((b8 n).toNat : Int) = n % 256 := by rw [← b8_nat, IntKind.wrap_u8]
theorem le4_little {c : Int} (h : 0 ≤ c ∧ c < 4294967296) : ((le4 (b8 c).toNat (b8 (shiftK .shr .u32 c 8)).toNat (b8 (shiftK .shr .u32 c 16)).toNat (b8 (shiftK .shr .u32 c 24)).toNat : Nat) : Int) = c := by
  have h0 := b8_val c
  have h1 := b8_val (shiftK .shr .u32 c 8)
  have h2 := b8_val (shiftK .shr .u32 c 16)
  have h3 := b8_val (shiftK .shr .u32 c 24)
  rw [show (8 : Int) = ((8 : Nat) : Int) from rfl, shr32 c 8 (by omega)] at h1
  rw [show (16 : Int) = ((16 : Nat) : Int) from rfl, shr32 c 16 (by omega)] at h2
  rw [show (24 : Int) = ((24 : Nat) : Int) from rfl, shr32 c 24 (by omega)] at h3
  rw [show (8 : Int) = ((8 : Nat) : Int) from rfl, show (16 : Int) = ((16 : Nat) : Int) from rfl, show (24 : Int) = ((24 : Nat) : Int) from rfl, shr32 c 8 (by omega), shr32 c 16 (by omega), shr32 c 24 (by omega)]
  generalize (b8 c).toNat = x0 at *
  generalize (b8 (c / 2 ^ 8)).toNat = x1 at *
  generalize (b8 (c / 2 ^ 16)).toNat = x2 at *
  generalize (b8 (c / 2 ^ 24)).toNat = x3 at *
  unfold le4
  omega
theorem gb_app {A R : List UInt8} {i j : Nat} (h : i = A.length + j) : gb (A ++ R) i = gb R j := by
  subst h
  simp [gb, List.getD_eq_getElem?_getD, List.getElem?_append_right]
theorem gb_app_lt {A R : List UInt8} {i : Nat} (h : i < A.length) : gb (A ++ R) i = gb A i := by
  simp [gb, List.getD_eq_getElem?_getD, List.getElem?_append_left h]
theorem wordAt_app {A R : List UInt8} {i j : Nat} (h : i = A.length + j) : wordAt (tx (A ++ R)) i = wordAt (tx R) j := by
  subst h
  simp only [wordAt_tx]
  rw [gb_app (j := j) rfl, gb_app (j := j + 1) (by omega), gb_app (j := j + 2) (by omega), gb_app (j := j + 3) (by omega)]
theorem wordAt_app_lt {A R : List UInt8} {i : Nat} (h : i + 4 ≤ A.length) : wordAt (tx (A ++ R)) i = wordAt (tx A) i := by
  simp only [wordAt_tx]
  rw [gb_app_lt (by omega), gb_app_lt (by omega), gb_app_lt (by omega), gb_app_lt (by omega)]
theorem wordAt_little {c : Int} (h : 0 ≤ c ∧ c < 4294967296) : wordAt (tx (little c)) 0 = c := by
  rw [wordAt_tx]
  exact le4_little h
def sigma : List UInt8 := [101, 120, 112, 97, 110, 100, 32, 51, 50, 45, 98, 121, 116, 101, 32, 107]
def head (k n : List UInt8) (c : Int) : List UInt8 := ((sigma ++ k) ++ little c) ++ n
theorem little_len {c : Int} : (little c).length = 4 := rfl
theorem head_start {k n : List UInt8} {c : Int} (hk : k.length = 32) (hn : n.length = 12) (hc : 0 ≤ c ∧ c < 4294967296) :
    [wordAt (tx (head k n c)) 0, wordAt (tx (head k n c)) 4, wordAt (tx (head k n c)) 8, wordAt (tx (head k n c)) 12, wordAt (tx (head k n c)) 16, wordAt (tx (head k n c)) 20, wordAt (tx (head k n c)) 24, wordAt (tx (head k n c)) 28, wordAt (tx (head k n c)) 32, wordAt (tx (head k n c)) 36, wordAt (tx (head k n c)) 40, wordAt (tx (head k n c)) 44, wordAt (tx (head k n c)) 48, wordAt (tx (head k n c)) 52, wordAt (tx (head k n c)) 56, wordAt (tx (head k n c)) 60] = start k n c := by
  have e0 : head k n c = sigma ++ (k ++ (little c ++ n)) := by simp [head]
  have s0 : ∀ i, i + 4 ≤ 16 → wordAt (tx (head k n c)) i = wordAt (tx sigma) i := fun i hi => by rw [e0]; exact wordAt_app_lt hi
  have s1 : ∀ i j, i = 16 + j → j + 4 ≤ 32 → wordAt (tx (head k n c)) i = wordAt (tx k) j := fun i j hi hj => by
    rw [e0, wordAt_app (j := j) hi, wordAt_app_lt (by omega)]
  have s2 : wordAt (tx (head k n c)) 48 = c := by
    rw [e0, wordAt_app (A := sigma) (i := 48) (j := 32) rfl, wordAt_app (A := k) (i := 32) (j := 0) (by omega), wordAt_app_lt (by rw [little_len]; omega), wordAt_little hc]
  have s3 : ∀ i j, i = 52 + j → wordAt (tx (head k n c)) i = wordAt (tx n) j := fun i j hi => by
    rw [e0, wordAt_app (j := 36 + j) (by show i = 16 + (36 + j); omega), wordAt_app (j := 4 + j) (by omega), wordAt_app (j := j) (by rw [little_len])]
  rw [s0 0 (by omega), s0 4 (by omega), s0 8 (by omega), s0 12 (by omega), s1 16 0 (by omega) (by omega), s1 20 4 (by omega) (by omega), s1 24 8 (by omega) (by omega), s1 28 12 (by omega) (by omega), s1 32 16 (by omega) (by omega), s1 36 20 (by omega) (by omega), s1 40 24 (by omega) (by omega), s1 44 28 (by omega) (by omega), s2, s3 52 0 (by omega), s3 56 4 (by omega), s3 60 8 (by omega)]
  rfl
end Go.Proofs.Ytildhljhbbhmmaa.AM
namespace Go.Proofs.Ytildhljhbbhmmaa.AM
open Go
set_option linter.all false
set_option maxRecDepth 10000
variable {tbl : Tbl} [hT : TMono tbl]

structure RSt (H H' : AH) (s x : List Int) : Prop where
  old : ∀ id, id < H.next → H'.get id = H.get id
  nx : H'.next = H.next + 2
  low : H.next ≤ H'.low
  g8 : H'.get H.next = some (wds x)
  g10 : H'.get (H.next + 1) = some (wds s)
theorem RSt.turn {H H' : AH} {s x : List Int} (st : RSt H H' s x) (y : List Int) : RSt H (H'.set H.next (some (wds y))) s y := by
  have := st.nx
  have := st.low
  exact ⟨fun id hid => by rw [AH.get_set_ne _ _ (by omega)]; exact st.old id hid, by rw [AH.next_set]; exact st.nx, by rw [lw_set]; omega, AH.get_set_eq _ _ (by omega), by rw [AH.get_set_ne _ _ (by omega)]; exact st.g10⟩
section
variable (h94 : tbl 94 = some (.code m94)) (h93 : tbl 93 = some (.code m93)) (h91 : tbl 91 = some (.code m91)) (h92 : tbl 92 = some (.code m92)) (h59 : tbl 59 = some (.code m59))
include h94 h93 h91 h92 h59
set_option maxHeartbeats 1600000 in
theorem v59 (k n : List UInt8) (c : Int) (hk : k.length = 32) (hn : n.length = 12) (hc : 0 ≤ c ∧ c < 4294967296) (H : AH) : Val tbl 59 [.string (tx k), .string (tx n), .int .u32 c] H (.string (tx (chacha k n c))) H := by
  refine Val.of_all fun Q hQ => ?_
  rw [rn_fun h59, k59]
  have hsg : (⟨#[101, 120, 112, 97, 110, 100, 32, 51, 50, 45, 98, 121, 116, 101, 32, 107]⟩ : ByteArray) = tx sigma := rfl
  have hsl : sigma.length = 16 := rfl
  have hhl : (head k n c).length = 64 := by simp [head, hsl, hk, hn, little_len]
  have hhd : sigma ++ k ++ little c ++ n = head k n c := rfl
  have hz : H.next < H.next + 1 := by omega
  have hw0 : ∀ X, Val tbl 92 [.string (tx (head k n c)), .int .i64 0] X (.int .u32 (wordAt (tx (head k n c)) 0)) X := fun X => v92 h92 (tx (head k n c)) 0 (by rw [tx_size, hhl]; omega) (by omega) X
  have hw1 : ∀ X, Val tbl 92 [.string (tx (head k n c)), .int .i64 4] X (.int .u32 (wordAt (tx (head k n c)) 4)) X := fun X => v92 h92 (tx (head k n c)) 4 (by rw [tx_size, hhl]; omega) (by omega) X
  have hw2 : ∀ X, Val tbl 92 [.string (tx (head k n c)), .int .i64 8] X (.int .u32 (wordAt (tx (head k n c)) 8)) X := fun X => v92 h92 (tx (head k n c)) 8 (by rw [tx_size, hhl]; omega) (by omega) X
  have hw3 : ∀ X, Val tbl 92 [.string (tx (head k n c)), .int .i64 12] X (.int .u32 (wordAt (tx (head k n c)) 12)) X := fun X => v92 h92 (tx (head k n c)) 12 (by rw [tx_size, hhl]; omega) (by omega) X
  have hw4 : ∀ X, Val tbl 92 [.string (tx (head k n c)), .int .i64 16] X (.int .u32 (wordAt (tx (head k n c)) 16)) X := fun X => v92 h92 (tx (head k n c)) 16 (by rw [tx_size, hhl]; omega) (by omega) X
  have hw5 : ∀ X, Val tbl 92 [.string (tx (head k n c)), .int .i64 20] X (.int .u32 (wordAt (tx (head k n c)) 20)) X := fun X => v92 h92 (tx (head k n c)) 20 (by rw [tx_size, hhl]; omega) (by omega) X
  have hw6 : ∀ X, Val tbl 92 [.string (tx (head k n c)), .int .i64 24] X (.int .u32 (wordAt (tx (head k n c)) 24)) X := fun X => v92 h92 (tx (head k n c)) 24 (by rw [tx_size, hhl]; omega) (by omega) X
  have hw7 : ∀ X, Val tbl 92 [.string (tx (head k n c)), .int .i64 28] X (.int .u32 (wordAt (tx (head k n c)) 28)) X := fun X => v92 h92 (tx (head k n c)) 28 (by rw [tx_size, hhl]; omega) (by omega) X
  have hw8 : ∀ X, Val tbl 92 [.string (tx (head k n c)), .int .i64 32] X (.int .u32 (wordAt (tx (head k n c)) 32)) X := fun X => v92 h92 (tx (head k n c)) 32 (by rw [tx_size, hhl]; omega) (by omega) X
  have hw9 : ∀ X, Val tbl 92 [.string (tx (head k n c)), .int .i64 36] X (.int .u32 (wordAt (tx (head k n c)) 36)) X := fun X => v92 h92 (tx (head k n c)) 36 (by rw [tx_size, hhl]; omega) (by omega) X
  have hw10 : ∀ X, Val tbl 92 [.string (tx (head k n c)), .int .i64 40] X (.int .u32 (wordAt (tx (head k n c)) 40)) X := fun X => v92 h92 (tx (head k n c)) 40 (by rw [tx_size, hhl]; omega) (by omega) X
  have hw11 : ∀ X, Val tbl 92 [.string (tx (head k n c)), .int .i64 44] X (.int .u32 (wordAt (tx (head k n c)) 44)) X := fun X => v92 h92 (tx (head k n c)) 44 (by rw [tx_size, hhl]; omega) (by omega) X
  have hw12 : ∀ X, Val tbl 92 [.string (tx (head k n c)), .int .i64 48] X (.int .u32 (wordAt (tx (head k n c)) 48)) X := fun X => v92 h92 (tx (head k n c)) 48 (by rw [tx_size, hhl]; omega) (by omega) X
  have hw13 : ∀ X, Val tbl 92 [.string (tx (head k n c)), .int .i64 52] X (.int .u32 (wordAt (tx (head k n c)) 52)) X := fun X => v92 h92 (tx (head k n c)) 52 (by rw [tx_size, hhl]; omega) (by omega) X
  have hw14 : ∀ X, Val tbl 92 [.string (tx (head k n c)), .int .i64 56] X (.int .u32 (wordAt (tx (head k n c)) 56)) X := fun X => v92 h92 (tx (head k n c)) 56 (by rw [tx_size, hhl]; omega) (by omega) X
  have hw15 : ∀ X, Val tbl 92 [.string (tx (head k n c)), .int .i64 60] X (.int .u32 (wordAt (tx (head k n c)) 60)) X := fun X => v92 h92 (tx (head k n c)) 60 (by rw [tx_size, hhl]; omega) (by omega) X
  simp only [hsg, tx_cat, tx_size, List.length_append, hsl, hk, hn, little_len, ↓(v91 h91 _ _).run, hhd, hz, stc_eq, stB_some, set_get, set_set, AH.next_set, addA, Nat.zero_add, w64, Int.reduceTMod, go_sem, Nat.reduceEqDiff, Nat.reduceAdd, Nat.reduceLeDiff, Int.reduceEq, Int.reduceLT, Int.reduceLE, Int.reduceAdd, Int.reduceSub, Int.reduceMul, Int.reduceNeg, Int.reduceToNat, Nat.reduceMul]
  rw [rn_round]
  simp only [↓(hw0 _).run, hz, stc_eq, stB_some, set_get, set_set, AH.next_set, addA, Nat.zero_add, w64, Int.reduceTMod, go_sem, Nat.reduceEqDiff, Nat.reduceAdd, Nat.reduceLeDiff, Int.reduceEq, Int.reduceLT, Int.reduceLE, Int.reduceAdd, Int.reduceSub, Int.reduceMul, Int.reduceNeg, Int.reduceToNat, Nat.reduceMul]
  rw [rn_round]
  simp only [↓(hw1 _).run, hz, stc_eq, stB_some, set_get, set_set, AH.next_set, addA, Nat.zero_add, w64, Int.reduceTMod, go_sem, Nat.reduceEqDiff, Nat.reduceAdd, Nat.reduceLeDiff, Int.reduceEq, Int.reduceLT, Int.reduceLE, Int.reduceAdd, Int.reduceSub, Int.reduceMul, Int.reduceNeg, Int.reduceToNat, Nat.reduceMul]
  rw [rn_round]
  simp only [↓(hw2 _).run, hz, stc_eq, stB_some, set_get, set_set, AH.next_set, addA, Nat.zero_add, w64, Int.reduceTMod, go_sem, Nat.reduceEqDiff, Nat.reduceAdd, Nat.reduceLeDiff, Int.reduceEq, Int.reduceLT, Int.reduceLE, Int.reduceAdd, Int.reduceSub, Int.reduceMul, Int.reduceNeg, Int.reduceToNat, Nat.reduceMul]
  rw [rn_round]
  simp only [↓(hw3 _).run, hz, stc_eq, stB_some, set_get, set_set, AH.next_set, addA, Nat.zero_add, w64, Int.reduceTMod, go_sem, Nat.reduceEqDiff, Nat.reduceAdd, Nat.reduceLeDiff, Int.reduceEq, Int.reduceLT, Int.reduceLE, Int.reduceAdd, Int.reduceSub, Int.reduceMul, Int.reduceNeg, Int.reduceToNat, Nat.reduceMul]
  rw [rn_round]
  simp only [↓(hw4 _).run, hz, stc_eq, stB_some, set_get, set_set, AH.next_set, addA, Nat.zero_add, w64, Int.reduceTMod, go_sem, Nat.reduceEqDiff, Nat.reduceAdd, Nat.reduceLeDiff, Int.reduceEq, Int.reduceLT, Int.reduceLE, Int.reduceAdd, Int.reduceSub, Int.reduceMul, Int.reduceNeg, Int.reduceToNat, Nat.reduceMul]
  rw [rn_round]
  simp only [↓(hw5 _).run, hz, stc_eq, stB_some, set_get, set_set, AH.next_set, addA, Nat.zero_add, w64, Int.reduceTMod, go_sem, Nat.reduceEqDiff, Nat.reduceAdd, Nat.reduceLeDiff, Int.reduceEq, Int.reduceLT, Int.reduceLE, Int.reduceAdd, Int.reduceSub, Int.reduceMul, Int.reduceNeg, Int.reduceToNat, Nat.reduceMul]
  rw [rn_round]
  simp only [↓(hw6 _).run, hz, stc_eq, stB_some, set_get, set_set, AH.next_set, addA, Nat.zero_add, w64, Int.reduceTMod, go_sem, Nat.reduceEqDiff, Nat.reduceAdd, Nat.reduceLeDiff, Int.reduceEq, Int.reduceLT, Int.reduceLE, Int.reduceAdd, Int.reduceSub, Int.reduceMul, Int.reduceNeg, Int.reduceToNat, Nat.reduceMul]
  rw [rn_round]
  simp only [↓(hw7 _).run, hz, stc_eq, stB_some, set_get, set_set, AH.next_set, addA, Nat.zero_add, w64, Int.reduceTMod, go_sem, Nat.reduceEqDiff, Nat.reduceAdd, Nat.reduceLeDiff, Int.reduceEq, Int.reduceLT, Int.reduceLE, Int.reduceAdd, Int.reduceSub, Int.reduceMul, Int.reduceNeg, Int.reduceToNat, Nat.reduceMul]
  rw [rn_round]
  simp only [↓(hw8 _).run, hz, stc_eq, stB_some, set_get, set_set, AH.next_set, addA, Nat.zero_add, w64, Int.reduceTMod, go_sem, Nat.reduceEqDiff, Nat.reduceAdd, Nat.reduceLeDiff, Int.reduceEq, Int.reduceLT, Int.reduceLE, Int.reduceAdd, Int.reduceSub, Int.reduceMul, Int.reduceNeg, Int.reduceToNat, Nat.reduceMul]
  rw [rn_round]
  simp only [↓(hw9 _).run, hz, stc_eq, stB_some, set_get, set_set, AH.next_set, addA, Nat.zero_add, w64, Int.reduceTMod, go_sem, Nat.reduceEqDiff, Nat.reduceAdd, Nat.reduceLeDiff, Int.reduceEq, Int.reduceLT, Int.reduceLE, Int.reduceAdd, Int.reduceSub, Int.reduceMul, Int.reduceNeg, Int.reduceToNat, Nat.reduceMul]
  rw [rn_round]
  simp only [↓(hw10 _).run, hz, stc_eq, stB_some, set_get, set_set, AH.next_set, addA, Nat.zero_add, w64, Int.reduceTMod, go_sem, Nat.reduceEqDiff, Nat.reduceAdd, Nat.reduceLeDiff, Int.reduceEq, Int.reduceLT, Int.reduceLE, Int.reduceAdd, Int.reduceSub, Int.reduceMul, Int.reduceNeg, Int.reduceToNat, Nat.reduceMul]
  rw [rn_round]
  simp only [↓(hw11 _).run, hz, stc_eq, stB_some, set_get, set_set, AH.next_set, addA, Nat.zero_add, w64, Int.reduceTMod, go_sem, Nat.reduceEqDiff, Nat.reduceAdd, Nat.reduceLeDiff, Int.reduceEq, Int.reduceLT, Int.reduceLE, Int.reduceAdd, Int.reduceSub, Int.reduceMul, Int.reduceNeg, Int.reduceToNat, Nat.reduceMul]
  rw [rn_round]
  simp only [↓(hw12 _).run, hz, stc_eq, stB_some, set_get, set_set, AH.next_set, addA, Nat.zero_add, w64, Int.reduceTMod, go_sem, Nat.reduceEqDiff, Nat.reduceAdd, Nat.reduceLeDiff, Int.reduceEq, Int.reduceLT, Int.reduceLE, Int.reduceAdd, Int.reduceSub, Int.reduceMul, Int.reduceNeg, Int.reduceToNat, Nat.reduceMul]
  rw [rn_round]
  simp only [↓(hw13 _).run, hz, stc_eq, stB_some, set_get, set_set, AH.next_set, addA, Nat.zero_add, w64, Int.reduceTMod, go_sem, Nat.reduceEqDiff, Nat.reduceAdd, Nat.reduceLeDiff, Int.reduceEq, Int.reduceLT, Int.reduceLE, Int.reduceAdd, Int.reduceSub, Int.reduceMul, Int.reduceNeg, Int.reduceToNat, Nat.reduceMul]
  rw [rn_round]
  simp only [↓(hw14 _).run, hz, stc_eq, stB_some, set_get, set_set, AH.next_set, addA, Nat.zero_add, w64, Int.reduceTMod, go_sem, Nat.reduceEqDiff, Nat.reduceAdd, Nat.reduceLeDiff, Int.reduceEq, Int.reduceLT, Int.reduceLE, Int.reduceAdd, Int.reduceSub, Int.reduceMul, Int.reduceNeg, Int.reduceToNat, Nat.reduceMul]
  rw [rn_round]
  simp only [↓(hw15 _).run, hz, stc_eq, stB_some, set_get, set_set, AH.next_set, addA, Nat.zero_add, w64, Int.reduceTMod, go_sem, Nat.reduceEqDiff, Nat.reduceAdd, Nat.reduceLeDiff, Int.reduceEq, Int.reduceLT, Int.reduceLE, Int.reduceAdd, Int.reduceSub, Int.reduceMul, Int.reduceNeg, Int.reduceToNat, Nat.reduceMul]
  rw [rn_round]
  simp only [hz, stc_eq, stB_some, set_get, set_set, AH.next_set, addA, Nat.zero_add, w64, Int.reduceTMod, go_sem, Nat.reduceEqDiff, Nat.reduceAdd, Nat.reduceLeDiff, Int.reduceEq, Int.reduceLT, Int.reduceLE, Int.reduceAdd, Int.reduceSub, Int.reduceMul, Int.reduceNeg, Int.reduceToNat, Nat.reduceMul]
  have hst := head_start hk hn hc
  have hl := drs_len (x := start k n c)
  refine rn_loop (fun m f H' => ∃ i : Nat, i ≤ 10 ∧ m = 10 - i ∧ f 8 = .pointer (some ⟨H.next, 0, none⟩) ∧ f 10 = .pointer (some ⟨H.next + 1, 0, none⟩) ∧ f 11 = .func (.func 93) #[] #[.pointer (some ⟨H.next, 0, none⟩)] ∧ f 35 = .int .i64 i ∧ RSt H H' (start k n c) (drs i (start k n c))) ?_ (n := 10)
    ⟨0, by omega, rfl, by simp only [go_sem, Nat.reduceEqDiff, Nat.reduceAdd, Nat.reduceLeDiff, Int.reduceEq, Int.reduceLT, Int.reduceLE, Int.reduceAdd, Int.reduceSub, Int.reduceMul, Int.reduceNeg, Int.reduceToNat, Nat.reduceMul], by simp only [go_sem, Nat.reduceEqDiff, Nat.reduceAdd, Nat.reduceLeDiff, Int.reduceEq, Int.reduceLT, Int.reduceLE, Int.reduceAdd, Int.reduceSub, Int.reduceMul, Int.reduceNeg, Int.reduceToNat, Nat.reduceMul], by simp only [go_sem, Nat.reduceEqDiff, Nat.reduceAdd, Nat.reduceLeDiff, Int.reduceEq, Int.reduceLT, Int.reduceLE, Int.reduceAdd, Int.reduceSub, Int.reduceMul, Int.reduceNeg, Int.reduceToNat, Nat.reduceMul], by simp only [go_sem, Nat.reduceEqDiff, Nat.reduceAdd, Nat.reduceLeDiff, Int.reduceEq, Int.reduceLT, Int.reduceLE, Int.reduceAdd, Int.reduceSub, Int.reduceMul, Int.reduceNeg, Int.reduceToNat, Nat.reduceMul] <;> rfl, ?_⟩
  · rintro m f H' ⟨i, hi, rfl, f8, f10, f11, f35, st⟩
    have hli := hl i
    rw [start_len] at hli
    have hA : Val tbl 93 [.int .i64 0, .int .i64 4, .int .i64 8, .int .i64 12, .pointer (some ⟨H.next, 0, none⟩)] H' (.tuple #[]) (H'.set H.next (some (wds (qr (drs i (start k n c)) 0 4 8 12)))) := v93 h94 h93 hli st.g8 0 4 8 12 (by omega) (by omega) (by omega) (by omega)
    have hB : ∀ (x : List Int), x.length = 16 → ∀ (a b c d : Nat), a < 16 → b < 16 → c < 16 → d < 16 → Val tbl 93 [.int .i64 a, .int .i64 b, .int .i64 c, .int .i64 d, .pointer (some ⟨H.next, 0, none⟩)] (H'.set H.next (some (wds x))) (.tuple #[]) (H'.set H.next (some (wds (qr x a b c d)))) := fun x hx a b c d ha hb hc hd => by
      have := v93 h94 h93 hx (set_get (H := H') (x := some (wds x)) (AH.get_lt st.g8)) a b c d ha hb hc hd
      rw [set_set] at this
      exact this
    have hB1 : ∀ (x : List Int), x.length = 16 → Val tbl 93 [.int .i64 1, .int .i64 5, .int .i64 9, .int .i64 13, .pointer (some ⟨H.next, 0, none⟩)] (H'.set H.next (some (wds x))) (.tuple #[]) (H'.set H.next (some (wds (qr x 1 5 9 13)))) := fun x hx => hB x hx 1 5 9 13 (by omega) (by omega) (by omega) (by omega)
    have hB2 : ∀ (x : List Int), x.length = 16 → Val tbl 93 [.int .i64 2, .int .i64 6, .int .i64 10, .int .i64 14, .pointer (some ⟨H.next, 0, none⟩)] (H'.set H.next (some (wds x))) (.tuple #[]) (H'.set H.next (some (wds (qr x 2 6 10 14)))) := fun x hx => hB x hx 2 6 10 14 (by omega) (by omega) (by omega) (by omega)
    have hB3 : ∀ (x : List Int), x.length = 16 → Val tbl 93 [.int .i64 3, .int .i64 7, .int .i64 11, .int .i64 15, .pointer (some ⟨H.next, 0, none⟩)] (H'.set H.next (some (wds x))) (.tuple #[]) (H'.set H.next (some (wds (qr x 3 7 11 15)))) := fun x hx => hB x hx 3 7 11 15 (by omega) (by omega) (by omega) (by omega)
    have hB4 : ∀ (x : List Int), x.length = 16 → Val tbl 93 [.int .i64 0, .int .i64 5, .int .i64 10, .int .i64 15, .pointer (some ⟨H.next, 0, none⟩)] (H'.set H.next (some (wds x))) (.tuple #[]) (H'.set H.next (some (wds (qr x 0 5 10 15)))) := fun x hx => hB x hx 0 5 10 15 (by omega) (by omega) (by omega) (by omega)
    have hB5 : ∀ (x : List Int), x.length = 16 → Val tbl 93 [.int .i64 1, .int .i64 6, .int .i64 11, .int .i64 12, .pointer (some ⟨H.next, 0, none⟩)] (H'.set H.next (some (wds x))) (.tuple #[]) (H'.set H.next (some (wds (qr x 1 6 11 12)))) := fun x hx => hB x hx 1 6 11 12 (by omega) (by omega) (by omega) (by omega)
    have hB6 : ∀ (x : List Int), x.length = 16 → Val tbl 93 [.int .i64 2, .int .i64 7, .int .i64 8, .int .i64 13, .pointer (some ⟨H.next, 0, none⟩)] (H'.set H.next (some (wds x))) (.tuple #[]) (H'.set H.next (some (wds (qr x 2 7 8 13)))) := fun x hx => hB x hx 2 7 8 13 (by omega) (by omega) (by omega) (by omega)
    have hB7 : ∀ (x : List Int), x.length = 16 → Val tbl 93 [.int .i64 3, .int .i64 4, .int .i64 9, .int .i64 14, .pointer (some ⟨H.next, 0, none⟩)] (H'.set H.next (some (wds x))) (.tuple #[]) (H'.set H.next (some (wds (qr x 3 4 9 14)))) := fun x hx => hB x hx 3 4 9 14 (by omega) (by omega) (by omega) (by omega)
    by_cases hlt : (i : Int) < 10
    · have wi := w64 (x := (i : Int) + 1) (by omega) (by omega)
      simp only [hlt, f8, f10, f11, f35, w64, Int.reduceTMod, go_sem, Nat.reduceEqDiff, Nat.reduceAdd, Nat.reduceLeDiff, Int.reduceEq, Int.reduceLT, Int.reduceLE, Int.reduceAdd, Int.reduceSub, Int.reduceMul, Int.reduceNeg, Int.reduceToNat, Nat.reduceMul]
      rw [rn_round]
      simp only [↓hA.run, f8, f10, f11, f35, w64, Int.reduceTMod, go_sem, Nat.reduceEqDiff, Nat.reduceAdd, Nat.reduceLeDiff, Int.reduceEq, Int.reduceLT, Int.reduceLE, Int.reduceAdd, Int.reduceSub, Int.reduceMul, Int.reduceNeg, Int.reduceToNat, Nat.reduceMul]
      rw [rn_round]
      simp only [↓(hB1 (qr (drs i (start k n c)) 0 4 8 12) (by simp only [qr_len, hli])).run, f8, f10, f11, f35, w64, Int.reduceTMod, go_sem, Nat.reduceEqDiff, Nat.reduceAdd, Nat.reduceLeDiff, Int.reduceEq, Int.reduceLT, Int.reduceLE, Int.reduceAdd, Int.reduceSub, Int.reduceMul, Int.reduceNeg, Int.reduceToNat, Nat.reduceMul]
      rw [rn_round]
      simp only [↓(hB2 (qr (qr (drs i (start k n c)) 0 4 8 12) 1 5 9 13) (by simp only [qr_len, hli])).run, f8, f10, f11, f35, w64, Int.reduceTMod, go_sem, Nat.reduceEqDiff, Nat.reduceAdd, Nat.reduceLeDiff, Int.reduceEq, Int.reduceLT, Int.reduceLE, Int.reduceAdd, Int.reduceSub, Int.reduceMul, Int.reduceNeg, Int.reduceToNat, Nat.reduceMul]
      rw [rn_round]
      simp only [↓(hB3 (qr (qr (qr (drs i (start k n c)) 0 4 8 12) 1 5 9 13) 2 6 10 14) (by simp only [qr_len, hli])).run, f8, f10, f11, f35, w64, Int.reduceTMod, go_sem, Nat.reduceEqDiff, Nat.reduceAdd, Nat.reduceLeDiff, Int.reduceEq, Int.reduceLT, Int.reduceLE, Int.reduceAdd, Int.reduceSub, Int.reduceMul, Int.reduceNeg, Int.reduceToNat, Nat.reduceMul]
      rw [rn_round]
      simp only [f8, f10, f11, f35, w64, Int.reduceTMod, go_sem, Nat.reduceEqDiff, Nat.reduceAdd, Nat.reduceLeDiff, Int.reduceEq, Int.reduceLT, Int.reduceLE, Int.reduceAdd, Int.reduceSub, Int.reduceMul, Int.reduceNeg, Int.reduceToNat, Nat.reduceMul]
      rw [rn_round]
      simp only [↓(hB4 (qr (qr (qr (qr (drs i (start k n c)) 0 4 8 12) 1 5 9 13) 2 6 10 14) 3 7 11 15) (by simp only [qr_len, hli])).run, f8, f10, f11, f35, w64, Int.reduceTMod, go_sem, Nat.reduceEqDiff, Nat.reduceAdd, Nat.reduceLeDiff, Int.reduceEq, Int.reduceLT, Int.reduceLE, Int.reduceAdd, Int.reduceSub, Int.reduceMul, Int.reduceNeg, Int.reduceToNat, Nat.reduceMul]
      rw [rn_round]
      simp only [↓(hB5 (qr (qr (qr (qr (qr (drs i (start k n c)) 0 4 8 12) 1 5 9 13) 2 6 10 14) 3 7 11 15) 0 5 10 15) (by simp only [qr_len, hli])).run, f8, f10, f11, f35, w64, Int.reduceTMod, go_sem, Nat.reduceEqDiff, Nat.reduceAdd, Nat.reduceLeDiff, Int.reduceEq, Int.reduceLT, Int.reduceLE, Int.reduceAdd, Int.reduceSub, Int.reduceMul, Int.reduceNeg, Int.reduceToNat, Nat.reduceMul]
      rw [rn_round]
      simp only [↓(hB6 (qr (qr (qr (qr (qr (qr (drs i (start k n c)) 0 4 8 12) 1 5 9 13) 2 6 10 14) 3 7 11 15) 0 5 10 15) 1 6 11 12) (by simp only [qr_len, hli])).run, f8, f10, f11, f35, w64, Int.reduceTMod, go_sem, Nat.reduceEqDiff, Nat.reduceAdd, Nat.reduceLeDiff, Int.reduceEq, Int.reduceLT, Int.reduceLE, Int.reduceAdd, Int.reduceSub, Int.reduceMul, Int.reduceNeg, Int.reduceToNat, Nat.reduceMul]
      rw [rn_round]
      simp only [↓(hB7 (qr (qr (qr (qr (qr (qr (qr (drs i (start k n c)) 0 4 8 12) 1 5 9 13) 2 6 10 14) 3 7 11 15) 0 5 10 15) 1 6 11 12) 2 7 8 13) (by simp only [qr_len, hli])).run, f8, f10, f11, f35, w64, Int.reduceTMod, go_sem, Nat.reduceEqDiff, Nat.reduceAdd, Nat.reduceLeDiff, Int.reduceEq, Int.reduceLT, Int.reduceLE, Int.reduceAdd, Int.reduceSub, Int.reduceMul, Int.reduceNeg, Int.reduceToNat, Nat.reduceMul]
      rw [rn_round]
      simp only [wi, f8, f10, f11, f35, w64, Int.reduceTMod, go_sem, Nat.reduceEqDiff, Nat.reduceAdd, Nat.reduceLeDiff, Int.reduceEq, Int.reduceLT, Int.reduceLE, Int.reduceAdd, Int.reduceSub, Int.reduceMul, Int.reduceNeg, Int.reduceToNat, Nat.reduceMul]
      exact ⟨10 - (i + 1), by omega, i + 1, by omega, rfl, by simp only [f8, go_sem, Nat.reduceEqDiff, Nat.reduceAdd, Nat.reduceLeDiff, Int.reduceEq, Int.reduceLT, Int.reduceLE, Int.reduceAdd, Int.reduceSub, Int.reduceMul, Int.reduceNeg, Int.reduceToNat, Nat.reduceMul], by simp only [f10, go_sem, Nat.reduceEqDiff, Nat.reduceAdd, Nat.reduceLeDiff, Int.reduceEq, Int.reduceLT, Int.reduceLE, Int.reduceAdd, Int.reduceSub, Int.reduceMul, Int.reduceNeg, Int.reduceToNat, Nat.reduceMul], by simp only [f11, go_sem, Nat.reduceEqDiff, Nat.reduceAdd, Nat.reduceLeDiff, Int.reduceEq, Int.reduceLT, Int.reduceLE, Int.reduceAdd, Int.reduceSub, Int.reduceMul, Int.reduceNeg, Int.reduceToNat, Nat.reduceMul], by simp only [go_sem, Nat.reduceEqDiff, Nat.reduceAdd, Nat.reduceLeDiff, Int.reduceEq, Int.reduceLT, Int.reduceLE, Int.reduceAdd, Int.reduceSub, Int.reduceMul, Int.reduceNeg, Int.reduceToNat, Nat.reduceMul] <;> rfl, st.turn _⟩
    · have hi10 : i = 10 := by omega
      subst hi10
      have hn3 := st.nx
      have hlow := st.low
      have hg8 := st.g8
      have hg10 := st.g10
      simp only [hlt, f8, f10, f11, f35, hn3, go_sem, Nat.reduceEqDiff, Nat.reduceAdd, Nat.reduceLeDiff, Int.reduceEq, Int.reduceLT, Int.reduceLE, Int.reduceAdd, Int.reduceSub, Int.reduceMul, Int.reduceNeg, Int.reduceToNat, Nat.reduceMul]
      refine rn_loop (fun m f H2 => H2 = H' ∧ ∃ j : Nat, j ≤ 16 ∧ m = 16 - j ∧ f 8 = .pointer (some ⟨H.next, 0, none⟩) ∧ f 10 = .pointer (some ⟨H.next + 1, 0, none⟩) ∧ f 14 = .string (tx (outP (sumW k n c) j)) ∧ f 70 = .int .i64 j) ?_ (n := 16)
        ⟨rfl, 0, by omega, rfl, by simp only [f8, go_sem, Nat.reduceEqDiff, Nat.reduceAdd, Nat.reduceLeDiff, Int.reduceEq, Int.reduceLT, Int.reduceLE, Int.reduceAdd, Int.reduceSub, Int.reduceMul, Int.reduceNeg, Int.reduceToNat, Nat.reduceMul], by simp only [f10, go_sem, Nat.reduceEqDiff, Nat.reduceAdd, Nat.reduceLeDiff, Int.reduceEq, Int.reduceLT, Int.reduceLE, Int.reduceAdd, Int.reduceSub, Int.reduceMul, Int.reduceNeg, Int.reduceToNat, Nat.reduceMul], by simp only [go_sem, Nat.reduceEqDiff, Nat.reduceAdd, Nat.reduceLeDiff, Int.reduceEq, Int.reduceLT, Int.reduceLE, Int.reduceAdd, Int.reduceSub, Int.reduceMul, Int.reduceNeg, Int.reduceToNat, Nat.reduceMul] <;> rfl, by simp only [go_sem, Nat.reduceEqDiff, Nat.reduceAdd, Nat.reduceLeDiff, Int.reduceEq, Int.reduceLT, Int.reduceLE, Int.reduceAdd, Int.reduceSub, Int.reduceMul, Int.reduceNeg, Int.reduceToNat, Nat.reduceMul] <;> rfl⟩
      rintro m f H2 ⟨rfl, j, hj, rfl, f8, f10, f14, f70⟩
      by_cases hlt2 : (j : Int) < 16
      · have j0 : (0 : Int) ≤ j := by omega
        have j1 : j < 16 := by omega
        have j2 : j + 1 ≤ 16 := by omega
        have wj := w64 (x := (j : Int) + 1) (by omega) (by omega)
        have hfold : IntKind.wrap .u32 (gw (drs 10 (start k n c)) j + gw (start k n c) j) = sumW k n c j := rfl
        have hol := outP_len (sumW k n c) j
        have hsz : 4 * j + 4 ≤ 9223372036854775807 := by omega
        simp only [f8, f10, f14, f70, hlt2, hg8, hg10, wds_len, hli, start_len, wds_ro, wds_es, j0, j1, j2, wj, hfold, Int.toNat_natCast, wds_at (x := start k n c) (i := j) (by rw [start_len]; exact j1), wds_at (x := drs 10 (start k n c)) (i := j) (by rw [hli]; exact j1), ↓(v91 h91 _ _).run, tx_cat, tx_size, hol, little_len, hsz, addA, go_sem, Nat.reduceEqDiff, Nat.reduceAdd, Nat.reduceLeDiff, Int.reduceEq, Int.reduceLT, Int.reduceLE, Int.reduceAdd, Int.reduceSub, Int.reduceMul, Int.reduceNeg, Int.reduceToNat, Nat.reduceMul]
        exact ⟨16 - (j + 1), by omega, rfl, j + 1, by omega, rfl, by simp only [f8, go_sem, Nat.reduceEqDiff, Nat.reduceAdd, Nat.reduceLeDiff, Int.reduceEq, Int.reduceLT, Int.reduceLE, Int.reduceAdd, Int.reduceSub, Int.reduceMul, Int.reduceNeg, Int.reduceToNat, Nat.reduceMul], by simp only [f10, go_sem, Nat.reduceEqDiff, Nat.reduceAdd, Nat.reduceLeDiff, Int.reduceEq, Int.reduceLT, Int.reduceLE, Int.reduceAdd, Int.reduceSub, Int.reduceMul, Int.reduceNeg, Int.reduceToNat, Nat.reduceMul], by simp only [go_sem, Nat.reduceEqDiff, Nat.reduceAdd, Nat.reduceLeDiff, Int.reduceEq, Int.reduceLT, Int.reduceLE, Int.reduceAdd, Int.reduceSub, Int.reduceMul, Int.reduceNeg, Int.reduceToNat, Nat.reduceMul] <;> rfl, by simp only [go_sem, Nat.reduceEqDiff, Nat.reduceAdd, Nat.reduceLeDiff, Int.reduceEq, Int.reduceLT, Int.reduceLE, Int.reduceAdd, Int.reduceSub, Int.reduceMul, Int.reduceNeg, Int.reduceToNat, Nat.reduceMul] <;> rfl⟩
      · have hj16 : j = 16 := by omega
        subst hj16
        have hap : outP (sumW k n c) 16 = chacha k n c := by unfold chacha; rfl
        rw [hap] at f14
        simp only [f8, f10, f14, f70, hlt2, go_sem, Nat.reduceEqDiff, Nat.reduceAdd, Nat.reduceLeDiff, Int.reduceEq, Int.reduceLT, Int.reduceLE, Int.reduceAdd, Int.reduceSub, Int.reduceMul, Int.reduceNeg, Int.reduceToNat, Nat.reduceMul]
        rw [back_p3 (by omega) rfl]
        exact hQ
  · have hw : ∀ l : List Int, l = start k n c → (⟨l.map U32, 1, false⟩ : Blk) = wds (start k n c) := fun l h => by rw [h]; rfl
    have hwl := hw _ hst
    simp only [List.map_cons, List.map_nil, U32] at hwl
    rw [hwl]
    refine ⟨fun id hid => ?_, ?_, ?_, ?_, ?_⟩
    · rw [AH.get_set_ne _ _ (by omega), AH.get_push_lt _ _ (by rw [AH.next_set, AH.next_push, nx_enter]; omega), AH.get_set_ne _ _ (by omega), AH.get_push_lt _ _ (by rw [nx_enter]; exact hid), gt_enter]
    · rw [AH.next_set, AH.next_push, AH.next_set, AH.next_push, nx_enter]
    · rw [lw_set, lw_push, lw_set, lw_push, lw_enter]; omega
    · rw [AH.get_set_ne _ _ (by omega), AH.get_push_lt _ _ (by rw [AH.next_set, AH.next_push, nx_enter]; omega)]
      exact AH.get_set_eq _ _ (by rw [AH.next_push, nx_enter]; omega)
    · exact AH.get_set_eq _ _ (by rw [AH.next_push, AH.next_set, AH.next_push, nx_enter]; omega)
end
end Go.Proofs.Ytildhljhbbhmmaa.AM
/- Compiled functions. WRITTEN BY A PROGRAM (mk.py). -/
namespace Go.Proofs.Ytildhljhbbhmmaa.AM
open Go
set_option maxRecDepth 100000
set_option linter.all false
def k31 : MCode := (.seq (.ops [⟨(some 8), none, false, (.mov (.const (.string ⟨#[]⟩)))⟩]) (.seq (.ops [⟨(some 9), none, false, (.mov (.const (.string ⟨#[]⟩)))⟩]) (.seq (.seq (.ops [⟨(some 12), none, false, (.mov (.tmp 3))⟩, ⟨(some 13), none, false, (.call false (.func 65) [(.tmp 12), (.const (.int .i64 64))])⟩, ⟨(some 14), none, false, (.len (.tmp 13))⟩, ⟨(some 15), none, false, (.mov (.const (.int .i64 0)))⟩]) (.block 0 (.loop (.seq (.ops [⟨(some 16), none, false, (.bin .int .lss (.tmp 15) (.tmp 14))⟩]) (.seq (.cond (.tmp 16) .skip (.exit 0)) (.seq (.block 1 (.seq (.ops [⟨(some 17), none, false, (.mov (.tmp 15))⟩, ⟨(some 18), none, false, (.idxS 1 (.tmp 13) (.tmp 15))⟩, ⟨(some 19), none, false, (.load false 1 (.tmp 18))⟩, ⟨(some 10), none, false, (.mov (.tmp 17))⟩, ⟨(some 11), none, false, (.mov (.tmp 19))⟩]) (.ops [⟨(some 20), none, false, (.mov (.tmp 9))⟩, ⟨(some 21), none, false, (.mov (.tmp 11))⟩, ⟨(some 22), none, false, (.mov (.tmp 0))⟩, ⟨(some 23), none, false, (.mov (.tmp 1))⟩, ⟨(some 24), none, false, (.mov (.tmp 2))⟩, ⟨(some 25), none, false, (.mov (.tmp 10))⟩, ⟨(some 26), none, false, (.bin .int .add (.tmp 24) (.tmp 25))⟩, ⟨(some 27), none, false, (.conv .u32 (.tmp 26))⟩, ⟨(some 28), none, false, (.call false (.func 59) [(.tmp 22), (.tmp 23), (.tmp 27)])⟩, ⟨(some 29), none, false, (.mov (.tmp 11))⟩, ⟨(some 30), none, false, (.lenStr (.tmp 29))⟩, ⟨(some 31), none, false, (.sliceStr (.tmp 28) none (some (.tmp 30)))⟩, ⟨(some 32), none, false, (.call false (.func 69) [(.tmp 21), (.tmp 31)])⟩, ⟨(some 33), none, false, (.bin .str .add (.tmp 20) (.tmp 32))⟩, ⟨(some 9), none, false, (.mov (.tmp 33))⟩]))) (.ops [⟨(some 34), none, false, (.bin .int .add (.tmp 15) (.const (.int .i64 1)))⟩, ⟨(some 15), none, false, (.mov (.tmp 34))⟩]))))))) (.seq (.ops [⟨(some 35), none, false, (.mov (.tmp 9))⟩, ⟨(some 8), none, false, (.mov (.tmp 35))⟩]) .ret))))
def m31 : MFun := ⟨k31, [(.tmp 8)]⟩
def k65 : MCode := (.seq (.ops [⟨(some 4), none, false, (.mov (.const (.slice none 0 0)))⟩]) (.seq (.ops [⟨(some 5), none, false, (.mov (.const (.slice none 0 0)))⟩]) (.seq (.block 0 (.loop (.seq (.seq (.ops [⟨(some 7), none, false, (.mov (.tmp 0))⟩, ⟨(some 8), none, false, (.lenStr (.tmp 7))⟩, ⟨(some 9), none, false, (.bin .int .gtr (.tmp 8) (.const (.int .i64 0)))⟩]) (.cond (.tmp 9) .skip (.exit 0))) (.block 1 (.seq (.ops [⟨(some 10), none, false, (.mov (.tmp 1))⟩, ⟨(some 11), none, false, (.mov (.tmp 0))⟩, ⟨(some 12), none, false, (.lenStr (.tmp 11))⟩, ⟨(some 13), none, false, (.min (.tmp 10) [(.tmp 12)])⟩, ⟨(some 6), none, false, (.mov (.tmp 13))⟩]) (.seq (.ops [⟨(some 14), none, false, (.mov (.tmp 5))⟩, ⟨(some 15), none, false, (.mov (.tmp 0))⟩, ⟨(some 16), none, false, (.mov (.tmp 6))⟩, ⟨(some 17), none, false, (.sliceStr (.tmp 15) none (some (.tmp 16)))⟩, ⟨(some 18), none, false, (.buildSlice [(.string ⟨#[]⟩)] 1 1 [(0, (1, (.tmp 17)))])⟩, ⟨(some 19), none, false, (.append 1 16 (.tmp 14) (.tmp 18))⟩, ⟨(some 5), none, false, (.mov (.tmp 19))⟩]) (.ops [⟨(some 20), none, false, (.mov (.tmp 0))⟩, ⟨(some 21), none, false, (.mov (.tmp 6))⟩, ⟨(some 22), none, false, (.sliceStr (.tmp 20) (some (.tmp 21)) none)⟩, ⟨(some 0), none, false, (.mov (.tmp 22))⟩]))))))) (.seq (.ops [⟨(some 23), none, false, (.mov (.tmp 5))⟩, ⟨(some 4), none, false, (.mov (.tmp 23))⟩]) .ret))))
def m65 : MFun := ⟨k65, [(.tmp 4)]⟩
def k69 : MCode := (.seq (.ops [⟨(some 4), none, false, (.mov (.const (.string ⟨#[]⟩)))⟩]) (.seq (.ops [⟨(some 7), none, false, (.mov (.tmp 0))⟩, ⟨(some 8), none, false, (.lenStr (.tmp 7))⟩, ⟨(some 9), none, false, (.mkSlice [(.int .u8 0)] 1 1 (.tmp 8) (.tmp 8))⟩, ⟨(some 5), none, false, (.mov (.tmp 9))⟩]) (.seq (.seq (.ops [⟨(some 10), none, false, (.mov (.tmp 5))⟩, ⟨(some 11), none, false, (.len (.tmp 10))⟩, ⟨(some 12), none, false, (.mov (.const (.int .i64 0)))⟩]) (.block 0 (.loop (.seq (.ops [⟨(some 13), none, false, (.bin .int .lss (.tmp 12) (.tmp 11))⟩]) (.seq (.cond (.tmp 13) .skip (.exit 0)) (.seq (.block 1 (.seq (.ops [⟨(some 14), none, false, (.mov (.tmp 12))⟩, ⟨(some 6), none, false, (.mov (.tmp 14))⟩]) (.opsD [⟨(some 15), none, false, (.mov (.tmp 5))⟩, ⟨(some 16), none, false, (.mov (.tmp 6))⟩, ⟨(some 17), none, false, (.mov (.tmp 0))⟩, ⟨(some 18), none, false, (.mov (.tmp 6))⟩, ⟨(some 19), none, false, (.strIdx (.tmp 17) (.tmp 18))⟩, ⟨(some 20), none, false, (.mov (.tmp 1))⟩, ⟨(some 21), none, false, (.mov (.tmp 6))⟩, ⟨(some 22), none, false, (.strIdx (.tmp 20) (.tmp 21))⟩, ⟨(some 23), none, false, (.bin .int .xor (.tmp 19) (.tmp 22))⟩, ⟨(some 24), none, false, (.idxS 1 (.tmp 15) (.tmp 16))⟩, ⟨none, none, false, (.store 1 (.tmp 24) (.tmp 23))⟩]))) (.ops [⟨(some 25), none, false, (.bin .int .add (.tmp 12) (.const (.int .i64 1)))⟩, ⟨(some 12), none, false, (.mov (.tmp 25))⟩]))))))) (.seq (.ops [⟨(some 26), none, false, (.mov (.tmp 5))⟩, ⟨(some 27), none, false, (.toStr (.tmp 26))⟩, ⟨(some 4), none, false, (.mov (.tmp 27))⟩]) .ret))))
def m69 : MFun := ⟨k69, [(.tmp 4)]⟩
end Go.Proofs.Ytildhljhbbhmmaa.AM
namespace Go.Proofs.Ytildhljhbbhmmaa.AM
open Go
set_option linter.all false
set_option maxRecDepth 10000
variable {tbl : Tbl} [hT : TMono tbl]

theorem idxSP_slc {a : Addr} {n c es : Nat} {i : Int} {K : Value → Prop} : (@idxSP (.slice (some a) n c) es i ⟨K⟩) = (@andP (0 ≤ i ∧ i < n) ⟨K (.pointer (some (addA a (i.toNat * es))))⟩) := rfl
theorem xor8 (a b : UInt8) : bitsK .xor .u8 (a.toNat : Int) (b.toNat : Int) = ((a ^^^ b).toNat : Int) := by
  simp only [bitsK, BitVec.toNat_xor, ofInt_nat]
  have h1 := UInt8.toNat_lt a
  have h2 := UInt8.toNat_lt b
  have e1 : a.toNat % 2 ^ IntKind.u8.bits = a.toNat := Nat.mod_eq_of_lt h1
  have e2 : b.toNat % 2 ^ IntKind.u8.bits = b.toNat := Nat.mod_eq_of_lt h2
  rw [e1, e2, UInt8.toNat_xor, IntKind.wrap_u8]
  have := Nat.xor_lt_two_pow (n := 8) h1 h2
  omega
/-- Two texts, combined. -/
def xorL (a b : List UInt8) : List UInt8 := (List.range a.length).map fun j => gb a j ^^^ gb b j
theorem xorL_len {a b : List UInt8} : (xorL a b).length = a.length := by simp [xorL]
theorem map_range_succ {α : Type} (f : Nat → α) (n : Nat) : (List.range (n + 1)).map f = (List.range n).map f ++ [f n] := by
  rw [List.range_succ, List.map_append]; rfl
theorem row_step (f : Nat → UInt8) {n j : Nat} (h : j < n) : ((List.range j).map f ++ zb (n - j)).set j (f j) = (List.range (j + 1)).map f ++ zb (n - (j + 1)) := by
  have hz : zb (n - j) = 0 :: zb (n - (j + 1)) := by
    rw [show n - j = (n - (j + 1)) + 1 by omega]
    simp only [zb, List.replicate_succ]
  rw [hz, set_mid (y := 0) (i := 0) (by simp), map_range_succ, List.append_assoc]
  rfl
theorem rep_zb (n : Nat) : rep n [.int .u8 0] = bc (zb n) := by
  simp only [rep, bc, zb, List.map_replicate]
  rfl
theorem v69 (h69 : tbl 69 = some (.code m69)) (a b : List UInt8) (hab : a.length ≤ b.length) (hs : a.length ≤ 140737488355328) (H : AH) : Val tbl 69 [.string (tx a), .string (tx b)] H (.string (tx (xorL a b))) H := by
  refine Val.of_all fun Q hQ => ?_
  rw [rn_fun h69, k69]
  have c0 : (0 : Int) ≤ a.length := by omega
  have c1 : (a.length : Int) ≤ 9223372036854775807 := by omega
  simp only [tx_size, Int.toNat_natCast, rep_zb, c0, c1, hs, Int.le_refl, go_sem, Nat.reduceEqDiff, Nat.reduceAdd, Nat.reduceLeDiff, Int.reduceEq, Int.reduceLT, Int.reduceLE, Int.reduceAdd, Int.reduceSub, Int.reduceMul, Int.reduceNeg, Int.reduceToNat, Nat.reduceMul]
  refine rn_loop (fun m f H' => ∃ j : Nat, j ≤ a.length ∧ m = a.length - j ∧ f 0 = .string (tx a) ∧ f 1 = .string (tx b) ∧ f 5 = .slice (some ⟨H.next, 0, none⟩) a.length a.length ∧ f 11 = .int .i64 a.length ∧ f 12 = .int .i64 j ∧ H'.next = H.next + 1 ∧ H.next ≤ H'.low ∧ H'.get H.next = some (u8r ((List.range j).map (fun j => gb a j ^^^ gb b j) ++ zb (a.length - j)))) ?_ (n := a.length)
    ⟨0, by omega, rfl, by simp only [go_sem, Nat.reduceEqDiff, Nat.reduceAdd, Nat.reduceLeDiff, Int.reduceEq, Int.reduceLT, Int.reduceLE, Int.reduceAdd, Int.reduceSub, Int.reduceMul, Int.reduceNeg, Int.reduceToNat, Nat.reduceMul], by simp only [go_sem, Nat.reduceEqDiff, Nat.reduceAdd, Nat.reduceLeDiff, Int.reduceEq, Int.reduceLT, Int.reduceLE, Int.reduceAdd, Int.reduceSub, Int.reduceMul, Int.reduceNeg, Int.reduceToNat, Nat.reduceMul], by simp only [go_sem, Nat.reduceEqDiff, Nat.reduceAdd, Nat.reduceLeDiff, Int.reduceEq, Int.reduceLT, Int.reduceLE, Int.reduceAdd, Int.reduceSub, Int.reduceMul, Int.reduceNeg, Int.reduceToNat, Nat.reduceMul], by simp only [go_sem, Nat.reduceEqDiff, Nat.reduceAdd, Nat.reduceLeDiff, Int.reduceEq, Int.reduceLT, Int.reduceLE, Int.reduceAdd, Int.reduceSub, Int.reduceMul, Int.reduceNeg, Int.reduceToNat, Nat.reduceMul], by simp only [go_sem, Nat.reduceEqDiff, Nat.reduceAdd, Nat.reduceLeDiff, Int.reduceEq, Int.reduceLT, Int.reduceLE, Int.reduceAdd, Int.reduceSub, Int.reduceMul, Int.reduceNeg, Int.reduceToNat, Nat.reduceMul] <;> rfl, by rw [AH.next_push, nx_enter], by rw [lw_push, lw_enter]; omega, AH.get_push_eq H.enter _⟩
  rintro m f H' ⟨j, hj, rfl, f0, f1, f5, f11, f12, n1, l1, g5⟩
  by_cases hlt : (j : Int) < a.length
  · have j0 : (0 : Int) ≤ j := by omega
    have j1 : j < a.length := by omega
    have j2 : (j : Int) < b.length := by omega
    have j3 : j + 1 ≤ a.length := by omega
    have wj := w64 (x := (j : Int) + 1) (by omega) (by omega)
    have hlt2 : H.next < H.next + 1 := by omega
    have hlen : ((List.range j).map (fun j => gb a j ^^^ gb b j) ++ zb (a.length - j)).length = a.length := by simp [zb]; omega
    have hst := row_step (fun j => gb a j ^^^ gb b j) j1
    simp only [f0, f1, f5, f11, f12, hlt, j0, j2, j3, wj, n1, hlt2, tx_size, byteAt_tx, xor8, idxSP_slc, Int.toNat_natCast, g5, u8r_len, u8r_ro, u8r_es, hlen, addA, Nat.zero_add, stc_eq, stB_some, splice_one, u8r_set, hst, go_sem, Nat.reduceEqDiff, Nat.reduceAdd, Nat.reduceLeDiff, Int.reduceEq, Int.reduceLT, Int.reduceLE, Int.reduceAdd, Int.reduceSub, Int.reduceMul, Int.reduceNeg, Int.reduceToNat, Nat.reduceMul]
    refine ⟨a.length - (j + 1), by omega, j + 1, by omega, rfl, by simp only [f0, go_sem, Nat.reduceEqDiff, Nat.reduceAdd, Nat.reduceLeDiff, Int.reduceEq, Int.reduceLT, Int.reduceLE, Int.reduceAdd, Int.reduceSub, Int.reduceMul, Int.reduceNeg, Int.reduceToNat, Nat.reduceMul], by simp only [f1, go_sem, Nat.reduceEqDiff, Nat.reduceAdd, Nat.reduceLeDiff, Int.reduceEq, Int.reduceLT, Int.reduceLE, Int.reduceAdd, Int.reduceSub, Int.reduceMul, Int.reduceNeg, Int.reduceToNat, Nat.reduceMul], by simp only [f5, go_sem, Nat.reduceEqDiff, Nat.reduceAdd, Nat.reduceLeDiff, Int.reduceEq, Int.reduceLT, Int.reduceLE, Int.reduceAdd, Int.reduceSub, Int.reduceMul, Int.reduceNeg, Int.reduceToNat, Nat.reduceMul], by simp only [f11, go_sem, Nat.reduceEqDiff, Nat.reduceAdd, Nat.reduceLeDiff, Int.reduceEq, Int.reduceLT, Int.reduceLE, Int.reduceAdd, Int.reduceSub, Int.reduceMul, Int.reduceNeg, Int.reduceToNat, Nat.reduceMul], by simp only [go_sem, Nat.reduceEqDiff, Nat.reduceAdd, Nat.reduceLeDiff, Int.reduceEq, Int.reduceLT, Int.reduceLE, Int.reduceAdd, Int.reduceSub, Int.reduceMul, Int.reduceNeg, Int.reduceToNat, Nat.reduceMul] <;> rfl, by rw [AH.next_set, n1], by rw [lw_set]; omega, ?_⟩
    rw [List.range_succ]
    exact AH.get_set_eq H' _ (by rw [n1]; omega)
  · have hj2 : j = a.length := by omega
    subst hj2
    have hx : (List.range a.length).map (fun j => gb a j ^^^ gb b j) ++ zb (a.length - a.length) = xorL a b := by simp [xorL, zb]
    rw [hx] at g5
    have hsb := slcBytes_row (n := a.length) (c := a.length) g5 xorL_len.symm
    simp only [f0, f1, f5, f11, f12, hlt, hsb, go_sem, Nat.reduceEqDiff, Nat.reduceAdd, Nat.reduceLeDiff, Int.reduceEq, Int.reduceLT, Int.reduceLE, Int.reduceAdd, Int.reduceSub, Int.reduceMul, Int.reduceNeg, Int.reduceToNat, Nat.reduceMul]
    rw [back_p3 (by omega) rfl]
    exact hQ
end Go.Proofs.Ytildhljhbbhmmaa.AM
namespace Go.Proofs.Ytildhljhbbhmmaa.AM
open Go
set_option linter.all false
set_option maxRecDepth 10000
variable {tbl : Tbl} [hT : TMono tbl]

def ctr (c : Int) (i : Nat) : Int := (c + i) % 4294967296
def sx (k n : List UInt8) (c : Int) (t : List UInt8) (j : Nat) : UInt8 := gb t j ^^^ gb (chacha k n (ctr c (j / 64))) (j % 64)
/-- A text with the stream. -/
def streamL (k n : List UInt8) (c : Int) (t : List UInt8) : List UInt8 := (List.range t.length).map (sx k n c t)
theorem streamL_len {k n : List UInt8} {c : Int} {t : List UInt8} : (streamL k n c t).length = t.length := by simp [streamL]
def part (f : Nat → UInt8) (t : List UInt8) (p : Nat) : List UInt8 := (List.range p).map f ++ t.drop p
theorem part_len {f : Nat → UInt8} {t : List UInt8} {p : Nat} (h : p ≤ t.length) : (part f t p).length = t.length := by simp [part]; omega
theorem part_at {f : Nat → UInt8} {t : List UInt8} {p : Nat} (h : p < t.length) : gb (part f t p) p = gb t p := by
  rw [part, gb_app (j := 0) (by simp), gb_drop]
  rfl
theorem part_step {f : Nat → UInt8} {t : List UInt8} {p : Nat} (h : p < t.length) : (part f t p).set p (f p) = part f t (p + 1) := by
  rw [part, List.drop_eq_getElem_cons h, set_mid (y := 0) (i := 0) (by simp), part, map_range_succ, List.append_assoc]
  rfl
theorem part_all {f : Nat → UInt8} {t : List UInt8} : part f t t.length = (List.range t.length).map f := by simp [part]
section
variable (h121 : tbl 121 = some (.code m121)) (h114 : tbl 114 = some (.code m114)) (h96 : tbl 96 = some (.code m96)) (h95 : tbl 95 = some (.code m95)) (h62 : tbl 62 = some (.code m62))
include h121 h114 h96 h95 h62
set_option maxHeartbeats 1600000 in
theorem v62 (k n : List UInt8) (c : Int) (hk : k.length = 32) (hn : n.length = 12) (hc : 0 ≤ c ∧ c < 4294967296) (t : List UInt8) (ht : t.length ≤ 4611686018427387904) (ht2 : t.length ≤ 140737488355328) (H : AH) : Val tbl 62 [.string (tx k), .string (tx n), .int .u32 c, .string (tx t)] H (.string (tx (streamL k n c t))) H := by
  refine Val.of_all fun Q hQ => ?_
  rw [rn_fun h62, k62]
  simp only [tx_size, ht2, byteCells_eq, tx_data, go_sem, Nat.reduceEqDiff, Nat.reduceAdd, Nat.reduceLeDiff, Int.reduceEq, Int.reduceLT, Int.reduceLE, Int.reduceAdd, Int.reduceSub, Int.reduceMul, Int.reduceNeg, Int.reduceToNat, Nat.reduceMul]
  refine rn_loop (fun m f H' => ∃ (q p : Nat), m = t.length - p ∧ p = min (64 * q) t.length ∧ 64 * q < t.length + 64 ∧ f 0 = .string (tx k) ∧ f 1 = .string (tx n) ∧ f 2 = .int .u32 (ctr c q) ∧ f 9 = .slice (some ⟨H.next, 0, none⟩) t.length t.length ∧ f 10 = .int .i64 ((64 * q : Nat) : Int) ∧ H.next + 1 ≤ H'.next ∧ H.next ≤ H'.low ∧ H'.get H.next = some (u8r (part (sx k n c t) t p))) ?_ (n := t.length)
    ⟨0, 0, by omega, by omega, by omega, by simp only [go_sem, Nat.reduceEqDiff, Nat.reduceAdd, Nat.reduceLeDiff, Int.reduceEq, Int.reduceLT, Int.reduceLE, Int.reduceAdd, Int.reduceSub, Int.reduceMul, Int.reduceNeg, Int.reduceToNat, Nat.reduceMul], by simp only [go_sem, Nat.reduceEqDiff, Nat.reduceAdd, Nat.reduceLeDiff, Int.reduceEq, Int.reduceLT, Int.reduceLE, Int.reduceAdd, Int.reduceSub, Int.reduceMul, Int.reduceNeg, Int.reduceToNat, Nat.reduceMul], ?_, by simp only [go_sem, Nat.reduceEqDiff, Nat.reduceAdd, Nat.reduceLeDiff, Int.reduceEq, Int.reduceLT, Int.reduceLE, Int.reduceAdd, Int.reduceSub, Int.reduceMul, Int.reduceNeg, Int.reduceToNat, Nat.reduceMul], by simp only [go_sem, Nat.reduceEqDiff, Nat.reduceAdd, Nat.reduceLeDiff, Int.reduceEq, Int.reduceLT, Int.reduceLE, Int.reduceAdd, Int.reduceSub, Int.reduceMul, Int.reduceNeg, Int.reduceToNat, Nat.reduceMul] <;> rfl, by rw [AH.next_push, nx_enter]; omega, by rw [lw_push, lw_enter]; omega, AH.get_push_eq H.enter _⟩
  · rintro m f H' ⟨q, p, rfl, hp, hq, f0, f1, f2, f9, f10, n1, l1, g9⟩
    by_cases hlt : ((64 * q : Nat) : Int) < t.length
    · have hpq : p = 64 * q := by omega
      subst hpq
      have hcr : 0 ≤ ctr c q ∧ ctr c q < 4294967296 := by unfold ctr; omega
      have hbl : (bc (chacha k n (ctr c q))).length = 64 := by rw [bc_len, chacha_len]
      have hone := p1_one (bc_p1 (chacha k n (ctr c q)))
      have hlt2 : H'.next < H'.next + 1 := by omega
      have hsp : ∀ l : List Value, l.length = 64 → splice l 0 (bc (chacha k n (ctr c q))) = bc (chacha k n (ctr c q)) := fun l hl => splice_all (by rw [hbl, hl])
      simp only [f0, f1, f2, f9, f10, hlt, ↓(v95 h121 h114 h96 h95 k n (ctr c q) hk hn _).run, hbl, hone, hlt2, List.toList_toArray, stc_eq, stB_some, go_sem, Nat.reduceEqDiff, Nat.reduceAdd, Nat.reduceLeDiff, Int.reduceEq, Int.reduceLT, Int.reduceLE, Int.reduceAdd, Int.reduceSub, Int.reduceMul, Int.reduceNeg, Int.reduceToNat, Nat.reduceMul]
      rw [hsp _ rfl]
      obtain ⟨H2, hH2⟩ : ∃ H2, H2 = (H'.push (u8r (zb 64))).set H'.next (some (u8r (chacha k n (ctr c q)))) := ⟨_, rfl⟩
      show @RunC tbl _ _ ((H'.push (u8r (zb 64))).set H'.next (some (u8r (chacha k n (ctr c q))))) ⟨_⟩
      rw [← hH2]
      have n2 : H2.next = H'.next + 1 := by rw [hH2, AH.next_set, AH.next_push]
      have l2 : H.next ≤ H2.low := by rw [hH2, lw_set, lw_push]; omega
      have gn : H2.get H'.next = some (u8r (chacha k n (ctr c q))) := by rw [hH2]; exact AH.get_set_eq _ _ (by rw [AH.next_push]; omega)
      have g2 : H2.get H.next = some (u8r (part (sx k n c t) t (64 * q))) := by
        rw [hH2, AH.get_set_ne _ _ (by omega), AH.get_push_lt _ _ (by omega)]; exact g9
      refine rn_loop (fun m f H3 => ∃ (p : Nat), m = t.length - p ∧ 64 * q ≤ p ∧ p ≤ 64 * q + 64 ∧ p ≤ t.length ∧ f 0 = .string (tx k) ∧ f 1 = .string (tx n) ∧ f 2 = .int .u32 (ctr c q) ∧ f 9 = .slice (some ⟨H.next, 0, none⟩) t.length t.length ∧ f 10 = .int .i64 ((64 * q : Nat) : Int) ∧ f 11 = .pointer (some ⟨H'.next, 0, none⟩) ∧ f 12 = .int .i64 p ∧ H3.next = H'.next + 1 ∧ H.next ≤ H3.low ∧ H3.get H'.next = some (u8r (chacha k n (ctr c q))) ∧ H3.get H.next = some (u8r (part (sx k n c t) t p))) ?_ (n := t.length - 64 * q)
        ⟨64 * q, by omega, by omega, by omega, by omega, by simp only [f0, go_sem, Nat.reduceEqDiff, Nat.reduceAdd, Nat.reduceLeDiff, Int.reduceEq, Int.reduceLT, Int.reduceLE, Int.reduceAdd, Int.reduceSub, Int.reduceMul, Int.reduceNeg, Int.reduceToNat, Nat.reduceMul], by simp only [f1, go_sem, Nat.reduceEqDiff, Nat.reduceAdd, Nat.reduceLeDiff, Int.reduceEq, Int.reduceLT, Int.reduceLE, Int.reduceAdd, Int.reduceSub, Int.reduceMul, Int.reduceNeg, Int.reduceToNat, Nat.reduceMul], by simp only [f2, go_sem, Nat.reduceEqDiff, Nat.reduceAdd, Nat.reduceLeDiff, Int.reduceEq, Int.reduceLT, Int.reduceLE, Int.reduceAdd, Int.reduceSub, Int.reduceMul, Int.reduceNeg, Int.reduceToNat, Nat.reduceMul], by simp only [f9, go_sem, Nat.reduceEqDiff, Nat.reduceAdd, Nat.reduceLeDiff, Int.reduceEq, Int.reduceLT, Int.reduceLE, Int.reduceAdd, Int.reduceSub, Int.reduceMul, Int.reduceNeg, Int.reduceToNat, Nat.reduceMul], by simp only [f10, go_sem, Nat.reduceEqDiff, Nat.reduceAdd, Nat.reduceLeDiff, Int.reduceEq, Int.reduceLT, Int.reduceLE, Int.reduceAdd, Int.reduceSub, Int.reduceMul, Int.reduceNeg, Int.reduceToNat, Nat.reduceMul], by simp only [go_sem, Nat.reduceEqDiff, Nat.reduceAdd, Nat.reduceLeDiff, Int.reduceEq, Int.reduceLT, Int.reduceLE, Int.reduceAdd, Int.reduceSub, Int.reduceMul, Int.reduceNeg, Int.reduceToNat, Nat.reduceMul], by simp only [go_sem, Nat.reduceEqDiff, Nat.reduceAdd, Nat.reduceLeDiff, Int.reduceEq, Int.reduceLT, Int.reduceLE, Int.reduceAdd, Int.reduceSub, Int.reduceMul, Int.reduceNeg, Int.reduceToNat, Nat.reduceMul], n2, l2, gn, g2⟩
      clear f0 f1 f2 f9 f10
      rintro m f H3 ⟨p, rfl, hp1, hp2, hp3, f0, f1, f2, f9, f10, f11, f12, n3, l3, gn, g9⟩
      have w1 := w64 (x := ((64 * q : Nat) : Int) + 64) (by omega) (by omega)
      have hmin : ((p : Int) < if (t.length : Int) < ((64 * q : Nat) : Int) + 64 then (t.length : Int) else ((64 * q : Nat) : Int) + 64) ↔ p < t.length ∧ p < 64 * q + 64 := by
        constructor
        · intro h; split at h <;> omega
        · intro h; split <;> omega
      by_cases hin : p < t.length ∧ p < 64 * q + 64
      · have p0 : (0 : Int) ≤ p := by omega
        have p1 : (p : Int) < t.length := by omega
        have p4 : p + 1 ≤ t.length := by omega
        have e1 : (p : Int) - ((64 * q : Nat) : Int) = ((p - 64 * q : Nat) : Int) := by omega
        have w2 := w64 (x := ((p - 64 * q : Nat) : Int)) (by omega) (by omega)
        have w3 := w64 (x := (p : Int) + 1) (by omega) (by omega)
        have d0 : (0 : Int) ≤ ((p - 64 * q : Nat) : Int) := by omega
        have d1 : ((p - 64 * q : Nat) : Int) < 64 := by omega
        have d2 : p - 64 * q + 1 ≤ 64 := by omega
        have hlt4 : H.next < H'.next + 1 := by omega
        have hne : ¬ H'.next = H.next := by omega
        have hla := u8r_at (l := chacha k n (ctr c q)) (i := p - 64 * q) (by rw [chacha_len]; omega)
        have hlb := u8r_at (l := part (sx k n c t) t p) (i := p) (by rw [part_len (by omega)]; omega)
        rw [part_at hin.1] at hlb
        have hsx : gb t p ^^^ gb (chacha k n (ctr c q)) (p - 64 * q) = sx k n c t p := by
          unfold sx
          rw [show p / 64 = q by omega, show p % 64 = p - 64 * q by omega]
        have hst := part_step (f := sx k n c t) hin.1
        have hpl := part_len (f := sx k n c t) (t := t) (p := p) (by omega)
        simp only [f0, f1, f2, f9, f10, f11, f12, w1, hmin, hin, p0, p1, p4, e1, w2, w3, d0, d1, d2, n3, hlt4, gn, g9, idxSP_slc, Int.toNat_natCast, u8r_len, u8r_ro, u8r_es, chacha_len, hpl, hla, hlb, xor8, hsx, addA, Nat.zero_add, stc_eq, stB_some, splice_one, u8r_set, hst, go_sem, Nat.reduceEqDiff, Nat.reduceAdd, Nat.reduceLeDiff, Int.reduceEq, Int.reduceLT, Int.reduceLE, Int.reduceAdd, Int.reduceSub, Int.reduceMul, Int.reduceNeg, Int.reduceToNat, Nat.reduceMul]
        refine ⟨t.length - (p + 1), by omega, p + 1, rfl, by omega, by omega, by omega, by simp only [f0, go_sem, Nat.reduceEqDiff, Nat.reduceAdd, Nat.reduceLeDiff, Int.reduceEq, Int.reduceLT, Int.reduceLE, Int.reduceAdd, Int.reduceSub, Int.reduceMul, Int.reduceNeg, Int.reduceToNat, Nat.reduceMul], by simp only [f1, go_sem, Nat.reduceEqDiff, Nat.reduceAdd, Nat.reduceLeDiff, Int.reduceEq, Int.reduceLT, Int.reduceLE, Int.reduceAdd, Int.reduceSub, Int.reduceMul, Int.reduceNeg, Int.reduceToNat, Nat.reduceMul], by simp only [f2, go_sem, Nat.reduceEqDiff, Nat.reduceAdd, Nat.reduceLeDiff, Int.reduceEq, Int.reduceLT, Int.reduceLE, Int.reduceAdd, Int.reduceSub, Int.reduceMul, Int.reduceNeg, Int.reduceToNat, Nat.reduceMul], by simp only [f9, go_sem, Nat.reduceEqDiff, Nat.reduceAdd, Nat.reduceLeDiff, Int.reduceEq, Int.reduceLT, Int.reduceLE, Int.reduceAdd, Int.reduceSub, Int.reduceMul, Int.reduceNeg, Int.reduceToNat, Nat.reduceMul], by simp only [f10, go_sem, Nat.reduceEqDiff, Nat.reduceAdd, Nat.reduceLeDiff, Int.reduceEq, Int.reduceLT, Int.reduceLE, Int.reduceAdd, Int.reduceSub, Int.reduceMul, Int.reduceNeg, Int.reduceToNat, Nat.reduceMul], by simp only [f11, go_sem, Nat.reduceEqDiff, Nat.reduceAdd, Nat.reduceLeDiff, Int.reduceEq, Int.reduceLT, Int.reduceLE, Int.reduceAdd, Int.reduceSub, Int.reduceMul, Int.reduceNeg, Int.reduceToNat, Nat.reduceMul], by simp only [go_sem, Nat.reduceEqDiff, Nat.reduceAdd, Nat.reduceLeDiff, Int.reduceEq, Int.reduceLT, Int.reduceLE, Int.reduceAdd, Int.reduceSub, Int.reduceMul, Int.reduceNeg, Int.reduceToNat, Nat.reduceMul] <;> rfl, by rw [AH.next_set, n3], by rw [lw_set]; omega, by rw [AH.get_set_ne _ _ hne]; exact gn, ?_⟩
        exact AH.get_set_eq H3 _ (by rw [n3]; omega)
      · have w2 : IntKind.wrap .u32 (ctr c q + 1) = ctr c (q + 1) := by
          rw [IntKind.wrap_u32]; unfold ctr; omega
        simp only [f0, f1, f2, f9, f10, f11, f12, w1, w2, hmin, hin, go_sem, Nat.reduceEqDiff, Nat.reduceAdd, Nat.reduceLeDiff, Int.reduceEq, Int.reduceLT, Int.reduceLE, Int.reduceAdd, Int.reduceSub, Int.reduceMul, Int.reduceNeg, Int.reduceToNat, Nat.reduceMul]
        refine ⟨t.length - p, by omega, q + 1, p, rfl, by omega, by omega, by simp only [f0, go_sem, Nat.reduceEqDiff, Nat.reduceAdd, Nat.reduceLeDiff, Int.reduceEq, Int.reduceLT, Int.reduceLE, Int.reduceAdd, Int.reduceSub, Int.reduceMul, Int.reduceNeg, Int.reduceToNat, Nat.reduceMul], by simp only [f1, go_sem, Nat.reduceEqDiff, Nat.reduceAdd, Nat.reduceLeDiff, Int.reduceEq, Int.reduceLT, Int.reduceLE, Int.reduceAdd, Int.reduceSub, Int.reduceMul, Int.reduceNeg, Int.reduceToNat, Nat.reduceMul], by simp only [go_sem, Nat.reduceEqDiff, Nat.reduceAdd, Nat.reduceLeDiff, Int.reduceEq, Int.reduceLT, Int.reduceLE, Int.reduceAdd, Int.reduceSub, Int.reduceMul, Int.reduceNeg, Int.reduceToNat, Nat.reduceMul], by simp only [f9, go_sem, Nat.reduceEqDiff, Nat.reduceAdd, Nat.reduceLeDiff, Int.reduceEq, Int.reduceLT, Int.reduceLE, Int.reduceAdd, Int.reduceSub, Int.reduceMul, Int.reduceNeg, Int.reduceToNat, Nat.reduceMul], by simp only [go_sem, Nat.reduceEqDiff, Nat.reduceAdd, Nat.reduceLeDiff, Int.reduceEq, Int.reduceLT, Int.reduceLE, Int.reduceAdd, Int.reduceSub, Int.reduceMul, Int.reduceNeg, Int.reduceToNat, Nat.reduceMul] <;> rfl, by omega, l3, g9⟩
    · have hp2 : p = t.length := by omega
      subst hp2
      rw [part_all] at g9
      have hsb := slcBytes_row (n := t.length) (c := t.length) g9 (by simp)
      simp only [f0, f1, f2, f9, f10, hlt, hsb, go_sem, Nat.reduceEqDiff, Nat.reduceAdd, Nat.reduceLeDiff, Int.reduceEq, Int.reduceLT, Int.reduceLE, Int.reduceAdd, Int.reduceSub, Int.reduceMul, Int.reduceNeg, Int.reduceToNat, Nat.reduceMul]
      rw [back_p3 (by omega) rfl]
      exact hQ
  · simp only [go_sem, Nat.reduceEqDiff, Nat.reduceAdd, Nat.reduceLeDiff, Int.reduceEq, Int.reduceLT, Int.reduceLE, Int.reduceAdd, Int.reduceSub, Int.reduceMul, Int.reduceNeg, Int.reduceToNat, Nat.reduceMul]
    unfold ctr
    congr 1
    omega
end
end Go.Proofs.Ytildhljhbbhmmaa.AM
namespace Go.Proofs.Ytildhljhbbhmmaa.AM
open Go
set_option linter.all false
set_option maxRecDepth 10000
variable {tbl : Tbl} [hT : TMono tbl]

theorem Own.push {base : Nat} {H : AH} {es n : Nat} {v : Value} {l : List Value} (h : Own base H es v n l) (b : Blk) : Own base (H.push b) es v n l := by
  rcases h with h | ⟨k, h1, h2, h3, h4, h5⟩
  · exact .inl h
  · exact .inr ⟨k, h1, by rw [AH.get_push_lt _ _ (AH.get_lt h2)]; exact h2, h3, h4, h5⟩
def blk (sz : Nat) (l : List UInt8) (i : Nat) : List UInt8 := (l.drop (sz * i)).take sz
def blkN (sz n : Nat) : Nat := (n + sz - 1) / sz
def strs (f : Nat → List UInt8) (n : Nat) : List Value := (List.range n).map fun i => .string (tx (f i))
theorem strs_len {f : Nat → List UInt8} {n : Nat} : (strs f n).length = n := by simp [strs]
theorem strs_p1 {f : Nat → List UInt8} {n : Nat} : (strs f n).all p1 = true := by
  rw [List.all_eq_true]
  intro x hx
  simp only [strs, List.mem_map] at hx
  obtain ⟨i, _, rfl⟩ := hx
  rfl
theorem strs_succ {f : Nat → List UInt8} {n : Nat} : strs f n ++ [.string (tx (f n))] = strs f (n + 1) := by
  simp only [strs, map_range_succ]
theorem strs_at {f : Nat → List UInt8} {n i : Nat} (h : i < n) : ((strs f n).drop (i * 1)).take 1 = [.string (tx (f i))] := by
  rw [Nat.mul_one, take_one (by rw [strs_len]; exact h)]
  simp [strs]
theorem v65 (h65 : tbl 65 = some (.code m65)) (l : List UInt8) (sz : Nat) (hsz : 0 < sz) (hsz2 : sz ≤ 1000000000) (hl : l.length ≤ 1000000000) (H : AH) : Val tbl 65 [.string (tx l), .int .i64 sz] H (mkS H (blkN sz l.length)) (mkH H 1 (blkN sz l.length) (strs (blk sz l) (blkN sz l.length))) := by
  refine Val.of_all fun Q hQ => ?_
  rw [rn_fun h65, k65]
  simp only [go_sem, Nat.reduceEqDiff, Nat.reduceAdd, Nat.reduceLeDiff, Int.reduceEq, Int.reduceLT, Int.reduceLE, Int.reduceAdd, Int.reduceSub, Int.reduceMul, Int.reduceNeg, Int.reduceToNat, Nat.reduceMul]
  refine rn_loop (fun m f H' => ∃ (q : Nat) (v : Value), m = l.length - sz * q ∧ (q = 0 ∨ sz * (q - 1) < l.length) ∧ f 0 = .string (tx (l.drop (sz * q))) ∧ f 1 = .int .i64 sz ∧ f 5 = v ∧ Own H.next H' 1 v q (strs (blk sz l) q) ∧ H.next ≤ H'.next ∧ H.next ≤ H'.low) ?_ (n := l.length)
    ⟨0, .slice none 0 0, by omega, .inl rfl, by simp only [go_sem, Nat.reduceEqDiff, Nat.reduceAdd, Nat.reduceLeDiff, Int.reduceEq, Int.reduceLT, Int.reduceLE, Int.reduceAdd, Int.reduceSub, Int.reduceMul, Int.reduceNeg, Int.reduceToNat, Nat.reduceMul] <;> rfl, by simp only [go_sem, Nat.reduceEqDiff, Nat.reduceAdd, Nat.reduceLeDiff, Int.reduceEq, Int.reduceLT, Int.reduceLE, Int.reduceAdd, Int.reduceSub, Int.reduceMul, Int.reduceNeg, Int.reduceToNat, Nat.reduceMul], by simp only [go_sem, Nat.reduceEqDiff, Nat.reduceAdd, Nat.reduceLeDiff, Int.reduceEq, Int.reduceLT, Int.reduceLE, Int.reduceAdd, Int.reduceSub, Int.reduceMul, Int.reduceNeg, Int.reduceToNat, Nat.reduceMul], .inl ⟨rfl, rfl, rfl⟩, by rw [nx_enter]; omega, by rw [lw_enter]; omega⟩
  rintro m f H' ⟨q, v, rfl, hq, f0, f1, f5, ho, n1, l1⟩
  have hdl : (l.drop (sz * q)).length = l.length - sz * q := by simp
  by_cases hlt : sz * q < l.length
  · have c1 : (0 : Int) < ((l.length - sz * q : Nat) : Int) := by omega
    obtain ⟨n, hn⟩ : ∃ n, n = min sz (l.length - sz * q) := ⟨_, rfl⟩
    have hmin : (if ((l.length - sz * q : Nat) : Int) < (sz : Int) then ((l.length - sz * q : Nat) : Int) else (sz : Int)) = (n : Int) := by split <;> omega
    have n0 : (0 : Int) ≤ n := by omega
    have n2 : n ≤ l.length - sz * q := by omega
    have hx1 : (tx (l.drop (sz * q))).extract 0 n = tx (blk sz l q) := by
      rw [tx_extract, List.drop_zero, blk]
      by_cases h : sz ≤ l.length - sz * q
      · rw [show n = sz by omega]
      · rw [List.take_of_length_le (by omega), List.take_of_length_le (by omega)]
    have hx2 : (tx (l.drop (sz * q))).extract n (l.length - sz * q) = tx (l.drop (sz * (q + 1))) := by
      rw [tx_extract, List.take_of_length_le (by omega), List.drop_drop]
      by_cases h : sz ≤ l.length - sz * q
      · rw [show n = sz by omega, Nat.mul_succ]
      · rw [List.drop_of_length_le (by omega), List.drop_of_length_le (by rw [Nat.mul_succ]; omega)]
    have hqb : q ≤ l.length := by
      have : q ≤ sz * q := Nat.le_mul_of_pos_left q hsz
      omega
    obtain ⟨s', H2, ha, ho2, _, hn2, hl2⟩ := (ho.push ⟨[.string (tx (blk sz l q))], 1, false⟩).append (bytes := 16) (k := 1) (new := [.string (tx (blk sz l q))]) (by rw [AH.next_push]; omega) (by omega) rfl (by omega)
    simp only [f0, f1, f5, tx_size, hdl, c1, hmin, n0, n2, Int.toNat_natCast, Nat.le_refl, Int.natCast_nonneg, hx1, hx2, ha, go_sem, Nat.reduceEqDiff, Nat.reduceAdd, Nat.reduceLeDiff, Int.reduceEq, Int.reduceLT, Int.reduceLE, Int.reduceAdd, Int.reduceSub, Int.reduceMul, Int.reduceNeg, Int.reduceToNat, Nat.reduceMul]
    rw [strs_succ] at ho2
    have hl3 := hl2 H.next (Nat.le_refl _) (by rw [lw_push]; exact l1)
    rw [AH.next_push] at hn2
    exact ⟨l.length - sz * (q + 1), by rw [Nat.mul_succ]; omega, q + 1, s', rfl, .inr (by rw [Nat.add_sub_cancel]; exact hlt), by simp only [go_sem, Nat.reduceEqDiff, Nat.reduceAdd, Nat.reduceLeDiff, Int.reduceEq, Int.reduceLT, Int.reduceLE, Int.reduceAdd, Int.reduceSub, Int.reduceMul, Int.reduceNeg, Int.reduceToNat, Nat.reduceMul], by simp only [f1, go_sem, Nat.reduceEqDiff, Nat.reduceAdd, Nat.reduceLeDiff, Int.reduceEq, Int.reduceLT, Int.reduceLE, Int.reduceAdd, Int.reduceSub, Int.reduceMul, Int.reduceNeg, Int.reduceToNat, Nat.reduceMul], by simp only [go_sem, Nat.reduceEqDiff, Nat.reduceAdd, Nat.reduceLeDiff, Int.reduceEq, Int.reduceLT, Int.reduceLE, Int.reduceAdd, Int.reduceSub, Int.reduceMul, Int.reduceNeg, Int.reduceToNat, Nat.reduceMul], ho2, by omega, hl3⟩
  · have c1 : ¬ (0 : Int) < ((l.length - sz * q : Nat) : Int) := by omega
    simp only [f0, f1, f5, tx_size, hdl, c1, go_sem, Nat.reduceEqDiff, Nat.reduceAdd, Nat.reduceLeDiff, Int.reduceEq, Int.reduceLT, Int.reduceLE, Int.reduceAdd, Int.reduceSub, Int.reduceMul, Int.reduceNeg, Int.reduceToNat, Nat.reduceMul]
    have hqe : q = blkN sz l.length := by
      unfold blkN
      rcases hq with rfl | hq
      · have : l.length = 0 := by omega
        rw [this, Nat.zero_add, Nat.div_eq_of_lt (by omega)]
      · have h2 : sz * q < sz * (q - 1) + sz + 1 := by
          cases q with
          | zero => omega
          | succ q => rw [Nat.add_sub_cancel, Nat.mul_succ]; omega
        refine (Nat.div_eq_of_lt_le ?_ ?_).symm
        · cases q with
          | zero => omega
          | succ q =>
            rw [Nat.add_sub_cancel] at hq
            have : (q + 1) * sz = sz * q + sz := by rw [Nat.mul_comm, Nat.mul_succ]
            omega
        · have : (q + 1) * sz = sz * q + sz := by rw [Nat.mul_comm, Nat.mul_succ]
          omega
    subst hqe
    rw [back_own ho (Nat.le_refl _) l1 strs_p1]
    exact hQ
end Go.Proofs.Ytildhljhbbhmmaa.AM
namespace Go.Proofs.Ytildhljhbbhmmaa.AM
open Go
set_option linter.all false
set_option maxRecDepth 10000
variable {tbl : Tbl} [hT : TMono tbl]

theorem map_range_add {α : Type} (f : Nat → α) (a : Nat) : ∀ b, (List.range (a + b)).map f = (List.range a).map f ++ (List.range b).map fun j => f (a + j) := by
  intro b
  induction b with
  | zero => simp
  | succ b ih => rw [← Nat.add_assoc, map_range_succ, ih, map_range_succ, List.append_assoc]
theorem gb_take {l : List UInt8} {n j : Nat} (h : j < n) : gb (l.take n) j = gb l j := by
  simp [gb, List.getD_eq_getElem?_getD, List.getElem?_take, h]
theorem blk_len {sz : Nat} {l : List UInt8} {i : Nat} : (blk sz l i).length = min sz (l.length - sz * i) := by simp [blk]
/-- One more block of the stream. -/
theorem sx_step {k n : List UInt8} {c : Int} {t : List UInt8} {q : Nat} (h : 64 * q ≤ t.length) :
    (List.range (64 * q)).map (sx k n c t) ++ xorL (blk 64 t q) ((chacha k n (ctr c q)).take (blk 64 t q).length) = (List.range (min (64 * (q + 1)) t.length)).map (sx k n c t) := by
  have hl := blk_len (sz := 64) (l := t) (i := q)
  have e : min (64 * (q + 1)) t.length = 64 * q + (blk 64 t q).length := by omega
  rw [e, map_range_add, xorL]
  congr 1
  refine List.map_congr_left fun j hj => ?_
  rw [List.mem_range] at hj
  rw [gb_take hj, sx, show (64 * q + j) / 64 = q by omega, show (64 * q + j) % 64 = j by omega, blk, gb_take (by omega), gb_drop]
section
variable (h94 : tbl 94 = some (.code m94)) (h93 : tbl 93 = some (.code m93)) (h91 : tbl 91 = some (.code m91)) (h92 : tbl 92 = some (.code m92)) (h59 : tbl 59 = some (.code m59)) (h65 : tbl 65 = some (.code m65)) (h69 : tbl 69 = some (.code m69)) (h31 : tbl 31 = some (.code m31))
include h94 h93 h91 h92 h59 h65 h69 h31
theorem v31 (k n : List UInt8) (c : Int) (hk : k.length = 32) (hn : n.length = 12) (hc : 0 ≤ c ∧ c < 4294967296) (t : List UInt8) (ht : t.length ≤ 1000000000) (H : AH) : Val tbl 31 [.string (tx k), .string (tx n), .int .i64 c, .string (tx t)] H (.string (tx (streamL k n c t))) H := by
  refine Val.of_all fun Q hQ => ?_
  rw [rn_fun h31, k31]
  have hN : 64 * blkN 64 t.length < t.length + 64 ∧ t.length ≤ 64 * blkN 64 t.length := by unfold blkN; omega
  have hv65 : Val tbl 65 [.string (tx t), .int .i64 64] H.enter (mkS H.enter (blkN 64 t.length)) (mkH H.enter 1 (blkN 64 t.length) (strs (blk 64 t) (blkN 64 t.length))) := v65 h65 t 64 (by omega) (by omega) ht H.enter
  have hown := own_mk (H := H.enter) (es := 1) (n := blkN 64 t.length) (l := strs (blk 64 t) (blkN 64 t.length)) (by rw [strs_len]; omega)
  have hlow := mkH_low (H := H.enter) (es := 1) (n := blkN 64 t.length) (l := strs (blk 64 t) (blkN 64 t.length))
  generalize mkH H.enter 1 (blkN 64 t.length) (strs (blk 64 t) (blkN 64 t.length)) = H1 at hv65 hown hlow
  have hsl := hown.sl
  obtain ⟨ad, cp, hv⟩ := hsl.shape
  rw [hv] at hv65 hsl
  simp only [↓hv65.run, go_sem, Nat.reduceEqDiff, Nat.reduceAdd, Nat.reduceLeDiff, Int.reduceEq, Int.reduceLT, Int.reduceLE, Int.reduceAdd, Int.reduceSub, Int.reduceMul, Int.reduceNeg, Int.reduceToNat, Nat.reduceMul]
  refine rn_loop (fun m f H' => H' = H1 ∧ ∃ (q : Nat), m = blkN 64 t.length - q ∧ q ≤ blkN 64 t.length ∧ f 0 = .string (tx k) ∧ f 1 = .string (tx n) ∧ f 2 = .int .i64 c ∧ f 9 = .string (tx ((List.range (min (64 * q) t.length)).map (sx k n c t))) ∧ f 13 = .slice ad (blkN 64 t.length) cp ∧ f 14 = .int .i64 (blkN 64 t.length) ∧ f 15 = .int .i64 q) ?_ (n := blkN 64 t.length)
    ⟨rfl, 0, by omega, by omega, by simp only [go_sem, Nat.reduceEqDiff, Nat.reduceAdd, Nat.reduceLeDiff, Int.reduceEq, Int.reduceLT, Int.reduceLE, Int.reduceAdd, Int.reduceSub, Int.reduceMul, Int.reduceNeg, Int.reduceToNat, Nat.reduceMul], by simp only [go_sem, Nat.reduceEqDiff, Nat.reduceAdd, Nat.reduceLeDiff, Int.reduceEq, Int.reduceLT, Int.reduceLE, Int.reduceAdd, Int.reduceSub, Int.reduceMul, Int.reduceNeg, Int.reduceToNat, Nat.reduceMul], by simp only [go_sem, Nat.reduceEqDiff, Nat.reduceAdd, Nat.reduceLeDiff, Int.reduceEq, Int.reduceLT, Int.reduceLE, Int.reduceAdd, Int.reduceSub, Int.reduceMul, Int.reduceNeg, Int.reduceToNat, Nat.reduceMul], by simp only [go_sem, Nat.reduceEqDiff, Nat.reduceAdd, Nat.reduceLeDiff, Int.reduceEq, Int.reduceLT, Int.reduceLE, Int.reduceAdd, Int.reduceSub, Int.reduceMul, Int.reduceNeg, Int.reduceToNat, Nat.reduceMul]; simp; rfl, by simp only [go_sem, Nat.reduceEqDiff, Nat.reduceAdd, Nat.reduceLeDiff, Int.reduceEq, Int.reduceLT, Int.reduceLE, Int.reduceAdd, Int.reduceSub, Int.reduceMul, Int.reduceNeg, Int.reduceToNat, Nat.reduceMul], by simp only [go_sem, Nat.reduceEqDiff, Nat.reduceAdd, Nat.reduceLeDiff, Int.reduceEq, Int.reduceLT, Int.reduceLE, Int.reduceAdd, Int.reduceSub, Int.reduceMul, Int.reduceNeg, Int.reduceToNat, Nat.reduceMul], by simp only [go_sem, Nat.reduceEqDiff, Nat.reduceAdd, Nat.reduceLeDiff, Int.reduceEq, Int.reduceLT, Int.reduceLE, Int.reduceAdd, Int.reduceSub, Int.reduceMul, Int.reduceNeg, Int.reduceToNat, Nat.reduceMul] <;> rfl⟩
  rintro m f H' ⟨rfl, q, rfl, hq, f0, f1, f2, f9, f13, f14, f15⟩
  by_cases hlt : (q : Int) < (blkN 64 t.length : Int)
  · have hq2 : q < blkN 64 t.length := by omega
    have hq3 : 64 * q ≤ t.length := by omega
    have hmin : min (64 * q) t.length = 64 * q := by omega
    rw [hmin] at f9
    have w1 := w64 (x := c + q) (by omega) (by omega)
    have w2 := w64 (x := (q : Int) + 1) (by omega) (by omega)
    have w3 : IntKind.wrap .u32 (c + q) = ctr c q := by rw [IntKind.wrap_u32]; rfl
    have hcr : 0 ≤ ctr c q ∧ ctr c q < 4294967296 := by unfold ctr; omega
    have hbl := blk_len (sz := 64) (l := t) (i := q)
    have hx : (tx (chacha k n (ctr c q))).extract 0 (blk 64 t q).length = tx ((chacha k n (ctr c q)).take (blk 64 t q).length) := by rw [tx_extract, List.drop_zero]
    have hb64 : (blk 64 t q).length ≤ 64 := by omega
    have hst := sx_step (k := k) (n := n) (c := c) hq3
    have hsz : 64 * q + (blk 64 t q).length ≤ 9223372036854775807 := by omega
    have hv69 := fun X => v69 h69 (blk 64 t q) ((chacha k n (ctr c q)).take (blk 64 t q).length) (by rw [List.length_take, chacha_len]; omega) (by omega) X
    simp only [f0, f1, f2, f9, f13, f14, f15, hlt, go_sem, Nat.reduceEqDiff, Nat.reduceAdd, Nat.reduceLeDiff, Int.reduceEq, Int.reduceLT, Int.reduceLE, Int.reduceAdd, Int.reduceSub, Int.reduceMul, Int.reduceNeg, Int.reduceToNat, Nat.reduceMul]
    refine hsl.at_ hq2 fun p hp1 hp2 => ?_
    rw [strs_at hq2] at hp2
    simp only [f0, f1, f2, f9, f13, f14, f15, hp2, w1, w2, w3, ↓(v59 h94 h93 h91 h92 h59 k n (ctr c q) hk hn hcr _).run, tx_size, chacha_len, hb64, Int.natCast_nonneg, Int.toNat_natCast, hx, ↓(hv69 _).run, tx_cat, xorL_len, List.length_map, List.length_range, hsz, hst, go_sem, Nat.reduceEqDiff, Nat.reduceAdd, Nat.reduceLeDiff, Int.reduceEq, Int.reduceLT, Int.reduceLE, Int.reduceAdd, Int.reduceSub, Int.reduceMul, Int.reduceNeg, Int.reduceToNat, Nat.reduceMul]
    exact ⟨blkN 64 t.length - (q + 1), by omega, rfl, q + 1, rfl, by omega, by simp only [f0, go_sem, Nat.reduceEqDiff, Nat.reduceAdd, Nat.reduceLeDiff, Int.reduceEq, Int.reduceLT, Int.reduceLE, Int.reduceAdd, Int.reduceSub, Int.reduceMul, Int.reduceNeg, Int.reduceToNat, Nat.reduceMul], by simp only [f1, go_sem, Nat.reduceEqDiff, Nat.reduceAdd, Nat.reduceLeDiff, Int.reduceEq, Int.reduceLT, Int.reduceLE, Int.reduceAdd, Int.reduceSub, Int.reduceMul, Int.reduceNeg, Int.reduceToNat, Nat.reduceMul], by simp only [f2, go_sem, Nat.reduceEqDiff, Nat.reduceAdd, Nat.reduceLeDiff, Int.reduceEq, Int.reduceLT, Int.reduceLE, Int.reduceAdd, Int.reduceSub, Int.reduceMul, Int.reduceNeg, Int.reduceToNat, Nat.reduceMul], by simp only [go_sem, Nat.reduceEqDiff, Nat.reduceAdd, Nat.reduceLeDiff, Int.reduceEq, Int.reduceLT, Int.reduceLE, Int.reduceAdd, Int.reduceSub, Int.reduceMul, Int.reduceNeg, Int.reduceToNat, Nat.reduceMul], by simp only [f13, go_sem, Nat.reduceEqDiff, Nat.reduceAdd, Nat.reduceLeDiff, Int.reduceEq, Int.reduceLT, Int.reduceLE, Int.reduceAdd, Int.reduceSub, Int.reduceMul, Int.reduceNeg, Int.reduceToNat, Nat.reduceMul], by simp only [f14, go_sem, Nat.reduceEqDiff, Nat.reduceAdd, Nat.reduceLeDiff, Int.reduceEq, Int.reduceLT, Int.reduceLE, Int.reduceAdd, Int.reduceSub, Int.reduceMul, Int.reduceNeg, Int.reduceToNat, Nat.reduceMul], by simp only [go_sem, Nat.reduceEqDiff, Nat.reduceAdd, Nat.reduceLeDiff, Int.reduceEq, Int.reduceLT, Int.reduceLE, Int.reduceAdd, Int.reduceSub, Int.reduceMul, Int.reduceNeg, Int.reduceToNat, Nat.reduceMul] <;> rfl⟩
  · have hqe : q = blkN 64 t.length := by omega
    subst hqe
    have hmin : min (64 * blkN 64 t.length) t.length = t.length := by omega
    rw [hmin] at f9
    simp only [f0, f1, f2, f9, f13, f14, f15, hlt, go_sem, Nat.reduceEqDiff, Nat.reduceAdd, Nat.reduceLeDiff, Int.reduceEq, Int.reduceLT, Int.reduceLE, Int.reduceAdd, Int.reduceSub, Int.reduceMul, Int.reduceNeg, Int.reduceToNat, Nat.reduceMul]
    rw [back_p3 (by rw [hlow, lw_enter]; omega) rfl]
    exact hQ
end
end Go.Proofs.Ytildhljhbbhmmaa.AM
/- Compiled functions. WRITTEN BY A PROGRAM (mk.py). -/
namespace Go.Proofs.Ytildhljhbbhmmaa.AM
open Go
set_option maxRecDepth 100000
set_option linter.all false
def k63 : MCode := (.seq (.ops [⟨(some 4), none, false, (.alloc [(.int .u8 0), (.int .u8 0), (.int .u8 0), (.int .u8 0), (.int .u8 0), (.int .u8 0), (.int .u8 0), (.int .u8 0), (.int .u8 0), (.int .u8 0), (.int .u8 0), (.int .u8 0), (.int .u8 0), (.int .u8 0), (.int .u8 0), (.int .u8 0)] 1)⟩]) (.seq (.ops [⟨(some 5), none, false, (.alloc [(.int .u64 0), (.int .u64 0), (.int .u64 0), (.int .u64 0), (.int .u64 0)] 1)⟩]) (.seq (.opsD [⟨(some 14), none, false, (.mov (.tmp 0))⟩, ⟨(some 15), none, false, (.call false (.func 96) [(.tmp 14)])⟩, ⟨(some 16), none, false, (.conv .u64 (.tmp 15))⟩, ⟨(some 17), none, false, (.mov (.tmp 0))⟩, ⟨(some 18), none, false, (.sliceStr (.tmp 17) (some (.const (.int .i64 4))) none)⟩, ⟨(some 19), none, false, (.call false (.func 96) [(.tmp 18)])⟩, ⟨(some 20), none, false, (.conv .u64 (.tmp 19))⟩, ⟨(some 21), none, false, (.mov (.tmp 0))⟩, ⟨(some 22), none, false, (.sliceStr (.tmp 21) (some (.const (.int .i64 8))) none)⟩, ⟨(some 23), none, false, (.call false (.func 96) [(.tmp 22)])⟩, ⟨(some 24), none, false, (.conv .u64 (.tmp 23))⟩, ⟨(some 25), none, false, (.mov (.tmp 0))⟩, ⟨(some 26), none, false, (.sliceStr (.tmp 25) (some (.const (.int .i64 12))) none)⟩, ⟨(some 27), none, false, (.call false (.func 96) [(.tmp 26)])⟩, ⟨(some 28), none, false, (.conv .u64 (.tmp 27))⟩, ⟨(some 6), none, false, (.mov (.tmp 16))⟩, ⟨(some 7), none, false, (.mov (.tmp 20))⟩, ⟨(some 8), none, false, (.mov (.tmp 24))⟩, ⟨(some 9), none, false, (.mov (.tmp 28))⟩]) (.seq (.ops [⟨(some 29), none, false, (.mov (.tmp 6))⟩, ⟨(some 30), none, false, (.bin .int .and (.tmp 29) (.const (.int .u64 268435455)))⟩, ⟨(some 31), none, false, (.mov (.tmp 7))⟩, ⟨(some 32), none, false, (.bin .int .and (.tmp 31) (.const (.int .u64 268435452)))⟩, ⟨(some 33), none, false, (.mov (.tmp 8))⟩, ⟨(some 34), none, false, (.bin .int .and (.tmp 33) (.const (.int .u64 268435452)))⟩, ⟨(some 35), none, false, (.mov (.tmp 9))⟩, ⟨(some 36), none, false, (.bin .int .and (.tmp 35) (.const (.int .u64 268435452)))⟩, ⟨(some 6), none, false, (.mov (.tmp 30))⟩, ⟨(some 7), none, false, (.mov (.tmp 32))⟩, ⟨(some 8), none, false, (.mov (.tmp 34))⟩, ⟨(some 9), none, false, (.mov (.tmp 36))⟩]) (.seq (.ops [⟨(some 37), none, false, (.mov (.tmp 6))⟩, ⟨(some 38), none, false, (.bin .int .and (.tmp 37) (.const (.int .u64 67108863)))⟩, ⟨(some 39), none, false, (.mov (.tmp 6))⟩, ⟨(some 40), none, false, (.bin .int .shr (.tmp 39) (.const (.int .u64 26)))⟩, ⟨(some 41), none, false, (.mov (.tmp 7))⟩, ⟨(some 42), none, false, (.bin .int .shl (.tmp 41) (.const (.int .u64 6)))⟩, ⟨(some 43), none, false, (.bin .int .or (.tmp 40) (.tmp 42))⟩, ⟨(some 44), none, false, (.bin .int .and (.tmp 43) (.const (.int .u64 67108863)))⟩, ⟨(some 45), none, false, (.mov (.tmp 7))⟩, ⟨(some 46), none, false, (.bin .int .shr (.tmp 45) (.const (.int .u64 20)))⟩, ⟨(some 47), none, false, (.mov (.tmp 8))⟩, ⟨(some 48), none, false, (.bin .int .shl (.tmp 47) (.const (.int .u64 12)))⟩, ⟨(some 49), none, false, (.bin .int .or (.tmp 46) (.tmp 48))⟩, ⟨(some 50), none, false, (.bin .int .and (.tmp 49) (.const (.int .u64 67108863)))⟩, ⟨(some 51), none, false, (.mov (.tmp 8))⟩, ⟨(some 52), none, false, (.bin .int .shr (.tmp 51) (.const (.int .u64 14)))⟩, ⟨(some 53), none, false, (.mov (.tmp 9))⟩, ⟨(some 54), none, false, (.bin .int .shl (.tmp 53) (.const (.int .u64 18)))⟩, ⟨(some 55), none, false, (.bin .int .or (.tmp 52) (.tmp 54))⟩, ⟨(some 56), none, false, (.bin .int .and (.tmp 55) (.const (.int .u64 67108863)))⟩, ⟨(some 57), none, false, (.mov (.tmp 9))⟩, ⟨(some 58), none, false, (.bin .int .shr (.tmp 57) (.const (.int .u64 8)))⟩, ⟨(some 59), none, false, (.idxA 5 1 (.tmp 5) (.const (.int .i64 0)))⟩, ⟨none, none, false, (.store 1 (.tmp 59) (.tmp 38))⟩, ⟨(some 60), none, false, (.idxA 5 1 (.tmp 5) (.const (.int .i64 1)))⟩, ⟨none, none, false, (.store 1 (.tmp 60) (.tmp 44))⟩, ⟨(some 61), none, false, (.idxA 5 1 (.tmp 5) (.const (.int .i64 2)))⟩, ⟨none, none, false, (.store 1 (.tmp 61) (.tmp 50))⟩, ⟨(some 62), none, false, (.idxA 5 1 (.tmp 5) (.const (.int .i64 3)))⟩, ⟨none, none, false, (.store 1 (.tmp 62) (.tmp 56))⟩, ⟨(some 63), none, false, (.idxA 5 1 (.tmp 5) (.const (.int .i64 4)))⟩, ⟨none, none, false, (.store 1 (.tmp 63) (.tmp 58))⟩]) (.seq (.ops [⟨(some 10), none, false, (.alloc [(.int .u64 0), (.int .u64 0), (.int .u64 0), (.int .u64 0), (.int .u64 0)] 1)⟩]) (.seq (.block 0 (.loop (.seq (.seq (.ops [⟨(some 64), none, false, (.mov (.tmp 1))⟩, ⟨(some 65), none, false, (.bin .str .neq (.tmp 64) (.const (.string ⟨#[]⟩)))⟩]) (.cond (.tmp 65) .skip (.exit 0))) (.block 1 (.seq (.ops [⟨(some 66), none, false, (.mov (.tmp 1))⟩, ⟨(some 67), none, false, (.lenStr (.tmp 66))⟩, ⟨(some 68), none, false, (.min (.const (.int .i64 16)) [(.tmp 67)])⟩, ⟨(some 11), none, false, (.mov (.tmp 68))⟩]) (.seq (.ops [⟨(some 12), none, false, (.alloc [(.int .u8 0), (.int .u8 0), (.int .u8 0), (.int .u8 0), (.int .u8 0), (.int .u8 0), (.int .u8 0), (.int .u8 0), (.int .u8 0), (.int .u8 0), (.int .u8 0), (.int .u8 0), (.int .u8 0), (.int .u8 0), (.int .u8 0), (.int .u8 0), (.int .u8 0)] 1)⟩]) (.seq (.opsD [⟨(some 69), none, false, (.sliceA 17 1 (.tmp 12) none none)⟩, ⟨(some 70), none, false, (.mov (.tmp 1))⟩, ⟨(some 71), none, false, (.mov (.tmp 11))⟩, ⟨(some 72), none, false, (.sliceStr (.tmp 70) none (some (.tmp 71)))⟩, ⟨(some 73), none, false, (.copy 1 (.tmp 69) (.tmp 72))⟩]) (.seq (.ops [⟨(some 74), none, false, (.mov (.tmp 11))⟩, ⟨(some 75), none, false, (.idxA 17 1 (.tmp 12) (.tmp 74))⟩, ⟨none, none, false, (.store 1 (.tmp 75) (.const (.int .u8 1)))⟩]) (.seq (.ops [⟨(some 76), none, false, (.mov (.tmp 1))⟩, ⟨(some 77), none, false, (.mov (.tmp 11))⟩, ⟨(some 78), none, false, (.sliceStr (.tmp 76) (some (.tmp 77)) none)⟩, ⟨(some 1), none, false, (.mov (.tmp 78))⟩]) (.seq (.ops [⟨(some 79), none, false, (.mkFunc (.func 97) [] [(.tmp 12)])⟩, ⟨(some 13), none, false, (.mov (.tmp 79))⟩]) (.seq (.opsD [⟨(some 80), none, false, (.idxA 5 1 (.tmp 10) (.const (.int .i64 0)))⟩, ⟨(some 81), none, false, (.load false 1 (.tmp 80))⟩, ⟨(some 82), none, false, (.mov (.tmp 13))⟩, ⟨(some 83), none, false, (.call true (.tmp 82) [(.const (.int .i64 0))])⟩, ⟨(some 84), none, false, (.bin .int .and (.tmp 83) (.const (.int .u64 67108863)))⟩, ⟨(some 85), none, false, (.bin .int .add (.tmp 81) (.tmp 84))⟩, ⟨(some 86), none, false, (.idxA 5 1 (.tmp 10) (.const (.int .i64 0)))⟩, ⟨none, none, false, (.store 1 (.tmp 86) (.tmp 85))⟩]) (.seq (.opsD [⟨(some 87), none, false, (.idxA 5 1 (.tmp 10) (.const (.int .i64 1)))⟩, ⟨(some 88), none, false, (.load false 1 (.tmp 87))⟩, ⟨(some 89), none, false, (.mov (.tmp 13))⟩, ⟨(some 90), none, false, (.call true (.tmp 89) [(.const (.int .i64 3))])⟩, ⟨(some 91), none, false, (.bin .int .shr (.tmp 90) (.const (.int .u64 2)))⟩, ⟨(some 92), none, false, (.bin .int .and (.tmp 91) (.const (.int .u64 67108863)))⟩, ⟨(some 93), none, false, (.bin .int .add (.tmp 88) (.tmp 92))⟩, ⟨(some 94), none, false, (.idxA 5 1 (.tmp 10) (.const (.int .i64 1)))⟩, ⟨none, none, false, (.store 1 (.tmp 94) (.tmp 93))⟩]) (.seq (.opsD [⟨(some 95), none, false, (.idxA 5 1 (.tmp 10) (.const (.int .i64 2)))⟩, ⟨(some 96), none, false, (.load false 1 (.tmp 95))⟩, ⟨(some 97), none, false, (.mov (.tmp 13))⟩, ⟨(some 98), none, false, (.call true (.tmp 97) [(.const (.int .i64 6))])⟩, ⟨(some 99), none, false, (.bin .int .shr (.tmp 98) (.const (.int .u64 4)))⟩, ⟨(some 100), none, false, (.bin .int .and (.tmp 99) (.const (.int .u64 67108863)))⟩, ⟨(some 101), none, false, (.bin .int .add (.tmp 96) (.tmp 100))⟩, ⟨(some 102), none, false, (.idxA 5 1 (.tmp 10) (.const (.int .i64 2)))⟩, ⟨none, none, false, (.store 1 (.tmp 102) (.tmp 101))⟩]) (.seq (.opsD [⟨(some 103), none, false, (.idxA 5 1 (.tmp 10) (.const (.int .i64 3)))⟩, ⟨(some 104), none, false, (.load false 1 (.tmp 103))⟩, ⟨(some 105), none, false, (.mov (.tmp 13))⟩, ⟨(some 106), none, false, (.call true (.tmp 105) [(.const (.int .i64 9))])⟩, ⟨(some 107), none, false, (.bin .int .shr (.tmp 106) (.const (.int .u64 6)))⟩, ⟨(some 108), none, false, (.bin .int .and (.tmp 107) (.const (.int .u64 67108863)))⟩, ⟨(some 109), none, false, (.bin .int .add (.tmp 104) (.tmp 108))⟩, ⟨(some 110), none, false, (.idxA 5 1 (.tmp 10) (.const (.int .i64 3)))⟩, ⟨none, none, false, (.store 1 (.tmp 110) (.tmp 109))⟩]) (.seq (.opsD [⟨(some 111), none, false, (.idxA 5 1 (.tmp 10) (.const (.int .i64 4)))⟩, ⟨(some 112), none, false, (.load false 1 (.tmp 111))⟩, ⟨(some 113), none, false, (.mov (.tmp 13))⟩, ⟨(some 114), none, false, (.call true (.tmp 113) [(.const (.int .i64 12))])⟩, ⟨(some 115), none, false, (.bin .int .shr (.tmp 114) (.const (.int .u64 8)))⟩, ⟨(some 116), none, false, (.idxA 17 1 (.tmp 12) (.const (.int .i64 16)))⟩, ⟨(some 117), none, true, (.load false 1 (.tmp 116))⟩, ⟨(some 118), none, false, (.conv .u64 (.tmp 117))⟩, ⟨(some 119), none, false, (.bin .int .shl (.tmp 118) (.const (.int .u64 24)))⟩, ⟨(some 120), none, false, (.bin .int .or (.tmp 115) (.tmp 119))⟩, ⟨(some 121), none, false, (.bin .int .add (.tmp 112) (.tmp 120))⟩, ⟨(some 122), none, false, (.idxA 5 1 (.tmp 10) (.const (.int .i64 4)))⟩, ⟨none, none, false, (.store 1 (.tmp 122) (.tmp 121))⟩]) (.ops [⟨(some 123), none, false, (.load true 5 (.tmp 10))⟩, ⟨(some 124), none, false, (.load true 5 (.tmp 5))⟩, ⟨(some 125), none, false, (.call false (.func 98) [(.tmp 123), (.tmp 124)])⟩, ⟨none, none, false, (.store 5 (.tmp 10) (.tmp 125))⟩])))))))))))))))) (.seq (.opsD [⟨(some 126), none, false, (.load true 5 (.tmp 10))⟩, ⟨(some 127), none, false, (.mov (.tmp 0))⟩, ⟨(some 128), none, false, (.sliceStr (.tmp 127) (some (.const (.int .i64 16))) none)⟩, ⟨(some 129), none, false, (.call false (.func 99) [(.tmp 126), (.tmp 128)])⟩, ⟨none, none, false, (.store 16 (.tmp 4) (.tmp 129))⟩]) .ret))))))))
def m63 : MFun := ⟨k63, [(.cell 4 true 16)]⟩
theorem c63 : compFn Try.prog Try.f63 = some m63 := by kernel_rfl
def k97 : MCode := (.seq (.ops [⟨(some 3), none, false, (.mov (.const (.int .u64 0)))⟩]) (.seq (.ops [⟨(some 4), none, false, (.mov (.tmp 0))⟩, ⟨(some 5), none, false, (.mov (.tmp 0))⟩, ⟨(some 6), none, false, (.bin .int .add (.tmp 5) (.const (.int .i64 4)))⟩, ⟨(some 7), none, false, (.sliceA 17 1 (.tmp 1) (some (.tmp 4)) (some (.tmp 6)))⟩, ⟨(some 8), none, false, (.toStr (.tmp 7))⟩, ⟨(some 9), none, false, (.call false (.func 96) [(.tmp 8)])⟩, ⟨(some 10), none, false, (.conv .u64 (.tmp 9))⟩, ⟨(some 3), none, false, (.mov (.tmp 10))⟩]) .ret))
def m97 : MFun := ⟨k97, [(.tmp 3)]⟩
theorem c97 : compFn Try.prog Try.f97 = some m97 := by kernel_rfl
def k98 : MCode := (.seq (.ops [⟨(some 2), none, false, (.box 1 (.tmp 0))⟩, ⟨(some 3), none, false, (.box 1 (.tmp 1))⟩, ⟨(some 4), none, false, (.alloc [(.int .u64 0), (.int .u64 0), (.int .u64 0), (.int .u64 0), (.int .u64 0)] 1)⟩]) (.seq (.ops [⟨(some 5), none, false, (.alloc [(.int .u64 0), (.int .u64 0), (.int .u64 0), (.int .u64 0), (.int .u64 0)] 1)⟩]) (.seq (.seq (.ops [⟨(some 9), none, false, (.mov (.const (.int .i64 0)))⟩]) (.block 0 (.loop (.seq (.ops [⟨(some 10), none, false, (.bin .int .lss (.tmp 9) (.const (.int .i64 5)))⟩]) (.seq (.cond (.tmp 10) .skip (.exit 0)) (.seq (.block 1 (.seq (.ops [⟨(some 11), none, false, (.mov (.tmp 9))⟩, ⟨(some 6), none, false, (.mov (.tmp 11))⟩]) (.seq (.ops [⟨(some 12), none, false, (.mov (.const (.int .i64 0)))⟩]) (.block 2 (.loop (.seq (.ops [⟨(some 13), none, false, (.bin .int .lss (.tmp 12) (.const (.int .i64 5)))⟩]) (.seq (.cond (.tmp 13) .skip (.exit 2)) (.seq (.block 3 (.seq (.ops [⟨(some 14), none, false, (.mov (.tmp 12))⟩, ⟨(some 7), none, false, (.mov (.tmp 14))⟩]) (.seq (.opsD [⟨(some 15), none, false, (.mov (.tmp 6))⟩, ⟨(some 16), none, false, (.idxA 5 1 (.tmp 2) (.tmp 15))⟩, ⟨(some 17), none, false, (.load false 1 (.tmp 16))⟩, ⟨(some 18), none, false, (.mov (.tmp 7))⟩, ⟨(some 19), none, false, (.idxA 5 1 (.tmp 3) (.tmp 18))⟩, ⟨(some 20), none, false, (.load false 1 (.tmp 19))⟩, ⟨(some 21), none, false, (.bin .int .mul (.tmp 17) (.tmp 20))⟩, ⟨(some 8), none, false, (.mov (.tmp 21))⟩]) (.seq (.seq (.ops [⟨(some 22), none, false, (.mov (.tmp 6))⟩, ⟨(some 23), none, false, (.mov (.tmp 7))⟩, ⟨(some 24), none, false, (.bin .int .add (.tmp 22) (.tmp 23))⟩, ⟨(some 25), none, false, (.bin .int .geq (.tmp 24) (.const (.int .i64 5)))⟩]) (.cond (.tmp 25) (.ops [⟨(some 26), none, false, (.mov (.tmp 8))⟩, ⟨(some 27), none, false, (.bin .int .mul (.tmp 26) (.const (.int .u64 5)))⟩, ⟨(some 8), none, false, (.mov (.tmp 27))⟩]) .skip)) (.ops [⟨(some 28), none, false, (.mov (.tmp 6))⟩, ⟨(some 29), none, false, (.mov (.tmp 7))⟩, ⟨(some 30), none, false, (.bin .int .add (.tmp 28) (.tmp 29))⟩, ⟨(some 31), none, false, (.bin .int .rem (.tmp 30) (.const (.int .i64 5)))⟩, ⟨(some 32), none, false, (.idxA 5 1 (.tmp 5) (.tmp 31))⟩, ⟨(some 33), none, false, (.load false 1 (.tmp 32))⟩, ⟨(some 34), none, false, (.mov (.tmp 8))⟩, ⟨(some 35), none, false, (.bin .int .add (.tmp 33) (.tmp 34))⟩, ⟨(some 36), none, false, (.idxA 5 1 (.tmp 5) (.tmp 31))⟩, ⟨none, none, false, (.store 1 (.tmp 36) (.tmp 35))⟩]))))) (.ops [⟨(some 37), none, false, (.bin .int .add (.tmp 12) (.const (.int .i64 1)))⟩, ⟨(some 12), none, false, (.mov (.tmp 37))⟩]))))))))) (.ops [⟨(some 38), none, false, (.bin .int .add (.tmp 9) (.const (.int .i64 1)))⟩, ⟨(some 9), none, false, (.mov (.tmp 38))⟩]))))))) (.seq (.ops [⟨(some 39), none, false, (.load true 5 (.tmp 5))⟩, ⟨(some 40), none, false, (.call false (.func 115) [(.tmp 39)])⟩, ⟨(some 41), none, false, (.call false (.func 115) [(.tmp 40)])⟩, ⟨none, none, false, (.store 5 (.tmp 4) (.tmp 41))⟩]) .ret))))
def m98 : MFun := ⟨k98, [(.cell 4 true 5)]⟩
theorem c98 : compFn Try.prog Try.f98 = some m98 := by kernel_rfl
def k115 : MCode := (.seq (.ops [⟨(some 1), none, false, (.box 1 (.tmp 0))⟩, ⟨(some 2), none, false, (.alloc [(.int .u64 0), (.int .u64 0), (.int .u64 0), (.int .u64 0), (.int .u64 0)] 1)⟩]) (.seq (.seq (.ops [⟨(some 5), none, false, (.mov (.const (.int .i64 0)))⟩]) (.block 0 (.loop (.seq (.ops [⟨(some 6), none, false, (.bin .int .lss (.tmp 5) (.const (.int .i64 5)))⟩]) (.seq (.cond (.tmp 6) .skip (.exit 0)) (.seq (.block 1 (.seq (.ops [⟨(some 7), none, false, (.mov (.tmp 5))⟩, ⟨(some 3), none, false, (.mov (.tmp 7))⟩]) (.seq (.ops [⟨(some 8), none, false, (.mov (.tmp 3))⟩, ⟨(some 9), none, false, (.idxA 5 1 (.tmp 1) (.tmp 8))⟩, ⟨(some 10), none, false, (.load false 1 (.tmp 9))⟩, ⟨(some 11), none, false, (.bin .int .shr (.tmp 10) (.const (.int .u64 26)))⟩, ⟨(some 4), none, false, (.mov (.tmp 11))⟩]) (.seq (.ops [⟨(some 12), none, false, (.mov (.tmp 3))⟩, ⟨(some 13), none, false, (.idxA 5 1 (.tmp 1) (.tmp 12))⟩, ⟨(some 14), none, false, (.load false 1 (.tmp 13))⟩, ⟨(some 15), none, false, (.bin .int .and (.tmp 14) (.const (.int .u64 67108863)))⟩, ⟨(some 16), none, false, (.idxA 5 1 (.tmp 1) (.tmp 12))⟩, ⟨none, none, false, (.store 1 (.tmp 16) (.tmp 15))⟩]) (.seq (.ops [⟨(some 17), none, false, (.mov (.tmp 3))⟩, ⟨(some 18), none, false, (.bin .int .lss (.tmp 17) (.const (.int .i64 4)))⟩]) (.cond (.tmp 18) (.ops [⟨(some 19), none, false, (.mov (.tmp 3))⟩, ⟨(some 20), none, false, (.bin .int .add (.tmp 19) (.const (.int .i64 1)))⟩, ⟨(some 21), none, false, (.idxA 5 1 (.tmp 1) (.tmp 20))⟩, ⟨(some 22), none, false, (.load false 1 (.tmp 21))⟩, ⟨(some 23), none, false, (.mov (.tmp 4))⟩, ⟨(some 24), none, false, (.bin .int .add (.tmp 22) (.tmp 23))⟩, ⟨(some 25), none, false, (.idxA 5 1 (.tmp 1) (.tmp 20))⟩, ⟨none, none, false, (.store 1 (.tmp 25) (.tmp 24))⟩]) (.ops [⟨(some 26), none, false, (.idxA 5 1 (.tmp 1) (.const (.int .i64 0)))⟩, ⟨(some 27), none, false, (.load false 1 (.tmp 26))⟩, ⟨(some 28), none, false, (.mov (.tmp 4))⟩, ⟨(some 29), none, false, (.bin .int .mul (.const (.int .u64 5)) (.tmp 28))⟩, ⟨(some 30), none, false, (.bin .int .add (.tmp 27) (.tmp 29))⟩, ⟨(some 31), none, false, (.idxA 5 1 (.tmp 1) (.const (.int .i64 0)))⟩, ⟨none, none, false, (.store 1 (.tmp 31) (.tmp 30))⟩]))))))) (.ops [⟨(some 32), none, false, (.bin .int .add (.tmp 5) (.const (.int .i64 1)))⟩, ⟨(some 5), none, false, (.mov (.tmp 32))⟩]))))))) (.seq (.ops [⟨(some 33), none, false, (.load true 5 (.tmp 1))⟩, ⟨none, none, false, (.store 5 (.tmp 2) (.tmp 33))⟩]) .ret)))
def m115 : MFun := ⟨k115, [(.cell 2 true 5)]⟩
theorem c115 : compFn Try.prog Try.f115 = some m115 := by kernel_rfl
def k99 : MCode := (.seq (.ops [⟨(some 2), none, false, (.box 1 (.tmp 0))⟩, ⟨(some 4), none, false, (.alloc [(.int .u8 0), (.int .u8 0), (.int .u8 0), (.int .u8 0), (.int .u8 0), (.int .u8 0), (.int .u8 0), (.int .u8 0), (.int .u8 0), (.int .u8 0), (.int .u8 0), (.int .u8 0), (.int .u8 0), (.int .u8 0), (.int .u8 0), (.int .u8 0)] 1)⟩]) (.seq (.ops [⟨(some 14), none, false, (.load true 5 (.tmp 2))⟩, ⟨(some 15), none, false, (.call false (.func 115) [(.tmp 14)])⟩, ⟨(some 16), none, false, (.call false (.func 115) [(.tmp 15)])⟩, ⟨none, none, false, (.store 5 (.tmp 2) (.tmp 16))⟩]) (.seq (.ops [⟨(some 17), none, false, (.load true 5 (.tmp 2))⟩, ⟨(some 5), none, false, (.alloc [(.int .u64 0), (.int .u64 0), (.int .u64 0), (.int .u64 0), (.int .u64 0)] 1)⟩, ⟨none, none, false, (.store 5 (.tmp 5) (.tmp 17))⟩]) (.seq (.ops [⟨(some 18), none, false, (.idxA 5 1 (.tmp 5) (.const (.int .i64 0)))⟩, ⟨(some 19), none, false, (.load false 1 (.tmp 18))⟩, ⟨(some 20), none, false, (.bin .int .add (.tmp 19) (.const (.int .u64 5)))⟩, ⟨(some 21), none, false, (.idxA 5 1 (.tmp 5) (.const (.int .i64 0)))⟩, ⟨none, none, false, (.store 1 (.tmp 21) (.tmp 20))⟩]) (.seq (.seq (.ops [⟨(some 22), none, false, (.mov (.const (.int .i64 0)))⟩]) (.block 0 (.loop (.seq (.ops [⟨(some 23), none, false, (.bin .int .lss (.tmp 22) (.const (.int .i64 4)))⟩]) (.seq (.cond (.tmp 23) .skip (.exit 0)) (.seq (.block 1 (.seq (.ops [⟨(some 24), none, false, (.mov (.tmp 22))⟩, ⟨(some 6), none, false, (.mov (.tmp 24))⟩]) (.seq (.opsD [⟨(some 25), none, false, (.mov (.tmp 6))⟩, ⟨(some 26), none, false, (.bin .int .add (.tmp 25) (.const (.int .i64 1)))⟩, ⟨(some 27), none, false, (.idxA 5 1 (.tmp 5) (.tmp 26))⟩, ⟨(some 28), none, false, (.load false 1 (.tmp 27))⟩, ⟨(some 29), none, false, (.mov (.tmp 6))⟩, ⟨(some 30), none, false, (.idxA 5 1 (.tmp 5) (.tmp 29))⟩, ⟨(some 31), none, false, (.load false 1 (.tmp 30))⟩, ⟨(some 32), none, false, (.bin .int .shr (.tmp 31) (.const (.int .u64 26)))⟩, ⟨(some 33), none, false, (.bin .int .add (.tmp 28) (.tmp 32))⟩, ⟨(some 34), none, false, (.idxA 5 1 (.tmp 5) (.tmp 26))⟩, ⟨none, none, false, (.store 1 (.tmp 34) (.tmp 33))⟩]) (.ops [⟨(some 35), none, false, (.mov (.tmp 6))⟩, ⟨(some 36), none, false, (.idxA 5 1 (.tmp 5) (.tmp 35))⟩, ⟨(some 37), none, false, (.load false 1 (.tmp 36))⟩, ⟨(some 38), none, false, (.bin .int .and (.tmp 37) (.const (.int .u64 67108863)))⟩, ⟨(some 39), none, false, (.idxA 5 1 (.tmp 5) (.tmp 35))⟩, ⟨none, none, false, (.store 1 (.tmp 39) (.tmp 38))⟩])))) (.ops [⟨(some 40), none, false, (.bin .int .add (.tmp 22) (.const (.int .i64 1)))⟩, ⟨(some 22), none, false, (.mov (.tmp 40))⟩]))))))) (.seq (.seq (.ops [⟨(some 41), none, false, (.idxA 5 1 (.tmp 5) (.const (.int .i64 4)))⟩, ⟨(some 42), none, false, (.load false 1 (.tmp 41))⟩, ⟨(some 43), none, false, (.bin .int .shr (.tmp 42) (.const (.int .u64 26)))⟩, ⟨(some 44), none, false, (.bin .int .gtr (.tmp 43) (.const (.int .u64 0)))⟩]) (.cond (.tmp 44) (.seq (.ops [⟨(some 45), none, false, (.idxA 5 1 (.tmp 5) (.const (.int .i64 4)))⟩, ⟨(some 46), none, false, (.load false 1 (.tmp 45))⟩, ⟨(some 47), none, false, (.bin .int .and (.tmp 46) (.const (.int .u64 67108863)))⟩, ⟨(some 48), none, false, (.idxA 5 1 (.tmp 5) (.const (.int .i64 4)))⟩, ⟨none, none, false, (.store 1 (.tmp 48) (.tmp 47))⟩]) (.ops [⟨(some 49), none, false, (.load true 5 (.tmp 5))⟩, ⟨none, none, false, (.store 5 (.tmp 2) (.tmp 49))⟩])) .skip)) (.seq (.ops [⟨(some 50), none, false, (.idxA 5 1 (.tmp 2) (.const (.int .i64 0)))⟩, ⟨(some 51), none, false, (.load false 1 (.tmp 50))⟩, ⟨(some 52), none, false, (.idxA 5 1 (.tmp 2) (.const (.int .i64 1)))⟩, ⟨(some 53), none, false, (.load false 1 (.tmp 52))⟩, ⟨(some 54), none, false, (.bin .int .shl (.tmp 53) (.const (.int .u64 26)))⟩, ⟨(some 55), none, false, (.bin .int .or (.tmp 51) (.tmp 54))⟩, ⟨(some 56), none, false, (.idxA 5 1 (.tmp 2) (.const (.int .i64 2)))⟩, ⟨(some 57), none, false, (.load false 1 (.tmp 56))⟩, ⟨(some 58), none, false, (.bin .int .shl (.tmp 57) (.const (.int .u64 52)))⟩, ⟨(some 59), none, false, (.bin .int .or (.tmp 55) (.tmp 58))⟩, ⟨(some 7), none, false, (.mov (.tmp 59))⟩]) (.seq (.ops [⟨(some 60), none, false, (.idxA 5 1 (.tmp 2) (.const (.int .i64 2)))⟩, ⟨(some 61), none, false, (.load false 1 (.tmp 60))⟩, ⟨(some 62), none, false, (.bin .int .shr (.tmp 61) (.const (.int .u64 12)))⟩, ⟨(some 63), none, false, (.idxA 5 1 (.tmp 2) (.const (.int .i64 3)))⟩, ⟨(some 64), none, false, (.load false 1 (.tmp 63))⟩, ⟨(some 65), none, false, (.bin .int .shl (.tmp 64) (.const (.int .u64 14)))⟩, ⟨(some 66), none, false, (.bin .int .or (.tmp 62) (.tmp 65))⟩, ⟨(some 67), none, false, (.idxA 5 1 (.tmp 2) (.const (.int .i64 4)))⟩, ⟨(some 68), none, false, (.load false 1 (.tmp 67))⟩, ⟨(some 69), none, false, (.bin .int .shl (.tmp 68) (.const (.int .u64 40)))⟩, ⟨(some 70), none, false, (.bin .int .or (.tmp 66) (.tmp 69))⟩, ⟨(some 8), none, false, (.mov (.tmp 70))⟩]) (.seq (.opsD [⟨(some 71), none, false, (.mov (.tmp 1))⟩, ⟨(some 72), none, false, (.call false (.func 96) [(.tmp 71)])⟩, ⟨(some 73), none, false, (.conv .u64 (.tmp 72))⟩, ⟨(some 74), none, false, (.mov (.tmp 1))⟩, ⟨(some 75), none, false, (.sliceStr (.tmp 74) (some (.const (.int .i64 4))) none)⟩, ⟨(some 76), none, false, (.call false (.func 96) [(.tmp 75)])⟩, ⟨(some 77), none, false, (.conv .u64 (.tmp 76))⟩, ⟨(some 78), none, false, (.bin .int .shl (.tmp 77) (.const (.int .u64 32)))⟩, ⟨(some 79), none, false, (.bin .int .or (.tmp 73) (.tmp 78))⟩, ⟨(some 9), none, false, (.mov (.tmp 79))⟩]) (.seq (.opsD [⟨(some 80), none, false, (.mov (.tmp 1))⟩, ⟨(some 81), none, false, (.sliceStr (.tmp 80) (some (.const (.int .i64 8))) none)⟩, ⟨(some 82), none, false, (.call false (.func 96) [(.tmp 81)])⟩, ⟨(some 83), none, false, (.conv .u64 (.tmp 82))⟩, ⟨(some 84), none, false, (.mov (.tmp 1))⟩, ⟨(some 85), none, false, (.sliceStr (.tmp 84) (some (.const (.int .i64 12))) none)⟩, ⟨(some 86), none, false, (.call false (.func 96) [(.tmp 85)])⟩, ⟨(some 87), none, false, (.conv .u64 (.tmp 86))⟩, ⟨(some 88), none, false, (.bin .int .shl (.tmp 87) (.const (.int .u64 32)))⟩, ⟨(some 89), none, false, (.bin .int .or (.tmp 83) (.tmp 88))⟩, ⟨(some 10), none, false, (.mov (.tmp 89))⟩]) (.seq (.ops [⟨(some 91), none, false, (.mov (.tmp 7))⟩, ⟨(some 92), none, false, (.mov (.tmp 9))⟩, ⟨(some 93), none, false, (.call false (.func 116) [(.tmp 91), (.tmp 92), (.const (.int .u64 0))])⟩, ⟨(some 90), none, false, (.mov (.tmp 93))⟩, ⟨(some 94), none, false, (.extract (.tmp 90) 0)⟩, ⟨(some 95), none, false, (.extract (.tmp 90) 1)⟩, ⟨(some 7), none, false, (.mov (.tmp 94))⟩, ⟨(some 11), none, false, (.mov (.tmp 95))⟩]) (.seq (.ops [⟨(some 97), none, false, (.mov (.tmp 8))⟩, ⟨(some 98), none, false, (.mov (.tmp 10))⟩, ⟨(some 99), none, false, (.mov (.tmp 11))⟩, ⟨(some 100), none, false, (.call false (.func 116) [(.tmp 97), (.tmp 98), (.tmp 99)])⟩, ⟨(some 96), none, false, (.mov (.tmp 100))⟩, ⟨(some 101), none, false, (.extract (.tmp 96) 0)⟩, ⟨(some 102), none, false, (.extract (.tmp 96) 1)⟩, ⟨(some 8), none, false, (.mov (.tmp 101))⟩]) (.seq (.ops [⟨(some 12), none, false, (.alloc [(.int .u8 0), (.int .u8 0), (.int .u8 0), (.int .u8 0), (.int .u8 0), (.int .u8 0), (.int .u8 0), (.int .u8 0), (.int .u8 0), (.int .u8 0), (.int .u8 0), (.int .u8 0), (.int .u8 0), (.int .u8 0), (.int .u8 0), (.int .u8 0)] 1)⟩]) (.seq (.seq (.ops [⟨(some 103), none, false, (.mov (.const (.int .i64 0)))⟩]) (.block 2 (.loop (.seq (.ops [⟨(some 104), none, false, (.bin .int .lss (.tmp 103) (.const (.int .i64 8)))⟩]) (.seq (.cond (.tmp 104) .skip (.exit 2)) (.seq (.block 3 (.seq (.ops [⟨(some 105), none, false, (.mov (.tmp 103))⟩, ⟨(some 13), none, false, (.mov (.tmp 105))⟩]) (.opsD [⟨(some 106), none, false, (.mov (.tmp 13))⟩, ⟨(some 107), none, false, (.mov (.tmp 13))⟩, ⟨(some 108), none, false, (.bin .int .add (.const (.int .i64 8)) (.tmp 107))⟩, ⟨(some 109), none, false, (.mov (.tmp 7))⟩, ⟨(some 110), none, false, (.mov (.tmp 13))⟩, ⟨(some 111), none, false, (.bin .int .mul (.const (.int .i64 8)) (.tmp 110))⟩, ⟨(some 112), none, false, (.bin .int .shr (.tmp 109) (.tmp 111))⟩, ⟨(some 113), none, false, (.conv .u8 (.tmp 112))⟩, ⟨(some 114), none, false, (.mov (.tmp 8))⟩, ⟨(some 115), none, false, (.mov (.tmp 13))⟩, ⟨(some 116), none, false, (.bin .int .mul (.const (.int .i64 8)) (.tmp 115))⟩, ⟨(some 117), none, false, (.bin .int .shr (.tmp 114) (.tmp 116))⟩, ⟨(some 118), none, false, (.conv .u8 (.tmp 117))⟩, ⟨(some 119), none, false, (.idxA 16 1 (.tmp 12) (.tmp 106))⟩, ⟨none, none, false, (.store 1 (.tmp 119) (.tmp 113))⟩, ⟨(some 120), none, false, (.idxA 16 1 (.tmp 12) (.tmp 108))⟩, ⟨none, none, false, (.store 1 (.tmp 120) (.tmp 118))⟩]))) (.ops [⟨(some 121), none, false, (.bin .int .add (.tmp 103) (.const (.int .i64 1)))⟩, ⟨(some 103), none, false, (.mov (.tmp 121))⟩]))))))) (.seq (.ops [⟨(some 122), none, false, (.load true 16 (.tmp 12))⟩, ⟨none, none, false, (.store 16 (.tmp 4) (.tmp 122))⟩]) .ret)))))))))))))))
def m99 : MFun := ⟨k99, [(.cell 4 true 16)]⟩
theorem c99 : compFn Try.prog Try.f99 = some m99 := by kernel_rfl
def k30 : MCode := (.seq (.ops [⟨(some 4), none, false, (.mov (.const (.string ⟨#[]⟩)))⟩]) (.seq (.ops [⟨(some 15), none, false, (.mov (.tmp 0))⟩, ⟨(some 16), none, false, (.sliceStr (.tmp 15) none (some (.const (.int .i64 16))))⟩, ⟨(some 17), none, false, (.call false (.func 64) [(.tmp 16)])⟩, ⟨(some 5), none, false, (.mov (.tmp 17))⟩]) (.seq (.seq (.ops [⟨(some 18), none, false, (.buildSlice [(.int .i64 0), (.int .i64 0), (.int .i64 0), (.int .i64 0)] 1 4 [(0, (1, (.const (.int .i64 3)))), (1, (1, (.const (.int .i64 7)))), (2, (1, (.const (.int .i64 11)))), (3, (1, (.const (.int .i64 15))))])⟩, ⟨(some 19), none, false, (.len (.tmp 18))⟩, ⟨(some 20), none, false, (.mov (.const (.int .i64 0)))⟩]) (.block 0 (.loop (.seq (.ops [⟨(some 21), none, false, (.bin .int .lss (.tmp 20) (.tmp 19))⟩]) (.seq (.cond (.tmp 21) .skip (.exit 0)) (.seq (.block 1 (.seq (.ops [⟨(some 22), none, false, (.idxS 1 (.tmp 18) (.tmp 20))⟩, ⟨(some 23), none, false, (.load false 1 (.tmp 22))⟩, ⟨(some 7), none, false, (.mov (.tmp 23))⟩]) (.ops [⟨(some 24), none, false, (.mov (.tmp 5))⟩, ⟨(some 25), none, false, (.mov (.tmp 7))⟩, ⟨(some 26), none, false, (.idxS 1 (.tmp 24) (.tmp 25))⟩, ⟨(some 27), none, false, (.load false 1 (.tmp 26))⟩, ⟨(some 28), none, false, (.bin .int .and (.tmp 27) (.const (.int .i64 15)))⟩, ⟨(some 29), none, false, (.idxS 1 (.tmp 24) (.tmp 25))⟩, ⟨none, none, false, (.store 1 (.tmp 29) (.tmp 28))⟩]))) (.ops [⟨(some 30), none, false, (.bin .int .add (.tmp 20) (.const (.int .i64 1)))⟩, ⟨(some 20), none, false, (.mov (.tmp 30))⟩]))))))) (.seq (.seq (.ops [⟨(some 31), none, false, (.buildSlice [(.int .i64 0), (.int .i64 0), (.int .i64 0)] 1 3 [(0, (1, (.const (.int .i64 4)))), (1, (1, (.const (.int .i64 8)))), (2, (1, (.const (.int .i64 12))))])⟩, ⟨(some 32), none, false, (.len (.tmp 31))⟩, ⟨(some 33), none, false, (.mov (.const (.int .i64 0)))⟩]) (.block 2 (.loop (.seq (.ops [⟨(some 34), none, false, (.bin .int .lss (.tmp 33) (.tmp 32))⟩]) (.seq (.cond (.tmp 34) .skip (.exit 2)) (.seq (.block 3 (.seq (.ops [⟨(some 35), none, false, (.idxS 1 (.tmp 31) (.tmp 33))⟩, ⟨(some 36), none, false, (.load false 1 (.tmp 35))⟩, ⟨(some 9), none, false, (.mov (.tmp 36))⟩]) (.ops [⟨(some 37), none, false, (.mov (.tmp 5))⟩, ⟨(some 38), none, false, (.mov (.tmp 9))⟩, ⟨(some 39), none, false, (.idxS 1 (.tmp 37) (.tmp 38))⟩, ⟨(some 40), none, false, (.load false 1 (.tmp 39))⟩, ⟨(some 41), none, false, (.bin .int .and (.tmp 40) (.const (.int .i64 252)))⟩, ⟨(some 42), none, false, (.idxS 1 (.tmp 37) (.tmp 38))⟩, ⟨none, none, false, (.store 1 (.tmp 42) (.tmp 41))⟩]))) (.ops [⟨(some 43), none, false, (.bin .int .add (.tmp 33) (.const (.int .i64 1)))⟩, ⟨(some 33), none, false, (.mov (.tmp 43))⟩]))))))) (.seq (.ops [⟨(some 10), none, false, (.mov (.const (.slice none 0 0)))⟩]) (.seq (.seq (.ops [⟨(some 44), none, false, (.mov (.tmp 1))⟩, ⟨(some 45), none, false, (.call false (.func 65) [(.tmp 44), (.const (.int .i64 16))])⟩, ⟨(some 46), none, false, (.len (.tmp 45))⟩, ⟨(some 47), none, false, (.mov (.const (.int .i64 0)))⟩]) (.block 4 (.loop (.seq (.ops [⟨(some 48), none, false, (.bin .int .lss (.tmp 47) (.tmp 46))⟩]) (.seq (.cond (.tmp 48) .skip (.exit 4)) (.seq (.block 5 (.seq (.ops [⟨(some 49), none, false, (.idxS 1 (.tmp 45) (.tmp 47))⟩, ⟨(some 50), none, false, (.load false 1 (.tmp 49))⟩, ⟨(some 12), none, false, (.mov (.tmp 50))⟩]) (.ops [⟨(some 51), none, false, (.mov (.tmp 10))⟩, ⟨(some 52), none, false, (.mov (.tmp 12))⟩, ⟨(some 53), none, false, (.bin .str .add (.tmp 52) (.const (.string ⟨#[1]⟩)))⟩, ⟨(some 54), none, false, (.call false (.func 64) [(.tmp 53)])⟩, ⟨(some 55), none, false, (.call false (.func 68) [(.tmp 51), (.tmp 54)])⟩, ⟨(some 56), none, false, (.mov (.tmp 5))⟩, ⟨(some 57), none, false, (.call false (.func 67) [(.tmp 55), (.tmp 56)])⟩, ⟨(some 58), none, false, (.call false (.func 66) [(.tmp 57)])⟩, ⟨(some 10), none, false, (.mov (.tmp 58))⟩]))) (.ops [⟨(some 59), none, false, (.bin .int .add (.tmp 47) (.const (.int .i64 1)))⟩, ⟨(some 47), none, false, (.mov (.tmp 59))⟩]))))))) (.seq (.ops [⟨(some 60), none, false, (.mov (.tmp 10))⟩, ⟨(some 61), none, false, (.mov (.tmp 0))⟩, ⟨(some 62), none, false, (.sliceStr (.tmp 61) (some (.const (.int .i64 16))) none)⟩, ⟨(some 63), none, false, (.call false (.func 64) [(.tmp 62)])⟩, ⟨(some 64), none, false, (.call false (.func 68) [(.tmp 60), (.tmp 63)])⟩, ⟨(some 10), none, false, (.mov (.tmp 64))⟩]) (.seq (.ops [⟨(some 65), none, false, (.mkSlice [(.int .u8 0)] 1 1 (.const (.int .i64 16)) (.const (.int .i64 16)))⟩, ⟨(some 13), none, false, (.mov (.tmp 65))⟩]) (.seq (.seq (.ops [⟨(some 66), none, false, (.mov (.tmp 13))⟩, ⟨(some 67), none, false, (.len (.tmp 66))⟩, ⟨(some 68), none, false, (.mov (.const (.int .i64 0)))⟩]) (.block 6 (.loop (.seq (.ops [⟨(some 69), none, false, (.bin .int .lss (.tmp 68) (.tmp 67))⟩]) (.seq (.cond (.tmp 69) .skip (.exit 6)) (.seq (.block 7 (.seq (.ops [⟨(some 70), none, false, (.mov (.tmp 68))⟩, ⟨(some 14), none, false, (.mov (.tmp 70))⟩]) (.seq (.ops [⟨(some 71), none, false, (.mov (.tmp 14))⟩, ⟨(some 72), none, false, (.mov (.tmp 10))⟩, ⟨(some 73), none, false, (.len (.tmp 72))⟩, ⟨(some 74), none, false, (.bin .int .lss (.tmp 71) (.tmp 73))⟩]) (.cond (.tmp 74) (.ops [⟨(some 75), none, false, (.mov (.tmp 13))⟩, ⟨(some 76), none, false, (.mov (.tmp 14))⟩, ⟨(some 77), none, false, (.mov (.tmp 10))⟩, ⟨(some 78), none, false, (.mov (.tmp 14))⟩, ⟨(some 79), none, false, (.idxS 1 (.tmp 77) (.tmp 78))⟩, ⟨(some 80), none, false, (.load false 1 (.tmp 79))⟩, ⟨(some 81), none, false, (.conv .u8 (.tmp 80))⟩, ⟨(some 82), none, false, (.idxS 1 (.tmp 75) (.tmp 76))⟩, ⟨none, none, false, (.store 1 (.tmp 82) (.tmp 81))⟩]) .skip)))) (.ops [⟨(some 83), none, false, (.bin .int .add (.tmp 68) (.const (.int .i64 1)))⟩, ⟨(some 68), none, false, (.mov (.tmp 83))⟩]))))))) (.seq (.ops [⟨(some 84), none, false, (.mov (.tmp 13))⟩, ⟨(some 85), none, false, (.toStr (.tmp 84))⟩, ⟨(some 4), none, false, (.mov (.tmp 85))⟩]) .ret))))))))))
def m30 : MFun := ⟨k30, [(.tmp 4)]⟩
def k64 : MCode := (.seq (.ops [⟨(some 2), none, false, (.mov (.const (.slice none 0 0)))⟩]) (.seq (.ops [⟨(some 3), none, false, (.mov (.const (.slice none 0 0)))⟩]) (.seq (.seq (.ops [⟨(some 5), none, false, (.mov (.tmp 0))⟩, ⟨(some 6), none, false, (.lenStr (.tmp 5))⟩, ⟨(some 7), none, false, (.mov (.const (.int .i64 0)))⟩]) (.block 0 (.loop (.seq (.ops [⟨(some 8), none, false, (.bin .int .lss (.tmp 7) (.tmp 6))⟩]) (.seq (.cond (.tmp 8) .skip (.exit 0)) (.seq (.block 1 (.seq (.ops [⟨(some 9), none, false, (.mov (.tmp 7))⟩, ⟨(some 4), none, false, (.mov (.tmp 9))⟩]) (.ops [⟨(some 10), none, false, (.mov (.tmp 3))⟩, ⟨(some 11), none, false, (.mov (.tmp 0))⟩, ⟨(some 12), none, false, (.mov (.tmp 4))⟩, ⟨(some 13), none, false, (.strIdx (.tmp 11) (.tmp 12))⟩, ⟨(some 14), none, false, (.conv .i64 (.tmp 13))⟩, ⟨(some 15), none, false, (.buildSlice [(.int .i64 0)] 1 1 [(0, (1, (.tmp 14)))])⟩, ⟨(some 16), none, false, (.append 1 8 (.tmp 10) (.tmp 15))⟩, ⟨(some 3), none, false, (.mov (.tmp 16))⟩]))) (.ops [⟨(some 17), none, false, (.bin .int .add (.tmp 7) (.const (.int .i64 1)))⟩, ⟨(some 7), none, false, (.mov (.tmp 17))⟩]))))))) (.seq (.ops [⟨(some 18), none, false, (.mov (.tmp 3))⟩, ⟨(some 2), none, false, (.mov (.tmp 18))⟩]) .ret))))
def m64 : MFun := ⟨k64, [(.tmp 2)]⟩
def k66 : MCode := (.seq (.ops [⟨(some 2), none, false, (.mov (.const (.slice none 0 0)))⟩]) (.seq (.block 0 (.loop (.block 1 (.seq (.ops [⟨(some 3), none, false, (.mov (.const (.slice none 0 0)))⟩, ⟨(some 4), none, false, (.mov (.const (.slice none 0 0)))⟩]) (.seq (.seq (.ops [⟨(some 13), none, false, (.mov (.tmp 0))⟩, ⟨(some 14), none, false, (.len (.tmp 13))⟩, ⟨(some 15), none, false, (.mov (.const (.int .i64 0)))⟩]) (.block 2 (.loop (.seq (.ops [⟨(some 16), none, false, (.bin .int .lss (.tmp 15) (.tmp 14))⟩]) (.seq (.cond (.tmp 16) .skip (.exit 2)) (.seq (.block 3 (.seq (.ops [⟨(some 17), none, false, (.mov (.tmp 15))⟩, ⟨(some 18), none, false, (.idxS 1 (.tmp 13) (.tmp 15))⟩, ⟨(some 19), none, false, (.load false 1 (.tmp 18))⟩, ⟨(some 5), none, false, (.mov (.tmp 17))⟩, ⟨(some 6), none, false, (.mov (.tmp 19))⟩]) (.block 4 (.seq (.ops [⟨(some 21), none, false, (.mov (.tmp 5))⟩, ⟨(some 22), none, false, (.bin .int .lss (.tmp 21) (.const (.int .i64 16)))⟩, ⟨(some 20), none, false, (.mov (.tmp 22))⟩]) (.cond (.tmp 20) (.ops [⟨(some 23), none, false, (.mov (.tmp 3))⟩, ⟨(some 24), none, false, (.mov (.tmp 6))⟩, ⟨(some 25), none, false, (.buildSlice [(.int .i64 0)] 1 1 [(0, (1, (.tmp 24)))])⟩, ⟨(some 26), none, false, (.append 1 8 (.tmp 23) (.tmp 25))⟩, ⟨(some 3), none, false, (.mov (.tmp 26))⟩]) (.seq (.ops [⟨(some 28), none, false, (.mov (.tmp 5))⟩, ⟨(some 29), none, false, (.bin .int .eql (.tmp 28) (.const (.int .i64 16)))⟩, ⟨(some 27), none, false, (.mov (.tmp 29))⟩]) (.cond (.tmp 27) (.ops [⟨(some 30), none, false, (.mov (.tmp 3))⟩, ⟨(some 31), none, false, (.mov (.tmp 6))⟩, ⟨(some 32), none, false, (.bin .int .and (.tmp 31) (.const (.int .i64 3)))⟩, ⟨(some 33), none, false, (.buildSlice [(.int .i64 0)] 1 1 [(0, (1, (.tmp 32)))])⟩, ⟨(some 34), none, false, (.append 1 8 (.tmp 30) (.tmp 33))⟩, ⟨(some 3), none, false, (.mov (.tmp 34))⟩]) .skip))))))) (.ops [⟨(some 35), none, false, (.bin .int .add (.tmp 15) (.const (.int .i64 1)))⟩, ⟨(some 15), none, false, (.mov (.tmp 35))⟩]))))))) (.seq (.seq (.ops [⟨(some 7), none, false, (.mov (.const (.int .i64 16)))⟩]) (.block 5 (.loop (.seq (.seq (.ops [⟨(some 36), none, false, (.mov (.tmp 7))⟩, ⟨(some 37), none, false, (.mov (.tmp 0))⟩, ⟨(some 38), none, false, (.len (.tmp 37))⟩, ⟨(some 39), none, false, (.bin .int .lss (.tmp 36) (.tmp 38))⟩]) (.cond (.tmp 39) .skip (.exit 5))) (.seq (.block 6 (.seq (.ops [⟨(some 8), none, false, (.mov (.const (.int .i64 0)))⟩]) (.seq (.seq (.ops [⟨(some 42), none, false, (.mov (.tmp 7))⟩, ⟨(some 43), none, false, (.bin .int .add (.tmp 42) (.const (.int .i64 1)))⟩, ⟨(some 44), none, false, (.mov (.tmp 0))⟩, ⟨(some 45), none, false, (.len (.tmp 44))⟩, ⟨(some 46), none, false, (.bin .int .lss (.tmp 43) (.tmp 45))⟩]) (.cond (.tmp 46) (.ops [⟨(some 47), none, false, (.mov (.tmp 0))⟩, ⟨(some 48), none, false, (.mov (.tmp 7))⟩, ⟨(some 49), none, false, (.bin .int .add (.tmp 48) (.const (.int .i64 1)))⟩, ⟨(some 50), none, false, (.idxS 1 (.tmp 47) (.tmp 49))⟩, ⟨(some 51), none, false, (.load false 1 (.tmp 50))⟩, ⟨(some 8), none, false, (.mov (.tmp 51))⟩]) .skip)) (.ops [⟨(some 52), none, false, (.mov (.tmp 4))⟩, ⟨(some 53), none, false, (.mov (.tmp 0))⟩, ⟨(some 54), none, false, (.mov (.tmp 7))⟩, ⟨(some 55), none, false, (.idxS 1 (.tmp 53) (.tmp 54))⟩, ⟨(some 56), none, false, (.load false 1 (.tmp 55))⟩, ⟨(some 57), none, false, (.bin .int .shr (.tmp 56) (.const (.int .u64 2)))⟩, ⟨(some 58), none, false, (.mov (.tmp 8))⟩, ⟨(some 59), none, false, (.bin .int .shl (.tmp 58) (.const (.int .u64 6)))⟩, ⟨(some 60), none, false, (.bin .int .and (.tmp 59) (.const (.int .i64 255)))⟩, ⟨(some 61), none, false, (.bin .int .or (.tmp 57) (.tmp 60))⟩, ⟨(some 62), none, false, (.buildSlice [(.int .i64 0)] 1 1 [(0, (1, (.tmp 61)))])⟩, ⟨(some 63), none, false, (.append 1 8 (.tmp 52) (.tmp 62))⟩, ⟨(some 4), none, false, (.mov (.tmp 63))⟩])))) (.ops [⟨(some 40), none, false, (.mov (.tmp 7))⟩, ⟨(some 41), none, false, (.bin .int .add (.tmp 40) (.const (.int .i64 1)))⟩, ⟨(some 7), none, false, (.mov (.tmp 41))⟩])))))) (.seq (.ops [⟨(some 9), none, false, (.mov (.const (.bool false)))⟩]) (.seq (.seq (.ops [⟨(some 64), none, false, (.mov (.tmp 4))⟩, ⟨(some 65), none, false, (.len (.tmp 64))⟩, ⟨(some 66), none, false, (.mov (.const (.int .i64 0)))⟩]) (.block 7 (.loop (.seq (.ops [⟨(some 67), none, false, (.bin .int .lss (.tmp 66) (.tmp 65))⟩]) (.seq (.cond (.tmp 67) .skip (.exit 7)) (.seq (.block 8 (.seq (.ops [⟨(some 68), none, false, (.idxS 1 (.tmp 64) (.tmp 66))⟩, ⟨(some 69), none, false, (.load false 1 (.tmp 68))⟩, ⟨(some 11), none, false, (.mov (.tmp 69))⟩]) (.ops [⟨(some 70), none, false, (.mov (.tmp 9))⟩, ⟨(some 71), none, false, (.mov (.tmp 70))⟩, ⟨(some 72), (some (71, false)), false, (.mov (.tmp 11))⟩, ⟨(some 73), (some (71, false)), false, (.bin .int .gtr (.tmp 72) (.const (.int .i64 0)))⟩, ⟨(some 74), none, false, (.pick (.tmp 71) (.const (.bool true)) (.tmp 73))⟩, ⟨(some 9), none, false, (.mov (.tmp 74))⟩]))) (.ops [⟨(some 75), none, false, (.bin .int .add (.tmp 66) (.const (.int .i64 1)))⟩, ⟨(some 66), none, false, (.mov (.tmp 75))⟩]))))))) (.seq (.seq (.ops [⟨(some 76), none, false, (.mov (.tmp 9))⟩, ⟨(some 77), none, false, (.un .not (.tmp 76))⟩]) (.cond (.tmp 77) (.seq (.ops [⟨(some 78), none, false, (.mov (.tmp 3))⟩, ⟨(some 0), none, false, (.mov (.tmp 78))⟩]) (.exit 0)) .skip)) (.ops [⟨(some 79), none, false, (.mov (.tmp 3))⟩, ⟨(some 80), none, false, (.mov (.tmp 4))⟩, ⟨(some 81), none, false, (.buildSlice [(.int .i64 0)] 1 1 [(0, (1, (.const (.int .i64 5))))])⟩, ⟨(some 82), none, false, (.call false (.func 67) [(.tmp 80), (.tmp 81)])⟩, ⟨(some 83), none, false, (.call false (.func 68) [(.tmp 79), (.tmp 82)])⟩, ⟨(some 0), none, false, (.mov (.tmp 83))⟩])))))))))) (.seq (.ops [⟨(some 84), none, false, (.mov (.tmp 0))⟩, ⟨(some 85), none, false, (.buildSlice [(.int .i64 0)] 1 1 [(0, (1, (.const (.int .i64 5))))])⟩, ⟨(some 86), none, false, (.call false (.func 68) [(.tmp 84), (.tmp 85)])⟩, ⟨(some 12), none, false, (.mov (.tmp 86))⟩]) (.seq (.seq (.ops [⟨(some 87), none, false, (.mov (.tmp 12))⟩, ⟨(some 88), none, false, (.len (.tmp 87))⟩, ⟨(some 89), none, false, (.bin .int .gtr (.tmp 88) (.const (.int .i64 16)))⟩, ⟨(some 90), none, false, (.mov (.tmp 89))⟩, ⟨(some 91), (some (90, true)), false, (.mov (.tmp 12))⟩, ⟨(some 92), (some (90, true)), false, (.idxS 1 (.tmp 91) (.const (.int .i64 16)))⟩, ⟨(some 93), (some (90, true)), false, (.load false 1 (.tmp 92))⟩, ⟨(some 94), (some (90, true)), false, (.bin .int .geq (.tmp 93) (.const (.int .i64 4)))⟩, ⟨(some 95), none, false, (.pick (.tmp 90) (.tmp 94) (.const (.bool false)))⟩]) (.cond (.tmp 95) (.seq (.ops [⟨(some 96), none, false, (.mov (.tmp 12))⟩, ⟨(some 97), none, false, (.idxS 1 (.tmp 96) (.const (.int .i64 16)))⟩, ⟨(some 98), none, false, (.load false 1 (.tmp 97))⟩, ⟨(some 99), none, false, (.bin .int .and (.tmp 98) (.const (.int .i64 3)))⟩, ⟨(some 100), none, false, (.idxS 1 (.tmp 96) (.const (.int .i64 16)))⟩, ⟨none, none, false, (.store 1 (.tmp 100) (.tmp 99))⟩]) (.seq (.ops [⟨(some 101), none, false, (.mov (.tmp 12))⟩, ⟨(some 102), none, false, (.sliceS 1 (.tmp 101) none (some (.const (.int .i64 17))))⟩, ⟨(some 2), none, false, (.mov (.tmp 102))⟩]) .ret)) .skip)) (.seq (.ops [⟨(some 103), none, false, (.mov (.tmp 0))⟩, ⟨(some 2), none, false, (.mov (.tmp 103))⟩]) .ret)))))
def m66 : MFun := ⟨k66, [(.tmp 2)]⟩
def k67 : MCode := (.seq (.ops [⟨(some 4), none, false, (.mov (.const (.slice none 0 0)))⟩]) (.seq (.ops [⟨(some 14), none, false, (.mov (.tmp 0))⟩, ⟨(some 15), none, false, (.len (.tmp 14))⟩, ⟨(some 16), none, false, (.mov (.tmp 1))⟩, ⟨(some 17), none, false, (.len (.tmp 16))⟩, ⟨(some 18), none, false, (.bin .int .add (.tmp 15) (.tmp 17))⟩, ⟨(some 19), none, false, (.bin .int .add (.tmp 18) (.const (.int .i64 1)))⟩, ⟨(some 20), none, false, (.mkSlice [(.int .i64 0)] 1 8 (.tmp 19) (.tmp 19))⟩, ⟨(some 5), none, false, (.mov (.tmp 20))⟩]) (.seq (.seq (.ops [⟨(some 21), none, false, (.mov (.tmp 0))⟩, ⟨(some 22), none, false, (.len (.tmp 21))⟩, ⟨(some 23), none, false, (.mov (.const (.int .i64 0)))⟩]) (.block 0 (.loop (.seq (.ops [⟨(some 24), none, false, (.bin .int .lss (.tmp 23) (.tmp 22))⟩]) (.seq (.cond (.tmp 24) .skip (.exit 0)) (.seq (.block 1 (.seq (.ops [⟨(some 25), none, false, (.mov (.tmp 23))⟩, ⟨(some 26), none, false, (.idxS 1 (.tmp 21) (.tmp 23))⟩, ⟨(some 27), none, false, (.load false 1 (.tmp 26))⟩, ⟨(some 6), none, false, (.mov (.tmp 25))⟩, ⟨(some 7), none, false, (.mov (.tmp 27))⟩]) (.seq (.ops [⟨(some 8), none, false, (.mov (.const (.int .i64 0)))⟩]) (.seq (.seq (.ops [⟨(some 28), none, false, (.mov (.tmp 1))⟩, ⟨(some 29), none, false, (.len (.tmp 28))⟩, ⟨(some 30), none, false, (.mov (.const (.int .i64 0)))⟩]) (.block 2 (.loop (.seq (.ops [⟨(some 31), none, false, (.bin .int .lss (.tmp 30) (.tmp 29))⟩]) (.seq (.cond (.tmp 31) .skip (.exit 2)) (.seq (.block 3 (.seq (.ops [⟨(some 32), none, false, (.mov (.tmp 30))⟩, ⟨(some 33), none, false, (.idxS 1 (.tmp 28) (.tmp 30))⟩, ⟨(some 34), none, false, (.load false 1 (.tmp 33))⟩, ⟨(some 9), none, false, (.mov (.tmp 32))⟩, ⟨(some 10), none, false, (.mov (.tmp 34))⟩]) (.seq (.ops [⟨(some 35), none, false, (.mov (.tmp 5))⟩, ⟨(some 36), none, false, (.mov (.tmp 6))⟩, ⟨(some 37), none, false, (.mov (.tmp 9))⟩, ⟨(some 38), none, false, (.bin .int .add (.tmp 36) (.tmp 37))⟩, ⟨(some 39), none, false, (.idxS 1 (.tmp 35) (.tmp 38))⟩, ⟨(some 40), none, false, (.load false 1 (.tmp 39))⟩, ⟨(some 41), none, false, (.mov (.tmp 7))⟩, ⟨(some 42), none, false, (.mov (.tmp 10))⟩, ⟨(some 43), none, false, (.bin .int .mul (.tmp 41) (.tmp 42))⟩, ⟨(some 44), none, false, (.bin .int .add (.tmp 40) (.tmp 43))⟩, ⟨(some 45), none, false, (.mov (.tmp 8))⟩, ⟨(some 46), none, false, (.bin .int .add (.tmp 44) (.tmp 45))⟩, ⟨(some 11), none, false, (.mov (.tmp 46))⟩]) (.seq (.ops [⟨(some 47), none, false, (.mov (.tmp 5))⟩, ⟨(some 48), none, false, (.mov (.tmp 6))⟩, ⟨(some 49), none, false, (.mov (.tmp 9))⟩, ⟨(some 50), none, false, (.bin .int .add (.tmp 48) (.tmp 49))⟩, ⟨(some 51), none, false, (.mov (.tmp 11))⟩, ⟨(some 52), none, false, (.bin .int .and (.tmp 51) (.const (.int .i64 255)))⟩, ⟨(some 53), none, false, (.idxS 1 (.tmp 47) (.tmp 50))⟩, ⟨none, none, false, (.store 1 (.tmp 53) (.tmp 52))⟩]) (.ops [⟨(some 54), none, false, (.mov (.tmp 11))⟩, ⟨(some 55), none, false, (.bin .int .shr (.tmp 54) (.const (.int .u64 8)))⟩, ⟨(some 8), none, false, (.mov (.tmp 55))⟩]))))) (.ops [⟨(some 56), none, false, (.bin .int .add (.tmp 30) (.const (.int .i64 1)))⟩, ⟨(some 30), none, false, (.mov (.tmp 56))⟩]))))))) (.seq (.ops [⟨(some 57), none, false, (.mov (.tmp 6))⟩, ⟨(some 58), none, false, (.mov (.tmp 1))⟩, ⟨(some 59), none, false, (.len (.tmp 58))⟩, ⟨(some 60), none, false, (.bin .int .add (.tmp 57) (.tmp 59))⟩, ⟨(some 12), none, false, (.mov (.tmp 60))⟩]) (.block 4 (.loop (.seq (.seq (.ops [⟨(some 61), none, false, (.mov (.tmp 8))⟩, ⟨(some 62), none, false, (.bin .int .gtr (.tmp 61) (.const (.int .i64 0)))⟩]) (.cond (.tmp 62) .skip (.exit 4))) (.seq (.block 5 (.seq (.ops [⟨(some 65), none, false, (.mov (.tmp 5))⟩, ⟨(some 66), none, false, (.mov (.tmp 12))⟩, ⟨(some 67), none, false, (.idxS 1 (.tmp 65) (.tmp 66))⟩, ⟨(some 68), none, false, (.load false 1 (.tmp 67))⟩, ⟨(some 69), none, false, (.mov (.tmp 8))⟩, ⟨(some 70), none, false, (.bin .int .add (.tmp 68) (.tmp 69))⟩, ⟨(some 13), none, false, (.mov (.tmp 70))⟩]) (.seq (.ops [⟨(some 71), none, false, (.mov (.tmp 5))⟩, ⟨(some 72), none, false, (.mov (.tmp 12))⟩, ⟨(some 73), none, false, (.mov (.tmp 13))⟩, ⟨(some 74), none, false, (.bin .int .and (.tmp 73) (.const (.int .i64 255)))⟩, ⟨(some 75), none, false, (.idxS 1 (.tmp 71) (.tmp 72))⟩, ⟨none, none, false, (.store 1 (.tmp 75) (.tmp 74))⟩]) (.ops [⟨(some 76), none, false, (.mov (.tmp 13))⟩, ⟨(some 77), none, false, (.bin .int .shr (.tmp 76) (.const (.int .u64 8)))⟩, ⟨(some 8), none, false, (.mov (.tmp 77))⟩])))) (.ops [⟨(some 63), none, false, (.mov (.tmp 12))⟩, ⟨(some 64), none, false, (.bin .int .add (.tmp 63) (.const (.int .i64 1)))⟩, ⟨(some 12), none, false, (.mov (.tmp 64))⟩])))))))))) (.ops [⟨(some 78), none, false, (.bin .int .add (.tmp 23) (.const (.int .i64 1)))⟩, ⟨(some 23), none, false, (.mov (.tmp 78))⟩]))))))) (.seq (.ops [⟨(some 79), none, false, (.mov (.tmp 5))⟩, ⟨(some 4), none, false, (.mov (.tmp 79))⟩]) .ret))))
def m67 : MFun := ⟨k67, [(.tmp 4)]⟩
def k68 : MCode := (.seq (.ops [⟨(some 4), none, false, (.mov (.const (.slice none 0 0)))⟩]) (.seq (.ops [⟨(some 5), none, false, (.mov (.const (.slice none 0 0)))⟩]) (.seq (.ops [⟨(some 6), none, false, (.mov (.const (.int .i64 0)))⟩]) (.seq (.seq (.ops [⟨(some 7), none, false, (.mov (.const (.int .i64 0)))⟩]) (.block 0 (.loop (.seq (.seq (.ops [⟨(some 9), none, false, (.mov (.tmp 7))⟩, ⟨(some 10), none, false, (.mov (.tmp 0))⟩, ⟨(some 11), none, false, (.len (.tmp 10))⟩, ⟨(some 12), none, false, (.bin .int .lss (.tmp 9) (.tmp 11))⟩, ⟨(some 13), none, false, (.mov (.tmp 12))⟩, ⟨(some 14), (some (13, false)), false, (.mov (.tmp 7))⟩, ⟨(some 15), (some (13, false)), false, (.mov (.tmp 1))⟩, ⟨(some 16), (some (13, false)), false, (.len (.tmp 15))⟩, ⟨(some 17), (some (13, false)), false, (.bin .int .lss (.tmp 14) (.tmp 16))⟩, ⟨(some 18), none, false, (.pick (.tmp 13) (.const (.bool true)) (.tmp 17))⟩, ⟨(some 19), none, false, (.mov (.tmp 18))⟩, ⟨(some 20), (some (19, false)), false, (.mov (.tmp 6))⟩, ⟨(some 21), (some (19, false)), false, (.bin .int .gtr (.tmp 20) (.const (.int .i64 0)))⟩, ⟨(some 22), none, false, (.pick (.tmp 19) (.const (.bool true)) (.tmp 21))⟩]) (.cond (.tmp 22) .skip (.exit 0))) (.seq (.block 1 (.seq (.ops [⟨(some 25), none, false, (.mov (.tmp 6))⟩, ⟨(some 8), none, false, (.mov (.tmp 25))⟩]) (.seq (.seq (.ops [⟨(some 26), none, false, (.mov (.tmp 7))⟩, ⟨(some 27), none, false, (.mov (.tmp 0))⟩, ⟨(some 28), none, false, (.len (.tmp 27))⟩, ⟨(some 29), none, false, (.bin .int .lss (.tmp 26) (.tmp 28))⟩]) (.cond (.tmp 29) (.ops [⟨(some 30), none, false, (.mov (.tmp 8))⟩, ⟨(some 31), none, false, (.mov (.tmp 0))⟩, ⟨(some 32), none, false, (.mov (.tmp 7))⟩, ⟨(some 33), none, false, (.idxS 1 (.tmp 31) (.tmp 32))⟩, ⟨(some 34), none, false, (.load false 1 (.tmp 33))⟩, ⟨(some 35), none, false, (.bin .int .add (.tmp 30) (.tmp 34))⟩, ⟨(some 8), none, false, (.mov (.tmp 35))⟩]) .skip)) (.seq (.seq (.ops [⟨(some 36), none, false, (.mov (.tmp 7))⟩, ⟨(some 37), none, false, (.mov (.tmp 1))⟩, ⟨(some 38), none, false, (.len (.tmp 37))⟩, ⟨(some 39), none, false, (.bin .int .lss (.tmp 36) (.tmp 38))⟩]) (.cond (.tmp 39) (.ops [⟨(some 40), none, false, (.mov (.tmp 8))⟩, ⟨(some 41), none, false, (.mov (.tmp 1))⟩, ⟨(some 42), none, false, (.mov (.tmp 7))⟩, ⟨(some 43), none, false, (.idxS 1 (.tmp 41) (.tmp 42))⟩, ⟨(some 44), none, false, (.load false 1 (.tmp 43))⟩, ⟨(some 45), none, false, (.bin .int .add (.tmp 40) (.tmp 44))⟩, ⟨(some 8), none, false, (.mov (.tmp 45))⟩]) .skip)) (.seq (.ops [⟨(some 46), none, false, (.mov (.tmp 5))⟩, ⟨(some 47), none, false, (.mov (.tmp 8))⟩, ⟨(some 48), none, false, (.bin .int .and (.tmp 47) (.const (.int .i64 255)))⟩, ⟨(some 49), none, false, (.buildSlice [(.int .i64 0)] 1 1 [(0, (1, (.tmp 48)))])⟩, ⟨(some 50), none, false, (.append 1 8 (.tmp 46) (.tmp 49))⟩, ⟨(some 5), none, false, (.mov (.tmp 50))⟩]) (.ops [⟨(some 51), none, false, (.mov (.tmp 8))⟩, ⟨(some 52), none, false, (.bin .int .shr (.tmp 51) (.const (.int .u64 8)))⟩, ⟨(some 6), none, false, (.mov (.tmp 52))⟩])))))) (.ops [⟨(some 23), none, false, (.mov (.tmp 7))⟩, ⟨(some 24), none, false, (.bin .int .add (.tmp 23) (.const (.int .i64 1)))⟩, ⟨(some 7), none, false, (.mov (.tmp 24))⟩])))))) (.seq (.ops [⟨(some 53), none, false, (.mov (.tmp 5))⟩, ⟨(some 4), none, false, (.mov (.tmp 53))⟩]) .ret)))))
def m68 : MFun := ⟨k68, [(.tmp 4)]⟩
end Go.Proofs.Ytildhljhbbhmmaa.AM
namespace Go.Proofs.Ytildhljhbbhmmaa.AM
open Go
set_option linter.all false
set_option maxRecDepth 10000
variable {tbl : Tbl} [hT : TMono tbl]

/-! ### Rows of numbers -/
def row (k : IntKind) (x : List Int) : Blk := ⟨x.map (Value.int k), 1, false⟩
theorem row_len {k : IntKind} {x : List Int} : (row k x).cells.length = x.length := by simp [row]
theorem row_ro {k : IntKind} {x : List Int} : (row k x).ro = false := rfl
theorem row_es {k : IntKind} {x : List Int} : (row k x).es = 1 := rfl
theorem row_at {k : IntKind} {x : List Int} {i : Nat} (h : i < x.length) : List.take 1 (List.drop i (row k x).cells) = [.int k (gw x i)] := by
  rw [take_one (by rw [row_len]; exact h)]
  simp [row, gw, h]
theorem row_set {k : IntKind} {x : List Int} {i : Nat} {n : Int} : (⟨(row k x).cells.set i (.int k n), 1, false⟩ : Blk) = row k (x.set i n) := by
  simp [row, List.map_set]
theorem row_all {k : IntKind} {x : List Int} {n : Nat} (h : x.length = n) : List.take n (row k x).cells = x.map (Value.int k) := by
  rw [List.take_of_length_le (by rw [row_len]; omega)]; rfl
theorem row_p1 (k : IntKind) (x : List Int) : (x.map (Value.int k)).all p1 = true := by
  induction x with
  | nil => rfl
  | cons b l ih => simp only [List.map_cons, List.all_cons, ih, Bool.and_true]; rfl
theorem agg_row (k : IntKind) (x : List Int) : p3 (.agg (x.map (Value.int k)).toArray) = true := by
  show ((x.map (Value.int k)).toArray.toList).all p1 = true
  rw [List.toList_toArray]
  exact row_p1 k x
theorem gw_set {x : List Int} {i j : Nat} {n : Int} : gw (x.set i n) j = if i = j ∧ i < x.length then n else gw x j := by
  simp only [gw, List.getD_eq_getElem?_getD, List.getElem?_set]
  by_cases h : i = j
  · subst h
    by_cases h2 : i < x.length
    · simp [h2]
    · simp [h2]
  · simp [h]
/-! ### Bits of long words -/
theorem u64wrap (n : Int) : IntKind.wrap .u64 n = n % 18446744073709551616 := by simp [IntKind.wrap, IntKind.bits, IntKind.signed]
theorem and64 (x y : Nat) (hx : x < 18446744073709551616) (hy : y < 18446744073709551616) : bitsK .and .u64 (x : Int) (y : Int) = ((x &&& y : Nat) : Int) := by
  simp only [bitsK, BitVec.toNat_and, ofInt_nat]
  have e1 : x % 2 ^ IntKind.u64.bits = x := Nat.mod_eq_of_lt hx
  have e2 : y % 2 ^ IntKind.u64.bits = y := Nat.mod_eq_of_lt hy
  rw [e1, e2]
  have := Nat.and_lt_two_pow (n := 64) x hy
  exact u64w (by omega) (by omega)
theorem or64 (x y : Nat) (hx : x < 18446744073709551616) (hy : y < 18446744073709551616) : bitsK .or .u64 (x : Int) (y : Int) = ((x ||| y : Nat) : Int) := by
  simp only [bitsK, BitVec.toNat_or, ofInt_nat]
  have e1 : x % 2 ^ IntKind.u64.bits = x := Nat.mod_eq_of_lt hx
  have e2 : y % 2 ^ IntKind.u64.bits = y := Nat.mod_eq_of_lt hy
  rw [e1, e2]
  have := Nat.or_lt_two_pow (n := 64) hx hy
  exact u64w (by omega) (by omega)
theorem mask26 {x : Int} (h : 0 ≤ x ∧ x < 18446744073709551616) : bitsK .and .u64 x 67108863 = x % 67108864 := by
  obtain ⟨n, rfl⟩ : ∃ n : Nat, x = n := ⟨x.toNat, by omega⟩
  have e := and64 n 67108863 (by omega) (by omega)
  rw [show ((67108863 : Nat) : Int) = 67108863 from rfl] at e
  rw [e, show (67108863 : Nat) = 2 ^ 26 - 1 from rfl, Nat.and_two_pow_sub_one_eq_mod]
  rfl
theorem shr64 {x : Int} {j : Nat} (hj : j ≤ 64) : shiftK .shr .u64 x (j : Int) = x / 2 ^ j := by
  simp only [shiftK, Int.toNat_natCast]
  rw [show IntKind.u64.bits = 64 from rfl, show Nat.min j 64 = j from Nat.min_eq_left hj, Int.fdiv_eq_ediv_of_nonneg _ (by
    have : (0 : Int) ≤ ((2 ^ j : Nat) : Int) := Int.natCast_nonneg _
    simpa using this)]
theorem shr26 {x : Int} : shiftK .shr .u64 x 26 = x / 67108864 := by
  have := shr64 (x := x) (j := 26) (by omega)
  exact this
def R64 (x : List Int) : Prop := ∀ i, i < x.length → 0 ≤ gw x i ∧ gw x i < 18446744073709551616
theorem R64.set {x : List Int} (h : R64 x) {i : Nat} {n : Int} (hn : 0 ≤ n ∧ n < 18446744073709551616) : R64 (x.set i n) := by
  intro j hj
  rw [gw_set]
  rw [List.length_set] at hj
  split
  · exact hn
  · exact h j hj
theorem wrap_R (n : Int) : 0 ≤ IntKind.wrap .u64 n ∧ IntKind.wrap .u64 n < 18446744073709551616 := by rw [u64wrap]; omega
/-! ### Carries -/
def carS (d : List Int) (i : Nat) : List Int :=
  if i < 4 then (d.set i (gw d i % 67108864)).set (i + 1) (IntKind.wrap .u64 (gw (d.set i (gw d i % 67108864)) (i + 1) + gw d i / 67108864))
  else (d.set i (gw d i % 67108864)).set 0 (IntKind.wrap .u64 (gw (d.set i (gw d i % 67108864)) 0 + IntKind.wrap .u64 (5 * (gw d i / 67108864))))
def carN (d : List Int) : Nat → List Int
  | 0 => d
  | i + 1 => carS (carN d i) i
theorem carS_len {d : List Int} {i : Nat} : (carS d i).length = d.length := by unfold carS; split <;> simp
theorem carN_len {d : List Int} : ∀ i, (carN d i).length = d.length := by
  intro i
  induction i with
  | zero => rfl
  | succ i ih => simp only [carN, carS_len, ih]
theorem carS_R {d : List Int} (h : R64 d) {i : Nat} (hi : i < d.length) : R64 (carS d i) := by
  have hd := h i hi
  have h1 : R64 (d.set i (gw d i % 67108864)) := h.set (by omega)
  unfold carS
  split
  · exact h1.set (wrap_R _)
  · exact h1.set (wrap_R _)
theorem carN_R {d : List Int} (h : R64 d) : ∀ i, i ≤ d.length → R64 (carN d i) := by
  intro i
  induction i with
  | zero => intro _; exact h
  | succ i ih => intro hi; exact carS_R (ih (by omega)) (by rw [carN_len]; omega)
theorem v115 (h115 : tbl 115 = some (.code m115)) (d : List Int) (hd : d.length = 5) (hr : R64 d) (H : AH) : Val tbl 115 [.agg (d.map (Value.int .u64)).toArray] H (.agg ((carN d 5).map (Value.int .u64)).toArray) H := by
  refine Val.of_all fun Q hQ => ?_
  rw [rn_fun h115, k115]
  have hone := p1_one (row_p1 .u64 d)
  simp only [List.toList_toArray, hone, go_sem, Nat.reduceEqDiff, Nat.reduceAdd, Nat.reduceLeDiff, Int.reduceEq, Int.reduceLT, Int.reduceLE, Int.reduceAdd, Int.reduceSub, Int.reduceMul, Int.reduceNeg, Int.reduceToNat, Nat.reduceMul]
  refine rn_loop (fun m f H' => ∃ i : Nat, i ≤ 5 ∧ m = 5 - i ∧ f 1 = .pointer (some ⟨H.next, 0, none⟩) ∧ f 2 = .pointer (some ⟨H.next + 1, 0, none⟩) ∧ f 5 = .int .i64 i ∧ H'.next = H.next + 2 ∧ H.next ≤ H'.low ∧ H'.get H.next = some (row .u64 (carN d i)) ∧ H'.get (H.next + 1) = some (row .u64 [0, 0, 0, 0, 0])) ?_ (n := 5)
    ⟨0, by omega, rfl, by simp only [go_sem, Nat.reduceEqDiff, Nat.reduceAdd, Nat.reduceLeDiff, Int.reduceEq, Int.reduceLT, Int.reduceLE, Int.reduceAdd, Int.reduceSub, Int.reduceMul, Int.reduceNeg, Int.reduceToNat, Nat.reduceMul], by simp only [go_sem, Nat.reduceEqDiff, Nat.reduceAdd, Nat.reduceLeDiff, Int.reduceEq, Int.reduceLT, Int.reduceLE, Int.reduceAdd, Int.reduceSub, Int.reduceMul, Int.reduceNeg, Int.reduceToNat, Nat.reduceMul], by simp only [go_sem, Nat.reduceEqDiff, Nat.reduceAdd, Nat.reduceLeDiff, Int.reduceEq, Int.reduceLT, Int.reduceLE, Int.reduceAdd, Int.reduceSub, Int.reduceMul, Int.reduceNeg, Int.reduceToNat, Nat.reduceMul] <;> rfl, by rw [AH.next_push, AH.next_push, nx_enter], by rw [lw_push, lw_push, lw_enter]; omega, ?_, ?_⟩
  · rintro m f H' ⟨i, hi, rfl, f1, f2, f5, n1, l1, g1, g2⟩
    have hlen := carN_len (d := d) i
    rw [hd] at hlen
    by_cases hlt : (i : Int) < 5
    · have i5 : i < 5 := by omega
      have i0 : (0 : Int) ≤ i := by omega
      have i1 : i + 1 ≤ 5 := by omega
      have hR := carN_R hr i (by omega)
      have hRi := hR i (by omega)
      have wi := w64 (x := (i : Int) + 1) (by omega) (by omega)
      have hlt2 : H.next < H.next + 2 := by omega
      have ha := row_at (k := .u64) (x := carN d i) (i := i) (by omega)
      have hm := mask26 hRi
      have ti : ((i : Int) + 1).toNat = i + 1 := by omega
      have i01 : (0 : Int) ≤ i + 1 := by omega
      by_cases h4 : (i : Int) < 4
      · have i4 : (i : Int) + 1 < 5 := by omega
        have i2 : i + 1 + 1 ≤ 5 := by omega
        have hcs : carN d (i + 1) = carS (carN d i) i := rfl
        rw [carS, if_pos (by omega)] at hcs
        have hb := row_at (k := .u64) (x := (carN d i).set i (gw (carN d i) i % 67108864)) (i := i + 1) (by rw [List.length_set]; omega)
        simp only [f1, f2, f5, hlt, h4, i0, i1, i4, i2, i01, ti, wi, n1, hlt2, g1, row_len, row_ro, row_es, hlen, ha, hb, hm, shr26, Int.toNat_natCast, List.length_set, stc_eq, stB_some, set_get, set_set, AH.next_set, addA, Nat.zero_add, splice_one, row_set, ← hcs, go_sem, Nat.reduceEqDiff, Nat.reduceAdd, Nat.reduceLeDiff, Int.reduceEq, Int.reduceLT, Int.reduceLE, Int.reduceAdd, Int.reduceSub, Int.reduceMul, Int.reduceNeg, Int.reduceToNat, Nat.reduceMul]
        exact ⟨5 - (i + 1), by omega, i + 1, by omega, rfl, by simp only [f1, go_sem, Nat.reduceEqDiff, Nat.reduceAdd, Nat.reduceLeDiff, Int.reduceEq, Int.reduceLT, Int.reduceLE, Int.reduceAdd, Int.reduceSub, Int.reduceMul, Int.reduceNeg, Int.reduceToNat, Nat.reduceMul], by simp only [f2, go_sem, Nat.reduceEqDiff, Nat.reduceAdd, Nat.reduceLeDiff, Int.reduceEq, Int.reduceLT, Int.reduceLE, Int.reduceAdd, Int.reduceSub, Int.reduceMul, Int.reduceNeg, Int.reduceToNat, Nat.reduceMul], by simp only [go_sem, Nat.reduceEqDiff, Nat.reduceAdd, Nat.reduceLeDiff, Int.reduceEq, Int.reduceLT, Int.reduceLE, Int.reduceAdd, Int.reduceSub, Int.reduceMul, Int.reduceNeg, Int.reduceToNat, Nat.reduceMul] <;> rfl, by rw [AH.next_set, n1], by rw [lw_set]; omega, AH.get_set_eq H' _ (by omega), by rw [AH.get_set_ne _ _ (by omega)]; exact g2⟩
      · have i4 : i = 4 := by omega
        have hcs : carN d (i + 1) = carS (carN d i) i := rfl
        rw [carS, if_neg (by omega)] at hcs
        have hb := row_at (k := .u64) (x := (carN d i).set i (gw (carN d i) i % 67108864)) (i := 0) (by rw [List.length_set]; omega)
        rw [List.drop_zero] at hb
        simp only [f1, f2, f5, hlt, h4, i0, i1, wi, n1, hlt2, g1, row_len, row_ro, row_es, hlen, ha, hb, hm, shr26, Int.toNat_natCast, List.length_set, stc_eq, stB_some, set_get, set_set, AH.next_set, addA, Nat.zero_add, Nat.add_zero, splice_one, row_set, ← hcs, go_sem, Nat.reduceEqDiff, Nat.reduceAdd, Nat.reduceLeDiff, Int.reduceEq, Int.reduceLT, Int.reduceLE, Int.reduceAdd, Int.reduceSub, Int.reduceMul, Int.reduceNeg, Int.reduceToNat, Nat.reduceMul]
        exact ⟨5 - (i + 1), by omega, i + 1, by omega, rfl, by simp only [f1, go_sem, Nat.reduceEqDiff, Nat.reduceAdd, Nat.reduceLeDiff, Int.reduceEq, Int.reduceLT, Int.reduceLE, Int.reduceAdd, Int.reduceSub, Int.reduceMul, Int.reduceNeg, Int.reduceToNat, Nat.reduceMul], by simp only [f2, go_sem, Nat.reduceEqDiff, Nat.reduceAdd, Nat.reduceLeDiff, Int.reduceEq, Int.reduceLT, Int.reduceLE, Int.reduceAdd, Int.reduceSub, Int.reduceMul, Int.reduceNeg, Int.reduceToNat, Nat.reduceMul], by simp only [go_sem, Nat.reduceEqDiff, Nat.reduceAdd, Nat.reduceLeDiff, Int.reduceEq, Int.reduceLT, Int.reduceLE, Int.reduceAdd, Int.reduceSub, Int.reduceMul, Int.reduceNeg, Int.reduceToNat, Nat.reduceMul] <;> rfl, by rw [AH.next_set, n1], by rw [lw_set]; omega, AH.get_set_eq H' _ (by omega), by rw [AH.get_set_ne _ _ (by omega)]; exact g2⟩
    · have hi5 : i = 5 := by omega
      subst hi5
      have hl2 : H.next + 1 < H.next + 2 := by omega
      have htk := row_all (k := .u64) hlen
      have hone2 := p1_one (row_p1 .u64 (carN d 5))
      have hml : ((carN d 5).map (Value.int .u64)).length = 5 := by simp [hlen]
      have hsp : splice (row .u64 [0, 0, 0, 0, 0]).cells 0 ((carN d 5).map (Value.int .u64)) = (carN d 5).map (Value.int .u64) := splice_all (by rw [hml]; rfl)
      have hg : ∀ X : Option Blk, (H'.set (H.next + 1) X).get (H.next + 1) = X := fun X => AH.get_set_eq _ _ (by omega)
      have htk2 : List.take 5 ((carN d 5).map (Value.int .u64)) = (carN d 5).map (Value.int .u64) := List.take_of_length_le (by omega)
      have hl0 : ([0, 0, 0, 0, 0] : List Int).length = 5 := rfl
      have hlow2 : ∀ X : Option Blk, ¬ (H'.set (H.next + 1) X).low < H.next := fun X => by rw [lw_set]; omega
      simp only [f1, f2, f5, hlt, n1, hl2, g1, g2, row_len, row_ro, row_es, hlen, hl0, htk, hone2, hml, hsp, List.toList_toArray, stc_eq, stB_some, go_sem, Nat.reduceEqDiff, Nat.reduceAdd, Nat.reduceLeDiff, Int.reduceEq, Int.reduceLT, Int.reduceLE, Int.reduceAdd, Int.reduceSub, Int.reduceMul, Int.reduceNeg, Int.reduceToNat, Nat.reduceMul]
      simp only [resL, resV, upd_ne, f2, hg, hml, htk2, go_sem, Nat.reduceEqDiff, Nat.reduceAdd, Nat.reduceLeDiff, Int.reduceEq, Int.reduceLT, Int.reduceLE, Int.reduceAdd, Int.reduceSub, Int.reduceMul, Int.reduceNeg, Int.reduceToNat, Nat.reduceMul]
      rw [back_p3 (hlow2 _) (agg_row .u64 _)]
      exact hQ
  · rw [AH.get_push_lt _ _ (by rw [AH.next_push, nx_enter]; omega)]
    exact AH.get_push_eq H.enter _
  · have := AH.get_push_eq (H.enter.push (row .u64 d)) (row .u64 [0, 0, 0, 0, 0])
    rw [AH.next_push, nx_enter] at this
    exact this
end Go.Proofs.Ytildhljhbbhmmaa.AM
namespace Go.Proofs.Ytildhljhbbhmmaa.AM
open Go
set_option linter.all false
set_option maxRecDepth 10000
variable {tbl : Tbl} [hT : TMono tbl]

def mulX (h r : List Int) (i k : Nat) : Int := if 5 ≤ i + k then IntKind.wrap .u64 (IntKind.wrap .u64 (gw h i * gw r k) * 5) else IntKind.wrap .u64 (gw h i * gw r k)
def prS (h r d : List Int) (i k : Nat) : List Int := d.set ((i + k) % 5) (IntKind.wrap .u64 (gw d ((i + k) % 5) + mulX h r i k))
def prK (h r d : List Int) (i : Nat) : Nat → List Int
  | 0 => d
  | k + 1 => prS h r (prK h r d i k) i k
def prN (h r : List Int) : Nat → List Int
  | 0 => [0, 0, 0, 0, 0]
  | i + 1 => prK h r (prN h r i) i 5
theorem prK_len {h r d : List Int} {i : Nat} : ∀ k, (prK h r d i k).length = d.length := by
  intro k
  induction k with
  | zero => rfl
  | succ k ih => simp only [prK, prS, List.length_set, ih]
theorem prN_len {h r : List Int} : ∀ i, (prN h r i).length = 5 := by
  intro i
  induction i with
  | zero => rfl
  | succ i ih => simp only [prN, prK_len, ih]
theorem prK_R {h r d : List Int} (hd : R64 d) {i : Nat} : ∀ k, R64 (prK h r d i k) := by
  intro k
  induction k with
  | zero => exact hd
  | succ k ih => exact ih.set (wrap_R _)
theorem prN_R {h r : List Int} : ∀ i, R64 (prN h r i) := by
  intro i
  induction i with
  | zero =>
    intro j hj
    match j, hj with
    | 0, _ | 1, _ | 2, _ | 3, _ | 4, _ => show (0 : Int) ≤ 0 ∧ (0 : Int) < 18446744073709551616; omega
  | succ i ih => exact prK_R ih 5
def mulL (h r : List Int) : List Int := carN (carN (prN h r 5) 5) 5
structure PSt (H H' : AH) (h r d : List Int) : Prop where
  nx : H'.next = H.next + 4
  low : H.next ≤ H'.low
  g2 : H'.get H.next = some (row .u64 h)
  g3 : H'.get (H.next + 1) = some (row .u64 r)
  g4 : H'.get (H.next + 2) = some (row .u64 [0, 0, 0, 0, 0])
  g5 : H'.get (H.next + 3) = some (row .u64 d)
theorem PSt.turn {H H' : AH} {h r d : List Int} (st : PSt H H' h r d) (d' : List Int) : PSt H (H'.set (H.next + 3) (some (row .u64 d'))) h r d' := by
  have := st.nx
  have := st.low
  exact ⟨by rw [AH.next_set]; exact st.nx, by rw [lw_set]; omega, by rw [AH.get_set_ne _ _ (by omega)]; exact st.g2, by rw [AH.get_set_ne _ _ (by omega)]; exact st.g3, by rw [AH.get_set_ne _ _ (by omega)]; exact st.g4, AH.get_set_eq _ _ (by omega)⟩
theorem v98 (h115 : tbl 115 = some (.code m115)) (h98 : tbl 98 = some (.code m98)) (h r : List Int) (hh : h.length = 5) (hr : r.length = 5) (H : AH) : Val tbl 98 [.agg (h.map (Value.int .u64)).toArray, .agg (r.map (Value.int .u64)).toArray] H (.agg ((mulL h r).map (Value.int .u64)).toArray) H := by
  refine Val.of_all fun Q hQ => ?_
  rw [rn_fun h98, k98]
  have hone := p1_one (row_p1 .u64 h)
  have hone2 := p1_one (row_p1 .u64 r)
  simp only [List.toList_toArray, hone, hone2, go_sem, Nat.reduceEqDiff, Nat.reduceAdd, Nat.reduceLeDiff, Int.reduceEq, Int.reduceLT, Int.reduceLE, Int.reduceAdd, Int.reduceSub, Int.reduceMul, Int.reduceNeg, Int.reduceToNat, Nat.reduceMul]
  refine rn_loop (fun m f H' => ∃ i : Nat, i ≤ 5 ∧ m = 5 - i ∧ f 2 = .pointer (some ⟨H.next, 0, none⟩) ∧ f 3 = .pointer (some ⟨H.next + 1, 0, none⟩) ∧ f 4 = .pointer (some ⟨H.next + 2, 0, none⟩) ∧ f 5 = .pointer (some ⟨H.next + 3, 0, none⟩) ∧ f 9 = .int .i64 i ∧ PSt H H' h r (prN h r i)) ?_ (n := 5)
    ⟨0, by omega, rfl, by simp only [go_sem, Nat.reduceEqDiff, Nat.reduceAdd, Nat.reduceLeDiff, Int.reduceEq, Int.reduceLT, Int.reduceLE, Int.reduceAdd, Int.reduceSub, Int.reduceMul, Int.reduceNeg, Int.reduceToNat, Nat.reduceMul], by simp only [go_sem, Nat.reduceEqDiff, Nat.reduceAdd, Nat.reduceLeDiff, Int.reduceEq, Int.reduceLT, Int.reduceLE, Int.reduceAdd, Int.reduceSub, Int.reduceMul, Int.reduceNeg, Int.reduceToNat, Nat.reduceMul], by simp only [go_sem, Nat.reduceEqDiff, Nat.reduceAdd, Nat.reduceLeDiff, Int.reduceEq, Int.reduceLT, Int.reduceLE, Int.reduceAdd, Int.reduceSub, Int.reduceMul, Int.reduceNeg, Int.reduceToNat, Nat.reduceMul], by simp only [go_sem, Nat.reduceEqDiff, Nat.reduceAdd, Nat.reduceLeDiff, Int.reduceEq, Int.reduceLT, Int.reduceLE, Int.reduceAdd, Int.reduceSub, Int.reduceMul, Int.reduceNeg, Int.reduceToNat, Nat.reduceMul], by simp only [go_sem, Nat.reduceEqDiff, Nat.reduceAdd, Nat.reduceLeDiff, Int.reduceEq, Int.reduceLT, Int.reduceLE, Int.reduceAdd, Int.reduceSub, Int.reduceMul, Int.reduceNeg, Int.reduceToNat, Nat.reduceMul] <;> rfl, ⟨?_, ?_, ?_, ?_, ?_, ?_⟩⟩
  · rintro m f H' ⟨i, hi, rfl, f2, f3, f4, f5, f9, st⟩
    by_cases hlt : (i : Int) < 5
    · have wi := w64 (x := (i : Int) + 1) (by omega) (by omega)
      simp only [f2, f3, f4, f5, f9, hlt, go_sem, Nat.reduceEqDiff, Nat.reduceAdd, Nat.reduceLeDiff, Int.reduceEq, Int.reduceLT, Int.reduceLE, Int.reduceAdd, Int.reduceSub, Int.reduceMul, Int.reduceNeg, Int.reduceToNat, Nat.reduceMul]
      refine rn_loop (fun m f H2 => ∃ k : Nat, k ≤ 5 ∧ m = 5 - k ∧ f 2 = .pointer (some ⟨H.next, 0, none⟩) ∧ f 3 = .pointer (some ⟨H.next + 1, 0, none⟩) ∧ f 4 = .pointer (some ⟨H.next + 2, 0, none⟩) ∧ f 5 = .pointer (some ⟨H.next + 3, 0, none⟩) ∧ f 9 = .int .i64 i ∧ f 6 = .int .i64 i ∧ f 12 = .int .i64 k ∧ PSt H H2 h r (prK h r (prN h r i) i k)) ?_ (n := 5)
        ⟨0, by omega, rfl, by simp only [f2, go_sem, Nat.reduceEqDiff, Nat.reduceAdd, Nat.reduceLeDiff, Int.reduceEq, Int.reduceLT, Int.reduceLE, Int.reduceAdd, Int.reduceSub, Int.reduceMul, Int.reduceNeg, Int.reduceToNat, Nat.reduceMul], by simp only [f3, go_sem, Nat.reduceEqDiff, Nat.reduceAdd, Nat.reduceLeDiff, Int.reduceEq, Int.reduceLT, Int.reduceLE, Int.reduceAdd, Int.reduceSub, Int.reduceMul, Int.reduceNeg, Int.reduceToNat, Nat.reduceMul], by simp only [f4, go_sem, Nat.reduceEqDiff, Nat.reduceAdd, Nat.reduceLeDiff, Int.reduceEq, Int.reduceLT, Int.reduceLE, Int.reduceAdd, Int.reduceSub, Int.reduceMul, Int.reduceNeg, Int.reduceToNat, Nat.reduceMul], by simp only [f5, go_sem, Nat.reduceEqDiff, Nat.reduceAdd, Nat.reduceLeDiff, Int.reduceEq, Int.reduceLT, Int.reduceLE, Int.reduceAdd, Int.reduceSub, Int.reduceMul, Int.reduceNeg, Int.reduceToNat, Nat.reduceMul], by simp only [f9, go_sem, Nat.reduceEqDiff, Nat.reduceAdd, Nat.reduceLeDiff, Int.reduceEq, Int.reduceLT, Int.reduceLE, Int.reduceAdd, Int.reduceSub, Int.reduceMul, Int.reduceNeg, Int.reduceToNat, Nat.reduceMul], by simp only [go_sem, Nat.reduceEqDiff, Nat.reduceAdd, Nat.reduceLeDiff, Int.reduceEq, Int.reduceLT, Int.reduceLE, Int.reduceAdd, Int.reduceSub, Int.reduceMul, Int.reduceNeg, Int.reduceToNat, Nat.reduceMul], by simp only [go_sem, Nat.reduceEqDiff, Nat.reduceAdd, Nat.reduceLeDiff, Int.reduceEq, Int.reduceLT, Int.reduceLE, Int.reduceAdd, Int.reduceSub, Int.reduceMul, Int.reduceNeg, Int.reduceToNat, Nat.reduceMul] <;> rfl, st⟩
      clear f2 f3 f4 f5 f9 st
      rintro m f H2 ⟨k, hk, rfl, f2, f3, f4, f5, f9, f6, f12, st⟩
      by_cases hlt2 : (k : Int) < 5
      · have wk := w64 (x := (k : Int) + 1) (by omega) (by omega)
        have wik := w64 (x := (i : Int) + k) (by omega) (by omega)
        have i0 : (0 : Int) ≤ i := by omega
        have i1 : i + 1 ≤ 5 := by omega
        have k0 : (0 : Int) ≤ k := by omega
        have k1 : k + 1 ≤ 5 := by omega
        have tm : ((i : Int) + k).tmod 5 = (((i + k) % 5 : Nat) : Int) := by
          rw [Int.tmod_eq_emod_of_nonneg (by omega)]; omega
        have m0 : (0 : Int) ≤ (((i + k) % 5 : Nat) : Int) := by omega
        have m1 : ((((i + k) % 5 : Nat) : Int)) < 5 := by omega
        have m2 : (i + k) % 5 + 1 ≤ 5 := by omega
        have n4 : H.next < H.next + 4 := by omega
        have n43 : H.next + 3 < H.next + 4 := by omega
        have z5 : ¬ ((5 : Int) = 0) := by omega
        have g2 := st.g2
        have g3 := st.g3
        have g5 := st.g5
        have nx := st.nx
        have hlen := prK_len (h := h) (r := r) (d := prN h r i) (i := i) k
        rw [prN_len] at hlen
        have ha := row_at (k := .u64) (x := h) (i := i) (by omega)
        have hb := row_at (k := .u64) (x := r) (i := k) (by omega)
        have hc := row_at (k := .u64) (x := prK h r (prN h r i) i k) (i := (i + k) % 5) (by omega)
        have hst : (prK h r (prN h r i) i k).set ((i + k) % 5) (IntKind.wrap .u64 (gw (prK h r (prN h r i) i k) ((i + k) % 5) + mulX h r i k)) = prK h r (prN h r i) i (k + 1) := rfl
        by_cases h5 : (5 : Int) ≤ (i : Int) + k
        · have hm : IntKind.wrap .u64 (IntKind.wrap .u64 (gw h i * gw r k) * 5) = mulX h r i k := by rw [mulX, if_pos (by omega)]
          simp only [f2, f3, f4, f5, f9, f6, f12, hlt2, h5, wk, wik, i0, i1, hlt, k0, k1, tm, m0, m1, m2, z5, n43, nx, g2, g3, g5, row_len, row_ro, row_es, hh, hr, hlen, ha, hb, hc, hm, hst, Int.toNat_natCast, stc_eq, stB_some, set_get, set_set, AH.next_set, addA, Nat.zero_add, splice_one, row_set, go_sem, Nat.reduceEqDiff, Nat.reduceAdd, Nat.reduceLeDiff, Int.reduceEq, Int.reduceLT, Int.reduceLE, Int.reduceAdd, Int.reduceSub, Int.reduceMul, Int.reduceNeg, Int.reduceToNat, Nat.reduceMul]
          exact ⟨5 - (k + 1), by omega, k + 1, by omega, rfl, by simp only [f2, go_sem, Nat.reduceEqDiff, Nat.reduceAdd, Nat.reduceLeDiff, Int.reduceEq, Int.reduceLT, Int.reduceLE, Int.reduceAdd, Int.reduceSub, Int.reduceMul, Int.reduceNeg, Int.reduceToNat, Nat.reduceMul], by simp only [f3, go_sem, Nat.reduceEqDiff, Nat.reduceAdd, Nat.reduceLeDiff, Int.reduceEq, Int.reduceLT, Int.reduceLE, Int.reduceAdd, Int.reduceSub, Int.reduceMul, Int.reduceNeg, Int.reduceToNat, Nat.reduceMul], by simp only [f4, go_sem, Nat.reduceEqDiff, Nat.reduceAdd, Nat.reduceLeDiff, Int.reduceEq, Int.reduceLT, Int.reduceLE, Int.reduceAdd, Int.reduceSub, Int.reduceMul, Int.reduceNeg, Int.reduceToNat, Nat.reduceMul], by simp only [f5, go_sem, Nat.reduceEqDiff, Nat.reduceAdd, Nat.reduceLeDiff, Int.reduceEq, Int.reduceLT, Int.reduceLE, Int.reduceAdd, Int.reduceSub, Int.reduceMul, Int.reduceNeg, Int.reduceToNat, Nat.reduceMul], by simp only [f9, go_sem, Nat.reduceEqDiff, Nat.reduceAdd, Nat.reduceLeDiff, Int.reduceEq, Int.reduceLT, Int.reduceLE, Int.reduceAdd, Int.reduceSub, Int.reduceMul, Int.reduceNeg, Int.reduceToNat, Nat.reduceMul], by simp only [f6, go_sem, Nat.reduceEqDiff, Nat.reduceAdd, Nat.reduceLeDiff, Int.reduceEq, Int.reduceLT, Int.reduceLE, Int.reduceAdd, Int.reduceSub, Int.reduceMul, Int.reduceNeg, Int.reduceToNat, Nat.reduceMul], by simp only [go_sem, Nat.reduceEqDiff, Nat.reduceAdd, Nat.reduceLeDiff, Int.reduceEq, Int.reduceLT, Int.reduceLE, Int.reduceAdd, Int.reduceSub, Int.reduceMul, Int.reduceNeg, Int.reduceToNat, Nat.reduceMul] <;> rfl, st.turn _⟩
        · have hm : IntKind.wrap .u64 (gw h i * gw r k) = mulX h r i k := by rw [mulX, if_neg (by omega)]
          simp only [f2, f3, f4, f5, f9, f6, f12, hlt2, h5, wk, wik, i0, i1, hlt, k0, k1, tm, m0, m1, m2, z5, n43, nx, g2, g3, g5, row_len, row_ro, row_es, hh, hr, hlen, ha, hb, hc, hm, hst, Int.toNat_natCast, stc_eq, stB_some, set_get, set_set, AH.next_set, addA, Nat.zero_add, splice_one, row_set, go_sem, Nat.reduceEqDiff, Nat.reduceAdd, Nat.reduceLeDiff, Int.reduceEq, Int.reduceLT, Int.reduceLE, Int.reduceAdd, Int.reduceSub, Int.reduceMul, Int.reduceNeg, Int.reduceToNat, Nat.reduceMul]
          exact ⟨5 - (k + 1), by omega, k + 1, by omega, rfl, by simp only [f2, go_sem, Nat.reduceEqDiff, Nat.reduceAdd, Nat.reduceLeDiff, Int.reduceEq, Int.reduceLT, Int.reduceLE, Int.reduceAdd, Int.reduceSub, Int.reduceMul, Int.reduceNeg, Int.reduceToNat, Nat.reduceMul], by simp only [f3, go_sem, Nat.reduceEqDiff, Nat.reduceAdd, Nat.reduceLeDiff, Int.reduceEq, Int.reduceLT, Int.reduceLE, Int.reduceAdd, Int.reduceSub, Int.reduceMul, Int.reduceNeg, Int.reduceToNat, Nat.reduceMul], by simp only [f4, go_sem, Nat.reduceEqDiff, Nat.reduceAdd, Nat.reduceLeDiff, Int.reduceEq, Int.reduceLT, Int.reduceLE, Int.reduceAdd, Int.reduceSub, Int.reduceMul, Int.reduceNeg, Int.reduceToNat, Nat.reduceMul], by simp only [f5, go_sem, Nat.reduceEqDiff, Nat.reduceAdd, Nat.reduceLeDiff, Int.reduceEq, Int.reduceLT, Int.reduceLE, Int.reduceAdd, Int.reduceSub, Int.reduceMul, Int.reduceNeg, Int.reduceToNat, Nat.reduceMul], by simp only [f9, go_sem, Nat.reduceEqDiff, Nat.reduceAdd, Nat.reduceLeDiff, Int.reduceEq, Int.reduceLT, Int.reduceLE, Int.reduceAdd, Int.reduceSub, Int.reduceMul, Int.reduceNeg, Int.reduceToNat, Nat.reduceMul], by simp only [f6, go_sem, Nat.reduceEqDiff, Nat.reduceAdd, Nat.reduceLeDiff, Int.reduceEq, Int.reduceLT, Int.reduceLE, Int.reduceAdd, Int.reduceSub, Int.reduceMul, Int.reduceNeg, Int.reduceToNat, Nat.reduceMul], by simp only [go_sem, Nat.reduceEqDiff, Nat.reduceAdd, Nat.reduceLeDiff, Int.reduceEq, Int.reduceLT, Int.reduceLE, Int.reduceAdd, Int.reduceSub, Int.reduceMul, Int.reduceNeg, Int.reduceToNat, Nat.reduceMul] <;> rfl, st.turn _⟩
      · have hk5 : k = 5 := by omega
        subst hk5
        simp only [f2, f3, f4, f5, f9, f6, f12, hlt2, wi, go_sem, Nat.reduceEqDiff, Nat.reduceAdd, Nat.reduceLeDiff, Int.reduceEq, Int.reduceLT, Int.reduceLE, Int.reduceAdd, Int.reduceSub, Int.reduceMul, Int.reduceNeg, Int.reduceToNat, Nat.reduceMul]
        exact ⟨5 - (i + 1), by omega, i + 1, by omega, rfl, by simp only [f2, go_sem, Nat.reduceEqDiff, Nat.reduceAdd, Nat.reduceLeDiff, Int.reduceEq, Int.reduceLT, Int.reduceLE, Int.reduceAdd, Int.reduceSub, Int.reduceMul, Int.reduceNeg, Int.reduceToNat, Nat.reduceMul], by simp only [f3, go_sem, Nat.reduceEqDiff, Nat.reduceAdd, Nat.reduceLeDiff, Int.reduceEq, Int.reduceLT, Int.reduceLE, Int.reduceAdd, Int.reduceSub, Int.reduceMul, Int.reduceNeg, Int.reduceToNat, Nat.reduceMul], by simp only [f4, go_sem, Nat.reduceEqDiff, Nat.reduceAdd, Nat.reduceLeDiff, Int.reduceEq, Int.reduceLT, Int.reduceLE, Int.reduceAdd, Int.reduceSub, Int.reduceMul, Int.reduceNeg, Int.reduceToNat, Nat.reduceMul], by simp only [f5, go_sem, Nat.reduceEqDiff, Nat.reduceAdd, Nat.reduceLeDiff, Int.reduceEq, Int.reduceLT, Int.reduceLE, Int.reduceAdd, Int.reduceSub, Int.reduceMul, Int.reduceNeg, Int.reduceToNat, Nat.reduceMul], by simp only [go_sem, Nat.reduceEqDiff, Nat.reduceAdd, Nat.reduceLeDiff, Int.reduceEq, Int.reduceLT, Int.reduceLE, Int.reduceAdd, Int.reduceSub, Int.reduceMul, Int.reduceNeg, Int.reduceToNat, Nat.reduceMul] <;> rfl, st⟩
    · have hi5 : i = 5 := by omega
      subst hi5
      have g4 := st.g4
      have g5 := st.g5
      have nx := st.nx
      have hlow := st.low
      have hlen := prN_len (h := h) (r := r) 5
      have hc1 := v115 h115 (prN h r 5) hlen (prN_R 5)
      have hl1 := carN_len (d := prN h r 5) 5
      have hc2 := v115 h115 (carN (prN h r 5) 5) (by rw [hl1, hlen]) (carN_R (prN_R 5) 5 (by omega))
      have hml : (mulL h r).length = 5 := by unfold mulL; rw [carN_len, hl1, hlen]
      have hfold : carN (carN (prN h r 5) 5) 5 = mulL h r := rfl
      rw [hfold] at hc2
      have hmm : ((mulL h r).map (Value.int .u64)).length = 5 := by simp [hml]
      have hl2 : H.next + 2 < H.next + 4 := by omega
      have htk := row_all (k := .u64) hlen
      have hone3 := p1_one (row_p1 .u64 (mulL h r))
      have hsp : splice (row .u64 [0, 0, 0, 0, 0]).cells 0 ((mulL h r).map (Value.int .u64)) = (mulL h r).map (Value.int .u64) := splice_all (by rw [hmm]; rfl)
      have hg : ∀ X : Option Blk, (H'.set (H.next + 2) X).get (H.next + 2) = X := fun X => AH.get_set_eq _ _ (by omega)
      have htk2 : List.take 5 ((mulL h r).map (Value.int .u64)) = (mulL h r).map (Value.int .u64) := List.take_of_length_le (by omega)
      have hl0 : ([0, 0, 0, 0, 0] : List Int).length = 5 := rfl
      have hlow2 : ∀ X : Option Blk, ¬ (H'.set (H.next + 2) X).low < H.next := fun X => by rw [lw_set]; omega
      simp only [f2, f3, f4, f5, f9, hlt, nx, hl2, g4, g5, row_len, row_ro, row_es, hlen, hl0, htk, ↓(hc1 _).run, ↓(hc2 _).run, hone3, hmm, hsp, List.toList_toArray, stc_eq, stB_some, go_sem, Nat.reduceEqDiff, Nat.reduceAdd, Nat.reduceLeDiff, Int.reduceEq, Int.reduceLT, Int.reduceLE, Int.reduceAdd, Int.reduceSub, Int.reduceMul, Int.reduceNeg, Int.reduceToNat, Nat.reduceMul]
      simp only [resL, resV, upd_ne, f4, hg, hmm, htk2, go_sem, Nat.reduceEqDiff, Nat.reduceAdd, Nat.reduceLeDiff, Int.reduceEq, Int.reduceLT, Int.reduceLE, Int.reduceAdd, Int.reduceSub, Int.reduceMul, Int.reduceNeg, Int.reduceToNat, Nat.reduceMul]
      rw [back_p3 (hlow2 _) (agg_row .u64 _)]
      exact hQ
  · rw [AH.next_push, AH.next_push, AH.next_push, AH.next_push, nx_enter]
  · rw [lw_push, lw_push, lw_push, lw_push, lw_enter]; omega
  · rw [AH.get_push_lt _ _ (by rw [AH.next_push, AH.next_push, AH.next_push, nx_enter]; omega), AH.get_push_lt _ _ (by rw [AH.next_push, AH.next_push, nx_enter]; omega), AH.get_push_lt _ _ (by rw [AH.next_push, nx_enter]; omega)]
    exact AH.get_push_eq H.enter _
  · rw [AH.get_push_lt _ _ (by rw [AH.next_push, AH.next_push, AH.next_push, nx_enter]; omega), AH.get_push_lt _ _ (by rw [AH.next_push, AH.next_push, nx_enter]; omega)]
    have := AH.get_push_eq (H.enter.push (row .u64 h)) (row .u64 r)
    rw [AH.next_push, nx_enter] at this
    exact this
  · rw [AH.get_push_lt _ _ (by rw [AH.next_push, AH.next_push, AH.next_push, nx_enter]; omega)]
    have := AH.get_push_eq ((H.enter.push (row .u64 h)).push (row .u64 r)) (row .u64 [0, 0, 0, 0, 0])
    rw [AH.next_push, AH.next_push, nx_enter] at this
    exact this
  · have := AH.get_push_eq (((H.enter.push (row .u64 h)).push (row .u64 r)).push (row .u64 [0, 0, 0, 0, 0])) (row .u64 [0, 0, 0, 0, 0])
    rw [AH.next_push, AH.next_push, AH.next_push, nx_enter] at this
    exact this
end Go.Proofs.Ytildhljhbbhmmaa.AM
namespace Go.Proofs.Ytildhljhbbhmmaa.AM
open Go
set_option linter.all false
set_option maxRecDepth 10000
variable {tbl : Tbl} [hT : TMono tbl]

theorem relow {H : AH} : ({ blks := H.enter.blks, low := H.low } : AH) = H := rfl
theorem slcBytes_mid {H : AH} {k n c i : Nat} {l : List UInt8} (h : H.get k = some (u8r l)) (hn : i + n ≤ l.length) : slcBytes H (.slice (some ⟨k, i, none⟩) n c) = some (tx ((l.drop i).take n)) := by
  simp only [slcBytes, ldc_eq, h, ldcB_some, u8r_len]
  rw [if_pos hn]
  have : List.take n (List.drop i (u8r l).cells) = bc ((l.drop i).take n) := by simp [u8r, bc]
  rw [this]
  simp only [bytesOf_bc]
  rfl
theorem wordAt_take {l : List UInt8} {i : Nat} : wordAt (tx ((l.drop i).take 4)) 0 = wordAt (tx l) i := by
  simp only [wordAt_tx]
  rw [gb_take (by omega), gb_take (by omega), gb_take (by omega), gb_take (by omega), gb_drop, gb_drop, gb_drop, gb_drop]
  rfl
theorem wordAt_range (s : ByteArray) (i : Nat) : 0 ≤ wordAt s i ∧ wordAt s i < 4294967296 := by
  have h0 := sb_lt s i
  have h1 := sb_lt s (i + 1)
  have h2 := sb_lt s (i + 2)
  have h3 := sb_lt s (i + 3)
  unfold wordAt le4
  omega
theorem v97 (h96 : tbl 96 = some (.code m96)) (h97 : tbl 97 = some (.code m97)) {H : AH} {k : Nat} {l : List UInt8} (hk : H.get k = some (u8r l)) (hl : l.length = 17) (i : Nat) (hi : i ≤ 13) : Val tbl 97 [.int .i64 i, .pointer (some ⟨k, 0, none⟩)] H (.int .u64 (wordAt (tx l) i)) H := by
  refine Val.of_all fun Q hQ => ?_
  rw [rn_fun h97, k97]
  have hk' : H.enter.get k = some (u8r l) := hk
  have w1 := w64 (x := (i : Int) + 4) (by omega) (by omega)
  have t1 : ((i : Int) + 4).toNat = i + 4 := by omega
  have c0 : (0 : Int) ≤ i := by omega
  have c1 : (0 : Int) ≤ i + 4 := by omega
  have c2 : i + 4 ≤ 17 := by omega
  have c3 : i ≤ i + 4 := by omega
  have c4 : ¬ 17 = i := by omega
  have c5 : i + 4 - i = 4 := by omega
  have hsb := slcBytes_mid (n := 4) (c := 17 - i) hk' (i := i) (by omega)
  have hv := fun X => v96 (tbl := tbl) h96 (tx ((l.drop i).take 4)) (by rw [tx_size, List.length_take, List.length_drop]; omega) X
  simp only [wordAt_take] at hv
  have hr := wordAt_range (tx l) i
  have w2 := u64w (n := wordAt (tx l) i) (by omega) (by omega)
  simp only [w1, t1, c0, c1, c2, c3, c4, c5, hk, u8r_len, u8r_es, hl, Int.toNat_natCast, addA, Nat.zero_add, Nat.mul_one, hsb, ↓(hv _).run, w2, Nat.le_refl, go_sem, Nat.reduceEqDiff, Nat.reduceAdd, Nat.reduceLeDiff, Int.reduceEq, Int.reduceLT, Int.reduceLE, Int.reduceAdd, Int.reduceSub, Int.reduceMul, Int.reduceNeg, Int.reduceToNat, Nat.reduceMul]
  exact hQ
end Go.Proofs.Ytildhljhbbhmmaa.AM
/- Functions that are told: math/bits.Add64. -/
namespace Go.Proofs.Ytildhljhbbhmmaa.AM
open Go Go.RowKit
set_option linter.all false

def natAdd64 : CallH → List Value → AH → Option (Value × AH) := fun _ vs H =>
  match vs with
  | [.int .u64 x, .int .u64 y, .int .u64 c] => if 0 ≤ x ∧ x < 18446744073709551616 ∧ 0 ≤ y ∧ y < 18446744073709551616 ∧ 0 ≤ c ∧ c ≤ 1 then some (.tuple #[.int .u64 ((x + y + c) % 18446744073709551616), .int .u64 ((x + y + c) / 18446744073709551616)], H) else none
  | _ => none
theorem natAdd64_some {call : CallH} {vs : List Value} {H H' : AH} {v : Value} (h : natAdd64 call vs H = some (v, H')) : ∃ x y c : Nat, vs = [.int .u64 x, .int .u64 y, .int .u64 c] ∧ x < 18446744073709551616 ∧ y < 18446744073709551616 ∧ c ≤ 1 ∧ H' = H ∧ v = .tuple #[.int .u64 (((x + y + c) % 18446744073709551616 : Nat) : Int), .int .u64 (((x + y + c) / 18446744073709551616 : Nat) : Int)] := by
  unfold natAdd64 at h
  split at h
  · rename_i x y c
    split at h
    · rename_i hc
      simp only [Option.some.injEq, Prod.mk.injEq] at h
      obtain ⟨h1, h2⟩ := h
      refine ⟨x.toNat, y.toNat, c.toNat, ?_, by omega, by omega, by omega, h2.symm, ?_⟩
      · rw [Int.toNat_of_nonneg hc.1, Int.toNat_of_nonneg hc.2.2.1, Int.toNat_of_nonneg hc.2.2.2.2.1]
      · rw [← h1]
        have e : (x + y + c) = ((x.toNat + y.toNat + c.toNat : Nat) : Int) := by omega
        rw [e]
        rfl
    · simp at h
  · simp at h
theorem natAdd64_mono : NatMono natAdd64 := fun _ _ _ _ _ _ h => h
theorem natAdd64_ok {N : Nat} {f : FuncId} {fn : Func} (hf : Try.prog.funcs[f]? = some fn) (hname : (fn.name == "runtime.NumGoroutine") = false) (hb : fn.body.isNone = true) (hn : Extern.findNext fn = none) (he : Extern.find fn = some add64Entry) : NatOk Try.prog N f natAdd64 := by
  refine ⟨fun call _ vs H v H' h => ?_, fun call _ vs H v H' h c w args hs ha => .inl ?_⟩
  · obtain ⟨x, y, k, _, _, _, _, rfl, _⟩ := natAdd64_some h
    exact .refl _
  · obtain ⟨x, y, k, rfl, hx, hy, hk, rfl, rfl⟩ := natAdd64_some h
    have hargs : args = #[.int .u64 x, .int .u64 y, .int .u64 k] := by
      have := ha.eq1 rfl
      rw [← Array.toList_inj, this]
    subst hargs
    refine ⟨.tuple #[.int .u64 (((x + y + k) % 18446744073709551616 : Nat) : Int), .int .u64 (((x + y + k) / 18446744073709551616 : Nat) : Int)], w, ?_, c, .of3 rfl, hs, .refl _ _ _ _⟩
    rw [run_callFunc_extern hf hname hb hn he, run_add64 x y k (by omega) (by omega) (by omega) (by omega)]
    simp only [Result.andThen]
    congr 5 <;> omega
theorem val_add64 {tbl : Tbl} [hT : TMono tbl] {f : FuncId} (h : tbl f = some (.nat natAdd64)) {x y c : Int} (hx : 0 ≤ x ∧ x < 18446744073709551616) (hy : 0 ≤ y ∧ y < 18446744073709551616) (hc : 0 ≤ c ∧ c ≤ 1) (H : AH) :
    Val tbl f [.int .u64 x, .int .u64 y, .int .u64 c] H (.tuple #[.int .u64 ((x + y + c) % 18446744073709551616), .int .u64 ((x + y + c) / 18446744073709551616)]) H := by
  refine ⟨1, ?_⟩
  simp only [evF, h, natAdd64]
  rw [if_pos ⟨hx.1, hx.2, hy.1, hy.2, hc.1, hc.2⟩]
theorem add64_ent (N : Nat) : NatOk Try.prog N 116 natAdd64 := natAdd64_ok Try.func116 (by kernel_rfl) (by kernel_rfl) (by kernel_rfl) (by kernel_rfl)
end Go.Proofs.Ytildhljhbbhmmaa.AM
