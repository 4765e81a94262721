/- Part 3 of the texts that this claim needs. No conditions. -/
import Derived.Test.YtidpkoaomfbljaaProg
import Derived.KernelRfl
import Derived.Test.YtidpkoaomfbljaaRows
import Derived.ProofKit
import Derived.ChangeCalls
import Derived.Deep.Slices
import Derived.Test.YtidpkoaomfbljaaOd2
/- Compiled functions. WRITTEN BY A PROGRAM (mk.py). -/
namespace Go.Proofs.Ytidpkoaomfbljaa.AM
open Go
set_option maxRecDepth 100000
set_option linter.all false
def k110 : MCode := (.seq (.ops [⟨(some 10), none, false, (.mov (.const (.int .i64 0)))⟩]) (.block 0 (.loop (.seq (.seq (.ops [⟨(some 11), none, false, (.mov (.tmp 10))⟩, ⟨(some 12), none, false, (.mov (.tmp 3))⟩, ⟨(some 13), none, false, (.bin .int .lss (.tmp 11) (.tmp 12))⟩]) (.cond (.tmp 13) .skip (.exit 0))) (.seq (.block 1 (.opsD [⟨(some 16), none, false, (.mov (.tmp 0))⟩, ⟨(some 17), none, false, (.mov (.tmp 1))⟩, ⟨(some 18), none, false, (.mov (.tmp 10))⟩, ⟨(some 19), none, false, (.bin .int .add (.tmp 17) (.tmp 18))⟩, ⟨(some 20), none, false, (.mov (.tmp 0))⟩, ⟨(some 21), none, false, (.mov (.tmp 2))⟩, ⟨(some 22), none, false, (.mov (.tmp 10))⟩, ⟨(some 23), none, false, (.bin .int .add (.tmp 21) (.tmp 22))⟩, ⟨(some 24), none, false, (.mov (.tmp 0))⟩, ⟨(some 25), none, false, (.mov (.tmp 2))⟩, ⟨(some 26), none, false, (.mov (.tmp 10))⟩, ⟨(some 27), none, false, (.bin .int .add (.tmp 25) (.tmp 26))⟩, ⟨(some 28), none, false, (.idxS 1 (.tmp 24) (.tmp 27))⟩, ⟨(some 29), none, false, (.load false 1 (.tmp 28))⟩, ⟨(some 30), none, false, (.mov (.tmp 0))⟩, ⟨(some 31), none, false, (.mov (.tmp 1))⟩, ⟨(some 32), none, false, (.mov (.tmp 10))⟩, ⟨(some 33), none, false, (.bin .int .add (.tmp 31) (.tmp 32))⟩, ⟨(some 34), none, false, (.idxS 1 (.tmp 30) (.tmp 33))⟩, ⟨(some 35), none, false, (.load false 1 (.tmp 34))⟩, ⟨(some 36), none, false, (.idxS 1 (.tmp 16) (.tmp 19))⟩, ⟨none, none, false, (.store 1 (.tmp 36) (.tmp 29))⟩, ⟨(some 37), none, false, (.idxS 1 (.tmp 20) (.tmp 23))⟩, ⟨none, none, false, (.store 1 (.tmp 37) (.tmp 35))⟩])) (.ops [⟨(some 14), none, false, (.mov (.tmp 10))⟩, ⟨(some 15), none, false, (.bin .int .add (.tmp 14) (.const (.int .i64 1)))⟩, ⟨(some 10), none, false, (.mov (.tmp 15))⟩]))))))
def m110 : MFun := ⟨k110, []⟩
theorem c110 : compFn Try.prog Try.f110 = some m110 := by kernel_rfl
def k108 : MCode := (.seq (.ops [⟨(some 12), none, false, (.mov (.tmp 2))⟩, ⟨(some 13), none, false, (.mov (.tmp 1))⟩, ⟨(some 14), none, false, (.bin .int .sub (.tmp 12) (.tmp 13))⟩, ⟨(some 10), none, false, (.mov (.tmp 14))⟩]) (.seq (.ops [⟨(some 15), none, false, (.mov (.tmp 3))⟩, ⟨(some 16), none, false, (.mov (.tmp 2))⟩, ⟨(some 17), none, false, (.bin .int .sub (.tmp 15) (.tmp 16))⟩, ⟨(some 11), none, false, (.mov (.tmp 17))⟩]) (.seq (.block 0 (.loop (.seq (.seq (.ops [⟨(some 18), none, false, (.mov (.tmp 10))⟩, ⟨(some 19), none, false, (.mov (.tmp 11))⟩, ⟨(some 20), none, false, (.bin .int .neq (.tmp 18) (.tmp 19))⟩]) (.cond (.tmp 20) .skip (.exit 0))) (.block 1 (.seq (.ops [⟨(some 21), none, false, (.mov (.tmp 10))⟩, ⟨(some 22), none, false, (.mov (.tmp 11))⟩, ⟨(some 23), none, false, (.bin .int .gtr (.tmp 21) (.tmp 22))⟩]) (.cond (.tmp 23) (.seq (.ops [⟨(some 24), none, false, (.mov (.tmp 0))⟩, ⟨(some 25), none, false, (.mov (.tmp 2))⟩, ⟨(some 26), none, false, (.mov (.tmp 10))⟩, ⟨(some 27), none, false, (.bin .int .sub (.tmp 25) (.tmp 26))⟩, ⟨(some 28), none, false, (.mov (.tmp 2))⟩, ⟨(some 29), none, false, (.mov (.tmp 11))⟩, ⟨(some 30), none, false, (.mov (.tmp 4))⟩, ⟨(some 31), none, false, (.call false (.func 110) [(.tmp 24), (.tmp 27), (.tmp 28), (.tmp 29), (.tmp 30)])⟩]) (.ops [⟨(some 32), none, false, (.mov (.tmp 10))⟩, ⟨(some 33), none, false, (.mov (.tmp 11))⟩, ⟨(some 34), none, false, (.bin .int .sub (.tmp 32) (.tmp 33))⟩, ⟨(some 10), none, false, (.mov (.tmp 34))⟩])) (.seq (.ops [⟨(some 35), none, false, (.mov (.tmp 0))⟩, ⟨(some 36), none, false, (.mov (.tmp 2))⟩, ⟨(some 37), none, false, (.mov (.tmp 10))⟩, ⟨(some 38), none, false, (.bin .int .sub (.tmp 36) (.tmp 37))⟩, ⟨(some 39), none, false, (.mov (.tmp 2))⟩, ⟨(some 40), none, false, (.mov (.tmp 11))⟩, ⟨(some 41), none, false, (.bin .int .add (.tmp 39) (.tmp 40))⟩, ⟨(some 42), none, false, (.mov (.tmp 10))⟩, ⟨(some 43), none, false, (.bin .int .sub (.tmp 41) (.tmp 42))⟩, ⟨(some 44), none, false, (.mov (.tmp 10))⟩, ⟨(some 45), none, false, (.mov (.tmp 4))⟩, ⟨(some 46), none, false, (.call false (.func 110) [(.tmp 35), (.tmp 38), (.tmp 43), (.tmp 44), (.tmp 45)])⟩]) (.ops [⟨(some 47), none, false, (.mov (.tmp 11))⟩, ⟨(some 48), none, false, (.mov (.tmp 10))⟩, ⟨(some 49), none, false, (.bin .int .sub (.tmp 47) (.tmp 48))⟩, ⟨(some 11), none, false, (.mov (.tmp 49))⟩])))))))) (.ops [⟨(some 50), none, false, (.mov (.tmp 0))⟩, ⟨(some 51), none, false, (.mov (.tmp 2))⟩, ⟨(some 52), none, false, (.mov (.tmp 10))⟩, ⟨(some 53), none, false, (.bin .int .sub (.tmp 51) (.tmp 52))⟩, ⟨(some 54), none, false, (.mov (.tmp 2))⟩, ⟨(some 55), none, false, (.mov (.tmp 10))⟩, ⟨(some 56), none, false, (.mov (.tmp 4))⟩, ⟨(some 57), none, false, (.call false (.func 110) [(.tmp 50), (.tmp 53), (.tmp 54), (.tmp 55), (.tmp 56)])⟩]))))
def m108 : MFun := ⟨k108, []⟩
theorem c108 : compFn Try.prog Try.f108 = some m108 := by kernel_rfl
def k101 : MCode := (.seq (.seq (.ops [⟨(some 25), none, false, (.mov (.tmp 2))⟩, ⟨(some 26), none, false, (.mov (.tmp 1))⟩, ⟨(some 27), none, false, (.bin .int .sub (.tmp 25) (.tmp 26))⟩, ⟨(some 28), none, false, (.bin .int .eql (.tmp 27) (.const (.int .i64 1)))⟩]) (.cond (.tmp 28) (.seq (.ops [⟨(some 29), none, false, (.mov (.tmp 2))⟩, ⟨(some 10), none, false, (.mov (.tmp 29))⟩]) (.seq (.ops [⟨(some 30), none, false, (.mov (.tmp 3))⟩, ⟨(some 11), none, false, (.mov (.tmp 30))⟩]) (.seq (.block 0 (.loop (.seq (.seq (.ops [⟨(some 31), none, false, (.mov (.tmp 10))⟩, ⟨(some 32), none, false, (.mov (.tmp 11))⟩, ⟨(some 33), none, false, (.bin .int .lss (.tmp 31) (.tmp 32))⟩]) (.cond (.tmp 33) .skip (.exit 0))) (.block 1 (.seq (.ops [⟨(some 34), none, false, (.mov (.tmp 10))⟩, ⟨(some 35), none, false, (.mov (.tmp 11))⟩, ⟨(some 36), none, false, (.bin .int .add (.tmp 34) (.tmp 35))⟩, ⟨(some 37), none, false, (.conv .u64 (.tmp 36))⟩, ⟨(some 38), none, false, (.bin .int .shr (.tmp 37) (.const (.int .u64 1)))⟩, ⟨(some 39), none, false, (.conv .i64 (.tmp 38))⟩, ⟨(some 12), none, false, (.mov (.tmp 39))⟩]) (.seq (.opsD [⟨(some 40), none, false, (.mov (.tmp 4))⟩, ⟨(some 41), none, false, (.mov (.tmp 0))⟩, ⟨(some 42), none, false, (.mov (.tmp 12))⟩, ⟨(some 43), none, false, (.idxS 1 (.tmp 41) (.tmp 42))⟩, ⟨(some 44), none, false, (.load false 1 (.tmp 43))⟩, ⟨(some 45), none, false, (.mov (.tmp 0))⟩, ⟨(some 46), none, false, (.mov (.tmp 1))⟩, ⟨(some 47), none, false, (.idxS 1 (.tmp 45) (.tmp 46))⟩, ⟨(some 48), none, false, (.load false 1 (.tmp 47))⟩, ⟨(some 49), none, false, (.call false (.tmp 40) [(.tmp 44), (.tmp 48)])⟩, ⟨(some 50), none, false, (.bin .int .lss (.tmp 49) (.const (.int .i64 0)))⟩]) (.cond (.tmp 50) (.ops [⟨(some 51), none, false, (.mov (.tmp 12))⟩, ⟨(some 52), none, false, (.bin .int .add (.tmp 51) (.const (.int .i64 1)))⟩, ⟨(some 10), none, false, (.mov (.tmp 52))⟩]) (.ops [⟨(some 53), none, false, (.mov (.tmp 12))⟩, ⟨(some 11), none, false, (.mov (.tmp 53))⟩])))))))) (.seq (.seq (.ops [⟨(some 54), none, false, (.mov (.tmp 1))⟩, ⟨(some 13), none, false, (.mov (.tmp 54))⟩]) (.block 2 (.loop (.seq (.seq (.ops [⟨(some 55), none, false, (.mov (.tmp 13))⟩, ⟨(some 56), none, false, (.mov (.tmp 10))⟩, ⟨(some 57), none, false, (.bin .int .sub (.tmp 56) (.const (.int .i64 1)))⟩, ⟨(some 58), none, false, (.bin .int .lss (.tmp 55) (.tmp 57))⟩]) (.cond (.tmp 58) .skip (.exit 2))) (.seq (.block 3 (.opsD [⟨(some 61), none, false, (.mov (.tmp 0))⟩, ⟨(some 62), none, false, (.mov (.tmp 13))⟩, ⟨(some 63), none, false, (.mov (.tmp 0))⟩, ⟨(some 64), none, false, (.mov (.tmp 13))⟩, ⟨(some 65), none, false, (.bin .int .add (.tmp 64) (.const (.int .i64 1)))⟩, ⟨(some 66), none, false, (.mov (.tmp 0))⟩, ⟨(some 67), none, false, (.mov (.tmp 13))⟩, ⟨(some 68), none, false, (.bin .int .add (.tmp 67) (.const (.int .i64 1)))⟩, ⟨(some 69), none, false, (.idxS 1 (.tmp 66) (.tmp 68))⟩, ⟨(some 70), none, false, (.load false 1 (.tmp 69))⟩, ⟨(some 71), none, false, (.mov (.tmp 0))⟩, ⟨(some 72), none, false, (.mov (.tmp 13))⟩, ⟨(some 73), none, false, (.idxS 1 (.tmp 71) (.tmp 72))⟩, ⟨(some 74), none, false, (.load false 1 (.tmp 73))⟩, ⟨(some 75), none, false, (.idxS 1 (.tmp 61) (.tmp 62))⟩, ⟨none, none, false, (.store 1 (.tmp 75) (.tmp 70))⟩, ⟨(some 76), none, false, (.idxS 1 (.tmp 63) (.tmp 65))⟩, ⟨none, none, false, (.store 1 (.tmp 76) (.tmp 74))⟩])) (.ops [⟨(some 59), none, false, (.mov (.tmp 13))⟩, ⟨(some 60), none, false, (.bin .int .add (.tmp 59) (.const (.int .i64 1)))⟩, ⟨(some 13), none, false, (.mov (.tmp 60))⟩])))))) .ret)))) .skip)) (.seq (.seq (.ops [⟨(some 77), none, false, (.mov (.tmp 3))⟩, ⟨(some 78), none, false, (.mov (.tmp 2))⟩, ⟨(some 79), none, false, (.bin .int .sub (.tmp 77) (.tmp 78))⟩, ⟨(some 80), none, false, (.bin .int .eql (.tmp 79) (.const (.int .i64 1)))⟩]) (.cond (.tmp 80) (.seq (.ops [⟨(some 81), none, false, (.mov (.tmp 1))⟩, ⟨(some 14), none, false, (.mov (.tmp 81))⟩]) (.seq (.ops [⟨(some 82), none, false, (.mov (.tmp 2))⟩, ⟨(some 15), none, false, (.mov (.tmp 82))⟩]) (.seq (.block 4 (.loop (.seq (.seq (.ops [⟨(some 83), none, false, (.mov (.tmp 14))⟩, ⟨(some 84), none, false, (.mov (.tmp 15))⟩, ⟨(some 85), none, false, (.bin .int .lss (.tmp 83) (.tmp 84))⟩]) (.cond (.tmp 85) .skip (.exit 4))) (.block 5 (.seq (.ops [⟨(some 86), none, false, (.mov (.tmp 14))⟩, ⟨(some 87), none, false, (.mov (.tmp 15))⟩, ⟨(some 88), none, false, (.bin .int .add (.tmp 86) (.tmp 87))⟩, ⟨(some 89), none, false, (.conv .u64 (.tmp 88))⟩, ⟨(some 90), none, false, (.bin .int .shr (.tmp 89) (.const (.int .u64 1)))⟩, ⟨(some 91), none, false, (.conv .i64 (.tmp 90))⟩, ⟨(some 16), none, false, (.mov (.tmp 91))⟩]) (.seq (.opsD [⟨(some 92), none, false, (.mov (.tmp 4))⟩, ⟨(some 93), none, false, (.mov (.tmp 0))⟩, ⟨(some 94), none, false, (.mov (.tmp 2))⟩, ⟨(some 95), none, false, (.idxS 1 (.tmp 93) (.tmp 94))⟩, ⟨(some 96), none, false, (.load false 1 (.tmp 95))⟩, ⟨(some 97), none, false, (.mov (.tmp 0))⟩, ⟨(some 98), none, false, (.mov (.tmp 16))⟩, ⟨(some 99), none, false, (.idxS 1 (.tmp 97) (.tmp 98))⟩, ⟨(some 100), none, false, (.load false 1 (.tmp 99))⟩, ⟨(some 101), none, false, (.call false (.tmp 92) [(.tmp 96), (.tmp 100)])⟩, ⟨(some 102), none, false, (.bin .int .lss (.tmp 101) (.const (.int .i64 0)))⟩, ⟨(some 103), none, false, (.un .not (.tmp 102))⟩]) (.cond (.tmp 103) (.ops [⟨(some 104), none, false, (.mov (.tmp 16))⟩, ⟨(some 105), none, false, (.bin .int .add (.tmp 104) (.const (.int .i64 1)))⟩, ⟨(some 14), none, false, (.mov (.tmp 105))⟩]) (.ops [⟨(some 106), none, false, (.mov (.tmp 16))⟩, ⟨(some 15), none, false, (.mov (.tmp 106))⟩])))))))) (.seq (.seq (.ops [⟨(some 107), none, false, (.mov (.tmp 2))⟩, ⟨(some 17), none, false, (.mov (.tmp 107))⟩]) (.block 6 (.loop (.seq (.seq (.ops [⟨(some 108), none, false, (.mov (.tmp 17))⟩, ⟨(some 109), none, false, (.mov (.tmp 14))⟩, ⟨(some 110), none, false, (.bin .int .gtr (.tmp 108) (.tmp 109))⟩]) (.cond (.tmp 110) .skip (.exit 6))) (.seq (.block 7 (.opsD [⟨(some 113), none, false, (.mov (.tmp 0))⟩, ⟨(some 114), none, false, (.mov (.tmp 17))⟩, ⟨(some 115), none, false, (.mov (.tmp 0))⟩, ⟨(some 116), none, false, (.mov (.tmp 17))⟩, ⟨(some 117), none, false, (.bin .int .sub (.tmp 116) (.const (.int .i64 1)))⟩, ⟨(some 118), none, false, (.mov (.tmp 0))⟩, ⟨(some 119), none, false, (.mov (.tmp 17))⟩, ⟨(some 120), none, false, (.bin .int .sub (.tmp 119) (.const (.int .i64 1)))⟩, ⟨(some 121), none, false, (.idxS 1 (.tmp 118) (.tmp 120))⟩, ⟨(some 122), none, false, (.load false 1 (.tmp 121))⟩, ⟨(some 123), none, false, (.mov (.tmp 0))⟩, ⟨(some 124), none, false, (.mov (.tmp 17))⟩, ⟨(some 125), none, false, (.idxS 1 (.tmp 123) (.tmp 124))⟩, ⟨(some 126), none, false, (.load false 1 (.tmp 125))⟩, ⟨(some 127), none, false, (.idxS 1 (.tmp 113) (.tmp 114))⟩, ⟨none, none, false, (.store 1 (.tmp 127) (.tmp 122))⟩, ⟨(some 128), none, false, (.idxS 1 (.tmp 115) (.tmp 117))⟩, ⟨none, none, false, (.store 1 (.tmp 128) (.tmp 126))⟩])) (.ops [⟨(some 111), none, false, (.mov (.tmp 17))⟩, ⟨(some 112), none, false, (.bin .int .sub (.tmp 111) (.const (.int .i64 1)))⟩, ⟨(some 17), none, false, (.mov (.tmp 112))⟩])))))) .ret)))) .skip)) (.seq (.ops [⟨(some 129), none, false, (.mov (.tmp 1))⟩, ⟨(some 130), none, false, (.mov (.tmp 3))⟩, ⟨(some 131), none, false, (.bin .int .add (.tmp 129) (.tmp 130))⟩, ⟨(some 132), none, false, (.conv .u64 (.tmp 131))⟩, ⟨(some 133), none, false, (.bin .int .shr (.tmp 132) (.const (.int .u64 1)))⟩, ⟨(some 134), none, false, (.conv .i64 (.tmp 133))⟩, ⟨(some 18), none, false, (.mov (.tmp 134))⟩]) (.seq (.ops [⟨(some 135), none, false, (.mov (.tmp 18))⟩, ⟨(some 136), none, false, (.mov (.tmp 2))⟩, ⟨(some 137), none, false, (.bin .int .add (.tmp 135) (.tmp 136))⟩, ⟨(some 19), none, false, (.mov (.tmp 137))⟩]) (.seq (.ops [⟨(some 20), none, false, (.mov (.const (.int .i64 0)))⟩, ⟨(some 21), none, false, (.mov (.const (.int .i64 0)))⟩]) (.seq (.seq (.ops [⟨(some 138), none, false, (.mov (.tmp 2))⟩, ⟨(some 139), none, false, (.mov (.tmp 18))⟩, ⟨(some 140), none, false, (.bin .int .gtr (.tmp 138) (.tmp 139))⟩]) (.cond (.tmp 140) (.seq (.ops [⟨(some 141), none, false, (.mov (.tmp 19))⟩, ⟨(some 142), none, false, (.mov (.tmp 3))⟩, ⟨(some 143), none, false, (.bin .int .sub (.tmp 141) (.tmp 142))⟩, ⟨(some 20), none, false, (.mov (.tmp 143))⟩]) (.ops [⟨(some 144), none, false, (.mov (.tmp 18))⟩, ⟨(some 21), none, false, (.mov (.tmp 144))⟩])) (.seq (.ops [⟨(some 145), none, false, (.mov (.tmp 1))⟩, ⟨(some 20), none, false, (.mov (.tmp 145))⟩]) (.ops [⟨(some 146), none, false, (.mov (.tmp 2))⟩, ⟨(some 21), none, false, (.mov (.tmp 146))⟩])))) (.seq (.ops [⟨(some 147), none, false, (.mov (.tmp 19))⟩, ⟨(some 148), none, false, (.bin .int .sub (.tmp 147) (.const (.int .i64 1)))⟩, ⟨(some 22), none, false, (.mov (.tmp 148))⟩]) (.seq (.block 8 (.loop (.seq (.seq (.ops [⟨(some 149), none, false, (.mov (.tmp 20))⟩, ⟨(some 150), none, false, (.mov (.tmp 21))⟩, ⟨(some 151), none, false, (.bin .int .lss (.tmp 149) (.tmp 150))⟩]) (.cond (.tmp 151) .skip (.exit 8))) (.block 9 (.seq (.ops [⟨(some 152), none, false, (.mov (.tmp 20))⟩, ⟨(some 153), none, false, (.mov (.tmp 21))⟩, ⟨(some 154), none, false, (.bin .int .add (.tmp 152) (.tmp 153))⟩, ⟨(some 155), none, false, (.conv .u64 (.tmp 154))⟩, ⟨(some 156), none, false, (.bin .int .shr (.tmp 155) (.const (.int .u64 1)))⟩, ⟨(some 157), none, false, (.conv .i64 (.tmp 156))⟩, ⟨(some 23), none, false, (.mov (.tmp 157))⟩]) (.seq (.opsD [⟨(some 158), none, false, (.mov (.tmp 4))⟩, ⟨(some 159), none, false, (.mov (.tmp 0))⟩, ⟨(some 160), none, false, (.mov (.tmp 22))⟩, ⟨(some 161), none, false, (.mov (.tmp 23))⟩, ⟨(some 162), none, false, (.bin .int .sub (.tmp 160) (.tmp 161))⟩, ⟨(some 163), none, false, (.idxS 1 (.tmp 159) (.tmp 162))⟩, ⟨(some 164), none, false, (.load false 1 (.tmp 163))⟩, ⟨(some 165), none, false, (.mov (.tmp 0))⟩, ⟨(some 166), none, false, (.mov (.tmp 23))⟩, ⟨(some 167), none, false, (.idxS 1 (.tmp 165) (.tmp 166))⟩, ⟨(some 168), none, false, (.load false 1 (.tmp 167))⟩, ⟨(some 169), none, false, (.call false (.tmp 158) [(.tmp 164), (.tmp 168)])⟩, ⟨(some 170), none, false, (.bin .int .lss (.tmp 169) (.const (.int .i64 0)))⟩, ⟨(some 171), none, false, (.un .not (.tmp 170))⟩]) (.cond (.tmp 171) (.ops [⟨(some 172), none, false, (.mov (.tmp 23))⟩, ⟨(some 173), none, false, (.bin .int .add (.tmp 172) (.const (.int .i64 1)))⟩, ⟨(some 20), none, false, (.mov (.tmp 173))⟩]) (.ops [⟨(some 174), none, false, (.mov (.tmp 23))⟩, ⟨(some 21), none, false, (.mov (.tmp 174))⟩])))))))) (.seq (.ops [⟨(some 175), none, false, (.mov (.tmp 19))⟩, ⟨(some 176), none, false, (.mov (.tmp 20))⟩, ⟨(some 177), none, false, (.bin .int .sub (.tmp 175) (.tmp 176))⟩, ⟨(some 24), none, false, (.mov (.tmp 177))⟩]) (.seq (.seq (.ops [⟨(some 178), none, false, (.mov (.tmp 20))⟩, ⟨(some 179), none, false, (.mov (.tmp 2))⟩, ⟨(some 180), none, false, (.bin .int .lss (.tmp 178) (.tmp 179))⟩, ⟨(some 181), none, false, (.mov (.tmp 180))⟩, ⟨(some 182), (some (181, true)), false, (.mov (.tmp 2))⟩, ⟨(some 183), (some (181, true)), false, (.mov (.tmp 24))⟩, ⟨(some 184), (some (181, true)), false, (.bin .int .lss (.tmp 182) (.tmp 183))⟩, ⟨(some 185), none, false, (.pick (.tmp 181) (.tmp 184) (.const (.bool false)))⟩]) (.cond (.tmp 185) (.ops [⟨(some 186), none, false, (.mov (.tmp 0))⟩, ⟨(some 187), none, false, (.mov (.tmp 20))⟩, ⟨(some 188), none, false, (.mov (.tmp 2))⟩, ⟨(some 189), none, false, (.mov (.tmp 24))⟩, ⟨(some 190), none, false, (.mov (.tmp 4))⟩, ⟨(some 191), none, false, (.call false (.func 108) [(.tmp 186), (.tmp 187), (.tmp 188), (.tmp 189), (.tmp 190)])⟩]) .skip)) (.seq (.seq (.ops [⟨(some 192), none, false, (.mov (.tmp 1))⟩, ⟨(some 193), none, false, (.mov (.tmp 20))⟩, ⟨(some 194), none, false, (.bin .int .lss (.tmp 192) (.tmp 193))⟩, ⟨(some 195), none, false, (.mov (.tmp 194))⟩, ⟨(some 196), (some (195, true)), false, (.mov (.tmp 20))⟩, ⟨(some 197), (some (195, true)), false, (.mov (.tmp 18))⟩, ⟨(some 198), (some (195, true)), false, (.bin .int .lss (.tmp 196) (.tmp 197))⟩, ⟨(some 199), none, false, (.pick (.tmp 195) (.tmp 198) (.const (.bool false)))⟩]) (.cond (.tmp 199) (.ops [⟨(some 200), none, false, (.mov (.tmp 0))⟩, ⟨(some 201), none, false, (.mov (.tmp 1))⟩, ⟨(some 202), none, false, (.mov (.tmp 20))⟩, ⟨(some 203), none, false, (.mov (.tmp 18))⟩, ⟨(some 204), none, false, (.mov (.tmp 4))⟩, ⟨(some 205), none, false, (.call false (.func 101) [(.tmp 200), (.tmp 201), (.tmp 202), (.tmp 203), (.tmp 204)])⟩]) .skip)) (.seq (.ops [⟨(some 206), none, false, (.mov (.tmp 18))⟩, ⟨(some 207), none, false, (.mov (.tmp 24))⟩, ⟨(some 208), none, false, (.bin .int .lss (.tmp 206) (.tmp 207))⟩, ⟨(some 209), none, false, (.mov (.tmp 208))⟩, ⟨(some 210), (some (209, true)), false, (.mov (.tmp 24))⟩, ⟨(some 211), (some (209, true)), false, (.mov (.tmp 3))⟩, ⟨(some 212), (some (209, true)), false, (.bin .int .lss (.tmp 210) (.tmp 211))⟩, ⟨(some 213), none, false, (.pick (.tmp 209) (.tmp 212) (.const (.bool false)))⟩]) (.cond (.tmp 213) (.ops [⟨(some 214), none, false, (.mov (.tmp 0))⟩, ⟨(some 215), none, false, (.mov (.tmp 18))⟩, ⟨(some 216), none, false, (.mov (.tmp 24))⟩, ⟨(some 217), none, false, (.mov (.tmp 3))⟩, ⟨(some 218), none, false, (.mov (.tmp 4))⟩, ⟨(some 219), none, false, (.call false (.func 101) [(.tmp 214), (.tmp 215), (.tmp 216), (.tmp 217), (.tmp 218)])⟩]) .skip)))))))))))))
def m101 : MFun := ⟨k101, []⟩
theorem c101 : compFn Try.prog Try.f101 = some m101 := by kernel_rfl
def k100 : MCode := (.seq (.ops [⟨(some 10), none, false, (.mov (.tmp 1))⟩, ⟨(some 11), none, false, (.bin .int .add (.tmp 10) (.const (.int .i64 1)))⟩, ⟨(some 8), none, false, (.mov (.tmp 11))⟩]) (.block 0 (.loop (.seq (.seq (.ops [⟨(some 12), none, false, (.mov (.tmp 8))⟩, ⟨(some 13), none, false, (.mov (.tmp 2))⟩, ⟨(some 14), none, false, (.bin .int .lss (.tmp 12) (.tmp 13))⟩]) (.cond (.tmp 14) .skip (.exit 0))) (.seq (.block 1 (.seq (.ops [⟨(some 17), none, false, (.mov (.tmp 8))⟩, ⟨(some 9), none, false, (.mov (.tmp 17))⟩]) (.block 2 (.loop (.seq (.seq (.opsD [⟨(some 18), none, false, (.mov (.tmp 9))⟩, ⟨(some 19), none, false, (.mov (.tmp 1))⟩, ⟨(some 20), none, false, (.bin .int .gtr (.tmp 18) (.tmp 19))⟩, ⟨(some 21), none, false, (.mov (.tmp 20))⟩, ⟨(some 22), (some (21, true)), false, (.mov (.tmp 3))⟩, ⟨(some 23), (some (21, true)), false, (.mov (.tmp 0))⟩, ⟨(some 24), (some (21, true)), false, (.mov (.tmp 9))⟩, ⟨(some 25), (some (21, true)), false, (.idxS 1 (.tmp 23) (.tmp 24))⟩, ⟨(some 26), (some (21, true)), false, (.load false 1 (.tmp 25))⟩, ⟨(some 27), (some (21, true)), false, (.mov (.tmp 0))⟩, ⟨(some 28), (some (21, true)), false, (.mov (.tmp 9))⟩, ⟨(some 29), (some (21, true)), false, (.bin .int .sub (.tmp 28) (.const (.int .i64 1)))⟩, ⟨(some 30), (some (21, true)), false, (.idxS 1 (.tmp 27) (.tmp 29))⟩, ⟨(some 31), (some (21, true)), false, (.load false 1 (.tmp 30))⟩, ⟨(some 32), (some (21, true)), false, (.call false (.tmp 22) [(.tmp 26), (.tmp 31)])⟩, ⟨(some 33), (some (21, true)), false, (.bin .int .lss (.tmp 32) (.const (.int .i64 0)))⟩, ⟨(some 34), none, false, (.pick (.tmp 21) (.tmp 33) (.const (.bool false)))⟩]) (.cond (.tmp 34) .skip (.exit 2))) (.seq (.block 3 (.opsD [⟨(some 37), none, false, (.mov (.tmp 0))⟩, ⟨(some 38), none, false, (.mov (.tmp 9))⟩, ⟨(some 39), none, false, (.mov (.tmp 0))⟩, ⟨(some 40), none, false, (.mov (.tmp 9))⟩, ⟨(some 41), none, false, (.bin .int .sub (.tmp 40) (.const (.int .i64 1)))⟩, ⟨(some 42), none, false, (.mov (.tmp 0))⟩, ⟨(some 43), none, false, (.mov (.tmp 9))⟩, ⟨(some 44), none, false, (.bin .int .sub (.tmp 43) (.const (.int .i64 1)))⟩, ⟨(some 45), none, false, (.idxS 1 (.tmp 42) (.tmp 44))⟩, ⟨(some 46), none, false, (.load false 1 (.tmp 45))⟩, ⟨(some 47), none, false, (.mov (.tmp 0))⟩, ⟨(some 48), none, false, (.mov (.tmp 9))⟩, ⟨(some 49), none, false, (.idxS 1 (.tmp 47) (.tmp 48))⟩, ⟨(some 50), none, false, (.load false 1 (.tmp 49))⟩, ⟨(some 51), none, false, (.idxS 1 (.tmp 37) (.tmp 38))⟩, ⟨none, none, false, (.store 1 (.tmp 51) (.tmp 46))⟩, ⟨(some 52), none, false, (.idxS 1 (.tmp 39) (.tmp 41))⟩, ⟨none, none, false, (.store 1 (.tmp 52) (.tmp 50))⟩])) (.ops [⟨(some 35), none, false, (.mov (.tmp 9))⟩, ⟨(some 36), none, false, (.bin .int .sub (.tmp 35) (.const (.int .i64 1)))⟩, ⟨(some 9), none, false, (.mov (.tmp 36))⟩]))))))) (.ops [⟨(some 15), none, false, (.mov (.tmp 8))⟩, ⟨(some 16), none, false, (.bin .int .add (.tmp 15) (.const (.int .i64 1)))⟩, ⟨(some 8), none, false, (.mov (.tmp 16))⟩]))))))
def m100 : MFun := ⟨k100, []⟩
theorem c100 : compFn Try.prog Try.f100 = some m100 := by kernel_rfl
def k88 : MCode := (.seq (.ops [⟨(some 6), none, false, (.mov (.const (.int .i64 20)))⟩]) (.seq (.ops [⟨(some 10), none, false, (.mov (.tmp 6))⟩, ⟨(some 7), none, false, (.mov (.const (.int .i64 0)))⟩, ⟨(some 8), none, false, (.mov (.tmp 10))⟩]) (.seq (.block 0 (.loop (.seq (.seq (.ops [⟨(some 11), none, false, (.mov (.tmp 8))⟩, ⟨(some 12), none, false, (.mov (.tmp 1))⟩, ⟨(some 13), none, false, (.bin .int .leq (.tmp 11) (.tmp 12))⟩]) (.cond (.tmp 13) .skip (.exit 0))) (.block 1 (.seq (.ops [⟨(some 14), none, false, (.mov (.tmp 0))⟩, ⟨(some 15), none, false, (.mov (.tmp 7))⟩, ⟨(some 16), none, false, (.mov (.tmp 8))⟩, ⟨(some 17), none, false, (.mov (.tmp 2))⟩, ⟨(some 18), none, false, (.call false (.func 100) [(.tmp 14), (.tmp 15), (.tmp 16), (.tmp 17)])⟩]) (.seq (.ops [⟨(some 19), none, false, (.mov (.tmp 8))⟩, ⟨(some 7), none, false, (.mov (.tmp 19))⟩]) (.ops [⟨(some 20), none, false, (.mov (.tmp 8))⟩, ⟨(some 21), none, false, (.mov (.tmp 6))⟩, ⟨(some 22), none, false, (.bin .int .add (.tmp 20) (.tmp 21))⟩, ⟨(some 8), none, false, (.mov (.tmp 22))⟩]))))))) (.seq (.ops [⟨(some 23), none, false, (.mov (.tmp 0))⟩, ⟨(some 24), none, false, (.mov (.tmp 7))⟩, ⟨(some 25), none, false, (.mov (.tmp 1))⟩, ⟨(some 26), none, false, (.mov (.tmp 2))⟩, ⟨(some 27), none, false, (.call false (.func 100) [(.tmp 23), (.tmp 24), (.tmp 25), (.tmp 26)])⟩]) (.block 2 (.loop (.seq (.seq (.ops [⟨(some 28), none, false, (.mov (.tmp 6))⟩, ⟨(some 29), none, false, (.mov (.tmp 1))⟩, ⟨(some 30), none, false, (.bin .int .lss (.tmp 28) (.tmp 29))⟩]) (.cond (.tmp 30) .skip (.exit 2))) (.block 3 (.seq (.ops [⟨(some 31), none, false, (.mov (.tmp 6))⟩, ⟨(some 32), none, false, (.bin .int .mul (.const (.int .i64 2)) (.tmp 31))⟩, ⟨(some 7), none, false, (.mov (.const (.int .i64 0)))⟩, ⟨(some 8), none, false, (.mov (.tmp 32))⟩]) (.seq (.block 4 (.loop (.seq (.seq (.ops [⟨(some 33), none, false, (.mov (.tmp 8))⟩, ⟨(some 34), none, false, (.mov (.tmp 1))⟩, ⟨(some 35), none, false, (.bin .int .leq (.tmp 33) (.tmp 34))⟩]) (.cond (.tmp 35) .skip (.exit 4))) (.block 5 (.seq (.ops [⟨(some 36), none, false, (.mov (.tmp 0))⟩, ⟨(some 37), none, false, (.mov (.tmp 7))⟩, ⟨(some 38), none, false, (.mov (.tmp 7))⟩, ⟨(some 39), none, false, (.mov (.tmp 6))⟩, ⟨(some 40), none, false, (.bin .int .add (.tmp 38) (.tmp 39))⟩, ⟨(some 41), none, false, (.mov (.tmp 8))⟩, ⟨(some 42), none, false, (.mov (.tmp 2))⟩, ⟨(some 43), none, false, (.call false (.func 101) [(.tmp 36), (.tmp 37), (.tmp 40), (.tmp 41), (.tmp 42)])⟩]) (.seq (.ops [⟨(some 44), none, false, (.mov (.tmp 8))⟩, ⟨(some 7), none, false, (.mov (.tmp 44))⟩]) (.ops [⟨(some 45), none, false, (.mov (.tmp 8))⟩, ⟨(some 46), none, false, (.mov (.tmp 6))⟩, ⟨(some 47), none, false, (.bin .int .mul (.const (.int .i64 2)) (.tmp 46))⟩, ⟨(some 48), none, false, (.bin .int .add (.tmp 45) (.tmp 47))⟩, ⟨(some 8), none, false, (.mov (.tmp 48))⟩]))))))) (.seq (.seq (.ops [⟨(some 49), none, false, (.mov (.tmp 7))⟩, ⟨(some 50), none, false, (.mov (.tmp 6))⟩, ⟨(some 51), none, false, (.bin .int .add (.tmp 49) (.tmp 50))⟩, ⟨(some 9), none, false, (.mov (.tmp 51))⟩]) (.seq (.ops [⟨(some 52), none, false, (.mov (.tmp 9))⟩, ⟨(some 53), none, false, (.mov (.tmp 1))⟩, ⟨(some 54), none, false, (.bin .int .lss (.tmp 52) (.tmp 53))⟩]) (.cond (.tmp 54) (.ops [⟨(some 55), none, false, (.mov (.tmp 0))⟩, ⟨(some 56), none, false, (.mov (.tmp 7))⟩, ⟨(some 57), none, false, (.mov (.tmp 9))⟩, ⟨(some 58), none, false, (.mov (.tmp 1))⟩, ⟨(some 59), none, false, (.mov (.tmp 2))⟩, ⟨(some 60), none, false, (.call false (.func 101) [(.tmp 55), (.tmp 56), (.tmp 57), (.tmp 58), (.tmp 59)])⟩]) .skip))) (.ops [⟨(some 61), none, false, (.mov (.tmp 6))⟩, ⟨(some 62), none, false, (.bin .int .mul (.tmp 61) (.const (.int .i64 2)))⟩, ⟨(some 6), none, false, (.mov (.tmp 62))⟩]))))))))))))
def m88 : MFun := ⟨k88, []⟩
theorem c88 : compFn Try.prog Try.f88 = some m88 := by kernel_rfl
def k78 : MCode := (.ops [⟨(some 4), none, false, (.mov (.tmp 0))⟩, ⟨(some 5), none, false, (.mov (.tmp 0))⟩, ⟨(some 6), none, false, (.len (.tmp 5))⟩, ⟨(some 7), none, false, (.mov (.tmp 1))⟩, ⟨(some 8), none, false, (.call false (.func 88) [(.tmp 4), (.tmp 6), (.tmp 7)])⟩])
def m78 : MFun := ⟨k78, []⟩
theorem c78 : compFn Try.prog Try.f78 = some m78 := by kernel_rfl
def k79 : MCode := (.seq (.ops [⟨(some 6), none, false, (.mov (.const (.int .i64 0)))⟩]) (.seq (.opsD [⟨(some 7), none, false, (.load false 1 (.tmp 2))⟩, ⟨(some 8), none, false, (.load false 1 (.tmp 3))⟩, ⟨(some 9), none, false, (.mov (.tmp 0))⟩, ⟨(some 10), none, false, (.idxS 5 (.tmp 8) (.tmp 9))⟩, ⟨(some 11), none, false, (.load true 5 (.tmp 10))⟩, ⟨(some 12), none, false, (.load false 1 (.tmp 3))⟩, ⟨(some 13), none, false, (.mov (.tmp 1))⟩, ⟨(some 14), none, false, (.idxS 5 (.tmp 12) (.tmp 13))⟩, ⟨(some 15), none, false, (.load true 5 (.tmp 14))⟩, ⟨(some 16), none, false, (.call false (.tmp 7) [(.tmp 11), (.tmp 15)])⟩, ⟨(some 6), none, false, (.mov (.tmp 16))⟩]) .ret))
def m79 : MFun := ⟨k79, [(.tmp 6)]⟩
theorem c79 : compFn Try.prog Try.f79 = some m79 := by kernel_rfl
def k77 : MCode := (.seq (.ops [⟨(some 3), none, false, (.box 1 (.tmp 0))⟩]) (.ops [⟨(some 4), none, false, (.load false 1 (.tmp 1))⟩, ⟨(some 5), none, false, (.mkFunc (.func 79) [] [(.tmp 3), (.tmp 2)])⟩, ⟨(some 6), none, false, (.call false (.func 78) [(.tmp 4), (.tmp 5)])⟩]))
def m77 : MFun := ⟨k77, []⟩
theorem c77 : compFn Try.prog Try.f77 = some m77 := by kernel_rfl
def k81 : MCode := (.seq (.ops [⟨(some 4), none, false, (.mov (.const (.int .i64 0)))⟩]) (.seq (.block 0 (.seq (.ops [⟨(some 6), none, false, (.mov (.tmp 0))⟩, ⟨(some 7), none, false, (.mov (.tmp 1))⟩, ⟨(some 8), none, false, (.bin .int .lss (.tmp 6) (.tmp 7))⟩, ⟨(some 5), none, false, (.mov (.tmp 8))⟩]) (.cond (.tmp 5) (.seq (.ops [⟨(some 4), none, false, (.mov (.const (.int .i64 (-1))))⟩]) .ret) (.seq (.ops [⟨(some 10), none, false, (.mov (.tmp 0))⟩, ⟨(some 11), none, false, (.mov (.tmp 1))⟩, ⟨(some 12), none, false, (.bin .int .gtr (.tmp 10) (.tmp 11))⟩, ⟨(some 9), none, false, (.mov (.tmp 12))⟩]) (.cond (.tmp 9) (.seq (.ops [⟨(some 4), none, false, (.mov (.const (.int .i64 1)))⟩]) .ret) .skip))))) (.seq (.ops [⟨(some 4), none, false, (.mov (.const (.int .i64 0)))⟩]) .ret)))
def m81 : MFun := ⟨k81, [(.tmp 4)]⟩
theorem c81 : compFn Try.prog Try.f81 = some m81 := by kernel_rfl
def k80 : MCode := (.seq (.ops [⟨(some 2), none, false, (.box 1 (.tmp 0))⟩, ⟨(some 3), none, false, (.box 1 (.tmp 1))⟩, ⟨(some 4), none, false, (.mov (.const (.int .i64 0)))⟩]) (.seq (.ops [⟨(some 5), none, false, (.addOff 3 (.tmp 2))⟩, ⟨(some 6), none, false, (.load false 1 (.tmp 5))⟩, ⟨(some 7), none, false, (.addOff 3 (.tmp 3))⟩, ⟨(some 8), none, false, (.load false 1 (.tmp 7))⟩, ⟨(some 9), none, false, (.call false (.func 81) [(.tmp 6), (.tmp 8)])⟩, ⟨(some 4), none, false, (.mov (.tmp 9))⟩]) .ret))
def m80 : MFun := ⟨k80, [(.tmp 4)]⟩
theorem c80 : compFn Try.prog Try.f80 = some m80 := by kernel_rfl
def k82 : MCode := (.seq (.ops [⟨(some 2), none, false, (.box 1 (.tmp 0))⟩, ⟨(some 3), none, false, (.box 1 (.tmp 1))⟩, ⟨(some 4), none, false, (.mov (.const (.int .i64 0)))⟩]) (.seq (.ops [⟨(some 5), none, false, (.addOff 3 (.tmp 3))⟩, ⟨(some 6), none, false, (.load false 1 (.tmp 5))⟩, ⟨(some 7), none, false, (.addOff 3 (.tmp 2))⟩, ⟨(some 8), none, false, (.load false 1 (.tmp 7))⟩, ⟨(some 9), none, false, (.call false (.func 81) [(.tmp 6), (.tmp 8)])⟩, ⟨(some 4), none, false, (.mov (.tmp 9))⟩]) .ret))
def m82 : MFun := ⟨k82, [(.tmp 4)]⟩
theorem c82 : compFn Try.prog Try.f82 = some m82 := by kernel_rfl
def k83 : MCode := (.seq (.ops [⟨(some 2), none, false, (.box 1 (.tmp 0))⟩, ⟨(some 3), none, false, (.box 1 (.tmp 1))⟩, ⟨(some 4), none, false, (.mov (.const (.int .i64 0)))⟩]) (.seq (.ops [⟨(some 5), none, false, (.addOff 4 (.tmp 3))⟩, ⟨(some 6), none, false, (.load false 1 (.tmp 5))⟩, ⟨(some 7), none, false, (.addOff 4 (.tmp 2))⟩, ⟨(some 8), none, false, (.load false 1 (.tmp 7))⟩, ⟨(some 9), none, false, (.call false (.func 81) [(.tmp 6), (.tmp 8)])⟩, ⟨(some 4), none, false, (.mov (.tmp 9))⟩]) .ret))
def m83 : MFun := ⟨k83, [(.tmp 4)]⟩
theorem c83 : compFn Try.prog Try.f83 = some m83 := by kernel_rfl
def k76 : MCode := (.seq (.ops [⟨(some 1), none, false, (.box 1 (.tmp 0))⟩, ⟨(some 2), none, false, (.mov (.const (.bool false)))⟩]) (.seq (.ops [⟨(some 3), none, false, (.addOff 0 (.tmp 1))⟩, ⟨(some 4), none, false, (.load false 1 (.tmp 3))⟩, ⟨(some 5), none, false, (.bin .int .eql (.tmp 4) (.const (.int .i64 4)))⟩, ⟨(some 6), none, false, (.mov (.tmp 5))⟩, ⟨(some 7), (some (6, false)), false, (.addOff 0 (.tmp 1))⟩, ⟨(some 8), (some (6, false)), false, (.load false 1 (.tmp 7))⟩, ⟨(some 9), (some (6, false)), false, (.bin .int .eql (.tmp 8) (.const (.int .i64 5)))⟩, ⟨(some 10), none, false, (.pick (.tmp 6) (.const (.bool true)) (.tmp 9))⟩, ⟨(some 2), none, false, (.mov (.tmp 10))⟩]) .ret))
def m76 : MFun := ⟨k76, [(.tmp 2)]⟩
theorem c76 : compFn Try.prog Try.f76 = some m76 := by kernel_rfl
def k62 : MCode := (.seq (.ops [⟨(some 5), none, false, (.box 1 (.tmp 2))⟩, ⟨(some 6), none, false, (.mov (.const (.slice none 0 0)))⟩]) (.seq (.ops [⟨(some 7), none, false, (.alloc [(.slice none 0 0)] 1)⟩]) (.seq (.seq (.ops [⟨(some 15), none, false, (.load false 1 (.tmp 5))⟩, ⟨(some 16), none, false, (.len (.tmp 15))⟩, ⟨(some 17), none, false, (.mov (.const (.int .i64 0)))⟩]) (.block 0 (.loop (.seq (.ops [⟨(some 18), none, false, (.bin .int .lss (.tmp 17) (.tmp 16))⟩]) (.seq (.cond (.tmp 18) .skip (.exit 0)) (.seq (.block 1 (.seq (.ops [⟨(some 19), none, false, (.mov (.tmp 17))⟩, ⟨(some 20), none, false, (.idxS 5 (.tmp 15) (.tmp 17))⟩, ⟨(some 21), none, false, (.load true 5 (.tmp 20))⟩, ⟨(some 9), none, false, (.alloc [(.int .i64 0), (.string ⟨#[]⟩), (.string ⟨#[]⟩), (.int .i64 0), (.int .i64 0)] 1)⟩, ⟨(some 8), none, false, (.mov (.tmp 19))⟩, ⟨none, none, false, (.store 5 (.tmp 9) (.tmp 21))⟩]) (.seq (.ops [⟨(some 22), none, false, (.load true 5 (.tmp 9))⟩, ⟨(some 23), none, false, (.call false (.func 76) [(.tmp 22)])⟩]) (.cond (.tmp 23) (.ops [⟨(some 24), none, false, (.load false 1 (.tmp 7))⟩, ⟨(some 25), none, false, (.mov (.tmp 8))⟩, ⟨(some 26), none, false, (.buildSlice [(.int .i64 0)] 1 1 [(0, (1, (.tmp 25)))])⟩, ⟨(some 27), none, false, (.append 1 8 (.tmp 24) (.tmp 26))⟩, ⟨none, none, false, (.store 1 (.tmp 7) (.tmp 27))⟩]) .skip)))) (.ops [⟨(some 28), none, false, (.bin .int .add (.tmp 17) (.const (.int .i64 1)))⟩, ⟨(some 17), none, false, (.mov (.tmp 28))⟩]))))))) (.seq (.ops [⟨(some 29), none, false, (.mkFunc (.func 77) [] [(.tmp 7), (.tmp 5)])⟩, ⟨(some 10), none, false, (.mov (.tmp 29))⟩]) (.seq (.seq (.ops [⟨(some 30), none, false, (.mov (.tmp 0))⟩]) (.block 2 (.seq (.seq (.ops [⟨(some 32), none, false, (.bin .int .eql (.tmp 30) (.const (.int .i64 2)))⟩, ⟨(some 31), none, false, (.mov (.tmp 32))⟩]) (.cond (.tmp 31) .skip (.ops [⟨(some 33), none, false, (.bin .int .eql (.tmp 30) (.const (.int .i64 5)))⟩, ⟨(some 31), none, false, (.mov (.tmp 33))⟩]))) (.cond (.tmp 31) (.ops [⟨(some 34), none, false, (.mov (.tmp 10))⟩, ⟨(some 35), none, false, (.call false (.tmp 34) [(.func 80)])⟩]) (.seq (.ops [⟨(some 37), none, false, (.bin .int .eql (.tmp 30) (.const (.int .i64 3)))⟩, ⟨(some 36), none, false, (.mov (.tmp 37))⟩]) (.cond (.tmp 36) (.ops [⟨(some 38), none, false, (.mov (.tmp 10))⟩, ⟨(some 39), none, false, (.call false (.tmp 38) [(.func 82)])⟩]) (.seq (.ops [⟨(some 41), none, false, (.bin .int .eql (.tmp 30) (.const (.int .i64 4)))⟩, ⟨(some 40), none, false, (.mov (.tmp 41))⟩]) (.cond (.tmp 40) (.ops [⟨(some 42), none, false, (.mov (.tmp 10))⟩, ⟨(some 43), none, false, (.call false (.tmp 42) [(.func 83)])⟩]) (.seq (.ops [⟨(some 45), none, false, (.bin .int .eql (.tmp 30) (.const (.int .i64 6)))⟩, ⟨(some 44), none, false, (.mov (.tmp 45))⟩]) (.cond (.tmp 44) (.seq (.ops [⟨(some 46), none, false, (.load false 1 (.tmp 7))⟩, ⟨(some 47), none, false, (.len (.tmp 46))⟩, ⟨(some 48), none, false, (.bin .int .sub (.tmp 47) (.const (.int .i64 1)))⟩, ⟨(some 11), none, false, (.mov (.tmp 48))⟩]) (.block 3 (.loop (.seq (.seq (.ops [⟨(some 49), none, false, (.mov (.tmp 11))⟩, ⟨(some 50), none, false, (.bin .int .gtr (.tmp 49) (.const (.int .i64 0)))⟩]) (.cond (.tmp 50) .skip (.exit 3))) (.seq (.block 4 (.seq (.ops [⟨(some 53), none, false, (.mov (.tmp 1))⟩, ⟨(some 54), none, false, (.call false (.func 68) [(.tmp 53)])⟩, ⟨(some 1), none, false, (.mov (.tmp 54))⟩]) (.seq (.ops [⟨(some 55), none, false, (.mov (.tmp 1))⟩, ⟨(some 56), none, false, (.mov (.tmp 11))⟩, ⟨(some 57), none, false, (.bin .int .add (.tmp 56) (.const (.int .i64 1)))⟩, ⟨(some 58), none, false, (.bin .int .rem (.tmp 55) (.tmp 57))⟩, ⟨(some 12), none, false, (.mov (.tmp 58))⟩]) (.opsD [⟨(some 59), none, false, (.load false 1 (.tmp 7))⟩, ⟨(some 60), none, false, (.mov (.tmp 11))⟩, ⟨(some 61), none, false, (.load false 1 (.tmp 7))⟩, ⟨(some 62), none, false, (.mov (.tmp 12))⟩, ⟨(some 63), none, false, (.load false 1 (.tmp 7))⟩, ⟨(some 64), none, false, (.mov (.tmp 12))⟩, ⟨(some 65), none, false, (.idxS 1 (.tmp 63) (.tmp 64))⟩, ⟨(some 66), none, false, (.load false 1 (.tmp 65))⟩, ⟨(some 67), none, false, (.load false 1 (.tmp 7))⟩, ⟨(some 68), none, false, (.mov (.tmp 11))⟩, ⟨(some 69), none, false, (.idxS 1 (.tmp 67) (.tmp 68))⟩, ⟨(some 70), none, false, (.load false 1 (.tmp 69))⟩, ⟨(some 71), none, false, (.idxS 1 (.tmp 59) (.tmp 60))⟩, ⟨none, none, false, (.storeX 1 (.tmp 71) (.tmp 66) [7])⟩, ⟨(some 72), none, false, (.idxS 1 (.tmp 61) (.tmp 62))⟩, ⟨none, none, false, (.store 1 (.tmp 72) (.tmp 70))⟩])))) (.ops [⟨(some 51), none, false, (.mov (.tmp 11))⟩, ⟨(some 52), none, false, (.bin .int .sub (.tmp 51) (.const (.int .i64 1)))⟩, ⟨(some 11), none, false, (.mov (.tmp 52))⟩])))))) .skip)))))))))) (.seq (.seq (.ops [⟨(some 73), none, false, (.mov (.tmp 0))⟩, ⟨(some 74), none, false, (.bin .int .neq (.tmp 73) (.const (.int .i64 5)))⟩]) (.cond (.tmp 74) (.seq (.ops [⟨(some 75), none, false, (.load false 1 (.tmp 7))⟩, ⟨(some 6), none, false, (.mov (.tmp 75))⟩]) .ret) .skip)) (.seq (.ops [⟨(some 13), none, false, (.mov (.const (.slice none 0 0)))⟩]) (.seq (.block 5 (.loop (.seq (.seq (.ops [⟨(some 76), none, false, (.load false 1 (.tmp 7))⟩, ⟨(some 77), none, false, (.len (.tmp 76))⟩, ⟨(some 78), none, false, (.bin .int .gtr (.tmp 77) (.const (.int .i64 0)))⟩]) (.cond (.tmp 78) .skip (.exit 5))) (.block 6 (.seq (.ops [⟨(some 79), none, false, (.mov (.tmp 13))⟩, ⟨(some 80), none, false, (.load false 1 (.tmp 7))⟩, ⟨(some 81), none, false, (.idxS 1 (.tmp 80) (.const (.int .i64 0)))⟩, ⟨(some 82), none, false, (.load false 1 (.tmp 81))⟩, ⟨(some 83), none, false, (.buildSlice [(.int .i64 0)] 1 1 [(0, (1, (.tmp 82)))])⟩, ⟨(some 84), none, false, (.append 1 8 (.tmp 79) (.tmp 83))⟩, ⟨(some 13), none, false, (.mov (.tmp 84))⟩]) (.seq (.seq (.ops [⟨(some 85), none, false, (.load false 1 (.tmp 7))⟩, ⟨(some 86), none, false, (.len (.tmp 85))⟩, ⟨(some 87), none, false, (.bin .int .sub (.tmp 86) (.const (.int .i64 1)))⟩, ⟨(some 14), none, false, (.mov (.tmp 87))⟩]) (.seq (.ops [⟨(some 88), none, false, (.mov (.tmp 14))⟩, ⟨(some 89), none, false, (.bin .int .gtr (.tmp 88) (.const (.int .i64 0)))⟩]) (.cond (.tmp 89) (.seq (.ops [⟨(some 90), none, false, (.mov (.tmp 13))⟩, ⟨(some 91), none, false, (.load false 1 (.tmp 7))⟩, ⟨(some 92), none, false, (.mov (.tmp 14))⟩, ⟨(some 93), none, false, (.idxS 1 (.tmp 91) (.tmp 92))⟩, ⟨(some 94), none, false, (.load false 1 (.tmp 93))⟩, ⟨(some 95), none, false, (.buildSlice [(.int .i64 0)] 1 1 [(0, (1, (.tmp 94)))])⟩, ⟨(some 96), none, false, (.append 1 8 (.tmp 90) (.tmp 95))⟩, ⟨(some 13), none, false, (.mov (.tmp 96))⟩]) (.ops [⟨(some 97), none, false, (.load false 1 (.tmp 7))⟩, ⟨(some 98), none, false, (.mov (.tmp 14))⟩, ⟨(some 99), none, false, (.sliceS 1 (.tmp 97) none (some (.tmp 98)))⟩, ⟨none, none, false, (.store 1 (.tmp 7) (.tmp 99))⟩])) .skip))) (.ops [⟨(some 100), none, false, (.load false 1 (.tmp 7))⟩, ⟨(some 101), none, false, (.sliceS 1 (.tmp 100) (some (.const (.int .i64 1))) none)⟩, ⟨none, none, false, (.store 1 (.tmp 7) (.tmp 101))⟩]))))))) (.seq (.ops [⟨(some 102), none, false, (.mov (.tmp 13))⟩, ⟨(some 6), none, false, (.mov (.tmp 102))⟩]) .ret)))))))))
def m62 : MFun := ⟨k62, [(.tmp 6)]⟩
theorem c62 : compFn Try.prog Try.f62 = some m62 := by kernel_rfl
def k40 : MCode := (.seq (.ops [⟨(some 6), none, false, (.mov (.const (.slice none 0 0)))⟩, ⟨(some 7), none, false, (.mov (.const (.int .i64 0)))⟩]) (.seq (.block 0 (.seq (.ops [⟨(some 9), none, false, (.mov (.tmp 0))⟩, ⟨(some 10), none, false, (.bin .int .lss (.tmp 9) (.const (.int .i64 1)))⟩, ⟨(some 11), none, false, (.mov (.tmp 10))⟩, ⟨(some 12), (some (11, false)), false, (.mov (.tmp 0))⟩, ⟨(some 13), (some (11, false)), false, (.bin .int .gtr (.tmp 12) (.const (.int .i64 6)))⟩, ⟨(some 14), none, false, (.pick (.tmp 11) (.const (.bool true)) (.tmp 13))⟩, ⟨(some 8), none, false, (.mov (.tmp 14))⟩]) (.cond (.tmp 8) (.seq (.ops [⟨(some 6), none, false, (.mov (.const (.slice none 0 0)))⟩, ⟨(some 7), none, false, (.mov (.const (.int .i64 5)))⟩]) .ret) (.seq (.ops [⟨(some 16), none, false, (.mov (.tmp 1))⟩, ⟨(some 17), none, false, (.call false (.func 48) [(.tmp 16)])⟩, ⟨(some 18), none, false, (.un .not (.tmp 17))⟩, ⟨(some 15), none, false, (.mov (.tmp 18))⟩]) (.cond (.tmp 15) (.seq (.ops [⟨(some 6), none, false, (.mov (.const (.slice none 0 0)))⟩, ⟨(some 7), none, false, (.mov (.const (.int .i64 7)))⟩]) .ret) (.seq (.ops [⟨(some 20), none, false, (.mov (.tmp 2))⟩, ⟨(some 21), none, false, (.len (.tmp 20))⟩, ⟨(some 22), none, false, (.bin .int .gtr (.tmp 21) (.const (.int .i64 20000)))⟩, ⟨(some 19), none, false, (.mov (.tmp 22))⟩]) (.cond (.tmp 19) (.seq (.ops [⟨(some 6), none, false, (.mov (.const (.slice none 0 0)))⟩, ⟨(some 7), none, false, (.mov (.const (.int .i64 8)))⟩]) .ret) .skip))))))) (.seq (.ops [⟨(some 23), none, false, (.mov (.tmp 0))⟩, ⟨(some 24), none, false, (.mov (.tmp 1))⟩, ⟨(some 25), none, false, (.mov (.tmp 2))⟩, ⟨(some 26), none, false, (.call false (.func 62) [(.tmp 23), (.tmp 24), (.tmp 25)])⟩, ⟨(some 6), none, false, (.mov (.tmp 26))⟩, ⟨(some 7), none, false, (.mov (.const (.int .i64 0)))⟩]) .ret)))
def m40 : MFun := ⟨k40, [(.tmp 6), (.tmp 7)]⟩
theorem c40 : compFn Try.prog Try.f40 = some m40 := by kernel_rfl
def k63 : MCode := (.seq (.ops [⟨(some 6), none, false, (.mov (.const (.bool false)))⟩]) (.seq (.seq (.ops [⟨(some 7), none, false, (.load false 1 (.tmp 2))⟩]) (.block 0 (.seq (.seq (.ops [⟨(some 9), none, false, (.bin .int .eql (.tmp 7) (.const (.int .i64 2)))⟩, ⟨(some 8), none, false, (.mov (.tmp 9))⟩]) (.cond (.tmp 8) .skip (.ops [⟨(some 10), none, false, (.bin .int .eql (.tmp 7) (.const (.int .i64 5)))⟩, ⟨(some 8), none, false, (.mov (.tmp 10))⟩]))) (.cond (.tmp 8) (.seq (.opsD [⟨(some 11), none, false, (.load false 1 (.tmp 3))⟩, ⟨(some 12), none, false, (.mov (.tmp 0))⟩, ⟨(some 13), none, false, (.idxS 5 (.tmp 11) (.tmp 12))⟩, ⟨(some 14), none, false, (.addOff 3 (.tmp 13))⟩, ⟨(some 15), none, false, (.load false 1 (.tmp 14))⟩, ⟨(some 16), none, false, (.load false 1 (.tmp 3))⟩, ⟨(some 17), none, false, (.mov (.tmp 1))⟩, ⟨(some 18), none, false, (.idxS 5 (.tmp 16) (.tmp 17))⟩, ⟨(some 19), none, false, (.addOff 3 (.tmp 18))⟩, ⟨(some 20), none, false, (.load false 1 (.tmp 19))⟩, ⟨(some 21), none, false, (.bin .int .lss (.tmp 15) (.tmp 20))⟩, ⟨(some 6), none, false, (.mov (.tmp 21))⟩]) .ret) (.seq (.ops [⟨(some 23), none, false, (.bin .int .eql (.tmp 7) (.const (.int .i64 3)))⟩, ⟨(some 22), none, false, (.mov (.tmp 23))⟩]) (.cond (.tmp 22) (.seq (.opsD [⟨(some 24), none, false, (.load false 1 (.tmp 3))⟩, ⟨(some 25), none, false, (.mov (.tmp 0))⟩, ⟨(some 26), none, false, (.idxS 5 (.tmp 24) (.tmp 25))⟩, ⟨(some 27), none, false, (.addOff 3 (.tmp 26))⟩, ⟨(some 28), none, false, (.load false 1 (.tmp 27))⟩, ⟨(some 29), none, false, (.load false 1 (.tmp 3))⟩, ⟨(some 30), none, false, (.mov (.tmp 1))⟩, ⟨(some 31), none, false, (.idxS 5 (.tmp 29) (.tmp 30))⟩, ⟨(some 32), none, false, (.addOff 3 (.tmp 31))⟩, ⟨(some 33), none, false, (.load false 1 (.tmp 32))⟩, ⟨(some 34), none, false, (.bin .int .gtr (.tmp 28) (.tmp 33))⟩, ⟨(some 6), none, false, (.mov (.tmp 34))⟩]) .ret) (.seq (.ops [⟨(some 36), none, false, (.bin .int .eql (.tmp 7) (.const (.int .i64 4)))⟩, ⟨(some 35), none, false, (.mov (.tmp 36))⟩]) (.cond (.tmp 35) (.seq (.opsD [⟨(some 37), none, false, (.load false 1 (.tmp 3))⟩, ⟨(some 38), none, false, (.mov (.tmp 0))⟩, ⟨(some 39), none, false, (.idxS 5 (.tmp 37) (.tmp 38))⟩, ⟨(some 40), none, false, (.addOff 4 (.tmp 39))⟩, ⟨(some 41), none, false, (.load false 1 (.tmp 40))⟩, ⟨(some 42), none, false, (.load false 1 (.tmp 3))⟩, ⟨(some 43), none, false, (.mov (.tmp 1))⟩, ⟨(some 44), none, false, (.idxS 5 (.tmp 42) (.tmp 43))⟩, ⟨(some 45), none, false, (.addOff 4 (.tmp 44))⟩, ⟨(some 46), none, false, (.load false 1 (.tmp 45))⟩, ⟨(some 47), none, false, (.bin .int .gtr (.tmp 41) (.tmp 46))⟩, ⟨(some 6), none, false, (.mov (.tmp 47))⟩]) .ret) .skip)))))))) (.seq (.ops [⟨(some 6), none, false, (.mov (.const (.bool false)))⟩]) .ret)))
def m63 : MFun := ⟨k63, [(.tmp 6)]⟩
theorem c63 : compFn Try.prog Try.f63 = some m63 := by kernel_rfl
def k41 : MCode := (.seq (.ops [⟨(some 3), none, false, (.box 1 (.tmp 0))⟩, ⟨(some 5), none, false, (.box 1 (.tmp 2))⟩, ⟨(some 6), none, false, (.mov (.const (.slice none 0 0)))⟩]) (.seq (.ops [⟨(some 7), none, false, (.mov (.const (.slice none 0 0)))⟩]) (.seq (.ops [⟨(some 17), none, false, (.mkFunc (.func 63) [] [(.tmp 3), (.tmp 5)])⟩, ⟨(some 8), none, false, (.mov (.tmp 17))⟩]) (.seq (.seq (.ops [⟨(some 18), none, false, (.load false 1 (.tmp 5))⟩, ⟨(some 19), none, false, (.len (.tmp 18))⟩, ⟨(some 20), none, false, (.mov (.const (.int .i64 0)))⟩]) (.block 0 (.loop (.seq (.ops [⟨(some 21), none, false, (.bin .int .lss (.tmp 20) (.tmp 19))⟩]) (.seq (.cond (.tmp 21) .skip (.exit 0)) (.seq (.block 1 (.seq (.ops [⟨(some 22), none, false, (.mov (.tmp 20))⟩, ⟨(some 23), none, false, (.idxS 5 (.tmp 18) (.tmp 20))⟩, ⟨(some 24), none, false, (.load true 5 (.tmp 23))⟩, ⟨(some 10), none, false, (.alloc [(.int .i64 0), (.string ⟨#[]⟩), (.string ⟨#[]⟩), (.int .i64 0), (.int .i64 0)] 1)⟩, ⟨(some 9), none, false, (.mov (.tmp 22))⟩, ⟨none, none, false, (.store 5 (.tmp 10) (.tmp 24))⟩]) (.seq (.seq (.ops [⟨(some 25), none, false, (.addOff 0 (.tmp 10))⟩, ⟨(some 26), none, false, (.load false 1 (.tmp 25))⟩, ⟨(some 27), none, false, (.bin .int .neq (.tmp 26) (.const (.int .i64 4)))⟩, ⟨(some 28), none, false, (.mov (.tmp 27))⟩, ⟨(some 29), (some (28, true)), false, (.addOff 0 (.tmp 10))⟩, ⟨(some 30), (some (28, true)), false, (.load false 1 (.tmp 29))⟩, ⟨(some 31), (some (28, true)), false, (.bin .int .neq (.tmp 30) (.const (.int .i64 5)))⟩, ⟨(some 32), none, false, (.pick (.tmp 28) (.tmp 31) (.const (.bool false)))⟩]) (.cond (.tmp 32) (.exit 1) .skip)) (.seq (.ops [⟨(some 33), none, false, (.mov (.tmp 7))⟩, ⟨(some 34), none, false, (.len (.tmp 33))⟩, ⟨(some 11), none, false, (.mov (.tmp 34))⟩]) (.seq (.ops [⟨(some 35), none, false, (.mov (.tmp 7))⟩, ⟨(some 36), none, false, (.mov (.tmp 9))⟩, ⟨(some 37), none, false, (.buildSlice [(.int .i64 0)] 1 1 [(0, (1, (.tmp 36)))])⟩, ⟨(some 38), none, false, (.append 1 8 (.tmp 35) (.tmp 37))⟩, ⟨(some 7), none, false, (.mov (.tmp 38))⟩]) (.seq (.block 2 (.loop (.seq (.seq (.ops [⟨(some 39), none, false, (.mov (.tmp 11))⟩, ⟨(some 40), none, false, (.bin .int .gtr (.tmp 39) (.const (.int .i64 0)))⟩, ⟨(some 41), none, false, (.mov (.tmp 40))⟩, ⟨(some 42), (some (41, true)), false, (.mov (.tmp 8))⟩, ⟨(some 43), (some (41, true)), false, (.mov (.tmp 9))⟩, ⟨(some 44), (some (41, true)), false, (.mov (.tmp 7))⟩, ⟨(some 45), (some (41, true)), false, (.mov (.tmp 11))⟩, ⟨(some 46), (some (41, true)), false, (.bin .int .sub (.tmp 45) (.const (.int .i64 1)))⟩, ⟨(some 47), (some (41, true)), false, (.idxS 1 (.tmp 44) (.tmp 46))⟩, ⟨(some 48), (some (41, true)), false, (.load false 1 (.tmp 47))⟩, ⟨(some 49), (some (41, true)), false, (.call false (.tmp 42) [(.tmp 43), (.tmp 48)])⟩, ⟨(some 50), none, false, (.pick (.tmp 41) (.tmp 49) (.const (.bool false)))⟩]) (.cond (.tmp 50) .skip (.exit 2))) (.block 3 (.seq (.ops [⟨(some 51), none, false, (.mov (.tmp 7))⟩, ⟨(some 52), none, false, (.mov (.tmp 11))⟩, ⟨(some 53), none, false, (.mov (.tmp 7))⟩, ⟨(some 54), none, false, (.mov (.tmp 11))⟩, ⟨(some 55), none, false, (.bin .int .sub (.tmp 54) (.const (.int .i64 1)))⟩, ⟨(some 56), none, false, (.idxS 1 (.tmp 53) (.tmp 55))⟩, ⟨(some 57), none, false, (.load false 1 (.tmp 56))⟩, ⟨(some 58), none, false, (.idxS 1 (.tmp 51) (.tmp 52))⟩, ⟨none, none, false, (.store 1 (.tmp 58) (.tmp 57))⟩]) (.ops [⟨(some 59), none, false, (.mov (.tmp 11))⟩, ⟨(some 60), none, false, (.bin .int .sub (.tmp 59) (.const (.int .i64 1)))⟩, ⟨(some 11), none, false, (.mov (.tmp 60))⟩])))))) (.ops [⟨(some 61), none, false, (.mov (.tmp 7))⟩, ⟨(some 62), none, false, (.mov (.tmp 11))⟩, ⟨(some 63), none, false, (.mov (.tmp 9))⟩, ⟨(some 64), none, false, (.idxS 1 (.tmp 61) (.tmp 62))⟩, ⟨none, none, false, (.store 1 (.tmp 64) (.tmp 63))⟩]))))))) (.ops [⟨(some 65), none, false, (.bin .int .add (.tmp 20) (.const (.int .i64 1)))⟩, ⟨(some 20), none, false, (.mov (.tmp 65))⟩]))))))) (.seq (.seq (.ops [⟨(some 66), none, false, (.load false 1 (.tmp 3))⟩, ⟨(some 67), none, false, (.bin .int .eql (.tmp 66) (.const (.int .i64 5)))⟩]) (.cond (.tmp 67) (.seq (.ops [⟨(some 12), none, false, (.mov (.const (.slice none 0 0)))⟩]) (.seq (.seq (.ops [⟨(some 68), none, false, (.mov (.tmp 7))⟩, ⟨(some 69), none, false, (.len (.tmp 68))⟩, ⟨(some 70), none, false, (.bin .int .sub (.tmp 69) (.const (.int .i64 1)))⟩, ⟨(some 13), none, false, (.mov (.const (.int .i64 0)))⟩, ⟨(some 14), none, false, (.mov (.tmp 70))⟩]) (.block 4 (.loop (.seq (.seq (.ops [⟨(some 71), none, false, (.mov (.tmp 13))⟩, ⟨(some 72), none, false, (.mov (.tmp 14))⟩, ⟨(some 73), none, false, (.bin .int .leq (.tmp 71) (.tmp 72))⟩]) (.cond (.tmp 73) .skip (.exit 4))) (.block 5 (.seq (.ops [⟨(some 74), none, false, (.mov (.tmp 12))⟩, ⟨(some 75), none, false, (.mov (.tmp 7))⟩, ⟨(some 76), none, false, (.mov (.tmp 13))⟩, ⟨(some 77), none, false, (.idxS 1 (.tmp 75) (.tmp 76))⟩, ⟨(some 78), none, false, (.load false 1 (.tmp 77))⟩, ⟨(some 79), none, false, (.buildSlice [(.int .i64 0)] 1 1 [(0, (1, (.tmp 78)))])⟩, ⟨(some 80), none, false, (.append 1 8 (.tmp 74) (.tmp 79))⟩, ⟨(some 12), none, false, (.mov (.tmp 80))⟩]) (.seq (.ops [⟨(some 81), none, false, (.mov (.tmp 13))⟩, ⟨(some 82), none, false, (.bin .int .add (.tmp 81) (.const (.int .i64 1)))⟩, ⟨(some 13), none, false, (.mov (.tmp 82))⟩]) (.seq (.ops [⟨(some 83), none, false, (.mov (.tmp 13))⟩, ⟨(some 84), none, false, (.mov (.tmp 14))⟩, ⟨(some 85), none, false, (.bin .int .leq (.tmp 83) (.tmp 84))⟩]) (.cond (.tmp 85) (.seq (.ops [⟨(some 86), none, false, (.mov (.tmp 12))⟩, ⟨(some 87), none, false, (.mov (.tmp 7))⟩, ⟨(some 88), none, false, (.mov (.tmp 14))⟩, ⟨(some 89), none, false, (.idxS 1 (.tmp 87) (.tmp 88))⟩, ⟨(some 90), none, false, (.load false 1 (.tmp 89))⟩, ⟨(some 91), none, false, (.buildSlice [(.int .i64 0)] 1 1 [(0, (1, (.tmp 90)))])⟩, ⟨(some 92), none, false, (.append 1 8 (.tmp 86) (.tmp 91))⟩, ⟨(some 12), none, false, (.mov (.tmp 92))⟩]) (.ops [⟨(some 93), none, false, (.mov (.tmp 14))⟩, ⟨(some 94), none, false, (.bin .int .sub (.tmp 93) (.const (.int .i64 1)))⟩, ⟨(some 14), none, false, (.mov (.tmp 94))⟩])) .skip))))))))) (.seq (.ops [⟨(some 95), none, false, (.mov (.tmp 12))⟩, ⟨(some 6), none, false, (.mov (.tmp 95))⟩]) .ret))) .skip)) (.seq (.seq (.ops [⟨(some 96), none, false, (.load false 1 (.tmp 3))⟩, ⟨(some 97), none, false, (.bin .int .eql (.tmp 96) (.const (.int .i64 6)))⟩]) (.cond (.tmp 97) (.seq (.ops [⟨(some 98), none, false, (.mov (.tmp 7))⟩, ⟨(some 99), none, false, (.len (.tmp 98))⟩, ⟨(some 100), none, false, (.bin .int .sub (.tmp 99) (.const (.int .i64 1)))⟩, ⟨(some 15), none, false, (.mov (.tmp 100))⟩]) (.block 6 (.loop (.seq (.seq (.ops [⟨(some 101), none, false, (.mov (.tmp 15))⟩, ⟨(some 102), none, false, (.bin .int .gtr (.tmp 101) (.const (.int .i64 0)))⟩]) (.cond (.tmp 102) .skip (.exit 6))) (.seq (.block 7 (.seq (.ops [⟨(some 105), none, false, (.mov (.tmp 1))⟩, ⟨(some 106), none, false, (.call false (.func 50) [(.tmp 105)])⟩, ⟨(some 1), none, false, (.mov (.tmp 106))⟩]) (.seq (.ops [⟨(some 107), none, false, (.mov (.tmp 1))⟩, ⟨(some 108), none, false, (.mov (.tmp 15))⟩, ⟨(some 109), none, false, (.bin .int .add (.tmp 108) (.const (.int .i64 1)))⟩, ⟨(some 110), none, false, (.bin .int .rem (.tmp 107) (.tmp 109))⟩, ⟨(some 16), none, false, (.mov (.tmp 110))⟩]) (.opsD [⟨(some 111), none, false, (.mov (.tmp 7))⟩, ⟨(some 112), none, false, (.mov (.tmp 15))⟩, ⟨(some 113), none, false, (.mov (.tmp 7))⟩, ⟨(some 114), none, false, (.mov (.tmp 16))⟩, ⟨(some 115), none, false, (.mov (.tmp 7))⟩, ⟨(some 116), none, false, (.mov (.tmp 16))⟩, ⟨(some 117), none, false, (.idxS 1 (.tmp 115) (.tmp 116))⟩, ⟨(some 118), none, false, (.load false 1 (.tmp 117))⟩, ⟨(some 119), none, false, (.mov (.tmp 7))⟩, ⟨(some 120), none, false, (.mov (.tmp 15))⟩, ⟨(some 121), none, false, (.idxS 1 (.tmp 119) (.tmp 120))⟩, ⟨(some 122), none, false, (.load false 1 (.tmp 121))⟩, ⟨(some 123), none, false, (.idxS 1 (.tmp 111) (.tmp 112))⟩, ⟨none, none, false, (.store 1 (.tmp 123) (.tmp 118))⟩, ⟨(some 124), none, false, (.idxS 1 (.tmp 113) (.tmp 114))⟩, ⟨none, none, false, (.store 1 (.tmp 124) (.tmp 122))⟩])))) (.ops [⟨(some 103), none, false, (.mov (.tmp 15))⟩, ⟨(some 104), none, false, (.bin .int .sub (.tmp 103) (.const (.int .i64 1)))⟩, ⟨(some 15), none, false, (.mov (.tmp 104))⟩])))))) .skip)) (.seq (.ops [⟨(some 125), none, false, (.mov (.tmp 7))⟩, ⟨(some 6), none, false, (.mov (.tmp 125))⟩]) .ret)))))))
def m41 : MFun := ⟨k41, [(.tmp 6)]⟩
theorem c41 : compFn Try.prog Try.f41 = some m41 := by kernel_rfl
def k9 : MCode := (.seq (.ops [⟨(some 6), none, false, (.mov (.const (.bool false)))⟩]) (.seq (.ops [⟨(some 11), none, false, (.mov (.tmp 0))⟩, ⟨(some 12), none, false, (.mov (.tmp 1))⟩, ⟨(some 13), none, false, (.mov (.tmp 2))⟩, ⟨(some 14), none, false, (.call false (.func 40) [(.tmp 11), (.tmp 12), (.tmp 13)])⟩, ⟨(some 10), none, false, (.mov (.tmp 14))⟩, ⟨(some 15), none, false, (.extract (.tmp 10) 0)⟩, ⟨(some 16), none, false, (.extract (.tmp 10) 1)⟩, ⟨(some 7), none, false, (.mov (.tmp 15))⟩, ⟨(some 8), none, false, (.mov (.tmp 16))⟩]) (.seq (.ops [⟨(some 17), none, false, (.mov (.tmp 0))⟩, ⟨(some 18), none, false, (.call false (.func 17) [(.tmp 17), (.const (.int .i64 1)), (.const (.int .i64 6))])⟩, ⟨(some 19), none, false, (.un .not (.tmp 18))⟩, ⟨(some 20), none, false, (.call false (.func 16) [(.tmp 19), (.const (.int .i64 5))])⟩, ⟨(some 21), none, false, (.mov (.tmp 1))⟩, ⟨(some 22), none, false, (.call false (.func 17) [(.tmp 21), (.const (.int .i64 0)), (.const (.int .i64 2147483647))])⟩, ⟨(some 23), none, false, (.un .not (.tmp 22))⟩, ⟨(some 24), none, false, (.call false (.func 16) [(.tmp 23), (.const (.int .i64 7))])⟩, ⟨(some 25), none, false, (.mov (.tmp 2))⟩, ⟨(some 26), none, false, (.len (.tmp 25))⟩, ⟨(some 27), none, false, (.bin .int .gtr (.tmp 26) (.const (.int .i64 20000)))⟩, ⟨(some 28), none, false, (.call false (.func 16) [(.tmp 27), (.const (.int .i64 8))])⟩, ⟨(some 29), none, false, (.buildSlice [(.int .i64 0), (.int .i64 0), (.int .i64 0)] 1 3 [(0, (1, (.tmp 20))), (1, (1, (.tmp 24))), (2, (1, (.tmp 28)))])⟩, ⟨(some 30), none, false, (.call false (.func 15) [(.tmp 29)])⟩, ⟨(some 9), none, false, (.mov (.tmp 30))⟩]) (.seq (.seq (.ops [⟨(some 31), none, false, (.call false (.func 14) [])⟩, ⟨(some 32), none, false, (.un .not (.tmp 31))⟩, ⟨(some 33), none, false, (.mov (.tmp 32))⟩, ⟨(some 34), (some (33, false)), false, (.mov (.tmp 9))⟩, ⟨(some 35), (some (33, false)), false, (.bin .int .neq (.tmp 34) (.const (.int .i64 0)))⟩, ⟨(some 36), none, false, (.pick (.tmp 33) (.const (.bool true)) (.tmp 35))⟩]) (.cond (.tmp 36) (.seq (.ops [⟨(some 37), none, false, (.call false (.func 14) [])⟩, ⟨(some 38), none, false, (.mov (.tmp 37))⟩, ⟨(some 39), (some (38, true)), false, (.mov (.tmp 7))⟩, ⟨(some 40), (some (38, true)), false, (.len (.tmp 39))⟩, ⟨(some 41), (some (38, true)), false, (.bin .int .eql (.tmp 40) (.const (.int .i64 0)))⟩, ⟨(some 42), none, false, (.pick (.tmp 38) (.tmp 41) (.const (.bool false)))⟩, ⟨(some 43), none, false, (.mov (.tmp 42))⟩, ⟨(some 44), (some (43, true)), false, (.mov (.tmp 8))⟩, ⟨(some 45), (some (43, true)), false, (.mov (.tmp 9))⟩, ⟨(some 46), (some (43, true)), false, (.bin .int .eql (.tmp 44) (.tmp 45))⟩, ⟨(some 47), none, false, (.pick (.tmp 43) (.tmp 46) (.const (.bool false)))⟩, ⟨(some 6), none, false, (.mov (.tmp 47))⟩]) .ret) .skip)) (.seq (.ops [⟨(some 48), none, false, (.mov (.tmp 8))⟩, ⟨(some 49), none, false, (.bin .int .eql (.tmp 48) (.const (.int .i64 0)))⟩, ⟨(some 50), none, false, (.mov (.tmp 49))⟩, ⟨(some 51), (some (50, true)), false, (.mov (.tmp 7))⟩, ⟨(some 52), (some (50, true)), false, (.mov (.tmp 0))⟩, ⟨(some 53), (some (50, true)), false, (.mov (.tmp 1))⟩, ⟨(some 54), (some (50, true)), false, (.mov (.tmp 2))⟩, ⟨(some 55), (some (50, true)), false, (.call false (.func 41) [(.tmp 52), (.tmp 53), (.tmp 54)])⟩, ⟨(some 56), (some (50, true)), false, (.call false (.func 18) [(.tmp 51), (.tmp 55)])⟩, ⟨(some 57), none, false, (.pick (.tmp 50) (.tmp 56) (.const (.bool false)))⟩, ⟨(some 6), none, false, (.mov (.tmp 57))⟩]) .ret)))))
def m9 : MFun := ⟨k9, [(.tmp 6)]⟩
theorem c9 : compFn Try.prog Try.f9 = some m9 := by kernel_rfl
end Go.Proofs.Ytidpkoaomfbljaa.AM
/- From the abstract machine to the row. -/
namespace Go.Proofs.Ytidpkoaomfbljaa.AM
open Go Go.RowKit Go.ChangeShapes Go.WideShapes Go.ChangeAt
set_option linter.all false

theorem own : ownKnob Try.prog.godebug = none := by kernel_rfl
theorem laidOut : laidOutB Try.prog = true := by kernel_rfl
theorem mixed : Try.prog.follows .mixedOrders = true := by kernel_rfl

/-- What the abstract machine returns is what the call returns. -/
theorem calls_of_val {P : Program} {N : Nat} {tbl : Tbl} (hm : P.follows .mixedOrders = true) (ht : ∀ N, TblOk P N tbl) {n : FuncId} {fn : Func} (hf : P.funcs[n]? = some fn) (hb : fn.body.isSome = true) (hn : (fn.name == "runtime.NumGoroutine") = false)
    {vs : List Value} {H H' : AH} {v : Value} (hv : Val tbl n vs H v H') {c : CMap} {w : World} {args : Array Value} (hs : Sim N c H w) (ha : VRL H.next c vs args.toList) :
    Calls P n args w fun | .returned v', w' => ∃ c', VR H'.next c' v v' ∧ Sim N c' H' w' ∧ ExtW N c H w c' H' w' | _, _ => False := by
  obtain ⟨k, hk⟩ := hv
  rcases (evF_ok hm ht k N).2 n vs H v H' hk c w args hs ha with ⟨v', w', h1, _⟩ | ⟨_, h⟩
  · exfalso
    obtain ⟨bd, hb'⟩ := Option.isSome_iff_exists.1 hb
    have hn' : ¬ fn.name = "runtime.NumGoroutine" := by simpa using hn
    have he : (callFunc n args).run P w = .ok (.enter n args) w := by simp [callFunc, hf, hn', hb']
    rw [he] at h1
    simp at h1
  · exact h

section
variable {H : Type} {enc : TypeId × Value → H}
/-- All arguments read behind the call as they read before. -/
theorem trodAll_below {P : Program} (hl : laidOutB P = true) {W W' : World} (hb : Below W.heap.size W W') : ∀ {ts : List TypeId} {vs : List Value} {ds : List (DataW H)} {ps : List MemPlace},
    (ts.all fun t => P.readableRec t && decide (t < P.types.size)) = true → DataW.TrodAll enc P W 0 (fun _ => true) true ts vs ds ps → (∀ x ∈ ps, x.block < W.heap.size) →
    DataW.TrodAll enc P W' 0 (fun b => decide (b < W.heap.size)) true ts vs ds ps
  | [], vs, ds, ps, _, h, _ => by
    obtain ⟨rfl, rfl, rfl⟩ := trodAll_nil h
    exact rfl
  | t :: ts, vs, ds, ps, ht, h, hlt => by
    obtain ⟨v, vs1, d, ds1, a, b, rfl, rfl, rfl, h1, h2⟩ := trodAll_cons h
    simp only [List.all_cons, Bool.and_eq_true, decide_eq_true_eq] at ht
    exact ⟨a, b, Below.trod hl ht.1.1 ht.1.2 h1 hb fun x hx => hlt x (List.mem_append_left _ hx), trodAll_below hl hb (by simpa using ht.2) h2 fun x hx => hlt x (List.mem_append_right _ hx), rfl⟩

set_option maxRecDepth 100000 in
/-- A law: it returns true, and each argument reads as it read. -/
theorem law_lifted {os : Os} (started : os.Started) {f : FuncId} {fn : Func} {s : ChangeSpec} {tb : TypeId} {conds : List PathCond} {apart again : Bool} (hag : again = false)
    (hvars : s.vars = []) (hfn : Try.prog.funcs[f]? = some fn) (hinit : Try.prog.inits.idxOf? f = none) (hres : fn.resultTypes = #[tb]) (htb : Try.prog.underlying tb = some .bool)
    (hread : (fn.params.toList.all fun t => Try.prog.readableRec t && decide (t < Try.prog.types.size)) = true)
    (hspec : ∀ (ds : List (DataW H)), ds.length = fn.params.size → s.fn H (ds ++ []) = { results := [.lit (.bool true)], args := ds })
    (witness : ∃ (w : World) (tape : Tape) (i : Input), w.os = os ∧ (w.forCall tape i).Shaped Try.checked.prog ∧ i.vars = [] ∧ Input.okWide Try.checked.prog (w.forCall tape i) .any w.heap.size f i ∧
      s.pre6 enc Try.checked.prog fn conds apart (w.forCall tape i).memory i.args ∧ ({} : Assume).holds Try.checked.prog (lone (Frame.enter Try.checked.prog f i.args .normal) [] (w.forCall tape i)))
    (run : ∀ (W : World) (args : Array Value) (ds : List (DataW H)) (ps : List MemPlace) (base : Nat), (∀ (j : Nat) t v, fn.params[j]? = some t → args[j]? = some v → Value.okWide Try.prog W .any base t v) →
      DataW.TrodAll enc Try.prog W 0 (fun _ => true) true fn.params.toList args.toList ds ps → (∀ x ∈ ps, x.block < W.heap.size) →
      Calls Try.prog f args W fun | .returned v', W' => v' = .bool true ∧ Below W.heap.size W W' | _, _ => False) :
    ReturnsInHanded {} Try.checked os f .any (s.pre6 enc Try.prog fn conds apart) (s.post enc Try.prog fn apart true false again) := by
  subst hag
  refine returnsInHanded_of_change (C := Try.checked) own started hinit hfn witness ?_
  intro W base args ds gs before hval hW hcnd _
  have hW' := hW
  obtain ⟨p, q, hA, hV, rfl, hfz, hnd⟩ := hW
  rw [hvars] at hV
  obtain ⟨rfl, rfl⟩ := trodVars_none hV
  rw [List.append_nil] at hW'
  have hlt : ∀ x ∈ p, x.block < W.heap.size := fun x hx => by simpa using hW'.lt x hx
  refine (run W args ds p base hval hA hlt).mono fun e W' he => ?_
  cases e with
  | panicked ch => exact he.elim
  | outgrown => exact he.elim
  | returned v =>
    obtain ⟨rfl, hb⟩ := he
    refine ⟨_, rfl, ?_⟩
    have hlen : ds.length = fn.params.size := by
      have := (trodAll_length hA).2
      simpa using this
    have hs := hspec ds hlen
    refine ⟨ds, [], p, [], p, [], hW', ?_, ?_, ?_, hb.frame _, fun h => by simp at h⟩
    · rw [hs, hres]
      exact trodAll_mk1 (shut_bool htb true)
    · rw [hs]
      exact trodAll_below laidOut hb hread hA hlt
    · rw [hs, hvars]
      exact rfl
end
end Go.Proofs.Ytidpkoaomfbljaa.AM
/- Arguments of laws are read. -/
namespace Go.Proofs.Ytidpkoaomfbljaa.AM
open Go Go.RowKit Go.ChangeShapes Go.WideShapes Go.ChangeAt
set_option linter.all false

theorem cell_int {P : Program} {w : World} {r : Reach} {b : Nat} {u : TypeId} {k : IntKind} {v : Value} (hu : P.underlying u = some (.int k)) (h : Cell.okWide P w r b u v) : ∃ n, v = .int k n ∧ k.has n := by
  unfold Cell.okWide at h
  rw [hu] at h
  cases v <;> simp only [Cell.ok, hu] at h
  obtain ⟨rfl, h2⟩ := h
  exact ⟨_, rfl, h2⟩
theorem val_int {P : Program} {w : World} {r : Reach} {b : Nat} {u : TypeId} {k : IntKind} {v : Value} (hu : P.underlying u = some (.int k)) (h : Value.okWide P w r b u v) : ∃ n, v = .int k n ∧ k.has n := by
  unfold Value.okWide at h
  rw [hu] at h
  exact cell_int hu h
/-- The start: nothing is there. -/
def H0 : AH := ⟨[none], 1⟩
theorem sim0 {N : Nat} {w : World} (h : N ≤ w.heap.size) : Sim N (fun _ => none) H0 w := by
  refine ⟨fun id => ?_, fun id b l hb hc => by simp at hc, fun id id' b l l' _ _ _ hc _ => by simp at hc, h⟩
  have : H0.get id = none := by
    unfold H0 AH.get
    cases id with
    | zero => rfl
    | succ n => simp
  rw [this]; rfl
theorem tblOk_of {P : Program} {N : Nat} {l : List (Nat × Ent)} (h : ∀ p ∈ l, EntOk P N p.1 p.2) : TblOk P N (lookT l) := fun n e he => h _ (lookup_mem he)
end Go.Proofs.Ytidpkoaomfbljaa.AM
/- Arguments that are slices of words: the start heap. -/
namespace Go.Proofs.Ytidpkoaomfbljaa.AM
open Go Go.RowKit Go.ChangeShapes Go.WideShapes Go.ChangeAt
set_option linter.all false

theorem cells_at {w : World} {base : Nat} {a : Addr} {n : Nat} {cs : List Value} (h : w.cells? base a n = some cs) : cs.length = n ∧ ∀ i, i < n → w.cell? (a.add i) = cs[i]? := by
  unfold World.cells? at h
  split at h
  case isFalse => simp at h
  have key : ∀ (l : List Nat) (cs : List Value), (l.mapM fun i => w.cell? (a.add i)) = some cs → cs.length = l.length ∧ ∀ (j i : Nat), l[j]? = some i → w.cell? (a.add i) = cs[j]? := by
    intro l
    induction l with
    | nil => intro cs h; simp at h; subst h; exact ⟨rfl, fun j i h => by simp at h⟩
    | cons x l ih =>
      intro cs h
      rw [List.mapM_cons] at h
      cases hx : w.cell? (a.add x) with
      | none => rw [hx] at h; simp at h
      | some v =>
        rw [hx] at h
        cases hm : (l.mapM fun i => w.cell? (a.add i)) with
        | none => rw [hm] at h; simp at h
        | some vs =>
          rw [hm] at h
          simp at h
          subst h
          obtain ⟨e1, e2⟩ := ih vs hm
          refine ⟨by simp [e1], fun j i hj => ?_⟩
          cases j with
          | zero => simp at hj; subst hj; simpa using hx
          | succ j => simp at hj; simpa using e2 j i hj
  obtain ⟨e1, e2⟩ := key _ cs h
  refine ⟨by simpa using e1, fun i hi => e2 i i (by simp [hi])⟩

/-- A slice argument: its cells lie in a row that the world has. -/
structure ArgRow (w : World) (a : Addr) (n cap es : Nat) (l : List Value) : Prop where
  spot : a.spot = none
  row : ∃ cs ty fz, w.heap[a.block]? = some (.cells cs ty fz) ∧ a.off + cap * es ≤ cs.size ∧ ∀ j, j < l.length → cs[a.off + j]? = some (l.getD j Go.undef)
  len : l.length = n * es
  nc : n ≤ cap
theorem argRow_of {w : World} {base : Nat} {a : Addr} {n cap es : Nat} {l : List Value} (hes : 0 < es) (hcap : 0 < cap) (hlen : l.length = n * es) (hnc : n ≤ cap) (hl : ∀ v ∈ l, one v = true)
    (h : ∀ i, i < cap → ∃ cs', w.cells? base (a.add (i * es)) es = some cs' ∧ (i < n → cs' = (l.drop (i * es)).take es)) : ArgRow w a n cap es l := by
  have hspot : a.spot = none := by
    obtain ⟨cs', h1, _⟩ := h 0 hcap
    have := (cells_at h1).2 0 hes
    have hx : (cs'[0]?).isSome = true := by
      rw [List.getElem?_eq_getElem (by rw [(cells_at h1).1]; exact hes)]; rfl
    rw [← this] at hx
    cases hs : a.spot with
    | none => rfl
    | some s =>
      unfold World.cell? at hx
      simp only [Nat.zero_mul, Addr.add] at hx
      split at hx <;> (try simp [hs] at hx)
  obtain ⟨b, o, sp⟩ := a
  simp only at hspot
  subst hspot
  have hcell : ∀ i j, i < cap → j < es → ∃ v, w.cell? ⟨b, o + (i * es + j), none⟩ = some v ∧ (i < n → v = l.getD (i * es + j) Go.undef) := by
    intro i j hi hj
    obtain ⟨cs', h1, h2⟩ := h i hi
    obtain ⟨e1, e2⟩ := cells_at h1
    have := e2 j hj
    rw [add_eq, add_eq, Nat.add_assoc, List.getElem?_eq_getElem (by omega)] at this
    refine ⟨_, this, fun hin => ?_⟩
    have h3 := h2 hin
    subst h3
    have hb : i * es + j < l.length := by
      rw [hlen]
      have := Nat.mul_le_mul_right es (Nat.succ_le_of_lt hin)
      rw [Nat.succ_mul] at this
      omega
    simp [List.getElem_take, List.getElem_drop, List.getElem?_eq_getElem hb]
  obtain ⟨v0, hv0, _⟩ := hcell 0 0 hcap hes
  cases hrow : w.heap[b]? with
  | none => unfold World.cell? at hv0; simp [hrow] at hv0
  | some ob =>
    cases ob with
    | cells cs ty fz =>
      have hc : ∀ k, w.cell? ⟨b, k, none⟩ = cs[k]? := fun k => by unfold World.cell?; simp [hrow]
      refine ⟨rfl, ⟨cs, ty, fz, hrow, ?_, fun j hj => ?_⟩, hlen, hnc⟩
      · obtain ⟨v, hv, _⟩ := hcell (cap - 1) (es - 1) (by omega) (by omega)
        rw [hc] at hv
        have := (Array.getElem?_eq_some_iff.1 hv).1
        have e : (cap - 1) * es + (es - 1) + 1 = cap * es := by
          obtain ⟨c, rfl⟩ : ∃ c, cap = c + 1 := ⟨cap - 1, by omega⟩
          rw [Nat.add_sub_cancel, Nat.succ_mul]
          omega
        simp only at this ⊢
        omega
      · rw [hlen] at hj
        have hi : j / es < n := Nat.div_lt_of_lt_mul (by rwa [Nat.mul_comm])
        obtain ⟨v, hv, hv2⟩ := hcell (j / es) (j % es) (by omega) (Nat.mod_lt _ hes)
        have e : j / es * es + j % es = j := by rw [Nat.mul_comm]; exact Nat.div_add_mod j es
        rw [e] at hv hv2
        rw [hc] at hv
        rw [hv, hv2 hi]
    | _ => unfold World.cell? at hv0; simp [hrow] at hv0
/-- The start with one slice argument. -/
def H1 (l : List Value) (es : Nat) : AH := ⟨[none, some ⟨l, es, true⟩], 2⟩
def c1 (a : Addr) (sz es : Nat) : CMap := fun id => if id = 1 then some ⟨a.block, a.off, sz, es⟩ else none
end Go.Proofs.Ytidpkoaomfbljaa.AM
namespace Go.Proofs.Ytidpkoaomfbljaa.AM
open Go
set_option linter.all false
set_option maxRecDepth 10000
/-! ### The order of numbers by a key -/
variable {key : Int → Int}
/-- By the key, then as they are. -/
def R (key : Int → Int) (x y : Int) : Prop := key x < key y ∨ (key x = key y ∧ x < y)
instance (x y : Int) : Decidable (R key x y) := inferInstanceAs (Decidable (_ ∨ _))
theorem R_irr {x : Int} : ¬ R key x x := by unfold R; omega
theorem R_tr {x y z : Int} (h : R key x y) (k : R key y z) : R key x z := by unfold R at *; omega
theorem R_tot {x y : Int} (h : x ≠ y) : R key x y ∨ R key y x := by unfold R; omega
theorem R_asym {x y : Int} (h : R key x y) : ¬ R key y x := fun k => R_irr (R_tr h k)
/-- In order there is but one row. -/
theorem uniq : ∀ {a b : List Int}, a.Perm b → a.Pairwise (R key) → b.Pairwise (R key) → a = b
  | [], b, hp, _, _ => by rw [List.nil_perm] at hp; exact hp.symm
  | x :: a, [], hp, _, _ => by simp at hp
  | x :: a, y :: b, hp, ha, hb => by
    rw [List.pairwise_cons] at ha hb
    have hx : x ∈ y :: b := hp.mem_iff.1 (by simp)
    have hy : y ∈ x :: a := hp.mem_iff.2 (by simp)
    have hxy : x = y := by
      rcases List.mem_cons.1 hx with h | h
      · exact h
      · rcases List.mem_cons.1 hy with k | k
        · exact k.symm
        · exact absurd (hb.1 x h) (R_asym (ha.1 y k))
    subst hxy
    rw [uniq ((List.perm_cons x).1 hp) ha.2 hb.2]
def ins (key : Int → Int) (x : Int) : List Int → List Int
  | [] => [x]
  | y :: l => if R key x y then x :: y :: l else y :: ins key x l
theorem ins_perm (x : Int) : ∀ l : List Int, (ins key x l).Perm (x :: l)
  | [] => List.Perm.refl _
  | y :: l => by
    unfold ins
    split
    · exact List.Perm.refl _
    · exact ((ins_perm x l).cons y).trans (List.Perm.swap x y l)
theorem ins_srt {x : Int} : ∀ {l : List Int}, l.Pairwise (R key) → x ∉ l → (ins key x l).Pairwise (R key)
  | [], _, _ => by simp [ins]
  | y :: l, h, hx => by
    rw [List.pairwise_cons] at h
    unfold ins
    split
    · rename_i hr
      refine List.pairwise_cons.2 ⟨fun z hz => ?_, List.pairwise_cons.2 h⟩
      rcases List.mem_cons.1 hz with e | e
      · subst e; exact hr
      · exact R_tr hr (h.1 z e)
    · rename_i hr
      have hxy : x ≠ y := fun e => hx (by simp [e])
      refine List.pairwise_cons.2 ⟨fun z hz => ?_, ins_srt h.2 fun e => hx (List.mem_cons_of_mem _ e)⟩
      rcases List.mem_cons.1 ((ins_perm x l).mem_iff.1 hz) with e | e
      · subst e; exact (R_tot hxy).resolve_left hr
      · exact h.1 z e
/-- The numbers in order. -/
def srt (key : Int → Int) (l : List Int) : List Int := l.foldr (ins key) []
theorem srt_perm : ∀ l : List Int, (srt key l).Perm l
  | [] => List.Perm.refl _
  | x :: l => (ins_perm x _).trans ((srt_perm l).cons x)
theorem srt_srt : ∀ {l : List Int}, l.Nodup → (srt key l).Pairwise (R key)
  | [], _ => List.Pairwise.nil
  | x :: l, h => by
    rw [List.nodup_cons] at h
    exact ins_srt (srt_srt h.2) fun e => h.1 ((srt_perm l).mem_iff.1 e)
theorem srt_len (l : List Int) : (srt key l).length = l.length := (srt_perm l).length_eq
theorem nodup_of {l : List Int} (h : l.Pairwise (R key)) : l.Nodup := h.imp fun hr e => by subst e; exact R_irr hr
/-- What is in order and has the same numbers is it. -/
theorem srt_eq {l c : List Int} (hp : c.Perm l) (hc : c.Pairwise (R key)) : srt key l = c :=
  uniq ((srt_perm l).trans hp.symm) (srt_srt (hp.nodup_iff.1 (nodup_of hc))) hc
theorem srt_id {l : List Int} (h : l.Pairwise (R key)) : srt key l = l := srt_eq (List.Perm.refl l) h
theorem srt_congr {a b : List Int} (h : a.Perm b) (hn : b.Nodup) : srt key a = srt key b :=
  srt_eq ((srt_perm b).trans h.symm) (srt_srt hn)
/-- Two rows in order, all of the one ahead of all of the other. -/
theorem srt_two {a b : List Int} (ha : a.Pairwise (R key)) (hb : b.Pairwise (R key)) (h : ∀ x ∈ a, ∀ y ∈ b, R key x y) : (a ++ b).Pairwise (R key) :=
  List.pairwise_append.2 ⟨ha, hb, h⟩
/-- Where a merge is divided. -/
theorem srt_split {a1 a2 b1 b2 : List Int} (ha : (a1 ++ a2).Pairwise (R key)) (hb : (b1 ++ b2).Pairwise (R key)) (hn : (a1 ++ a2 ++ (b1 ++ b2)).Nodup)
    (h1 : ∀ x ∈ a1, ∀ y ∈ b2, R key x y) (h2 : ∀ y ∈ b1, ∀ x ∈ a2, R key y x) : srt key (a1 ++ a2 ++ (b1 ++ b2)) = srt key (a1 ++ b1) ++ srt key (a2 ++ b2) := by
  have hp : (a1 ++ b1 ++ (a2 ++ b2)).Perm (a1 ++ a2 ++ (b1 ++ b2)) := by
    rw [List.append_assoc, List.append_assoc]
    refine List.Perm.append_left a1 ?_
    rw [← List.append_assoc, ← List.append_assoc]
    exact List.Perm.append_right b2 List.perm_append_comm
  have hn2 := hp.nodup_iff.2 hn
  rw [List.nodup_append] at hn2
  rw [List.pairwise_append] at ha hb
  refine srt_eq (((srt_perm (a1 ++ b1)).append (srt_perm (a2 ++ b2))).trans hp) (srt_two (srt_srt hn2.1) (srt_srt hn2.2.1) fun x hx y hy => ?_)
  have hx' := List.mem_append.1 ((srt_perm (a1 ++ b1)).mem_iff.1 hx)
  have hy' := List.mem_append.1 ((srt_perm (a2 ++ b2)).mem_iff.1 hy)
  rcases hx' with hx | hx <;> rcases hy' with hy | hy
  · exact ha.2.2 x hx y hy
  · exact h1 x hx y hy
  · exact h2 x hx y hy
  · exact hb.2.2 x hx y hy
/-- One more number, greater than all. -/
theorem srt_snoc {l a b : List Int} {x : Int} (h : srt key l = a ++ b) (hn : (l ++ [x]).Nodup) (ha : ∀ y ∈ a, R key y x) (hb : ∀ y ∈ b, R key x y) : srt key (l ++ [x]) = a ++ x :: b := by
  have hp : (a ++ x :: b).Perm (l ++ [x]) := by
    have h1 : (a ++ b).Perm l := h ▸ srt_perm l
    exact List.perm_middle.trans (((h1.cons x)).trans (List.perm_append_singleton x l).symm)
  have hs : (a ++ b).Pairwise (R key) := h ▸ srt_srt (List.nodup_append.1 hn).1
  rw [List.pairwise_append] at hs
  refine srt_eq hp (List.pairwise_append.2 ⟨hs.1, List.pairwise_cons.2 ⟨hb, hs.2.1⟩, fun y hy z hz => ?_⟩)
  rcases List.mem_cons.1 hz with e | e
  · subst e; exact ha y hy
  · exact hs.2.2 y hy z e
end Go.Proofs.Ytidpkoaomfbljaa.AM
namespace Go.Proofs.Ytidpkoaomfbljaa.AM
open Go
set_option linter.all false
set_option maxRecDepth 10000

/-! ### A row of numbers -/
theorem idxSP_slc {a : Addr} {n c es : Nat} {i : Int} {K : Value → Prop} : (@idxSP (.slice (some a) n c) es i ⟨K⟩) = (@andP (0 ≤ i ∧ i < n) ⟨K (.pointer (some (addA a (i.toNat * es))))⟩) := rfl
theorem splice_one {l : List Value} {i : Nat} {v : Value} : splice l i [v] = l.set i v := rfl
theorem relow {H : AH} : (⟨H.enter.blks, H.low⟩ : AH) = H := rfl
def rwI (D : List Int) : Blk := ⟨D.map I64, 1, false⟩
def ga (D : List Int) (i : Nat) : Int := D.getD i 0
theorem rwI_len {D : List Int} : (rwI D).cells.length = D.length := by simp [rwI]
theorem rwI_ro {D : List Int} : (rwI D).ro = false := rfl
theorem rwI_es {D : List Int} : (rwI D).es = 1 := rfl
theorem rwI_at {D : List Int} {i : Nat} (h : i < D.length) : List.take 1 (List.drop i (rwI D).cells) = [.int .i64 (ga D i)] := by
  rw [take_one (by rw [rwI_len]; exact h)]
  simp [rwI, ga, I64, h]
theorem rwI_set {D : List Int} {i : Nat} {x : Int} : (⟨(rwI D).cells.set i (.int .i64 x), 1, false⟩ : Blk) = rwI (D.set i x) := by
  simp only [rwI, Blk.mk.injEq, and_true]
  exact List.map_set.symm
theorem ga_mid {L M : List Int} {x : Int} {k : Nat} (h : k = L.length) : ga (L ++ x :: M) k = x := by
  subst h; simp [ga]
theorem set_mid {L M : List Int} {x y : Int} {k : Nat} (h : k = L.length) : (L ++ x :: M).set k y = L ++ y :: M := by
  subst h; simp
/-- Two places change. -/
theorem swap_at {L1 L2 L3 : List Int} {u v : Int} {i j : Nat} (hi : i = L1.length) (hj : j = L1.length + 1 + L2.length) :
    ga (L1 ++ u :: (L2 ++ v :: L3)) i = u ∧ ga (L1 ++ u :: (L2 ++ v :: L3)) j = v ∧ ((L1 ++ u :: (L2 ++ v :: L3)).set i v).set j u = L1 ++ v :: (L2 ++ u :: L3) ∧ ((L1 ++ u :: (L2 ++ v :: L3)).set j u).set i v = L1 ++ v :: (L2 ++ u :: L3) := by
  have e : ∀ x y : Int, L1 ++ x :: (L2 ++ y :: L3) = (L1 ++ x :: L2) ++ y :: L3 := fun x y => by simp
  have hl : ∀ x : Int, j = (L1 ++ x :: L2).length := fun x => by rw [List.length_append, List.length_cons]; omega
  refine ⟨ga_mid hi, ?_, ?_, ?_⟩
  · rw [e, ga_mid (hl u)]
  · rw [set_mid hi, e, set_mid (hl v), ← e]
  · rw [e u v, set_mid (hl u), ← e, set_mid hi]
/-- What a call leaves that writes one row alone. -/
def UpS (id : Nat) (X H' : AH) (D : List Int) : Prop := (H' = X ∧ X.get id = some (rwI D)) ∨ H' = X.set id (some (rwI D))
theorem UpS.get {id : Nat} {X H' : AH} {D : List Int} (h : UpS id X H' D) (hid : id < X.next) : H'.get id = some (rwI D) := by
  rcases h with ⟨rfl, h⟩ | rfl
  · exact h
  · exact AH.get_set_eq X _ hid
theorem UpS.next {id : Nat} {X H' : AH} {D : List Int} (h : UpS id X H' D) : H'.next = X.next := by
  rcases h with ⟨rfl, h⟩ | rfl
  · rfl
  · exact AH.next_set X _ _
theorem UpS.set {id : Nat} {X H' : AH} {D : List Int} (h : UpS id X H' D) (D' : List Int) : UpS id X (H'.set id (some (rwI D'))) D' := by
  rcases h with ⟨rfl, h⟩ | rfl
  · exact .inr rfl
  · exact .inr set_set
theorem UpS.trans {id : Nat} {X Y Z : AH} {D E : List Int} (h : UpS id X Y D) (k : UpS id Y Z E) (hid : id < X.next) : UpS id X Z E := by
  rcases k with ⟨rfl, k⟩ | rfl
  · rcases h with ⟨rfl, h⟩ | rfl
    · exact .inl ⟨rfl, k⟩
    · rw [AH.get_set_eq X _ hid] at k
      right
      rw [← k]
  · exact h.set E
theorem UpS.enter {id : Nat} {X : AH} {D : List Int} (h : X.get id = some (rwI D)) : UpS id X.enter X.enter D := .inl ⟨rfl, h⟩
theorem UpS.back {id : Nat} {X H' : AH} {D : List Int} (h : UpS id X.enter H' D) (hid : id < X.next) : ∃ Y, back X H' (.tuple #[]) = (.tuple #[], Y) ∧ UpS id X Y D := by
  rcases h with ⟨rfl, h⟩ | rfl
  · exact ⟨X, back_p3 (Nat.lt_irrefl _) rfl, .inl ⟨rfl, h⟩⟩
  · exact ⟨_, back_set hid, .inr rfl⟩
variable {tbl : Tbl} [hT : TMono tbl]
/-- A call that makes of the row id the row D. -/
def ValU (tbl : Tbl) (n : FuncId) (vs : List Value) (id : Nat) (X : AH) (D : List Int) : Prop := ∃ H', Val tbl n vs X (.tuple #[]) H' ∧ UpS id X H' D
theorem ValU.of_all {n : FuncId} {vs : List Value} {id : Nat} {X : AH} {D : List Int} (h : ∀ Q : Value → AH → Prop, (∀ Y, UpS id X Y D → Q (.tuple #[]) Y) → (@RunF tbl n vs X ⟨Q⟩)) : ValU tbl n vs id X D := by
  obtain ⟨k, v, H', h1, h2, h3⟩ := h (fun v Y => v = .tuple #[] ∧ UpS id X Y D) (fun Y hY => ⟨rfl, hY⟩)
  subst h2
  exact ⟨H', ⟨k, h1⟩, h3⟩
theorem v110 (h110 : tbl 110 = some (.code m110)) {id n c : Nat} {fn : Value} {P U Q' V S : List Int} {X : AH} (hid : id < X.next) (hUV : U.length = V.length) (hn : (P ++ U ++ Q' ++ V ++ S).length = n) (hb : n ≤ 1000000) (hX : X.get id = some (rwI (P ++ U ++ Q' ++ V ++ S))) (a b : Nat) (ha : a = P.length) (hbb : b = P.length + U.length + Q'.length) (hf : fn = fn) :
    ValU tbl 110 [.slice (some ⟨id, 0, none⟩) n c, .int .i64 a, .int .i64 b, .int .i64 U.length, fn] id X (P ++ V ++ Q' ++ U ++ S) := by
  refine ValU.of_all fun Q hQ => ?_
  rw [rn_fun h110, k110]
  simp only [List.length_append] at hn
  simp only [go_sem, Nat.reduceEqDiff, Nat.reduceAdd, Nat.reduceLeDiff, Int.reduceEq, Int.reduceLT, Int.reduceLE, Int.reduceAdd, Int.reduceSub, Int.reduceMul, Int.reduceNeg, Int.reduceToNat, Nat.reduceMul]
  refine rn_loop (fun m f H' => ∃ i : Nat, i ≤ U.length ∧ m = U.length - i ∧ f 0 = .slice (some ⟨id, 0, none⟩) n c ∧ f 1 = .int .i64 a ∧ f 2 = .int .i64 b ∧ f 3 = .int .i64 U.length ∧ f 10 = .int .i64 i ∧ UpS id X.enter H' (P ++ (V.take i ++ U.drop i) ++ Q' ++ (U.take i ++ V.drop i) ++ S)) ?_ (n := U.length)
    ⟨0, by omega, rfl, by simp only [go_sem, Nat.reduceEqDiff, Nat.reduceAdd, Nat.reduceLeDiff, Int.reduceEq, Int.reduceLT, Int.reduceLE, Int.reduceAdd, Int.reduceSub, Int.reduceMul, Int.reduceNeg, Int.reduceToNat, Nat.reduceMul], by simp only [go_sem, Nat.reduceEqDiff, Nat.reduceAdd, Nat.reduceLeDiff, Int.reduceEq, Int.reduceLT, Int.reduceLE, Int.reduceAdd, Int.reduceSub, Int.reduceMul, Int.reduceNeg, Int.reduceToNat, Nat.reduceMul], by simp only [go_sem, Nat.reduceEqDiff, Nat.reduceAdd, Nat.reduceLeDiff, Int.reduceEq, Int.reduceLT, Int.reduceLE, Int.reduceAdd, Int.reduceSub, Int.reduceMul, Int.reduceNeg, Int.reduceToNat, Nat.reduceMul], by simp only [go_sem, Nat.reduceEqDiff, Nat.reduceAdd, Nat.reduceLeDiff, Int.reduceEq, Int.reduceLT, Int.reduceLE, Int.reduceAdd, Int.reduceSub, Int.reduceMul, Int.reduceNeg, Int.reduceToNat, Nat.reduceMul], by simp only [go_sem, Nat.reduceEqDiff, Nat.reduceAdd, Nat.reduceLeDiff, Int.reduceEq, Int.reduceLT, Int.reduceLE, Int.reduceAdd, Int.reduceSub, Int.reduceMul, Int.reduceNeg, Int.reduceToNat, Nat.reduceMul] <;> rfl, .inl ⟨rfl, by
      show X.get id = _
      simpa using hX⟩⟩
  rintro m f H' ⟨i, hi, rfl, f0, f1, f2, f3, f10, hu⟩
  have hg := hu.get hid
  have hnx : H'.next = X.next := hu.next
  by_cases hlt : (i : Int) < U.length
  · have hi2 : i < U.length := by omega
    have hi3 : i < V.length := by omega
    have wi := w64 (x := (i : Int) + 1) (by omega) (by omega)
    have eU : U.drop i = U[i] :: U.drop (i + 1) := List.drop_eq_getElem_cons hi2
    have eV : V.drop i = V[i] :: V.drop (i + 1) := List.drop_eq_getElem_cons hi3
    have eD : P ++ (V.take i ++ U.drop i) ++ Q' ++ (U.take i ++ V.drop i) ++ S = (P ++ V.take i) ++ U[i] :: ((U.drop (i + 1) ++ Q' ++ U.take i) ++ V[i] :: (V.drop (i + 1) ++ S)) := by
      rw [eU, eV]; simp only [List.append_assoc, List.cons_append]
    have eD2 : P ++ (V.take (i + 1) ++ U.drop (i + 1)) ++ Q' ++ (U.take (i + 1) ++ V.drop (i + 1)) ++ S = (P ++ V.take i) ++ V[i] :: ((U.drop (i + 1) ++ Q' ++ U.take i) ++ U[i] :: (V.drop (i + 1) ++ S)) := by
      rw [List.take_succ, List.take_succ, List.getElem?_eq_getElem hi2, List.getElem?_eq_getElem hi3]; simp only [List.append_assoc, List.cons_append, Option.toList_some, List.nil_append]
    obtain ⟨s1, s2, s3, s4⟩ := swap_at (L1 := P ++ V.take i) (L2 := U.drop (i + 1) ++ Q' ++ U.take i) (L3 := V.drop (i + 1) ++ S) (u := U[i]) (v := V[i]) (i := a + i) (j := b + i) (by rw [List.length_append, List.length_take]; omega) (by simp only [List.length_append, List.length_take, List.length_drop]; omega)
    rw [eD] at hg
    generalize hD : (P ++ V.take i) ++ U[i] :: ((U.drop (i + 1) ++ Q' ++ U.take i) ++ V[i] :: (V.drop (i + 1) ++ S)) = D at hg s1 s2 s3 s4
    have hDl : D.length = n := by rw [← hD]; simp only [List.length_append, List.length_cons, List.length_take, List.length_drop]; omega
    have ea : (a : Int) + (i : Int) = ((a + i : Nat) : Int) := by omega
    have eb : (b : Int) + (i : Int) = ((b + i : Nat) : Int) := by omega
    have wa := w64 (x := ((a + i : Nat) : Int)) (by omega) (by omega)
    have wb := w64 (x := ((b + i : Nat) : Int)) (by omega) (by omega)
    have a0 : (0 : Int) ≤ ((a + i : Nat) : Int) := by omega
    have a1 : ((a + i : Nat) : Int) < (n : Int) := by omega
    have a2 : a + i + 1 ≤ n := by omega
    have b0 : (0 : Int) ≤ ((b + i : Nat) : Int) := by omega
    have b1 : ((b + i : Nat) : Int) < (n : Int) := by omega
    have b2 : b + i + 1 ≤ n := by omega
    have hat1 := rwI_at (D := D) (i := a + i) (by omega)
    have hat2 := rwI_at (D := D) (i := b + i) (by omega)
    rw [s1] at hat1
    rw [s2] at hat2
    have hid2 : id < H'.next := by omega
    simp only [f0, f1, f2, f3, f10, hlt, ea, eb, wa, wb, a0, a1, a2, b0, b1, b2, hg, hat1, hat2, hDl, hid2, idxSP_slc, Int.toNat_natCast, rwI_len, rwI_ro, rwI_es, addA, Nat.zero_add, Nat.mul_one, stc_eq, stB_some, splice_one, rwI_set, List.length_set, set_get, set_set, AH.next_set, s3, s4, wi, go_sem, Nat.reduceEqDiff, Nat.reduceAdd, Nat.reduceLeDiff, Int.reduceEq, Int.reduceLT, Int.reduceLE, Int.reduceAdd, Int.reduceSub, Int.reduceMul, Int.reduceNeg, Int.reduceToNat, Nat.reduceMul]
    refine ⟨U.length - (i + 1), by omega, i + 1, by omega, rfl, by simp only [f0, go_sem, Nat.reduceEqDiff, Nat.reduceAdd, Nat.reduceLeDiff, Int.reduceEq, Int.reduceLT, Int.reduceLE, Int.reduceAdd, Int.reduceSub, Int.reduceMul, Int.reduceNeg, Int.reduceToNat, Nat.reduceMul], by simp only [f1, go_sem, Nat.reduceEqDiff, Nat.reduceAdd, Nat.reduceLeDiff, Int.reduceEq, Int.reduceLT, Int.reduceLE, Int.reduceAdd, Int.reduceSub, Int.reduceMul, Int.reduceNeg, Int.reduceToNat, Nat.reduceMul], by simp only [f2, go_sem, Nat.reduceEqDiff, Nat.reduceAdd, Nat.reduceLeDiff, Int.reduceEq, Int.reduceLT, Int.reduceLE, Int.reduceAdd, Int.reduceSub, Int.reduceMul, Int.reduceNeg, Int.reduceToNat, Nat.reduceMul], by simp only [f3, go_sem, Nat.reduceEqDiff, Nat.reduceAdd, Nat.reduceLeDiff, Int.reduceEq, Int.reduceLT, Int.reduceLE, Int.reduceAdd, Int.reduceSub, Int.reduceMul, Int.reduceNeg, Int.reduceToNat, Nat.reduceMul], by simp only [go_sem, Nat.reduceEqDiff, Nat.reduceAdd, Nat.reduceLeDiff, Int.reduceEq, Int.reduceLT, Int.reduceLE, Int.reduceAdd, Int.reduceSub, Int.reduceMul, Int.reduceNeg, Int.reduceToNat, Nat.reduceMul] <;> rfl, ?_⟩
    rw [eD2]
    exact hu.set _
  · have hie : i = U.length := by omega
    subst hie
    have e : P ++ (V.take U.length ++ U.drop U.length) ++ Q' ++ (U.take U.length ++ V.drop U.length) ++ S = P ++ V ++ Q' ++ U ++ S := by
      rw [List.drop_length, List.take_length, hUV, List.take_length, List.drop_length]; simp
    rw [e] at hu
    obtain ⟨Y, hY, hu2⟩ := hu.back hid
    simp only [f0, f1, f2, f3, f10, hlt, hY, go_sem, Nat.reduceEqDiff, Nat.reduceAdd, Nat.reduceLeDiff, Int.reduceEq, Int.reduceLT, Int.reduceLE, Int.reduceAdd, Int.reduceSub, Int.reduceMul, Int.reduceNeg, Int.reduceToNat, Nat.reduceMul]
    exact hQ Y hu2
end Go.Proofs.Ytidpkoaomfbljaa.AM
namespace Go.Proofs.Ytidpkoaomfbljaa.AM
open Go
set_option linter.all false
set_option maxRecDepth 10000
variable {tbl : Tbl} [hT : TMono tbl]

theorem v108 (h110 : tbl 110 = some (.code m110)) (h108 : tbl 108 = some (.code m108)) {id n c : Nat} {fn : Value} {P U V S : List Int} {X : AH} (hid : id < X.next) (hn : (P ++ U ++ V ++ S).length = n) (hb : n ≤ 1000000) (hU : 0 < U.length) (hV : 0 < V.length) (hX : X.get id = some (rwI (P ++ U ++ V ++ S))) (a m b : Nat) (ha : a = P.length) (hm : m = P.length + U.length) (hbb : b = P.length + U.length + V.length) :
    ValU tbl 108 [.slice (some ⟨id, 0, none⟩) n c, .int .i64 a, .int .i64 m, .int .i64 b, fn] id X (P ++ V ++ U ++ S) := by
  refine ValU.of_all fun Q hQ => ?_
  rw [rn_fun h108, k108]
  obtain ⟨T, hT'⟩ : ∃ T, T = P ++ V ++ U ++ S := ⟨_, rfl⟩
  rw [← hT'] at hQ
  have e1 : (m : Int) - (a : Int) = (U.length : Int) := by omega
  have e2 : (b : Int) - (m : Int) = (V.length : Int) := by omega
  simp only [List.length_append] at hn
  have w1 := w64 (x := (U.length : Int)) (by omega) (by omega)
  have w2 := w64 (x := (V.length : Int)) (by omega) (by omega)
  simp only [e1, e2, w1, w2, go_sem, Nat.reduceEqDiff, Nat.reduceAdd, Nat.reduceLeDiff, Int.reduceEq, Int.reduceLT, Int.reduceLE, Int.reduceAdd, Int.reduceSub, Int.reduceMul, Int.reduceNeg, Int.reduceToNat, Nat.reduceMul]
  refine rn_loop (fun k f H' => ∃ P' U' V' S' : List Int, k = U'.length + V'.length ∧ 0 < U'.length ∧ 0 < V'.length ∧ (P' ++ U' ++ V' ++ S').length = n ∧ m = P'.length + U'.length ∧ f 0 = .slice (some ⟨id, 0, none⟩) n c ∧ f 2 = .int .i64 m ∧ f 4 = fn ∧ f 10 = .int .i64 U'.length ∧ f 11 = .int .i64 V'.length ∧ UpS id X.enter H' (P' ++ U' ++ V' ++ S') ∧ P' ++ V' ++ U' ++ S' = T) ?_ (n := U.length + V.length)
    ⟨P, U, V, S, rfl, hU, hV, by simp only [List.length_append]; omega, hm, by simp only [go_sem, Nat.reduceEqDiff, Nat.reduceAdd, Nat.reduceLeDiff, Int.reduceEq, Int.reduceLT, Int.reduceLE, Int.reduceAdd, Int.reduceSub, Int.reduceMul, Int.reduceNeg, Int.reduceToNat, Nat.reduceMul], by simp only [go_sem, Nat.reduceEqDiff, Nat.reduceAdd, Nat.reduceLeDiff, Int.reduceEq, Int.reduceLT, Int.reduceLE, Int.reduceAdd, Int.reduceSub, Int.reduceMul, Int.reduceNeg, Int.reduceToNat, Nat.reduceMul], by simp only [go_sem, Nat.reduceEqDiff, Nat.reduceAdd, Nat.reduceLeDiff, Int.reduceEq, Int.reduceLT, Int.reduceLE, Int.reduceAdd, Int.reduceSub, Int.reduceMul, Int.reduceNeg, Int.reduceToNat, Nat.reduceMul], by simp only [go_sem, Nat.reduceEqDiff, Nat.reduceAdd, Nat.reduceLeDiff, Int.reduceEq, Int.reduceLT, Int.reduceLE, Int.reduceAdd, Int.reduceSub, Int.reduceMul, Int.reduceNeg, Int.reduceToNat, Nat.reduceMul], by simp only [go_sem, Nat.reduceEqDiff, Nat.reduceAdd, Nat.reduceLeDiff, Int.reduceEq, Int.reduceLT, Int.reduceLE, Int.reduceAdd, Int.reduceSub, Int.reduceMul, Int.reduceNeg, Int.reduceToNat, Nat.reduceMul], .inl ⟨rfl, hX⟩, hT'.symm⟩
  rintro k f H' ⟨P', U', V', S', rfl, hU', hV', hn', hm', f0, f2, f4, f10, f11, hu, hTT⟩
  have hg := hu.get hid
  have hnx : H'.next = X.next := hu.next
  have hid2 : id < H'.next := by omega
  have hn2 := hn'
  simp only [List.length_append] at hn2
  have ea : (m : Int) - (U'.length : Int) = (P'.length : Int) := by omega
  have wa := w64 (x := (P'.length : Int)) (by omega) (by omega)
  by_cases hne : (U'.length : Int) = (V'.length : Int)
  · have hlen : U'.length = V'.length := by omega
    obtain ⟨Y, hv, hu2⟩ := v110 h110 (id := id) (n := n) (c := c) (fn := fn) (P := P') (U := U') (Q' := []) (V := V') (S := S') (X := H') hid2 hlen (by simpa using hn') hb (by simpa using hg) P'.length m rfl (by simp; omega) rfl
    have hu3 := hu.trans hu2 hid
    obtain ⟨Z, hZ, hu4⟩ := hu3.back hid
    have e : P' ++ V' ++ [] ++ U' ++ S' = T := by rw [← hTT]; simp
    rw [e] at hu4
    simp only [hlen] at hv ea
    simp only [f0, f2, f4, f10, f11, hlen, ea, wa, ↓hv.run, hZ, go_sem, Nat.reduceEqDiff, Nat.reduceAdd, Nat.reduceLeDiff, Int.reduceEq, Int.reduceLT, Int.reduceLE, Int.reduceAdd, Int.reduceSub, Int.reduceMul, Int.reduceNeg, Int.reduceToNat, Nat.reduceMul]
    exact hQ Z hu4
  · by_cases hgt : (V'.length : Int) < (U'.length : Int)
    · have hlt : V'.length < U'.length := by omega
      have eU : U'.take V'.length ++ U'.drop V'.length = U' := List.take_append_drop _ _
      have l1 : (U'.take V'.length).length = V'.length := by rw [List.length_take]; omega
      have l2 : (U'.drop V'.length).length = U'.length - V'.length := by rw [List.length_drop]
      have hg' : H'.get id = some (rwI (P' ++ U'.take V'.length ++ U'.drop V'.length ++ V' ++ S')) := by
        rw [List.append_assoc P', eU]; exact hg
      obtain ⟨Y, hv, hu2⟩ := v110 h110 (id := id) (n := n) (c := c) (fn := fn) (P := P') (U := U'.take V'.length) (Q' := U'.drop V'.length) (V := V') (S := S') (X := H') hid2 l1 (by rw [List.append_assoc P', eU]; exact hn') hb hg' P'.length m rfl (by omega) rfl
      have hu3 := hu.trans hu2 hid
      rw [l1] at hv
      have ei : (U'.length : Int) - (V'.length : Int) = ((U'.drop V'.length).length : Int) := by omega
      have wi := w64 (x := ((U'.drop V'.length).length : Int)) (by omega) (by omega)
      simp only [f0, f2, f4, f10, f11, hne, hgt, ea, wa, ↓hv.run, ei, wi, go_sem, Nat.reduceEqDiff, Nat.reduceAdd, Nat.reduceLeDiff, Int.reduceEq, Int.reduceLT, Int.reduceLE, Int.reduceAdd, Int.reduceSub, Int.reduceMul, Int.reduceNeg, Int.reduceToNat, Nat.reduceMul]
      refine ⟨(U'.drop V'.length).length + (U'.take V'.length).length, by omega, P' ++ V', U'.drop V'.length, U'.take V'.length, S', rfl, by omega, by omega, by simp only [List.length_append, l1, l2]; omega, by simp only [List.length_append, l2]; omega, by simp only [f0, go_sem, Nat.reduceEqDiff, Nat.reduceAdd, Nat.reduceLeDiff, Int.reduceEq, Int.reduceLT, Int.reduceLE, Int.reduceAdd, Int.reduceSub, Int.reduceMul, Int.reduceNeg, Int.reduceToNat, Nat.reduceMul], by simp only [f2, go_sem, Nat.reduceEqDiff, Nat.reduceAdd, Nat.reduceLeDiff, Int.reduceEq, Int.reduceLT, Int.reduceLE, Int.reduceAdd, Int.reduceSub, Int.reduceMul, Int.reduceNeg, Int.reduceToNat, Nat.reduceMul], by simp only [f4, go_sem, Nat.reduceEqDiff, Nat.reduceAdd, Nat.reduceLeDiff, Int.reduceEq, Int.reduceLT, Int.reduceLE, Int.reduceAdd, Int.reduceSub, Int.reduceMul, Int.reduceNeg, Int.reduceToNat, Nat.reduceMul], by simp only [go_sem, Nat.reduceEqDiff, Nat.reduceAdd, Nat.reduceLeDiff, Int.reduceEq, Int.reduceLT, Int.reduceLE, Int.reduceAdd, Int.reduceSub, Int.reduceMul, Int.reduceNeg, Int.reduceToNat, Nat.reduceMul], by simp only [f11, go_sem, Nat.reduceEqDiff, Nat.reduceAdd, Nat.reduceLeDiff, Int.reduceEq, Int.reduceLT, Int.reduceLE, Int.reduceAdd, Int.reduceSub, Int.reduceMul, Int.reduceNeg, Int.reduceToNat, Nat.reduceMul]; rw [l1], hu3, ?_⟩
      rw [← hTT, List.append_assoc (P' ++ V'), eU]
    · have hlt : U'.length < V'.length := by omega
      have eV : V'.take (V'.length - U'.length) ++ V'.drop (V'.length - U'.length) = V' := List.take_append_drop _ _
      have l1 : (V'.take (V'.length - U'.length)).length = V'.length - U'.length := by rw [List.length_take]; omega
      have l2 : (V'.drop (V'.length - U'.length)).length = U'.length := by rw [List.length_drop]; omega
      generalize V'.take (V'.length - U'.length) = V1 at eV l1
      generalize V'.drop (V'.length - U'.length) = V2 at eV l2
      subst eV
      rw [List.length_append] at l1 hlt hn2 hne hgt f11 hV'
      have hg' : H'.get id = some (rwI (P' ++ U' ++ V1 ++ V2 ++ S')) := by
        rw [hg]; simp
      obtain ⟨Y, hv, hu2⟩ := v110 h110 (id := id) (n := n) (c := c) (fn := fn) (P := P') (U := U') (Q' := V1) (V := V2) (S := S') (X := H') hid2 l2.symm (by simpa using hn') hb hg' P'.length (P'.length + U'.length + V1.length) rfl rfl rfl
      have hu3 := hu.trans hu2 hid
      have es : (m : Int) + ((V1.length + V2.length : Nat) : Int) = ((m + (V1.length + V2.length) : Nat) : Int) := by omega
      have ws := w64 (x := ((m + (V1.length + V2.length) : Nat) : Int)) (by omega) (by omega)
      have es2 : ((m + (V1.length + V2.length) : Nat) : Int) - (U'.length : Int) = ((P'.length + U'.length + V1.length : Nat) : Int) := by omega
      have ws2 := w64 (x := ((P'.length + U'.length + V1.length : Nat) : Int)) (by omega) (by omega)
      have ej : ((V1.length + V2.length : Nat) : Int) - (U'.length : Int) = (V1.length : Int) := by omega
      have wj := w64 (x := (V1.length : Int)) (by omega) (by omega)
      simp only [f0, f2, f4, f10, f11, hne, hgt, ea, wa, es, ws, es2, ws2, ↓hv.run, ej, wj, go_sem, Nat.reduceEqDiff, Nat.reduceAdd, Nat.reduceLeDiff, Int.reduceEq, Int.reduceLT, Int.reduceLE, Int.reduceAdd, Int.reduceSub, Int.reduceMul, Int.reduceNeg, Int.reduceToNat, Nat.reduceMul]
      refine ⟨V2.length + V1.length, by rw [List.length_append]; omega, P', V2, V1, U' ++ S', rfl, by omega, by omega, by simp only [List.length_append]; omega, by omega, by simp only [f0, go_sem, Nat.reduceEqDiff, Nat.reduceAdd, Nat.reduceLeDiff, Int.reduceEq, Int.reduceLT, Int.reduceLE, Int.reduceAdd, Int.reduceSub, Int.reduceMul, Int.reduceNeg, Int.reduceToNat, Nat.reduceMul], by simp only [f2, go_sem, Nat.reduceEqDiff, Nat.reduceAdd, Nat.reduceLeDiff, Int.reduceEq, Int.reduceLT, Int.reduceLE, Int.reduceAdd, Int.reduceSub, Int.reduceMul, Int.reduceNeg, Int.reduceToNat, Nat.reduceMul], by simp only [f4, go_sem, Nat.reduceEqDiff, Nat.reduceAdd, Nat.reduceLeDiff, Int.reduceEq, Int.reduceLT, Int.reduceLE, Int.reduceAdd, Int.reduceSub, Int.reduceMul, Int.reduceNeg, Int.reduceToNat, Nat.reduceMul], by simp only [f10, go_sem, Nat.reduceEqDiff, Nat.reduceAdd, Nat.reduceLeDiff, Int.reduceEq, Int.reduceLT, Int.reduceLE, Int.reduceAdd, Int.reduceSub, Int.reduceMul, Int.reduceNeg, Int.reduceToNat, Nat.reduceMul]; rw [l2], by simp only [go_sem, Nat.reduceEqDiff, Nat.reduceAdd, Nat.reduceLeDiff, Int.reduceEq, Int.reduceLT, Int.reduceLE, Int.reduceAdd, Int.reduceSub, Int.reduceMul, Int.reduceNeg, Int.reduceToNat, Nat.reduceMul], ?_, ?_⟩
      · have e : P' ++ V2 ++ V1 ++ (U' ++ S') = P' ++ V2 ++ V1 ++ U' ++ S' := by simp
        rw [e]; exact hu3
      · rw [← hTT]; simp
end Go.Proofs.Ytidpkoaomfbljaa.AM
namespace Go.Proofs.Ytidpkoaomfbljaa.AM
open Go
set_option linter.all false
set_option maxRecDepth 10000
variable {tbl : Tbl} [hT : TMono tbl]

/-- A way to compare: what it says of numbers that are known to it, in heaps that it knows. -/
structure Cmp (tbl : Tbl) (G : FuncId) (cap : List Value) (key : Int → Int) (Sx : Int → Prop) (id : Nat) (K : AH → Prop) : Prop where
  call : ∀ X x y, K X → Sx x → Sx y → ∃ c : Int, Val tbl G (.int .i64 x :: .int .i64 y :: cap) X (.int .i64 c) X ∧ (c < 0 ↔ key x < key y)
  enter : ∀ X, K X → K X.enter
  set : ∀ X b, K X → K (X.set id (some b))
theorem Cmp.up {G : FuncId} {cap : List Value} {key : Int → Int} {Sx : Int → Prop} {id : Nat} {K : AH → Prop} (C : Cmp tbl G cap key Sx id K) {X H' : AH} {D : List Int} (hK : K X) (hu : UpS id X H' D) : K H' := by
  rcases hu with ⟨rfl, _⟩ | rfl
  · exact hK
  · exact C.set _ _ hK
variable {G : FuncId} {cap : List Value} {key : Int → Int} {Sx : Int → Prop} {id : Nat} {K : AH → Prop}
theorem v100 (h100 : tbl 100 = some (.code m100)) (C : Cmp tbl G cap key Sx id K) {n c : Nat} {P X S : List Int} {A : AH} (hid : id < A.next) (hK : K A) (hn : (P ++ X ++ S).length = n) (hb : n ≤ 1000000) (hX : A.get id = some (rwI (P ++ X ++ S))) (hr : X.Pairwise (· < ·)) (hS : ∀ x ∈ X, Sx x) (a b : Nat) (ha : a = P.length) (hbb : b = P.length + X.length) :
    ValU tbl 100 [.slice (some ⟨id, 0, none⟩) n c, .int .i64 a, .int .i64 b, .func (.func G) #[] cap.toArray] id A (P ++ srt key X ++ S) := by
  refine ValU.of_all fun Q hQ => ?_
  rw [rn_fun h100, k100]
  simp only [List.length_append] at hn
  have hnd : X.Nodup := hr.imp fun h e => by omega
  have w1 := w64 (x := (a : Int) + 1) (by omega) (by omega)
  simp only [w1, go_sem, Nat.reduceEqDiff, Nat.reduceAdd, Nat.reduceLeDiff, Int.reduceEq, Int.reduceLT, Int.reduceLE, Int.reduceAdd, Int.reduceSub, Int.reduceMul, Int.reduceNeg, Int.reduceToNat, Nat.reduceMul]
  by_cases hX0 : X = []
  · subst hX0
    simp only [List.length_nil] at hbb
    refine rn_loop (fun m f H' => f 2 = .int .i64 b ∧ f 8 = .int .i64 ((a : Int) + 1) ∧ H' = A.enter) ?_ (n := 0) ⟨by simp only [go_sem, Nat.reduceEqDiff, Nat.reduceAdd, Nat.reduceLeDiff, Int.reduceEq, Int.reduceLT, Int.reduceLE, Int.reduceAdd, Int.reduceSub, Int.reduceMul, Int.reduceNeg, Int.reduceToNat, Nat.reduceMul], by simp only [go_sem, Nat.reduceEqDiff, Nat.reduceAdd, Nat.reduceLeDiff, Int.reduceEq, Int.reduceLT, Int.reduceLE, Int.reduceAdd, Int.reduceSub, Int.reduceMul, Int.reduceNeg, Int.reduceToNat, Nat.reduceMul], rfl⟩
    rintro m f H' ⟨f2, f8, rfl⟩
    have hlt : ¬ (a : Int) + 1 < b := by omega
    have e : P ++ srt key [] ++ S = P ++ [] ++ S := rfl
    obtain ⟨Z, hZ, hu4⟩ := (UpS.enter (id := id) (X := A) hX).back hid
    simp only [f2, f8, hlt, hZ, go_sem, Nat.reduceEqDiff, Nat.reduceAdd, Nat.reduceLeDiff, Int.reduceEq, Int.reduceLT, Int.reduceLE, Int.reduceAdd, Int.reduceSub, Int.reduceMul, Int.reduceNeg, Int.reduceToNat, Nat.reduceMul]
    rw [e] at hQ
    exact hQ Z hu4
  have hXl : 0 < X.length := List.length_pos_iff.2 hX0
  refine rn_loop (fun m f H' => ∃ k : Nat, 1 ≤ k ∧ k ≤ X.length ∧ m = X.length - k ∧ f 0 = .slice (some ⟨id, 0, none⟩) n c ∧ f 1 = .int .i64 a ∧ f 2 = .int .i64 b ∧ f 3 = .func (.func G) #[] cap.toArray ∧ f 8 = .int .i64 ((a + k : Nat) : Int) ∧ UpS id A.enter H' (P ++ srt key (X.take k) ++ X.drop k ++ S)) ?_ (n := X.length - 1)
    ⟨1, by omega, by omega, rfl, by simp only [go_sem, Nat.reduceEqDiff, Nat.reduceAdd, Nat.reduceLeDiff, Int.reduceEq, Int.reduceLT, Int.reduceLE, Int.reduceAdd, Int.reduceSub, Int.reduceMul, Int.reduceNeg, Int.reduceToNat, Nat.reduceMul], by simp only [go_sem, Nat.reduceEqDiff, Nat.reduceAdd, Nat.reduceLeDiff, Int.reduceEq, Int.reduceLT, Int.reduceLE, Int.reduceAdd, Int.reduceSub, Int.reduceMul, Int.reduceNeg, Int.reduceToNat, Nat.reduceMul], by simp only [go_sem, Nat.reduceEqDiff, Nat.reduceAdd, Nat.reduceLeDiff, Int.reduceEq, Int.reduceLT, Int.reduceLE, Int.reduceAdd, Int.reduceSub, Int.reduceMul, Int.reduceNeg, Int.reduceToNat, Nat.reduceMul], by simp only [go_sem, Nat.reduceEqDiff, Nat.reduceAdd, Nat.reduceLeDiff, Int.reduceEq, Int.reduceLT, Int.reduceLE, Int.reduceAdd, Int.reduceSub, Int.reduceMul, Int.reduceNeg, Int.reduceToNat, Nat.reduceMul], by simp only [go_sem, Nat.reduceEqDiff, Nat.reduceAdd, Nat.reduceLeDiff, Int.reduceEq, Int.reduceLT, Int.reduceLE, Int.reduceAdd, Int.reduceSub, Int.reduceMul, Int.reduceNeg, Int.reduceToNat, Nat.reduceMul] <;> rfl, .inl ⟨rfl, by
      obtain ⟨x, X', rfl⟩ := List.exists_cons_of_ne_nil hX0
      show A.get id = _
      rw [hX]
      simp [srt, ins]⟩⟩
  rintro m f H' ⟨k, hk1, hk, rfl, f0, f1, f2, f3, f8, hu⟩
  by_cases hlt : ((a + k : Nat) : Int) < b
  · have hk2 : k < X.length := by omega
    have hx := List.drop_eq_getElem_cons hk2
    obtain ⟨x, hxx⟩ : ∃ x, x = X[k] := ⟨_, rfl⟩
    rw [← hxx] at hx
    have hsx : Sx x := hS x (hxx ▸ List.getElem_mem hk2)
    have hlow : ∀ y ∈ X.take k, y < x := by
      intro y hy
      obtain ⟨i, hi, rfl⟩ := List.mem_take_iff_getElem.1 hy
      rw [hxx]
      exact List.pairwise_iff_getElem.1 hr i k (by omega) hk2 (by omega)
    have htk : X.take (k + 1) = X.take k ++ [x] := by rw [List.take_succ, List.getElem?_eq_getElem hk2, ← hxx]; rfl
    have hndk : (X.take k ++ [x]).Nodup := htk ▸ (hnd.sublist (List.take_sublist _ _))
    have hsl := srt_len (key := key) (X.take k)
    rw [List.length_take] at hsl
    have wi := w64 (x := ((a + k : Nat) : Int) + 1) (by omega) (by omega)
    simp only [f0, f1, f2, f3, f8, hlt, go_sem, Nat.reduceEqDiff, Nat.reduceAdd, Nat.reduceLeDiff, Int.reduceEq, Int.reduceLT, Int.reduceLE, Int.reduceAdd, Int.reduceSub, Int.reduceMul, Int.reduceNeg, Int.reduceToNat, Nat.reduceMul]
    refine rn_loop (fun m f H' => ∃ L1 L2 : List Int, m = L1.length ∧ srt key (X.take k) = L1 ++ L2 ∧ f 0 = .slice (some ⟨id, 0, none⟩) n c ∧ f 1 = .int .i64 a ∧ f 2 = .int .i64 b ∧ f 3 = .func (.func G) #[] cap.toArray ∧ f 8 = .int .i64 ((a + k : Nat) : Int) ∧ f 9 = .int .i64 ((a + L1.length : Nat) : Int) ∧ UpS id A.enter H' (P ++ L1 ++ x :: (L2 ++ X.drop (k + 1) ++ S)) ∧ ∀ y ∈ L2, R key x y) ?_ (n := k)
      ⟨srt key (X.take k), [], by omega, by simp, by simp only [f0, go_sem, Nat.reduceEqDiff, Nat.reduceAdd, Nat.reduceLeDiff, Int.reduceEq, Int.reduceLT, Int.reduceLE, Int.reduceAdd, Int.reduceSub, Int.reduceMul, Int.reduceNeg, Int.reduceToNat, Nat.reduceMul], by simp only [f1, go_sem, Nat.reduceEqDiff, Nat.reduceAdd, Nat.reduceLeDiff, Int.reduceEq, Int.reduceLT, Int.reduceLE, Int.reduceAdd, Int.reduceSub, Int.reduceMul, Int.reduceNeg, Int.reduceToNat, Nat.reduceMul], by simp only [f2, go_sem, Nat.reduceEqDiff, Nat.reduceAdd, Nat.reduceLeDiff, Int.reduceEq, Int.reduceLT, Int.reduceLE, Int.reduceAdd, Int.reduceSub, Int.reduceMul, Int.reduceNeg, Int.reduceToNat, Nat.reduceMul], by simp only [f3, go_sem, Nat.reduceEqDiff, Nat.reduceAdd, Nat.reduceLeDiff, Int.reduceEq, Int.reduceLT, Int.reduceLE, Int.reduceAdd, Int.reduceSub, Int.reduceMul, Int.reduceNeg, Int.reduceToNat, Nat.reduceMul], by simp only [f8, go_sem, Nat.reduceEqDiff, Nat.reduceAdd, Nat.reduceLeDiff, Int.reduceEq, Int.reduceLT, Int.reduceLE, Int.reduceAdd, Int.reduceSub, Int.reduceMul, Int.reduceNeg, Int.reduceToNat, Nat.reduceMul], by simp only [go_sem, Nat.reduceEqDiff, Nat.reduceAdd, Nat.reduceLeDiff, Int.reduceEq, Int.reduceLT, Int.reduceLE, Int.reduceAdd, Int.reduceSub, Int.reduceMul, Int.reduceNeg, Int.reduceToNat, Nat.reduceMul]; congr 1; omega, by
        rw [hx] at hu
        simpa using hu, fun y hy => by simp at hy⟩
    clear f0 f1 f2 f3 f8 hu
    rintro m f H' ⟨L1, L2, rfl, hL, f0, f1, f2, f3, f8, f9, hu, hL2⟩
    have hLl : L1.length + L2.length = k := by
      have := congrArg List.length hL
      rw [List.length_append, srt_len, List.length_take] at this
      omega
    rcases List.eq_nil_or_concat L1 with rfl | ⟨L1', y, hL1⟩
    · simp only [List.length_nil, Nat.add_zero] at f9
      have hj : ¬ (a : Int) < (a : Int) := by omega
      have hs := srt_snoc (key := key) (l := X.take k) (a := []) (b := L2) (x := x) hL hndk (fun y hy => by simp at hy) hL2
      rw [← htk] at hs
      simp only [f0, f1, f2, f3, f8, f9, hj, wi, go_sem, Nat.reduceEqDiff, Nat.reduceAdd, Nat.reduceLeDiff, Int.reduceEq, Int.reduceLT, Int.reduceLE, Int.reduceAdd, Int.reduceSub, Int.reduceMul, Int.reduceNeg, Int.reduceToNat, Nat.reduceMul]
      refine ⟨X.length - (k + 1), by omega, k + 1, by omega, by omega, rfl, by simp only [f0, go_sem, Nat.reduceEqDiff, Nat.reduceAdd, Nat.reduceLeDiff, Int.reduceEq, Int.reduceLT, Int.reduceLE, Int.reduceAdd, Int.reduceSub, Int.reduceMul, Int.reduceNeg, Int.reduceToNat, Nat.reduceMul], by simp only [f1, go_sem, Nat.reduceEqDiff, Nat.reduceAdd, Nat.reduceLeDiff, Int.reduceEq, Int.reduceLT, Int.reduceLE, Int.reduceAdd, Int.reduceSub, Int.reduceMul, Int.reduceNeg, Int.reduceToNat, Nat.reduceMul], by simp only [f2, go_sem, Nat.reduceEqDiff, Nat.reduceAdd, Nat.reduceLeDiff, Int.reduceEq, Int.reduceLT, Int.reduceLE, Int.reduceAdd, Int.reduceSub, Int.reduceMul, Int.reduceNeg, Int.reduceToNat, Nat.reduceMul], by simp only [f3, go_sem, Nat.reduceEqDiff, Nat.reduceAdd, Nat.reduceLeDiff, Int.reduceEq, Int.reduceLT, Int.reduceLE, Int.reduceAdd, Int.reduceSub, Int.reduceMul, Int.reduceNeg, Int.reduceToNat, Nat.reduceMul], by simp only [go_sem, Nat.reduceEqDiff, Nat.reduceAdd, Nat.reduceLeDiff, Int.reduceEq, Int.reduceLT, Int.reduceLE, Int.reduceAdd, Int.reduceSub, Int.reduceMul, Int.reduceNeg, Int.reduceToNat, Nat.reduceMul]; congr 1, ?_⟩
      rw [hs]
      simpa using hu
    · rw [List.concat_eq_append] at hL1
      subst hL1
      have hl1 : (L1' ++ [y]).length = L1'.length + 1 := by rw [List.length_append]; rfl
      rw [hl1] at f9 hLl
      have hym : y ∈ X.take k := (srt_perm (key := key) (X.take k)).mem_iff.1 (by rw [hL]; simp)
      have hsy : Sx y := hS y (List.mem_of_mem_take hym)
      have hyx := hlow y hym
      have hj : ((a : Nat) : Int) < ((a + (L1'.length + 1) : Nat) : Int) := by omega
      have eD : P ++ (L1' ++ [y]) ++ x :: (L2 ++ X.drop (k + 1) ++ S) = (P ++ L1') ++ y :: ([] ++ x :: (L2 ++ X.drop (k + 1) ++ S)) := by simp
      have eD2 : P ++ L1' ++ x :: ((y :: L2) ++ X.drop (k + 1) ++ S) = (P ++ L1') ++ x :: ([] ++ y :: (L2 ++ X.drop (k + 1) ++ S)) := by simp
      obtain ⟨s1, s2, s3, s4⟩ := swap_at (L1 := P ++ L1') (L2 := []) (L3 := L2 ++ X.drop (k + 1) ++ S) (u := y) (v := x) (i := a + L1'.length) (j := a + (L1'.length + 1)) (by rw [List.length_append]; omega) (by simp only [List.length_append, List.length_nil]; omega)
      have hKu := C.up (C.enter _ hK) hu
      have hg := hu.get hid
      have hnx : H'.next = A.next := hu.next
      have hid2 : id < H'.next := by omega
      rw [eD] at hg
      have hDl : ((P ++ L1') ++ y :: ([] ++ x :: (L2 ++ X.drop (k + 1) ++ S))).length = n := by simp only [List.length_append, List.length_cons, List.length_drop, List.length_nil]; omega
      generalize hD : (P ++ L1') ++ y :: ([] ++ x :: (L2 ++ X.drop (k + 1) ++ S)) = D at hg s1 s2 s3 s4 hDl
      have e1 : ((a + (L1'.length + 1) : Nat) : Int) - 1 = ((a + L1'.length : Nat) : Int) := by omega
      have w2 := w64 (x := ((a + L1'.length : Nat) : Int)) (by omega) (by omega)
      have j0 : (0 : Int) ≤ ((a + (L1'.length + 1) : Nat) : Int) := by omega
      have j1 : ((a + (L1'.length + 1) : Nat) : Int) < (n : Int) := by omega
      have j2 : a + (L1'.length + 1) + 1 ≤ n := by omega
      have i0 : (0 : Int) ≤ ((a + L1'.length : Nat) : Int) := by omega
      have i1 : ((a + L1'.length : Nat) : Int) < (n : Int) := by omega
      have i2 : a + L1'.length + 1 ≤ n := by omega
      have hat1 := rwI_at (D := D) (i := a + L1'.length) (by omega)
      have hat2 := rwI_at (D := D) (i := a + (L1'.length + 1)) (by omega)
      rw [s1] at hat1
      rw [s2] at hat2
      obtain ⟨cc, hcv, hcc⟩ := C.call H' x y hKu hsx hsy
      obtain ⟨cc', hcv', hcc'⟩ := C.call H'.enter x y (C.enter _ hKu) hsx hsy
      by_cases hlt2 : key x < key y
      · have hc0 := hcc.2 hlt2
        have hc0' := hcc'.2 hlt2
        simp only [f0, f1, f2, f3, f8, f9, hj, j0, j1, j2, i0, i1, i2, e1, w2, hg, hat1, hat2, hDl, hid2, idxSP_slc, Int.toNat_natCast, rwI_len, rwI_ro, rwI_es, addA, Nat.zero_add, Nat.mul_one, List.toList_toArray, List.nil_append, List.cons_append, ↓hcv.run, ↓hcv'.run, hc0, hc0', relow, stc_eq, stB_some, splice_one, rwI_set, List.length_set, set_get, set_set, AH.next_set, s3, s4, go_sem, Nat.reduceEqDiff, Nat.reduceAdd, Nat.reduceLeDiff, Int.reduceEq, Int.reduceLT, Int.reduceLE, Int.reduceAdd, Int.reduceSub, Int.reduceMul, Int.reduceNeg, Int.reduceToNat, Nat.reduceMul]
        refine ⟨L1'.length, by omega, L1', y :: L2, rfl, by rw [hL]; simp, by simp only [f0, go_sem, Nat.reduceEqDiff, Nat.reduceAdd, Nat.reduceLeDiff, Int.reduceEq, Int.reduceLT, Int.reduceLE, Int.reduceAdd, Int.reduceSub, Int.reduceMul, Int.reduceNeg, Int.reduceToNat, Nat.reduceMul], by simp only [f1, go_sem, Nat.reduceEqDiff, Nat.reduceAdd, Nat.reduceLeDiff, Int.reduceEq, Int.reduceLT, Int.reduceLE, Int.reduceAdd, Int.reduceSub, Int.reduceMul, Int.reduceNeg, Int.reduceToNat, Nat.reduceMul], by simp only [f2, go_sem, Nat.reduceEqDiff, Nat.reduceAdd, Nat.reduceLeDiff, Int.reduceEq, Int.reduceLT, Int.reduceLE, Int.reduceAdd, Int.reduceSub, Int.reduceMul, Int.reduceNeg, Int.reduceToNat, Nat.reduceMul], by simp only [f3, go_sem, Nat.reduceEqDiff, Nat.reduceAdd, Nat.reduceLeDiff, Int.reduceEq, Int.reduceLT, Int.reduceLE, Int.reduceAdd, Int.reduceSub, Int.reduceMul, Int.reduceNeg, Int.reduceToNat, Nat.reduceMul], by simp only [f8, go_sem, Nat.reduceEqDiff, Nat.reduceAdd, Nat.reduceLeDiff, Int.reduceEq, Int.reduceLT, Int.reduceLE, Int.reduceAdd, Int.reduceSub, Int.reduceMul, Int.reduceNeg, Int.reduceToNat, Nat.reduceMul], by simp only [go_sem, Nat.reduceEqDiff, Nat.reduceAdd, Nat.reduceLeDiff, Int.reduceEq, Int.reduceLT, Int.reduceLE, Int.reduceAdd, Int.reduceSub, Int.reduceMul, Int.reduceNeg, Int.reduceToNat, Nat.reduceMul], ?_, fun z hz => ?_⟩
        · rw [eD2]; exact hu.set _
        · rcases List.mem_cons.1 hz with e | e
          · subst e; exact .inl hlt2
          · exact hL2 z e
      · have hc0 : ¬ cc < 0 := fun h => hlt2 (hcc.1 h)
        have hc0' : ¬ cc' < 0 := fun h => hlt2 (hcc'.1 h)
        have hRy : R key y x := (R_tot (by omega : y ≠ x)).resolve_right fun h => by
          rcases h with h | ⟨_, h⟩
          · exact hlt2 h
          · omega
        have hsrt := srt_srt (key := key) (List.nodup_append.1 hndk).1
        rw [hL, List.pairwise_append, List.pairwise_append] at hsrt
        have hs := srt_snoc (key := key) (l := X.take k) (a := L1' ++ [y]) (b := L2) (x := x) hL hndk (fun z hz => by
          rcases List.mem_append.1 hz with e | e
          · exact R_tr (hsrt.1.2.2 z e y (by simp)) hRy
          · rw [List.mem_singleton] at e; subst e; exact hRy) hL2
        rw [← htk] at hs
        simp only [f0, f1, f2, f3, f8, f9, hj, j0, j1, j2, i0, i1, i2, e1, w2, hg, hat1, hat2, hDl, hid2, idxSP_slc, Int.toNat_natCast, rwI_len, rwI_ro, rwI_es, addA, Nat.zero_add, Nat.mul_one, List.toList_toArray, List.nil_append, List.cons_append, ↓hcv.run, ↓hcv'.run, hc0, hc0', relow, wi, go_sem, Nat.reduceEqDiff, Nat.reduceAdd, Nat.reduceLeDiff, Int.reduceEq, Int.reduceLT, Int.reduceLE, Int.reduceAdd, Int.reduceSub, Int.reduceMul, Int.reduceNeg, Int.reduceToNat, Nat.reduceMul]
        refine ⟨X.length - (k + 1), by omega, k + 1, by omega, by omega, rfl, by simp only [f0, go_sem, Nat.reduceEqDiff, Nat.reduceAdd, Nat.reduceLeDiff, Int.reduceEq, Int.reduceLT, Int.reduceLE, Int.reduceAdd, Int.reduceSub, Int.reduceMul, Int.reduceNeg, Int.reduceToNat, Nat.reduceMul], by simp only [f1, go_sem, Nat.reduceEqDiff, Nat.reduceAdd, Nat.reduceLeDiff, Int.reduceEq, Int.reduceLT, Int.reduceLE, Int.reduceAdd, Int.reduceSub, Int.reduceMul, Int.reduceNeg, Int.reduceToNat, Nat.reduceMul], by simp only [f2, go_sem, Nat.reduceEqDiff, Nat.reduceAdd, Nat.reduceLeDiff, Int.reduceEq, Int.reduceLT, Int.reduceLE, Int.reduceAdd, Int.reduceSub, Int.reduceMul, Int.reduceNeg, Int.reduceToNat, Nat.reduceMul], by simp only [f3, go_sem, Nat.reduceEqDiff, Nat.reduceAdd, Nat.reduceLeDiff, Int.reduceEq, Int.reduceLT, Int.reduceLE, Int.reduceAdd, Int.reduceSub, Int.reduceMul, Int.reduceNeg, Int.reduceToNat, Nat.reduceMul], by simp only [go_sem, Nat.reduceEqDiff, Nat.reduceAdd, Nat.reduceLeDiff, Int.reduceEq, Int.reduceLT, Int.reduceLE, Int.reduceAdd, Int.reduceSub, Int.reduceMul, Int.reduceNeg, Int.reduceToNat, Nat.reduceMul]; congr 1, ?_⟩
        rw [hs]
        have e : P ++ ((L1' ++ [y]) ++ x :: L2) ++ X.drop (k + 1) ++ S = P ++ (L1' ++ [y]) ++ x :: (L2 ++ X.drop (k + 1) ++ S) := by simp
        rw [e]; exact hu
  · have hke : k = X.length := by omega
    subst hke
    rw [List.take_length, List.drop_length, List.append_nil] at hu
    obtain ⟨Z, hZ, hu4⟩ := hu.back hid
    simp only [f0, f1, f2, f3, f8, hlt, hZ, go_sem, Nat.reduceEqDiff, Nat.reduceAdd, Nat.reduceLeDiff, Int.reduceEq, Int.reduceLT, Int.reduceLE, Int.reduceAdd, Int.reduceSub, Int.reduceMul, Int.reduceNeg, Int.reduceToNat, Nat.reduceMul]
    exact hQ Z hu4
end Go.Proofs.Ytidpkoaomfbljaa.AM
namespace Go.Proofs.Ytidpkoaomfbljaa.AM
open Go
set_option linter.all false
set_option maxRecDepth 10000
variable {tbl : Tbl} [hT : TMono tbl]
variable {G : FuncId} {cap : List Value} {key : Int → Int} {Sx : Int → Prop} {id : Nat} {K : AH → Prop}

theorem key_le {A : List Int} (h : A.Pairwise (R key)) {i j : Nat} (hij : i ≤ j) (hj : j < A.length) : key (A[i]'(by omega)) ≤ key A[j] := by
  by_cases e : i = j
  · subst e; exact Int.le_refl _
  · have := List.pairwise_iff_getElem.1 h i j (by omega) hj (by omega)
    unfold R at this
    omega
theorem ga_app {L M : List Int} {k q : Nat} (h : k = L.length + q) : ga (L ++ M) k = ga M q := by
  subst h
  simp [ga, List.getElem?_append_right]
theorem ga_lt {M N : List Int} {q : Nat} (h : q < M.length) : ga (M ++ N) q = M[q] := by
  simp [ga, h, List.getElem?_append_left]
theorem half64 {x : Nat} (h : x ≤ 4000000) : IntKind.wrap .i64 (shiftK .shr .u64 (IntKind.wrap .u64 (x : Int)) 1) = ((x / 2 : Nat) : Int) := by
  have w : IntKind.wrap .u64 (x : Int) = x := by simp [IntKind.wrap, IntKind.bits, IntKind.signed]; omega
  rw [w]
  simp only [shiftK]
  rw [show (2 : Int) ^ Nat.min (1 : Int).toNat IntKind.u64.bits = 2 from rfl, Int.fdiv_eq_ediv_of_nonneg _ (by omega), w64 (by omega) (by omega)]
  omega
/-- A row in order, behind one number that is less as a number than all of it. -/
theorem srt_left {x : Int} {B : List Int} (hB : B.Pairwise (R key)) (hlt : ∀ y ∈ B, x < y) {p : Nat} (hp : p ≤ B.length) (h1 : ∀ q (h : q < B.length), q < p → key B[q] < key x) (h2 : ∀ q (h : q < B.length), p ≤ q → ¬ key B[q] < key x) : srt key ([x] ++ B) = B.take p ++ x :: B.drop p := by
  have hs := hB
  rw [← List.take_append_drop p B, List.pairwise_append] at hs
  refine srt_eq (List.perm_middle.trans (by rw [List.take_append_drop]; rfl)) (List.pairwise_append.2 ⟨hs.1, List.pairwise_cons.2 ⟨fun y hy => ?_, hs.2.1⟩, fun y hy z hz => ?_⟩)
  · obtain ⟨i, hi, rfl⟩ := List.getElem_of_mem hy
    rw [List.length_drop] at hi
    rw [List.getElem_drop]
    have := h2 (p + i) (by omega) (by omega)
    have hx := hlt _ (List.getElem_mem (show p + i < B.length by omega))
    unfold R
    omega
  · have hyx : R key y x := by
      obtain ⟨i, hi, rfl⟩ := List.mem_take_iff_getElem.1 hy
      exact .inl (h1 i (by omega) (by omega))
    rcases List.mem_cons.1 hz with e | e
    · subst e; exact hyx
    · exact hs.2.2 y hy z e
/-- A row in order, ahead of one number that is greater as a number than all of it. -/
theorem srt_right {y : Int} {A : List Int} (hA : A.Pairwise (R key)) (hlt : ∀ x ∈ A, x < y) {p : Nat} (hp : p ≤ A.length) (h1 : ∀ q (h : q < A.length), q < p → ¬ key y < key A[q]) (h2 : ∀ q (h : q < A.length), p ≤ q → key y < key A[q]) : srt key (A ++ [y]) = A.take p ++ y :: A.drop p := by
  have hn : (A ++ [y]).Nodup := by
    rw [List.nodup_append]
    refine ⟨nodup_of hA, by simp, fun a ha b hb => ?_⟩
    rw [List.mem_singleton] at hb
    subst hb
    have := hlt a ha
    omega
  refine srt_snoc (by rw [srt_id hA, List.take_append_drop]) hn (fun x hx => ?_) fun x hx => ?_
  · obtain ⟨i, hi, rfl⟩ := List.mem_take_iff_getElem.1 hx
    have := h1 i (by omega) (by omega)
    have hx2 := hlt _ (List.getElem_mem (show i < A.length by omega))
    unfold R
    omega
  · obtain ⟨i, hi, rfl⟩ := List.getElem_of_mem hx
    rw [List.length_drop] at hi
    rw [List.getElem_drop]
    exact .inl (h2 (p + i) (by omega) (by omega))
theorem v101_left (h101 : tbl 101 = some (.code m101)) (C : Cmp tbl G cap key Sx id K) {n c : Nat} {P B S : List Int} {x : Int} {A : AH} (hid : id < A.next) (hK : K A) (hn : (P ++ [x] ++ B ++ S).length = n) (hb : n ≤ 1000000) (hX : A.get id = some (rwI (P ++ [x] ++ B ++ S))) (hB : B.Pairwise (R key)) (hlt : ∀ y ∈ B, x < y) (hSx : Sx x) (hS : ∀ y ∈ B, Sx y) (a m b : Nat) (ha : a = P.length) (hm : m = P.length + 1) (hbb : b = P.length + 1 + B.length) :
    ValU tbl 101 [.slice (some ⟨id, 0, none⟩) n c, .int .i64 a, .int .i64 m, .int .i64 b, .func (.func G) #[] cap.toArray] id A (P ++ srt key ([x] ++ B) ++ S) := by
  refine ValU.of_all fun Q hQ => ?_
  rw [rn_fun h101, k101]
  simp only [List.length_append, List.length_cons, List.length_nil] at hn
  have e1 : (m : Int) - (a : Int) = 1 := by omega
  have w1 := w64 (x := (1 : Int)) (by omega) (by omega)
  have hgA : A.enter.get id = some (rwI (P ++ [x] ++ B ++ S)) := hX
  obtain ⟨D, hD⟩ : ∃ D, D = P ++ [x] ++ B ++ S := ⟨_, rfl⟩
  have hDl : D.length = n := by rw [hD]; simp only [List.length_append, List.length_cons, List.length_nil]; omega
  have hDa : ga D a = x := by
    rw [hD, show P ++ [x] ++ B ++ S = P ++ x :: (B ++ S) by simp]
    exact ga_mid ha
  have hDb : ∀ q (h : q < B.length), ga D (m + q) = B[q] := fun q h => by
    rw [hD, List.append_assoc (P ++ [x]), ga_app (q := q) (by rw [List.length_append]; simp only [List.length_cons, List.length_nil]; omega), ga_lt h]
  rw [← hD] at hgA
  have hg' : A.get id = some (rwI D) := hgA
  have a0 : (0 : Int) ≤ (a : Int) := by omega
  have a1 : (a : Int) < (n : Int) := by omega
  have a2 : a + 1 ≤ n := by omega
  have hata := rwI_at (D := D) (i := a) (by omega)
  rw [hDa] at hata
  simp only [e1, w1, go_sem, Nat.reduceEqDiff, Nat.reduceAdd, Nat.reduceLeDiff, Int.reduceEq, Int.reduceLT, Int.reduceLE, Int.reduceAdd, Int.reduceSub, Int.reduceMul, Int.reduceNeg, Int.reduceToNat, Nat.reduceMul]
  refine rn_loop (fun k f H' => ∃ p r : Nat, k = r - p ∧ p ≤ r ∧ r ≤ B.length ∧ f 0 = .slice (some ⟨id, 0, none⟩) n c ∧ f 1 = .int .i64 a ∧ f 4 = .func (.func G) #[] cap.toArray ∧ f 10 = .int .i64 ((m + p : Nat) : Int) ∧ f 11 = .int .i64 ((m + r : Nat) : Int) ∧ H' = A.enter ∧ (∀ q (h : q < B.length), q < p → key B[q] < key x) ∧ (∀ q (h : q < B.length), r ≤ q → ¬ key B[q] < key x)) ?_ (n := B.length)
    ⟨0, B.length, by omega, by omega, by omega, by simp only [go_sem, Nat.reduceEqDiff, Nat.reduceAdd, Nat.reduceLeDiff, Int.reduceEq, Int.reduceLT, Int.reduceLE, Int.reduceAdd, Int.reduceSub, Int.reduceMul, Int.reduceNeg, Int.reduceToNat, Nat.reduceMul], by simp only [go_sem, Nat.reduceEqDiff, Nat.reduceAdd, Nat.reduceLeDiff, Int.reduceEq, Int.reduceLT, Int.reduceLE, Int.reduceAdd, Int.reduceSub, Int.reduceMul, Int.reduceNeg, Int.reduceToNat, Nat.reduceMul], by simp only [go_sem, Nat.reduceEqDiff, Nat.reduceAdd, Nat.reduceLeDiff, Int.reduceEq, Int.reduceLT, Int.reduceLE, Int.reduceAdd, Int.reduceSub, Int.reduceMul, Int.reduceNeg, Int.reduceToNat, Nat.reduceMul], by simp only [go_sem, Nat.reduceEqDiff, Nat.reduceAdd, Nat.reduceLeDiff, Int.reduceEq, Int.reduceLT, Int.reduceLE, Int.reduceAdd, Int.reduceSub, Int.reduceMul, Int.reduceNeg, Int.reduceToNat, Nat.reduceMul] <;> rfl, by simp only [go_sem, Nat.reduceEqDiff, Nat.reduceAdd, Nat.reduceLeDiff, Int.reduceEq, Int.reduceLT, Int.reduceLE, Int.reduceAdd, Int.reduceSub, Int.reduceMul, Int.reduceNeg, Int.reduceToNat, Nat.reduceMul]; congr 1; omega, rfl, fun q h h2 => absurd h2 (by omega), fun q h h2 => absurd h2 (by omega)⟩
  rintro k f H' ⟨p, r, rfl, hpr, hr, f0, f1, f4, f10, f11, rfl, h1, h2⟩
  by_cases hlt2 : ((m + p : Nat) : Int) < ((m + r : Nat) : Int)
  · obtain ⟨q, hq⟩ : ∃ q, q = (p + r) / 2 := ⟨_, rfl⟩
    have hqp : p ≤ q := by omega
    have hqr : q < r := by omega
    have es : ((m + p : Nat) : Int) + ((m + r : Nat) : Int) = ((m + p + (m + r) : Nat) : Int) := by omega
    have ws := w64 (x := ((m + p + (m + r) : Nat) : Int)) (by omega) (by omega)
    have hh := half64 (x := m + p + (m + r)) (by omega)
    rw [show (m + p + (m + r)) / 2 = m + q by omega] at hh
    have q0 : (0 : Int) ≤ ((m + q : Nat) : Int) := by omega
    have q1 : ((m + q : Nat) : Int) < (n : Int) := by omega
    have q2 : m + q + 1 ≤ n := by omega
    have hatq := rwI_at (D := D) (i := m + q) (by omega)
    rw [hDb q (by omega)] at hatq
    have wq := w64 (x := ((m + q : Nat) : Int) + 1) (by omega) (by omega)
    obtain ⟨cc, hcv, hcc⟩ := C.call A.enter B[q] x (C.enter _ hK) (hS _ (List.getElem_mem _)) hSx
    obtain ⟨cc', hcv', hcc'⟩ := C.call A.enter.enter B[q] x (C.enter _ (C.enter _ hK)) (hS _ (List.getElem_mem _)) hSx
    by_cases hk : key B[q] < key x
    · have hc0 := hcc.2 hk
      have hc0' := hcc'.2 hk
      simp only [f0, f1, f4, f10, f11, hlt2, es, ws, hh, hg', hgA, q0, q1, q2, a0, a1, a2, hatq, hata, hDl, idxSP_slc, Int.toNat_natCast, rwI_len, rwI_ro, rwI_es, addA, Nat.zero_add, Nat.mul_one, List.toList_toArray, List.nil_append, List.cons_append, ↓hcv.run, ↓hcv'.run, hc0, hc0', relow, wq, go_sem, Nat.reduceEqDiff, Nat.reduceAdd, Nat.reduceLeDiff, Int.reduceEq, Int.reduceLT, Int.reduceLE, Int.reduceAdd, Int.reduceSub, Int.reduceMul, Int.reduceNeg, Int.reduceToNat, Nat.reduceMul]
      refine ⟨r - (q + 1), by omega, q + 1, r, rfl, by omega, hr, by simp only [f0, go_sem, Nat.reduceEqDiff, Nat.reduceAdd, Nat.reduceLeDiff, Int.reduceEq, Int.reduceLT, Int.reduceLE, Int.reduceAdd, Int.reduceSub, Int.reduceMul, Int.reduceNeg, Int.reduceToNat, Nat.reduceMul], by simp only [f1, go_sem, Nat.reduceEqDiff, Nat.reduceAdd, Nat.reduceLeDiff, Int.reduceEq, Int.reduceLT, Int.reduceLE, Int.reduceAdd, Int.reduceSub, Int.reduceMul, Int.reduceNeg, Int.reduceToNat, Nat.reduceMul], by simp only [f4, go_sem, Nat.reduceEqDiff, Nat.reduceAdd, Nat.reduceLeDiff, Int.reduceEq, Int.reduceLT, Int.reduceLE, Int.reduceAdd, Int.reduceSub, Int.reduceMul, Int.reduceNeg, Int.reduceToNat, Nat.reduceMul], by simp only [go_sem, Nat.reduceEqDiff, Nat.reduceAdd, Nat.reduceLeDiff, Int.reduceEq, Int.reduceLT, Int.reduceLE, Int.reduceAdd, Int.reduceSub, Int.reduceMul, Int.reduceNeg, Int.reduceToNat, Nat.reduceMul] <;> rfl, by simp only [f11, go_sem, Nat.reduceEqDiff, Nat.reduceAdd, Nat.reduceLeDiff, Int.reduceEq, Int.reduceLT, Int.reduceLE, Int.reduceAdd, Int.reduceSub, Int.reduceMul, Int.reduceNeg, Int.reduceToNat, Nat.reduceMul], rfl, fun q' h hq' => ?_, h2⟩
      exact Int.lt_of_le_of_lt (key_le hB (show q' ≤ q by omega) (by omega)) hk
    · have hc0 : ¬ cc < 0 := fun h => hk (hcc.1 h)
      have hc0' : ¬ cc' < 0 := fun h => hk (hcc'.1 h)
      simp only [f0, f1, f4, f10, f11, hlt2, es, ws, hh, hg', hgA, q0, q1, q2, a0, a1, a2, hatq, hata, hDl, idxSP_slc, Int.toNat_natCast, rwI_len, rwI_ro, rwI_es, addA, Nat.zero_add, Nat.mul_one, List.toList_toArray, List.nil_append, List.cons_append, ↓hcv.run, ↓hcv'.run, hc0, hc0', relow, wq, go_sem, Nat.reduceEqDiff, Nat.reduceAdd, Nat.reduceLeDiff, Int.reduceEq, Int.reduceLT, Int.reduceLE, Int.reduceAdd, Int.reduceSub, Int.reduceMul, Int.reduceNeg, Int.reduceToNat, Nat.reduceMul]
      refine ⟨q - p, by omega, p, q, rfl, by omega, by omega, by simp only [f0, go_sem, Nat.reduceEqDiff, Nat.reduceAdd, Nat.reduceLeDiff, Int.reduceEq, Int.reduceLT, Int.reduceLE, Int.reduceAdd, Int.reduceSub, Int.reduceMul, Int.reduceNeg, Int.reduceToNat, Nat.reduceMul], by simp only [f1, go_sem, Nat.reduceEqDiff, Nat.reduceAdd, Nat.reduceLeDiff, Int.reduceEq, Int.reduceLT, Int.reduceLE, Int.reduceAdd, Int.reduceSub, Int.reduceMul, Int.reduceNeg, Int.reduceToNat, Nat.reduceMul], by simp only [f4, go_sem, Nat.reduceEqDiff, Nat.reduceAdd, Nat.reduceLeDiff, Int.reduceEq, Int.reduceLT, Int.reduceLE, Int.reduceAdd, Int.reduceSub, Int.reduceMul, Int.reduceNeg, Int.reduceToNat, Nat.reduceMul], by simp only [f10, go_sem, Nat.reduceEqDiff, Nat.reduceAdd, Nat.reduceLeDiff, Int.reduceEq, Int.reduceLT, Int.reduceLE, Int.reduceAdd, Int.reduceSub, Int.reduceMul, Int.reduceNeg, Int.reduceToNat, Nat.reduceMul], by simp only [go_sem, Nat.reduceEqDiff, Nat.reduceAdd, Nat.reduceLeDiff, Int.reduceEq, Int.reduceLT, Int.reduceLE, Int.reduceAdd, Int.reduceSub, Int.reduceMul, Int.reduceNeg, Int.reduceToNat, Nat.reduceMul], rfl, h1, fun q' h hq' hlt' => ?_⟩
      exact hk (Int.lt_of_le_of_lt (key_le hB hq' h) hlt')
  · have hpe : r = p := by omega
    subst hpe
    have hsr := srt_left hB hlt hr h1 h2
    simp only [f0, f1, f4, f10, f11, hlt2, go_sem, Nat.reduceEqDiff, Nat.reduceAdd, Nat.reduceLeDiff, Int.reduceEq, Int.reduceLT, Int.reduceLE, Int.reduceAdd, Int.reduceSub, Int.reduceMul, Int.reduceNeg, Int.reduceToNat, Nat.reduceMul]
    have e2 : ((m + r : Nat) : Int) - 1 = ((a + r : Nat) : Int) := by omega
    have w2 := w64 (x := ((a + r : Nat) : Int)) (by omega) (by omega)
    refine rn_loop (fun k f H' => ∃ q : Nat, k = r - q ∧ q ≤ r ∧ f 0 = .slice (some ⟨id, 0, none⟩) n c ∧ f 10 = .int .i64 ((m + r : Nat) : Int) ∧ f 13 = .int .i64 ((a + q : Nat) : Int) ∧ UpS id A.enter H' (P ++ B.take q ++ x :: (B.drop q ++ S))) ?_ (n := r)
      ⟨0, rfl, by omega, by simp only [f0, go_sem, Nat.reduceEqDiff, Nat.reduceAdd, Nat.reduceLeDiff, Int.reduceEq, Int.reduceLT, Int.reduceLE, Int.reduceAdd, Int.reduceSub, Int.reduceMul, Int.reduceNeg, Int.reduceToNat, Nat.reduceMul], by simp only [f10, go_sem, Nat.reduceEqDiff, Nat.reduceAdd, Nat.reduceLeDiff, Int.reduceEq, Int.reduceLT, Int.reduceLE, Int.reduceAdd, Int.reduceSub, Int.reduceMul, Int.reduceNeg, Int.reduceToNat, Nat.reduceMul], by simp only [f1, go_sem, Nat.reduceEqDiff, Nat.reduceAdd, Nat.reduceLeDiff, Int.reduceEq, Int.reduceLT, Int.reduceLE, Int.reduceAdd, Int.reduceSub, Int.reduceMul, Int.reduceNeg, Int.reduceToNat, Nat.reduceMul]; congr 1, .inl ⟨rfl, by
        rw [hgA, hD]
        simp⟩⟩
    clear f0 f1 f4 f10 f11
    rintro k f H' ⟨q, rfl, hqr, f0, f10, f13, hu⟩
    by_cases hlt3 : ((a + q : Nat) : Int) < ((a + r : Nat) : Int)
    · have hqb : q < B.length := by omega
      have eB : B.drop q = B[q] :: B.drop (q + 1) := List.drop_eq_getElem_cons hqb
      have eT : B.take (q + 1) = B.take q ++ [B[q]] := by rw [List.take_succ, List.getElem?_eq_getElem hqb]; rfl
      have hg := hu.get hid
      have hnx : H'.next = A.next := hu.next
      have hid2 : id < H'.next := by omega
      obtain ⟨s1, s2, s3, s4⟩ := swap_at (L1 := P ++ B.take q) (L2 := []) (L3 := B.drop (q + 1) ++ S) (u := x) (v := B[q]) (i := a + q) (j := a + q + 1) (by rw [List.length_append, List.length_take]; omega) (by simp only [List.length_append, List.length_take, List.length_nil]; omega)
      have eD : P ++ B.take q ++ x :: (B.drop q ++ S) = (P ++ B.take q) ++ x :: ([] ++ B[q] :: (B.drop (q + 1) ++ S)) := by rw [eB]; simp only [List.append_assoc, List.cons_append, List.nil_append]
      have eD2 : P ++ B.take (q + 1) ++ x :: (B.drop (q + 1) ++ S) = (P ++ B.take q) ++ B[q] :: ([] ++ x :: (B.drop (q + 1) ++ S)) := by rw [eT]; simp only [List.append_assoc, List.cons_append, List.nil_append]
      rw [eD] at hg
      have hEl : ((P ++ B.take q) ++ x :: ([] ++ B[q] :: (B.drop (q + 1) ++ S))).length = n := by simp only [List.length_append, List.length_cons, List.length_take, List.length_drop, List.length_nil]; omega
      generalize hE : (P ++ B.take q) ++ x :: ([] ++ B[q] :: (B.drop (q + 1) ++ S)) = E at hg s1 s2 s3 s4 hEl
      have e3 : ((a + q : Nat) : Int) + 1 = ((a + q + 1 : Nat) : Int) := by omega
      have w3 := w64 (x := ((a + q + 1 : Nat) : Int)) (by omega) (by omega)
      have i0 : (0 : Int) ≤ ((a + q : Nat) : Int) := by omega
      have i1 : ((a + q : Nat) : Int) < (n : Int) := by omega
      have i2 : a + q + 1 ≤ n := by omega
      have j0 : (0 : Int) ≤ ((a + q + 1 : Nat) : Int) := by omega
      have j1 : ((a + q + 1 : Nat) : Int) < (n : Int) := by omega
      have j2 : a + q + 1 + 1 ≤ n := by omega
      have hat1 := rwI_at (D := E) (i := a + q) (by omega)
      have hat2 := rwI_at (D := E) (i := a + q + 1) (by omega)
      rw [s1] at hat1
      rw [s2] at hat2
      simp only [f0, f10, f13, e2, w2, hlt3, e3, w3, i0, i1, i2, j0, j1, j2, hg, hat1, hat2, hEl, hid2, idxSP_slc, Int.toNat_natCast, rwI_len, rwI_ro, rwI_es, addA, Nat.zero_add, Nat.mul_one, stc_eq, stB_some, splice_one, rwI_set, List.length_set, set_get, set_set, AH.next_set, s3, s4, go_sem, Nat.reduceEqDiff, Nat.reduceAdd, Nat.reduceLeDiff, Int.reduceEq, Int.reduceLT, Int.reduceLE, Int.reduceAdd, Int.reduceSub, Int.reduceMul, Int.reduceNeg, Int.reduceToNat, Nat.reduceMul]
      refine ⟨r - (q + 1), by omega, q + 1, rfl, by omega, by simp only [f0, go_sem, Nat.reduceEqDiff, Nat.reduceAdd, Nat.reduceLeDiff, Int.reduceEq, Int.reduceLT, Int.reduceLE, Int.reduceAdd, Int.reduceSub, Int.reduceMul, Int.reduceNeg, Int.reduceToNat, Nat.reduceMul], by simp only [f10, go_sem, Nat.reduceEqDiff, Nat.reduceAdd, Nat.reduceLeDiff, Int.reduceEq, Int.reduceLT, Int.reduceLE, Int.reduceAdd, Int.reduceSub, Int.reduceMul, Int.reduceNeg, Int.reduceToNat, Nat.reduceMul], by simp only [go_sem, Nat.reduceEqDiff, Nat.reduceAdd, Nat.reduceLeDiff, Int.reduceEq, Int.reduceLT, Int.reduceLE, Int.reduceAdd, Int.reduceSub, Int.reduceMul, Int.reduceNeg, Int.reduceToNat, Nat.reduceMul] <;> rfl, ?_⟩
      rw [eD2]; exact hu.set _
    · have hqe : q = r := by omega
      subst hqe
      have e : P ++ B.take q ++ x :: (B.drop q ++ S) = P ++ srt key ([x] ++ B) ++ S := by rw [hsr]; simp only [List.append_assoc, List.cons_append]
      rw [e] at hu
      obtain ⟨Z, hZ, hu4⟩ := hu.back hid
      simp only [f0, f10, f13, e2, w2, hlt3, hZ, go_sem, Nat.reduceEqDiff, Nat.reduceAdd, Nat.reduceLeDiff, Int.reduceEq, Int.reduceLT, Int.reduceLE, Int.reduceAdd, Int.reduceSub, Int.reduceMul, Int.reduceNeg, Int.reduceToNat, Nat.reduceMul]
      exact hQ Z hu4
end Go.Proofs.Ytidpkoaomfbljaa.AM
namespace Go.Proofs.Ytidpkoaomfbljaa.AM
open Go
set_option linter.all false
set_option maxRecDepth 10000
variable {tbl : Tbl} [hT : TMono tbl]
variable {G : FuncId} {cap : List Value} {key : Int → Int} {Sx : Int → Prop} {id : Nat} {K : AH → Prop}

theorem v101_right (h101 : tbl 101 = some (.code m101)) (C : Cmp tbl G cap key Sx id K) {n c : Nat} {P B S : List Int} {y : Int} {A : AH} (hid : id < A.next) (hK : K A) (hn : (P ++ B ++ [y] ++ S).length = n) (hb : n ≤ 1000000) (hX : A.get id = some (rwI (P ++ B ++ [y] ++ S))) (hB : B.Pairwise (R key)) (hB1 : B.length ≠ 1) (hlt : ∀ x ∈ B, x < y) (hSx : Sx y) (hS : ∀ x ∈ B, Sx x) (a m b : Nat) (ha : a = P.length) (hm : m = P.length + B.length) (hbb : b = P.length + B.length + 1) :
    ValU tbl 101 [.slice (some ⟨id, 0, none⟩) n c, .int .i64 a, .int .i64 m, .int .i64 b, .func (.func G) #[] cap.toArray] id A (P ++ srt key (B ++ [y]) ++ S) := by
  refine ValU.of_all fun Q hQ => ?_
  rw [rn_fun h101, k101]
  simp only [List.length_append, List.length_cons, List.length_nil] at hn
  have e1 : (m : Int) - (a : Int) = (B.length : Int) := by omega
  have w1 := w64 (x := (B.length : Int)) (by omega) (by omega)
  have n1 : ¬ (B.length : Int) = 1 := by omega
  have e2 : (b : Int) - (m : Int) = 1 := by omega
  have w2 := w64 (x := (1 : Int)) (by omega) (by omega)
  have hgA : A.enter.get id = some (rwI (P ++ B ++ [y] ++ S)) := hX
  obtain ⟨D, hD⟩ : ∃ D, D = P ++ B ++ [y] ++ S := ⟨_, rfl⟩
  have hDl : D.length = n := by rw [hD]; simp only [List.length_append, List.length_cons, List.length_nil]; omega
  have hDm : ga D m = y := by
    rw [hD, show P ++ B ++ [y] ++ S = (P ++ B) ++ y :: S by simp]
    exact ga_mid (by rw [List.length_append]; omega)
  have hDb : ∀ q (h : q < B.length), ga D (a + q) = B[q] := fun q h => by
    rw [hD, List.append_assoc, List.append_assoc, ga_app (q := q) (by omega), ga_lt h]
  rw [← hD] at hgA
  have hg' : A.get id = some (rwI D) := hgA
  have m0 : (0 : Int) ≤ (m : Int) := by omega
  have m1 : (m : Int) < (n : Int) := by omega
  have m2 : m + 1 ≤ n := by omega
  have hatm := rwI_at (D := D) (i := m) (by omega)
  rw [hDm] at hatm
  simp only [e1, w1, n1, e2, w2, go_sem, Nat.reduceEqDiff, Nat.reduceAdd, Nat.reduceLeDiff, Int.reduceEq, Int.reduceLT, Int.reduceLE, Int.reduceAdd, Int.reduceSub, Int.reduceMul, Int.reduceNeg, Int.reduceToNat, Nat.reduceMul]
  refine rn_loop (fun k f H' => ∃ p r : Nat, k = r - p ∧ p ≤ r ∧ r ≤ B.length ∧ f 0 = .slice (some ⟨id, 0, none⟩) n c ∧ f 2 = .int .i64 m ∧ f 4 = .func (.func G) #[] cap.toArray ∧ f 14 = .int .i64 ((a + p : Nat) : Int) ∧ f 15 = .int .i64 ((a + r : Nat) : Int) ∧ H' = A.enter ∧ (∀ q (h : q < B.length), q < p → ¬ key y < key B[q]) ∧ (∀ q (h : q < B.length), r ≤ q → key y < key B[q])) ?_ (n := B.length)
    ⟨0, B.length, by omega, by omega, by omega, by simp only [go_sem, Nat.reduceEqDiff, Nat.reduceAdd, Nat.reduceLeDiff, Int.reduceEq, Int.reduceLT, Int.reduceLE, Int.reduceAdd, Int.reduceSub, Int.reduceMul, Int.reduceNeg, Int.reduceToNat, Nat.reduceMul], by simp only [go_sem, Nat.reduceEqDiff, Nat.reduceAdd, Nat.reduceLeDiff, Int.reduceEq, Int.reduceLT, Int.reduceLE, Int.reduceAdd, Int.reduceSub, Int.reduceMul, Int.reduceNeg, Int.reduceToNat, Nat.reduceMul], by simp only [go_sem, Nat.reduceEqDiff, Nat.reduceAdd, Nat.reduceLeDiff, Int.reduceEq, Int.reduceLT, Int.reduceLE, Int.reduceAdd, Int.reduceSub, Int.reduceMul, Int.reduceNeg, Int.reduceToNat, Nat.reduceMul], by simp only [go_sem, Nat.reduceEqDiff, Nat.reduceAdd, Nat.reduceLeDiff, Int.reduceEq, Int.reduceLT, Int.reduceLE, Int.reduceAdd, Int.reduceSub, Int.reduceMul, Int.reduceNeg, Int.reduceToNat, Nat.reduceMul] <;> rfl, by simp only [go_sem, Nat.reduceEqDiff, Nat.reduceAdd, Nat.reduceLeDiff, Int.reduceEq, Int.reduceLT, Int.reduceLE, Int.reduceAdd, Int.reduceSub, Int.reduceMul, Int.reduceNeg, Int.reduceToNat, Nat.reduceMul]; congr 1; omega, rfl, fun q h h2 => absurd h2 (by omega), fun q h h2 => absurd h2 (by omega)⟩
  rintro k f H' ⟨p, r, rfl, hpr, hr, f0, f2, f4, f14, f15, rfl, h1, h2⟩
  by_cases hlt2 : ((a + p : Nat) : Int) < ((a + r : Nat) : Int)
  · obtain ⟨q, hq⟩ : ∃ q, q = (p + r) / 2 := ⟨_, rfl⟩
    have hqp : p ≤ q := by omega
    have hqr : q < r := by omega
    have es : ((a + p : Nat) : Int) + ((a + r : Nat) : Int) = ((a + p + (a + r) : Nat) : Int) := by omega
    have ws := w64 (x := ((a + p + (a + r) : Nat) : Int)) (by omega) (by omega)
    have hh := half64 (x := a + p + (a + r)) (by omega)
    rw [show (a + p + (a + r)) / 2 = a + q by omega] at hh
    have q0 : (0 : Int) ≤ ((a + q : Nat) : Int) := by omega
    have q1 : ((a + q : Nat) : Int) < (n : Int) := by omega
    have q2 : a + q + 1 ≤ n := by omega
    have hatq := rwI_at (D := D) (i := a + q) (by omega)
    rw [hDb q (by omega)] at hatq
    have wq := w64 (x := ((a + q : Nat) : Int) + 1) (by omega) (by omega)
    obtain ⟨cc, hcv, hcc⟩ := C.call A.enter y B[q] (C.enter _ hK) hSx (hS _ (List.getElem_mem _))
    obtain ⟨cc', hcv', hcc'⟩ := C.call A.enter.enter y B[q] (C.enter _ (C.enter _ hK)) hSx (hS _ (List.getElem_mem _))
    by_cases hk : key y < key B[q]
    · have hc0 := hcc.2 hk
      have hc0' := hcc'.2 hk
      simp only [f0, f2, f4, f14, f15, hlt2, es, ws, hh, hg', hgA, q0, q1, q2, m0, m1, m2, hatq, hatm, hDl, idxSP_slc, Int.toNat_natCast, rwI_len, rwI_ro, rwI_es, addA, Nat.zero_add, Nat.mul_one, List.toList_toArray, List.nil_append, List.cons_append, ↓hcv.run, ↓hcv'.run, hc0, hc0', relow, wq, go_sem, Nat.reduceEqDiff, Nat.reduceAdd, Nat.reduceLeDiff, Int.reduceEq, Int.reduceLT, Int.reduceLE, Int.reduceAdd, Int.reduceSub, Int.reduceMul, Int.reduceNeg, Int.reduceToNat, Nat.reduceMul]
      refine ⟨q - p, by omega, p, q, rfl, by omega, by omega, by simp only [f0, go_sem, Nat.reduceEqDiff, Nat.reduceAdd, Nat.reduceLeDiff, Int.reduceEq, Int.reduceLT, Int.reduceLE, Int.reduceAdd, Int.reduceSub, Int.reduceMul, Int.reduceNeg, Int.reduceToNat, Nat.reduceMul], by simp only [f2, go_sem, Nat.reduceEqDiff, Nat.reduceAdd, Nat.reduceLeDiff, Int.reduceEq, Int.reduceLT, Int.reduceLE, Int.reduceAdd, Int.reduceSub, Int.reduceMul, Int.reduceNeg, Int.reduceToNat, Nat.reduceMul], by simp only [f4, go_sem, Nat.reduceEqDiff, Nat.reduceAdd, Nat.reduceLeDiff, Int.reduceEq, Int.reduceLT, Int.reduceLE, Int.reduceAdd, Int.reduceSub, Int.reduceMul, Int.reduceNeg, Int.reduceToNat, Nat.reduceMul], by simp only [f14, go_sem, Nat.reduceEqDiff, Nat.reduceAdd, Nat.reduceLeDiff, Int.reduceEq, Int.reduceLT, Int.reduceLE, Int.reduceAdd, Int.reduceSub, Int.reduceMul, Int.reduceNeg, Int.reduceToNat, Nat.reduceMul], by simp only [go_sem, Nat.reduceEqDiff, Nat.reduceAdd, Nat.reduceLeDiff, Int.reduceEq, Int.reduceLT, Int.reduceLE, Int.reduceAdd, Int.reduceSub, Int.reduceMul, Int.reduceNeg, Int.reduceToNat, Nat.reduceMul], rfl, h1, fun q' h hq' => ?_⟩
      exact Int.lt_of_lt_of_le hk (key_le hB hq' h)
    · have hc0 : ¬ cc < 0 := fun h => hk (hcc.1 h)
      have hc0' : ¬ cc' < 0 := fun h => hk (hcc'.1 h)
      simp only [f0, f2, f4, f14, f15, hlt2, es, ws, hh, hg', hgA, q0, q1, q2, m0, m1, m2, hatq, hatm, hDl, idxSP_slc, Int.toNat_natCast, rwI_len, rwI_ro, rwI_es, addA, Nat.zero_add, Nat.mul_one, List.toList_toArray, List.nil_append, List.cons_append, ↓hcv.run, ↓hcv'.run, hc0, hc0', relow, wq, go_sem, Nat.reduceEqDiff, Nat.reduceAdd, Nat.reduceLeDiff, Int.reduceEq, Int.reduceLT, Int.reduceLE, Int.reduceAdd, Int.reduceSub, Int.reduceMul, Int.reduceNeg, Int.reduceToNat, Nat.reduceMul]
      refine ⟨r - (q + 1), by omega, q + 1, r, rfl, by omega, hr, by simp only [f0, go_sem, Nat.reduceEqDiff, Nat.reduceAdd, Nat.reduceLeDiff, Int.reduceEq, Int.reduceLT, Int.reduceLE, Int.reduceAdd, Int.reduceSub, Int.reduceMul, Int.reduceNeg, Int.reduceToNat, Nat.reduceMul], by simp only [f2, go_sem, Nat.reduceEqDiff, Nat.reduceAdd, Nat.reduceLeDiff, Int.reduceEq, Int.reduceLT, Int.reduceLE, Int.reduceAdd, Int.reduceSub, Int.reduceMul, Int.reduceNeg, Int.reduceToNat, Nat.reduceMul], by simp only [f4, go_sem, Nat.reduceEqDiff, Nat.reduceAdd, Nat.reduceLeDiff, Int.reduceEq, Int.reduceLT, Int.reduceLE, Int.reduceAdd, Int.reduceSub, Int.reduceMul, Int.reduceNeg, Int.reduceToNat, Nat.reduceMul], by simp only [go_sem, Nat.reduceEqDiff, Nat.reduceAdd, Nat.reduceLeDiff, Int.reduceEq, Int.reduceLT, Int.reduceLE, Int.reduceAdd, Int.reduceSub, Int.reduceMul, Int.reduceNeg, Int.reduceToNat, Nat.reduceMul] <;> rfl, by simp only [f15, go_sem, Nat.reduceEqDiff, Nat.reduceAdd, Nat.reduceLeDiff, Int.reduceEq, Int.reduceLT, Int.reduceLE, Int.reduceAdd, Int.reduceSub, Int.reduceMul, Int.reduceNeg, Int.reduceToNat, Nat.reduceMul], rfl, fun q' h hq' hlt' => ?_, h2⟩
      exact hk (Int.lt_of_lt_of_le hlt' (key_le hB (show q' ≤ q by omega) (by omega)))
  · have hpe : r = p := by omega
    subst hpe
    have hsr := srt_right hB hlt hr h1 h2
    simp only [f0, f2, f4, f14, f15, hlt2, go_sem, Nat.reduceEqDiff, Nat.reduceAdd, Nat.reduceLeDiff, Int.reduceEq, Int.reduceLT, Int.reduceLE, Int.reduceAdd, Int.reduceSub, Int.reduceMul, Int.reduceNeg, Int.reduceToNat, Nat.reduceMul]
    refine rn_loop (fun k f H' => ∃ q : Nat, k = q - r ∧ r ≤ q ∧ q ≤ B.length ∧ f 0 = .slice (some ⟨id, 0, none⟩) n c ∧ f 14 = .int .i64 ((a + r : Nat) : Int) ∧ f 17 = .int .i64 ((a + q : Nat) : Int) ∧ UpS id A.enter H' (P ++ B.take q ++ y :: (B.drop q ++ S))) ?_ (n := B.length - r)
      ⟨B.length, rfl, by omega, by omega, by simp only [f0, go_sem, Nat.reduceEqDiff, Nat.reduceAdd, Nat.reduceLeDiff, Int.reduceEq, Int.reduceLT, Int.reduceLE, Int.reduceAdd, Int.reduceSub, Int.reduceMul, Int.reduceNeg, Int.reduceToNat, Nat.reduceMul], by simp only [f14, go_sem, Nat.reduceEqDiff, Nat.reduceAdd, Nat.reduceLeDiff, Int.reduceEq, Int.reduceLT, Int.reduceLE, Int.reduceAdd, Int.reduceSub, Int.reduceMul, Int.reduceNeg, Int.reduceToNat, Nat.reduceMul], by simp only [f2, go_sem, Nat.reduceEqDiff, Nat.reduceAdd, Nat.reduceLeDiff, Int.reduceEq, Int.reduceLT, Int.reduceLE, Int.reduceAdd, Int.reduceSub, Int.reduceMul, Int.reduceNeg, Int.reduceToNat, Nat.reduceMul]; congr 1; omega, .inl ⟨rfl, by
        rw [hgA, hD]
        simp⟩⟩
    clear f0 f2 f4 f14 f15
    rintro k f H' ⟨q, rfl, hrq, hqb, f0, f14, f17, hu⟩
    by_cases hlt3 : ((a + r : Nat) : Int) < ((a + q : Nat) : Int)
    · obtain ⟨t, rfl⟩ : ∃ t, q = t + 1 := ⟨q - 1, by omega⟩
      have htb : t < B.length := by omega
      have eB : B.drop t = B[t] :: B.drop (t + 1) := List.drop_eq_getElem_cons htb
      have eT : B.take (t + 1) = B.take t ++ [B[t]] := by rw [List.take_succ, List.getElem?_eq_getElem htb]; rfl
      have hg := hu.get hid
      have hnx : H'.next = A.next := hu.next
      have hid2 : id < H'.next := by omega
      obtain ⟨s1, s2, s3, s4⟩ := swap_at (L1 := P ++ B.take t) (L2 := []) (L3 := B.drop (t + 1) ++ S) (u := B[t]) (v := y) (i := a + t) (j := a + (t + 1)) (by rw [List.length_append, List.length_take]; omega) (by simp only [List.length_append, List.length_take, List.length_nil]; omega)
      have eD : P ++ B.take (t + 1) ++ y :: (B.drop (t + 1) ++ S) = (P ++ B.take t) ++ B[t] :: ([] ++ y :: (B.drop (t + 1) ++ S)) := by rw [eT]; simp only [List.append_assoc, List.cons_append, List.nil_append]
      have eD2 : P ++ B.take t ++ y :: (B.drop t ++ S) = (P ++ B.take t) ++ y :: ([] ++ B[t] :: (B.drop (t + 1) ++ S)) := by rw [eB]; simp only [List.append_assoc, List.cons_append, List.nil_append]
      rw [eD] at hg
      have hEl : ((P ++ B.take t) ++ B[t] :: ([] ++ y :: (B.drop (t + 1) ++ S))).length = n := by simp only [List.length_append, List.length_cons, List.length_take, List.length_drop, List.length_nil]; omega
      generalize hE : (P ++ B.take t) ++ B[t] :: ([] ++ y :: (B.drop (t + 1) ++ S)) = E at hg s1 s2 s3 s4 hEl
      have e3 : ((a + (t + 1) : Nat) : Int) - 1 = ((a + t : Nat) : Int) := by omega
      have w3 := w64 (x := ((a + t : Nat) : Int)) (by omega) (by omega)
      have i0 : (0 : Int) ≤ ((a + t : Nat) : Int) := by omega
      have i1 : ((a + t : Nat) : Int) < (n : Int) := by omega
      have i2 : a + t + 1 ≤ n := by omega
      have j0 : (0 : Int) ≤ ((a + (t + 1) : Nat) : Int) := by omega
      have j1 : ((a + (t + 1) : Nat) : Int) < (n : Int) := by omega
      have j2 : a + (t + 1) + 1 ≤ n := by omega
      have hat1 := rwI_at (D := E) (i := a + t) (by omega)
      have hat2 := rwI_at (D := E) (i := a + (t + 1)) (by omega)
      rw [s1] at hat1
      rw [s2] at hat2
      simp only [f0, f14, f17, hlt3, e3, w3, i0, i1, i2, j0, j1, j2, hg, hat1, hat2, hEl, hid2, idxSP_slc, Int.toNat_natCast, rwI_len, rwI_ro, rwI_es, addA, Nat.zero_add, Nat.mul_one, stc_eq, stB_some, splice_one, rwI_set, List.length_set, set_get, set_set, AH.next_set, s3, s4, go_sem, Nat.reduceEqDiff, Nat.reduceAdd, Nat.reduceLeDiff, Int.reduceEq, Int.reduceLT, Int.reduceLE, Int.reduceAdd, Int.reduceSub, Int.reduceMul, Int.reduceNeg, Int.reduceToNat, Nat.reduceMul]
      refine ⟨t - r, by omega, t, rfl, by omega, by omega, by simp only [f0, go_sem, Nat.reduceEqDiff, Nat.reduceAdd, Nat.reduceLeDiff, Int.reduceEq, Int.reduceLT, Int.reduceLE, Int.reduceAdd, Int.reduceSub, Int.reduceMul, Int.reduceNeg, Int.reduceToNat, Nat.reduceMul], by simp only [f14, go_sem, Nat.reduceEqDiff, Nat.reduceAdd, Nat.reduceLeDiff, Int.reduceEq, Int.reduceLT, Int.reduceLE, Int.reduceAdd, Int.reduceSub, Int.reduceMul, Int.reduceNeg, Int.reduceToNat, Nat.reduceMul], by simp only [go_sem, Nat.reduceEqDiff, Nat.reduceAdd, Nat.reduceLeDiff, Int.reduceEq, Int.reduceLT, Int.reduceLE, Int.reduceAdd, Int.reduceSub, Int.reduceMul, Int.reduceNeg, Int.reduceToNat, Nat.reduceMul], ?_⟩
      rw [eD2]; exact hu.set _
    · have hqe : q = r := by omega
      subst hqe
      have e : P ++ B.take q ++ y :: (B.drop q ++ S) = P ++ srt key (B ++ [y]) ++ S := by rw [hsr]; simp only [List.append_assoc, List.cons_append]
      rw [e] at hu
      obtain ⟨Z, hZ, hu4⟩ := hu.back hid
      simp only [f0, f14, f17, hlt3, hZ, go_sem, Nat.reduceEqDiff, Nat.reduceAdd, Nat.reduceLeDiff, Int.reduceEq, Int.reduceLT, Int.reduceLE, Int.reduceAdd, Int.reduceSub, Int.reduceMul, Int.reduceNeg, Int.reduceToNat, Nat.reduceMul]
      exact hQ Z hu4
end Go.Proofs.Ytidpkoaomfbljaa.AM
namespace Go.Proofs.Ytidpkoaomfbljaa.AM
open Go
set_option linter.all false
set_option maxRecDepth 10000

def z9 : MCode := (.seq (.ops [⟨(some 178), none, false, (.mov (.tmp 20))⟩, ⟨(some 179), none, false, (.mov (.tmp 2))⟩, ⟨(some 180), none, false, (.bin .int .lss (.tmp 178) (.tmp 179))⟩, ⟨(some 181), none, false, (.mov (.tmp 180))⟩, ⟨(some 182), (some (181, true)), false, (.mov (.tmp 2))⟩, ⟨(some 183), (some (181, true)), false, (.mov (.tmp 24))⟩, ⟨(some 184), (some (181, true)), false, (.bin .int .lss (.tmp 182) (.tmp 183))⟩, ⟨(some 185), none, false, (.pick (.tmp 181) (.tmp 184) (.const (.bool false)))⟩]) (.cond (.tmp 185) (.ops [⟨(some 186), none, false, (.mov (.tmp 0))⟩, ⟨(some 187), none, false, (.mov (.tmp 20))⟩, ⟨(some 188), none, false, (.mov (.tmp 2))⟩, ⟨(some 189), none, false, (.mov (.tmp 24))⟩, ⟨(some 190), none, false, (.mov (.tmp 4))⟩, ⟨(some 191), none, false, (.call false (.func 108) [(.tmp 186), (.tmp 187), (.tmp 188), (.tmp 189), (.tmp 190)])⟩]) .skip))
def z10 : MCode := (.seq (.ops [⟨(some 192), none, false, (.mov (.tmp 1))⟩, ⟨(some 193), none, false, (.mov (.tmp 20))⟩, ⟨(some 194), none, false, (.bin .int .lss (.tmp 192) (.tmp 193))⟩, ⟨(some 195), none, false, (.mov (.tmp 194))⟩, ⟨(some 196), (some (195, true)), false, (.mov (.tmp 20))⟩, ⟨(some 197), (some (195, true)), false, (.mov (.tmp 18))⟩, ⟨(some 198), (some (195, true)), false, (.bin .int .lss (.tmp 196) (.tmp 197))⟩, ⟨(some 199), none, false, (.pick (.tmp 195) (.tmp 198) (.const (.bool false)))⟩]) (.cond (.tmp 199) (.ops [⟨(some 200), none, false, (.mov (.tmp 0))⟩, ⟨(some 201), none, false, (.mov (.tmp 1))⟩, ⟨(some 202), none, false, (.mov (.tmp 20))⟩, ⟨(some 203), none, false, (.mov (.tmp 18))⟩, ⟨(some 204), none, false, (.mov (.tmp 4))⟩, ⟨(some 205), none, false, (.call false (.func 101) [(.tmp 200), (.tmp 201), (.tmp 202), (.tmp 203), (.tmp 204)])⟩]) .skip))
def z11 : MCode := (.seq (.ops [⟨(some 206), none, false, (.mov (.tmp 18))⟩, ⟨(some 207), none, false, (.mov (.tmp 24))⟩, ⟨(some 208), none, false, (.bin .int .lss (.tmp 206) (.tmp 207))⟩, ⟨(some 209), none, false, (.mov (.tmp 208))⟩, ⟨(some 210), (some (209, true)), false, (.mov (.tmp 24))⟩, ⟨(some 211), (some (209, true)), false, (.mov (.tmp 3))⟩, ⟨(some 212), (some (209, true)), false, (.bin .int .lss (.tmp 210) (.tmp 211))⟩, ⟨(some 213), none, false, (.pick (.tmp 209) (.tmp 212) (.const (.bool false)))⟩]) (.cond (.tmp 213) (.ops [⟨(some 214), none, false, (.mov (.tmp 0))⟩, ⟨(some 215), none, false, (.mov (.tmp 18))⟩, ⟨(some 216), none, false, (.mov (.tmp 24))⟩, ⟨(some 217), none, false, (.mov (.tmp 3))⟩, ⟨(some 218), none, false, (.mov (.tmp 4))⟩, ⟨(some 219), none, false, (.call false (.func 101) [(.tmp 214), (.tmp 215), (.tmp 216), (.tmp 217), (.tmp 218)])⟩]) .skip))
def z6 : MCode := (.seq (.ops [⟨(some 147), none, false, (.mov (.tmp 19))⟩, ⟨(some 148), none, false, (.bin .int .sub (.tmp 147) (.const (.int .i64 1)))⟩, ⟨(some 22), none, false, (.mov (.tmp 148))⟩]) (.seq (.block 8 (.loop (.seq (.seq (.ops [⟨(some 149), none, false, (.mov (.tmp 20))⟩, ⟨(some 150), none, false, (.mov (.tmp 21))⟩, ⟨(some 151), none, false, (.bin .int .lss (.tmp 149) (.tmp 150))⟩]) (.cond (.tmp 151) .skip (.exit 8))) (.block 9 (.seq (.ops [⟨(some 152), none, false, (.mov (.tmp 20))⟩, ⟨(some 153), none, false, (.mov (.tmp 21))⟩, ⟨(some 154), none, false, (.bin .int .add (.tmp 152) (.tmp 153))⟩, ⟨(some 155), none, false, (.conv .u64 (.tmp 154))⟩, ⟨(some 156), none, false, (.bin .int .shr (.tmp 155) (.const (.int .u64 1)))⟩, ⟨(some 157), none, false, (.conv .i64 (.tmp 156))⟩, ⟨(some 23), none, false, (.mov (.tmp 157))⟩]) (.seq (.opsD [⟨(some 158), none, false, (.mov (.tmp 4))⟩, ⟨(some 159), none, false, (.mov (.tmp 0))⟩, ⟨(some 160), none, false, (.mov (.tmp 22))⟩, ⟨(some 161), none, false, (.mov (.tmp 23))⟩, ⟨(some 162), none, false, (.bin .int .sub (.tmp 160) (.tmp 161))⟩, ⟨(some 163), none, false, (.idxS 1 (.tmp 159) (.tmp 162))⟩, ⟨(some 164), none, false, (.load false 1 (.tmp 163))⟩, ⟨(some 165), none, false, (.mov (.tmp 0))⟩, ⟨(some 166), none, false, (.mov (.tmp 23))⟩, ⟨(some 167), none, false, (.idxS 1 (.tmp 165) (.tmp 166))⟩, ⟨(some 168), none, false, (.load false 1 (.tmp 167))⟩, ⟨(some 169), none, false, (.call false (.tmp 158) [(.tmp 164), (.tmp 168)])⟩, ⟨(some 170), none, false, (.bin .int .lss (.tmp 169) (.const (.int .i64 0)))⟩, ⟨(some 171), none, false, (.un .not (.tmp 170))⟩]) (.cond (.tmp 171) (.ops [⟨(some 172), none, false, (.mov (.tmp 23))⟩, ⟨(some 173), none, false, (.bin .int .add (.tmp 172) (.const (.int .i64 1)))⟩, ⟨(some 20), none, false, (.mov (.tmp 173))⟩]) (.ops [⟨(some 174), none, false, (.mov (.tmp 23))⟩, ⟨(some 21), none, false, (.mov (.tmp 174))⟩])))))))) (.seq (.ops [⟨(some 175), none, false, (.mov (.tmp 19))⟩, ⟨(some 176), none, false, (.mov (.tmp 20))⟩, ⟨(some 177), none, false, (.bin .int .sub (.tmp 175) (.tmp 176))⟩, ⟨(some 24), none, false, (.mov (.tmp 177))⟩]) (.seq z9 (.seq z10 z11)))))
theorem k101_eq : k101 = (.seq (.seq (.ops [⟨(some 25), none, false, (.mov (.tmp 2))⟩, ⟨(some 26), none, false, (.mov (.tmp 1))⟩, ⟨(some 27), none, false, (.bin .int .sub (.tmp 25) (.tmp 26))⟩, ⟨(some 28), none, false, (.bin .int .eql (.tmp 27) (.const (.int .i64 1)))⟩]) (.cond (.tmp 28) (.seq (.ops [⟨(some 29), none, false, (.mov (.tmp 2))⟩, ⟨(some 10), none, false, (.mov (.tmp 29))⟩]) (.seq (.ops [⟨(some 30), none, false, (.mov (.tmp 3))⟩, ⟨(some 11), none, false, (.mov (.tmp 30))⟩]) (.seq (.block 0 (.loop (.seq (.seq (.ops [⟨(some 31), none, false, (.mov (.tmp 10))⟩, ⟨(some 32), none, false, (.mov (.tmp 11))⟩, ⟨(some 33), none, false, (.bin .int .lss (.tmp 31) (.tmp 32))⟩]) (.cond (.tmp 33) .skip (.exit 0))) (.block 1 (.seq (.ops [⟨(some 34), none, false, (.mov (.tmp 10))⟩, ⟨(some 35), none, false, (.mov (.tmp 11))⟩, ⟨(some 36), none, false, (.bin .int .add (.tmp 34) (.tmp 35))⟩, ⟨(some 37), none, false, (.conv .u64 (.tmp 36))⟩, ⟨(some 38), none, false, (.bin .int .shr (.tmp 37) (.const (.int .u64 1)))⟩, ⟨(some 39), none, false, (.conv .i64 (.tmp 38))⟩, ⟨(some 12), none, false, (.mov (.tmp 39))⟩]) (.seq (.opsD [⟨(some 40), none, false, (.mov (.tmp 4))⟩, ⟨(some 41), none, false, (.mov (.tmp 0))⟩, ⟨(some 42), none, false, (.mov (.tmp 12))⟩, ⟨(some 43), none, false, (.idxS 1 (.tmp 41) (.tmp 42))⟩, ⟨(some 44), none, false, (.load false 1 (.tmp 43))⟩, ⟨(some 45), none, false, (.mov (.tmp 0))⟩, ⟨(some 46), none, false, (.mov (.tmp 1))⟩, ⟨(some 47), none, false, (.idxS 1 (.tmp 45) (.tmp 46))⟩, ⟨(some 48), none, false, (.load false 1 (.tmp 47))⟩, ⟨(some 49), none, false, (.call false (.tmp 40) [(.tmp 44), (.tmp 48)])⟩, ⟨(some 50), none, false, (.bin .int .lss (.tmp 49) (.const (.int .i64 0)))⟩]) (.cond (.tmp 50) (.ops [⟨(some 51), none, false, (.mov (.tmp 12))⟩, ⟨(some 52), none, false, (.bin .int .add (.tmp 51) (.const (.int .i64 1)))⟩, ⟨(some 10), none, false, (.mov (.tmp 52))⟩]) (.ops [⟨(some 53), none, false, (.mov (.tmp 12))⟩, ⟨(some 11), none, false, (.mov (.tmp 53))⟩])))))))) (.seq (.seq (.ops [⟨(some 54), none, false, (.mov (.tmp 1))⟩, ⟨(some 13), none, false, (.mov (.tmp 54))⟩]) (.block 2 (.loop (.seq (.seq (.ops [⟨(some 55), none, false, (.mov (.tmp 13))⟩, ⟨(some 56), none, false, (.mov (.tmp 10))⟩, ⟨(some 57), none, false, (.bin .int .sub (.tmp 56) (.const (.int .i64 1)))⟩, ⟨(some 58), none, false, (.bin .int .lss (.tmp 55) (.tmp 57))⟩]) (.cond (.tmp 58) .skip (.exit 2))) (.seq (.block 3 (.opsD [⟨(some 61), none, false, (.mov (.tmp 0))⟩, ⟨(some 62), none, false, (.mov (.tmp 13))⟩, ⟨(some 63), none, false, (.mov (.tmp 0))⟩, ⟨(some 64), none, false, (.mov (.tmp 13))⟩, ⟨(some 65), none, false, (.bin .int .add (.tmp 64) (.const (.int .i64 1)))⟩, ⟨(some 66), none, false, (.mov (.tmp 0))⟩, ⟨(some 67), none, false, (.mov (.tmp 13))⟩, ⟨(some 68), none, false, (.bin .int .add (.tmp 67) (.const (.int .i64 1)))⟩, ⟨(some 69), none, false, (.idxS 1 (.tmp 66) (.tmp 68))⟩, ⟨(some 70), none, false, (.load false 1 (.tmp 69))⟩, ⟨(some 71), none, false, (.mov (.tmp 0))⟩, ⟨(some 72), none, false, (.mov (.tmp 13))⟩, ⟨(some 73), none, false, (.idxS 1 (.tmp 71) (.tmp 72))⟩, ⟨(some 74), none, false, (.load false 1 (.tmp 73))⟩, ⟨(some 75), none, false, (.idxS 1 (.tmp 61) (.tmp 62))⟩, ⟨none, none, false, (.store 1 (.tmp 75) (.tmp 70))⟩, ⟨(some 76), none, false, (.idxS 1 (.tmp 63) (.tmp 65))⟩, ⟨none, none, false, (.store 1 (.tmp 76) (.tmp 74))⟩])) (.ops [⟨(some 59), none, false, (.mov (.tmp 13))⟩, ⟨(some 60), none, false, (.bin .int .add (.tmp 59) (.const (.int .i64 1)))⟩, ⟨(some 13), none, false, (.mov (.tmp 60))⟩])))))) .ret)))) .skip)) (.seq (.seq (.ops [⟨(some 77), none, false, (.mov (.tmp 3))⟩, ⟨(some 78), none, false, (.mov (.tmp 2))⟩, ⟨(some 79), none, false, (.bin .int .sub (.tmp 77) (.tmp 78))⟩, ⟨(some 80), none, false, (.bin .int .eql (.tmp 79) (.const (.int .i64 1)))⟩]) (.cond (.tmp 80) (.seq (.ops [⟨(some 81), none, false, (.mov (.tmp 1))⟩, ⟨(some 14), none, false, (.mov (.tmp 81))⟩]) (.seq (.ops [⟨(some 82), none, false, (.mov (.tmp 2))⟩, ⟨(some 15), none, false, (.mov (.tmp 82))⟩]) (.seq (.block 4 (.loop (.seq (.seq (.ops [⟨(some 83), none, false, (.mov (.tmp 14))⟩, ⟨(some 84), none, false, (.mov (.tmp 15))⟩, ⟨(some 85), none, false, (.bin .int .lss (.tmp 83) (.tmp 84))⟩]) (.cond (.tmp 85) .skip (.exit 4))) (.block 5 (.seq (.ops [⟨(some 86), none, false, (.mov (.tmp 14))⟩, ⟨(some 87), none, false, (.mov (.tmp 15))⟩, ⟨(some 88), none, false, (.bin .int .add (.tmp 86) (.tmp 87))⟩, ⟨(some 89), none, false, (.conv .u64 (.tmp 88))⟩, ⟨(some 90), none, false, (.bin .int .shr (.tmp 89) (.const (.int .u64 1)))⟩, ⟨(some 91), none, false, (.conv .i64 (.tmp 90))⟩, ⟨(some 16), none, false, (.mov (.tmp 91))⟩]) (.seq (.opsD [⟨(some 92), none, false, (.mov (.tmp 4))⟩, ⟨(some 93), none, false, (.mov (.tmp 0))⟩, ⟨(some 94), none, false, (.mov (.tmp 2))⟩, ⟨(some 95), none, false, (.idxS 1 (.tmp 93) (.tmp 94))⟩, ⟨(some 96), none, false, (.load false 1 (.tmp 95))⟩, ⟨(some 97), none, false, (.mov (.tmp 0))⟩, ⟨(some 98), none, false, (.mov (.tmp 16))⟩, ⟨(some 99), none, false, (.idxS 1 (.tmp 97) (.tmp 98))⟩, ⟨(some 100), none, false, (.load false 1 (.tmp 99))⟩, ⟨(some 101), none, false, (.call false (.tmp 92) [(.tmp 96), (.tmp 100)])⟩, ⟨(some 102), none, false, (.bin .int .lss (.tmp 101) (.const (.int .i64 0)))⟩, ⟨(some 103), none, false, (.un .not (.tmp 102))⟩]) (.cond (.tmp 103) (.ops [⟨(some 104), none, false, (.mov (.tmp 16))⟩, ⟨(some 105), none, false, (.bin .int .add (.tmp 104) (.const (.int .i64 1)))⟩, ⟨(some 14), none, false, (.mov (.tmp 105))⟩]) (.ops [⟨(some 106), none, false, (.mov (.tmp 16))⟩, ⟨(some 15), none, false, (.mov (.tmp 106))⟩])))))))) (.seq (.seq (.ops [⟨(some 107), none, false, (.mov (.tmp 2))⟩, ⟨(some 17), none, false, (.mov (.tmp 107))⟩]) (.block 6 (.loop (.seq (.seq (.ops [⟨(some 108), none, false, (.mov (.tmp 17))⟩, ⟨(some 109), none, false, (.mov (.tmp 14))⟩, ⟨(some 110), none, false, (.bin .int .gtr (.tmp 108) (.tmp 109))⟩]) (.cond (.tmp 110) .skip (.exit 6))) (.seq (.block 7 (.opsD [⟨(some 113), none, false, (.mov (.tmp 0))⟩, ⟨(some 114), none, false, (.mov (.tmp 17))⟩, ⟨(some 115), none, false, (.mov (.tmp 0))⟩, ⟨(some 116), none, false, (.mov (.tmp 17))⟩, ⟨(some 117), none, false, (.bin .int .sub (.tmp 116) (.const (.int .i64 1)))⟩, ⟨(some 118), none, false, (.mov (.tmp 0))⟩, ⟨(some 119), none, false, (.mov (.tmp 17))⟩, ⟨(some 120), none, false, (.bin .int .sub (.tmp 119) (.const (.int .i64 1)))⟩, ⟨(some 121), none, false, (.idxS 1 (.tmp 118) (.tmp 120))⟩, ⟨(some 122), none, false, (.load false 1 (.tmp 121))⟩, ⟨(some 123), none, false, (.mov (.tmp 0))⟩, ⟨(some 124), none, false, (.mov (.tmp 17))⟩, ⟨(some 125), none, false, (.idxS 1 (.tmp 123) (.tmp 124))⟩, ⟨(some 126), none, false, (.load false 1 (.tmp 125))⟩, ⟨(some 127), none, false, (.idxS 1 (.tmp 113) (.tmp 114))⟩, ⟨none, none, false, (.store 1 (.tmp 127) (.tmp 122))⟩, ⟨(some 128), none, false, (.idxS 1 (.tmp 115) (.tmp 117))⟩, ⟨none, none, false, (.store 1 (.tmp 128) (.tmp 126))⟩])) (.ops [⟨(some 111), none, false, (.mov (.tmp 17))⟩, ⟨(some 112), none, false, (.bin .int .sub (.tmp 111) (.const (.int .i64 1)))⟩, ⟨(some 17), none, false, (.mov (.tmp 112))⟩])))))) .ret)))) .skip)) (.seq (.ops [⟨(some 129), none, false, (.mov (.tmp 1))⟩, ⟨(some 130), none, false, (.mov (.tmp 3))⟩, ⟨(some 131), none, false, (.bin .int .add (.tmp 129) (.tmp 130))⟩, ⟨(some 132), none, false, (.conv .u64 (.tmp 131))⟩, ⟨(some 133), none, false, (.bin .int .shr (.tmp 132) (.const (.int .u64 1)))⟩, ⟨(some 134), none, false, (.conv .i64 (.tmp 133))⟩, ⟨(some 18), none, false, (.mov (.tmp 134))⟩]) (.seq (.ops [⟨(some 135), none, false, (.mov (.tmp 18))⟩, ⟨(some 136), none, false, (.mov (.tmp 2))⟩, ⟨(some 137), none, false, (.bin .int .add (.tmp 135) (.tmp 136))⟩, ⟨(some 19), none, false, (.mov (.tmp 137))⟩]) (.seq (.ops [⟨(some 20), none, false, (.mov (.const (.int .i64 0)))⟩, ⟨(some 21), none, false, (.mov (.const (.int .i64 0)))⟩]) (.seq (.seq (.ops [⟨(some 138), none, false, (.mov (.tmp 2))⟩, ⟨(some 139), none, false, (.mov (.tmp 18))⟩, ⟨(some 140), none, false, (.bin .int .gtr (.tmp 138) (.tmp 139))⟩]) (.cond (.tmp 140) (.seq (.ops [⟨(some 141), none, false, (.mov (.tmp 19))⟩, ⟨(some 142), none, false, (.mov (.tmp 3))⟩, ⟨(some 143), none, false, (.bin .int .sub (.tmp 141) (.tmp 142))⟩, ⟨(some 20), none, false, (.mov (.tmp 143))⟩]) (.ops [⟨(some 144), none, false, (.mov (.tmp 18))⟩, ⟨(some 21), none, false, (.mov (.tmp 144))⟩])) (.seq (.ops [⟨(some 145), none, false, (.mov (.tmp 1))⟩, ⟨(some 20), none, false, (.mov (.tmp 145))⟩]) (.ops [⟨(some 146), none, false, (.mov (.tmp 2))⟩, ⟨(some 21), none, false, (.mov (.tmp 146))⟩])))) z6)))))) := rfl
variable {tbl : Tbl} [hT : TMono tbl]
variable {G : FuncId} {cap : List Value} {key : Int → Int} {Sx : Int → Prop} {id : Nat} {K : AH → Prop}

/-- What stays of a frame. -/
def Fk (f f' : Fr) : Prop := f' 0 = f 0 ∧ f' 1 = f 1 ∧ f' 2 = f 2 ∧ f' 3 = f 3 ∧ f' 4 = f 4 ∧ f' 18 = f 18 ∧ f' 20 = f 20 ∧ f' 24 = f 24
theorem z9_ok (h110 : tbl 110 = some (.code m110)) (h108 : tbl 108 = some (.code m108)) {n c : Nat} {fn : Value} {P A1 A2 B1 B2 S : List Int} {A H' : AH} (hid : id < A.next) (hn : (P ++ A1 ++ A2 ++ B1 ++ B2 ++ S).length = n) (hb : n ≤ 1000000) (f : Fr) (f0 : f 0 = .slice (some ⟨id, 0, none⟩) n c) (f2 : f 2 = .int .i64 ((P.length + A1.length + A2.length : Nat) : Int)) (f4 : f 4 = fn) (f20 : f 20 = .int .i64 ((P.length + A1.length : Nat) : Int)) (f24 : f 24 = .int .i64 ((P.length + A1.length + A2.length + B1.length : Nat) : Int)) (hu : UpS id A H' (P ++ A1 ++ A2 ++ B1 ++ B2 ++ S)) :
    (@RunC tbl z9 f H' ⟨fun e f' H'' => e = .normal ∧ Fk f f' ∧ UpS id A H'' (P ++ A1 ++ B1 ++ A2 ++ B2 ++ S)⟩) := by
  rw [z9]
  have hg := hu.get hid
  have hid2 : id < H'.next := by rw [hu.next]; exact hid
  simp only [List.length_append] at hn
  by_cases c1 : ((P.length + A1.length : Nat) : Int) < ((P.length + A1.length + A2.length : Nat) : Int)
  · by_cases c2 : ((P.length + A1.length + A2.length : Nat) : Int) < ((P.length + A1.length + A2.length + B1.length : Nat) : Int)
    · obtain ⟨Y, hv, hu2⟩ := v108 h110 h108 (id := id) (n := n) (c := c) (fn := fn) (P := P ++ A1) (U := A2) (V := B1) (S := B2 ++ S) (X := H') hid2 (by simp only [List.length_append]; omega) hb (by omega) (by omega) (by rw [hg]; simp) (P.length + A1.length) (P.length + A1.length + A2.length) (P.length + A1.length + A2.length + B1.length) (by simp) (by simp) (by simp)
      have hu3 := hu.trans hu2 hid
      simp only [f0, f2, f4, f20, f24, c1, c2, ↓hv.run, go_sem, Nat.reduceEqDiff, Nat.reduceAdd, Nat.reduceLeDiff, Int.reduceEq, Int.reduceLT, Int.reduceLE, Int.reduceAdd, Int.reduceSub, Int.reduceMul, Int.reduceNeg, Int.reduceToNat, Nat.reduceMul]
      have e : P ++ A1 ++ B1 ++ A2 ++ (B2 ++ S) = P ++ A1 ++ B1 ++ A2 ++ B2 ++ S := by simp
      rw [e] at hu3
      exact ⟨⟨by simp only [go_sem, Nat.reduceEqDiff, Nat.reduceAdd, Nat.reduceLeDiff, Int.reduceEq, Int.reduceLT, Int.reduceLE, Int.reduceAdd, Int.reduceSub, Int.reduceMul, Int.reduceNeg, Int.reduceToNat, Nat.reduceMul], by simp only [go_sem, Nat.reduceEqDiff, Nat.reduceAdd, Nat.reduceLeDiff, Int.reduceEq, Int.reduceLT, Int.reduceLE, Int.reduceAdd, Int.reduceSub, Int.reduceMul, Int.reduceNeg, Int.reduceToNat, Nat.reduceMul], by simp only [go_sem, Nat.reduceEqDiff, Nat.reduceAdd, Nat.reduceLeDiff, Int.reduceEq, Int.reduceLT, Int.reduceLE, Int.reduceAdd, Int.reduceSub, Int.reduceMul, Int.reduceNeg, Int.reduceToNat, Nat.reduceMul], by simp only [go_sem, Nat.reduceEqDiff, Nat.reduceAdd, Nat.reduceLeDiff, Int.reduceEq, Int.reduceLT, Int.reduceLE, Int.reduceAdd, Int.reduceSub, Int.reduceMul, Int.reduceNeg, Int.reduceToNat, Nat.reduceMul], by simp only [go_sem, Nat.reduceEqDiff, Nat.reduceAdd, Nat.reduceLeDiff, Int.reduceEq, Int.reduceLT, Int.reduceLE, Int.reduceAdd, Int.reduceSub, Int.reduceMul, Int.reduceNeg, Int.reduceToNat, Nat.reduceMul], by simp only [go_sem, Nat.reduceEqDiff, Nat.reduceAdd, Nat.reduceLeDiff, Int.reduceEq, Int.reduceLT, Int.reduceLE, Int.reduceAdd, Int.reduceSub, Int.reduceMul, Int.reduceNeg, Int.reduceToNat, Nat.reduceMul], by simp only [go_sem, Nat.reduceEqDiff, Nat.reduceAdd, Nat.reduceLeDiff, Int.reduceEq, Int.reduceLT, Int.reduceLE, Int.reduceAdd, Int.reduceSub, Int.reduceMul, Int.reduceNeg, Int.reduceToNat, Nat.reduceMul], by simp only [go_sem, Nat.reduceEqDiff, Nat.reduceAdd, Nat.reduceLeDiff, Int.reduceEq, Int.reduceLT, Int.reduceLE, Int.reduceAdd, Int.reduceSub, Int.reduceMul, Int.reduceNeg, Int.reduceToNat, Nat.reduceMul]⟩, hu3⟩
    · have hB : B1 = [] := List.eq_nil_of_length_eq_zero (by omega)
      have e : P ++ A1 ++ A2 ++ B1 ++ B2 ++ S = P ++ A1 ++ B1 ++ A2 ++ B2 ++ S := by rw [hB]; simp
      rw [e] at hu
      simp only [f0, f2, f4, f20, f24, c1, c2, go_sem, Nat.reduceEqDiff, Nat.reduceAdd, Nat.reduceLeDiff, Int.reduceEq, Int.reduceLT, Int.reduceLE, Int.reduceAdd, Int.reduceSub, Int.reduceMul, Int.reduceNeg, Int.reduceToNat, Nat.reduceMul]
      exact ⟨⟨by simp only [go_sem, Nat.reduceEqDiff, Nat.reduceAdd, Nat.reduceLeDiff, Int.reduceEq, Int.reduceLT, Int.reduceLE, Int.reduceAdd, Int.reduceSub, Int.reduceMul, Int.reduceNeg, Int.reduceToNat, Nat.reduceMul], by simp only [go_sem, Nat.reduceEqDiff, Nat.reduceAdd, Nat.reduceLeDiff, Int.reduceEq, Int.reduceLT, Int.reduceLE, Int.reduceAdd, Int.reduceSub, Int.reduceMul, Int.reduceNeg, Int.reduceToNat, Nat.reduceMul], by simp only [go_sem, Nat.reduceEqDiff, Nat.reduceAdd, Nat.reduceLeDiff, Int.reduceEq, Int.reduceLT, Int.reduceLE, Int.reduceAdd, Int.reduceSub, Int.reduceMul, Int.reduceNeg, Int.reduceToNat, Nat.reduceMul], by simp only [go_sem, Nat.reduceEqDiff, Nat.reduceAdd, Nat.reduceLeDiff, Int.reduceEq, Int.reduceLT, Int.reduceLE, Int.reduceAdd, Int.reduceSub, Int.reduceMul, Int.reduceNeg, Int.reduceToNat, Nat.reduceMul], by simp only [go_sem, Nat.reduceEqDiff, Nat.reduceAdd, Nat.reduceLeDiff, Int.reduceEq, Int.reduceLT, Int.reduceLE, Int.reduceAdd, Int.reduceSub, Int.reduceMul, Int.reduceNeg, Int.reduceToNat, Nat.reduceMul], by simp only [go_sem, Nat.reduceEqDiff, Nat.reduceAdd, Nat.reduceLeDiff, Int.reduceEq, Int.reduceLT, Int.reduceLE, Int.reduceAdd, Int.reduceSub, Int.reduceMul, Int.reduceNeg, Int.reduceToNat, Nat.reduceMul], by simp only [go_sem, Nat.reduceEqDiff, Nat.reduceAdd, Nat.reduceLeDiff, Int.reduceEq, Int.reduceLT, Int.reduceLE, Int.reduceAdd, Int.reduceSub, Int.reduceMul, Int.reduceNeg, Int.reduceToNat, Nat.reduceMul], by simp only [go_sem, Nat.reduceEqDiff, Nat.reduceAdd, Nat.reduceLeDiff, Int.reduceEq, Int.reduceLT, Int.reduceLE, Int.reduceAdd, Int.reduceSub, Int.reduceMul, Int.reduceNeg, Int.reduceToNat, Nat.reduceMul]⟩, hu⟩
  · have hB : A2 = [] := List.eq_nil_of_length_eq_zero (by omega)
    have e : P ++ A1 ++ A2 ++ B1 ++ B2 ++ S = P ++ A1 ++ B1 ++ A2 ++ B2 ++ S := by rw [hB]; simp
    rw [e] at hu
    simp only [f0, f2, f4, f20, f24, c1, go_sem, Nat.reduceEqDiff, Nat.reduceAdd, Nat.reduceLeDiff, Int.reduceEq, Int.reduceLT, Int.reduceLE, Int.reduceAdd, Int.reduceSub, Int.reduceMul, Int.reduceNeg, Int.reduceToNat, Nat.reduceMul]
    exact ⟨⟨by simp only [go_sem, Nat.reduceEqDiff, Nat.reduceAdd, Nat.reduceLeDiff, Int.reduceEq, Int.reduceLT, Int.reduceLE, Int.reduceAdd, Int.reduceSub, Int.reduceMul, Int.reduceNeg, Int.reduceToNat, Nat.reduceMul], by simp only [go_sem, Nat.reduceEqDiff, Nat.reduceAdd, Nat.reduceLeDiff, Int.reduceEq, Int.reduceLT, Int.reduceLE, Int.reduceAdd, Int.reduceSub, Int.reduceMul, Int.reduceNeg, Int.reduceToNat, Nat.reduceMul], by simp only [go_sem, Nat.reduceEqDiff, Nat.reduceAdd, Nat.reduceLeDiff, Int.reduceEq, Int.reduceLT, Int.reduceLE, Int.reduceAdd, Int.reduceSub, Int.reduceMul, Int.reduceNeg, Int.reduceToNat, Nat.reduceMul], by simp only [go_sem, Nat.reduceEqDiff, Nat.reduceAdd, Nat.reduceLeDiff, Int.reduceEq, Int.reduceLT, Int.reduceLE, Int.reduceAdd, Int.reduceSub, Int.reduceMul, Int.reduceNeg, Int.reduceToNat, Nat.reduceMul], by simp only [go_sem, Nat.reduceEqDiff, Nat.reduceAdd, Nat.reduceLeDiff, Int.reduceEq, Int.reduceLT, Int.reduceLE, Int.reduceAdd, Int.reduceSub, Int.reduceMul, Int.reduceNeg, Int.reduceToNat, Nat.reduceMul], by simp only [go_sem, Nat.reduceEqDiff, Nat.reduceAdd, Nat.reduceLeDiff, Int.reduceEq, Int.reduceLT, Int.reduceLE, Int.reduceAdd, Int.reduceSub, Int.reduceMul, Int.reduceNeg, Int.reduceToNat, Nat.reduceMul], by simp only [go_sem, Nat.reduceEqDiff, Nat.reduceAdd, Nat.reduceLeDiff, Int.reduceEq, Int.reduceLT, Int.reduceLE, Int.reduceAdd, Int.reduceSub, Int.reduceMul, Int.reduceNeg, Int.reduceToNat, Nat.reduceMul], by simp only [go_sem, Nat.reduceEqDiff, Nat.reduceAdd, Nat.reduceLeDiff, Int.reduceEq, Int.reduceLT, Int.reduceLE, Int.reduceAdd, Int.reduceSub, Int.reduceMul, Int.reduceNeg, Int.reduceToNat, Nat.reduceMul]⟩, hu⟩
/-- The merge, for less than N numbers. -/
def MergeTo (tbl : Tbl) (G : FuncId) (cap : List Value) (key : Int → Int) (Sx : Int → Prop) (id : Nat) (K : AH → Prop) (n c N : Nat) : Prop :=
  ∀ (P A B S : List Int) (X : AH), A.length + B.length < N → id < X.next → K X → (P ++ A ++ B ++ S).length = n → X.get id = some (rwI (P ++ A ++ B ++ S)) → 0 < A.length → 0 < B.length → A.Pairwise (R key) → B.Pairwise (R key) → (∀ x ∈ A, ∀ y ∈ B, x < y) → (∀ x ∈ A, Sx x) → (∀ y ∈ B, Sx y) → ∀ a m b : Nat, a = P.length → m = P.length + A.length → b = P.length + A.length + B.length →
    ValU tbl 101 [.slice (some ⟨id, 0, none⟩) n c, .int .i64 a, .int .i64 m, .int .i64 b, .func (.func G) #[] cap.toArray] id X (P ++ srt key (A ++ B) ++ S)
theorem srt_none {A B : List Int} (hA : A.Pairwise (R key)) (hB : B.Pairwise (R key)) (h : A = [] ∨ B = []) : srt key (A ++ B) = A ++ B := by
  rcases h with rfl | rfl
  · rw [List.nil_append]; exact srt_id hB
  · rw [List.append_nil]; exact srt_id hA
theorem z10_ok (C : Cmp tbl G cap key Sx id K) {n c N : Nat} (ih : MergeTo tbl G cap key Sx id K n c N) {P A1 A2 B1 B2 S : List Int} {A H' : AH} (hid : id < A.next) (hKH : K H') (hn : (P ++ A1 ++ B1 ++ A2 ++ B2 ++ S).length = n) (hN : A1.length + B1.length < N) (hA1 : A1.Pairwise (R key)) (hB1 : B1.Pairwise (R key)) (hlt : ∀ x ∈ A1, ∀ y ∈ B1, x < y) (hSA : ∀ x ∈ A1, Sx x) (hSB : ∀ x ∈ B1, Sx x) (f : Fr) (f0 : f 0 = .slice (some ⟨id, 0, none⟩) n c) (f1 : f 1 = .int .i64 P.length) (f4 : f 4 = .func (.func G) #[] cap.toArray) (f18 : f 18 = .int .i64 ((P.length + A1.length + B1.length : Nat) : Int)) (f20 : f 20 = .int .i64 ((P.length + A1.length : Nat) : Int)) (hu : UpS id A H' (P ++ A1 ++ B1 ++ A2 ++ B2 ++ S)) :
    (@RunC tbl z10 f H' ⟨fun e f' H'' => e = .normal ∧ Fk f f' ∧ UpS id A H'' (P ++ srt key (A1 ++ B1) ++ A2 ++ B2 ++ S)⟩) := by
  rw [z10]
  have hg := hu.get hid
  have hid2 : id < H'.next := by rw [hu.next]; exact hid
  have hn' := hn
  simp only [List.length_append] at hn
  by_cases c1 : (P.length : Int) < ((P.length + A1.length : Nat) : Int)
  · by_cases c2 : ((P.length + A1.length : Nat) : Int) < ((P.length + A1.length + B1.length : Nat) : Int)
    · obtain ⟨Y, hv, hu2⟩ := ih P A1 B1 (A2 ++ B2 ++ S) H' hN hid2 hKH (by rw [← hn']; simp only [List.length_append]; omega) (by rw [hg]; simp) (by omega) (by omega) hA1 hB1 hlt hSA hSB P.length (P.length + A1.length) (P.length + A1.length + B1.length) rfl rfl rfl
      have hu3 := hu.trans hu2 hid
      simp only [f0, f1, f4, f18, f20, c1, c2, ↓hv.run, go_sem, Nat.reduceEqDiff, Nat.reduceAdd, Nat.reduceLeDiff, Int.reduceEq, Int.reduceLT, Int.reduceLE, Int.reduceAdd, Int.reduceSub, Int.reduceMul, Int.reduceNeg, Int.reduceToNat, Nat.reduceMul]
      have e : P ++ srt key (A1 ++ B1) ++ (A2 ++ B2 ++ S) = P ++ srt key (A1 ++ B1) ++ A2 ++ B2 ++ S := by simp
      rw [e] at hu3
      exact ⟨⟨by simp only [go_sem, Nat.reduceEqDiff, Nat.reduceAdd, Nat.reduceLeDiff, Int.reduceEq, Int.reduceLT, Int.reduceLE, Int.reduceAdd, Int.reduceSub, Int.reduceMul, Int.reduceNeg, Int.reduceToNat, Nat.reduceMul], by simp only [go_sem, Nat.reduceEqDiff, Nat.reduceAdd, Nat.reduceLeDiff, Int.reduceEq, Int.reduceLT, Int.reduceLE, Int.reduceAdd, Int.reduceSub, Int.reduceMul, Int.reduceNeg, Int.reduceToNat, Nat.reduceMul], by simp only [go_sem, Nat.reduceEqDiff, Nat.reduceAdd, Nat.reduceLeDiff, Int.reduceEq, Int.reduceLT, Int.reduceLE, Int.reduceAdd, Int.reduceSub, Int.reduceMul, Int.reduceNeg, Int.reduceToNat, Nat.reduceMul], by simp only [go_sem, Nat.reduceEqDiff, Nat.reduceAdd, Nat.reduceLeDiff, Int.reduceEq, Int.reduceLT, Int.reduceLE, Int.reduceAdd, Int.reduceSub, Int.reduceMul, Int.reduceNeg, Int.reduceToNat, Nat.reduceMul], by simp only [go_sem, Nat.reduceEqDiff, Nat.reduceAdd, Nat.reduceLeDiff, Int.reduceEq, Int.reduceLT, Int.reduceLE, Int.reduceAdd, Int.reduceSub, Int.reduceMul, Int.reduceNeg, Int.reduceToNat, Nat.reduceMul], by simp only [go_sem, Nat.reduceEqDiff, Nat.reduceAdd, Nat.reduceLeDiff, Int.reduceEq, Int.reduceLT, Int.reduceLE, Int.reduceAdd, Int.reduceSub, Int.reduceMul, Int.reduceNeg, Int.reduceToNat, Nat.reduceMul], by simp only [go_sem, Nat.reduceEqDiff, Nat.reduceAdd, Nat.reduceLeDiff, Int.reduceEq, Int.reduceLT, Int.reduceLE, Int.reduceAdd, Int.reduceSub, Int.reduceMul, Int.reduceNeg, Int.reduceToNat, Nat.reduceMul], by simp only [go_sem, Nat.reduceEqDiff, Nat.reduceAdd, Nat.reduceLeDiff, Int.reduceEq, Int.reduceLT, Int.reduceLE, Int.reduceAdd, Int.reduceSub, Int.reduceMul, Int.reduceNeg, Int.reduceToNat, Nat.reduceMul]⟩, hu3⟩
    · have e := srt_none hA1 hB1 (.inr (List.eq_nil_of_length_eq_zero (by omega)))
      rw [e]
      have e2 : P ++ A1 ++ B1 ++ A2 ++ B2 ++ S = P ++ (A1 ++ B1) ++ A2 ++ B2 ++ S := by simp
      rw [e2] at hu
      simp only [f0, f1, f4, f18, f20, c1, c2, go_sem, Nat.reduceEqDiff, Nat.reduceAdd, Nat.reduceLeDiff, Int.reduceEq, Int.reduceLT, Int.reduceLE, Int.reduceAdd, Int.reduceSub, Int.reduceMul, Int.reduceNeg, Int.reduceToNat, Nat.reduceMul]
      exact ⟨⟨by simp only [go_sem, Nat.reduceEqDiff, Nat.reduceAdd, Nat.reduceLeDiff, Int.reduceEq, Int.reduceLT, Int.reduceLE, Int.reduceAdd, Int.reduceSub, Int.reduceMul, Int.reduceNeg, Int.reduceToNat, Nat.reduceMul], by simp only [go_sem, Nat.reduceEqDiff, Nat.reduceAdd, Nat.reduceLeDiff, Int.reduceEq, Int.reduceLT, Int.reduceLE, Int.reduceAdd, Int.reduceSub, Int.reduceMul, Int.reduceNeg, Int.reduceToNat, Nat.reduceMul], by simp only [go_sem, Nat.reduceEqDiff, Nat.reduceAdd, Nat.reduceLeDiff, Int.reduceEq, Int.reduceLT, Int.reduceLE, Int.reduceAdd, Int.reduceSub, Int.reduceMul, Int.reduceNeg, Int.reduceToNat, Nat.reduceMul], by simp only [go_sem, Nat.reduceEqDiff, Nat.reduceAdd, Nat.reduceLeDiff, Int.reduceEq, Int.reduceLT, Int.reduceLE, Int.reduceAdd, Int.reduceSub, Int.reduceMul, Int.reduceNeg, Int.reduceToNat, Nat.reduceMul], by simp only [go_sem, Nat.reduceEqDiff, Nat.reduceAdd, Nat.reduceLeDiff, Int.reduceEq, Int.reduceLT, Int.reduceLE, Int.reduceAdd, Int.reduceSub, Int.reduceMul, Int.reduceNeg, Int.reduceToNat, Nat.reduceMul], by simp only [go_sem, Nat.reduceEqDiff, Nat.reduceAdd, Nat.reduceLeDiff, Int.reduceEq, Int.reduceLT, Int.reduceLE, Int.reduceAdd, Int.reduceSub, Int.reduceMul, Int.reduceNeg, Int.reduceToNat, Nat.reduceMul], by simp only [go_sem, Nat.reduceEqDiff, Nat.reduceAdd, Nat.reduceLeDiff, Int.reduceEq, Int.reduceLT, Int.reduceLE, Int.reduceAdd, Int.reduceSub, Int.reduceMul, Int.reduceNeg, Int.reduceToNat, Nat.reduceMul], by simp only [go_sem, Nat.reduceEqDiff, Nat.reduceAdd, Nat.reduceLeDiff, Int.reduceEq, Int.reduceLT, Int.reduceLE, Int.reduceAdd, Int.reduceSub, Int.reduceMul, Int.reduceNeg, Int.reduceToNat, Nat.reduceMul]⟩, hu⟩
  · have e := srt_none hA1 hB1 (.inl (List.eq_nil_of_length_eq_zero (by omega)))
    rw [e]
    have e2 : P ++ A1 ++ B1 ++ A2 ++ B2 ++ S = P ++ (A1 ++ B1) ++ A2 ++ B2 ++ S := by simp
    rw [e2] at hu
    simp only [f0, f1, f4, f18, f20, c1, go_sem, Nat.reduceEqDiff, Nat.reduceAdd, Nat.reduceLeDiff, Int.reduceEq, Int.reduceLT, Int.reduceLE, Int.reduceAdd, Int.reduceSub, Int.reduceMul, Int.reduceNeg, Int.reduceToNat, Nat.reduceMul]
    exact ⟨⟨by simp only [go_sem, Nat.reduceEqDiff, Nat.reduceAdd, Nat.reduceLeDiff, Int.reduceEq, Int.reduceLT, Int.reduceLE, Int.reduceAdd, Int.reduceSub, Int.reduceMul, Int.reduceNeg, Int.reduceToNat, Nat.reduceMul], by simp only [go_sem, Nat.reduceEqDiff, Nat.reduceAdd, Nat.reduceLeDiff, Int.reduceEq, Int.reduceLT, Int.reduceLE, Int.reduceAdd, Int.reduceSub, Int.reduceMul, Int.reduceNeg, Int.reduceToNat, Nat.reduceMul], by simp only [go_sem, Nat.reduceEqDiff, Nat.reduceAdd, Nat.reduceLeDiff, Int.reduceEq, Int.reduceLT, Int.reduceLE, Int.reduceAdd, Int.reduceSub, Int.reduceMul, Int.reduceNeg, Int.reduceToNat, Nat.reduceMul], by simp only [go_sem, Nat.reduceEqDiff, Nat.reduceAdd, Nat.reduceLeDiff, Int.reduceEq, Int.reduceLT, Int.reduceLE, Int.reduceAdd, Int.reduceSub, Int.reduceMul, Int.reduceNeg, Int.reduceToNat, Nat.reduceMul], by simp only [go_sem, Nat.reduceEqDiff, Nat.reduceAdd, Nat.reduceLeDiff, Int.reduceEq, Int.reduceLT, Int.reduceLE, Int.reduceAdd, Int.reduceSub, Int.reduceMul, Int.reduceNeg, Int.reduceToNat, Nat.reduceMul], by simp only [go_sem, Nat.reduceEqDiff, Nat.reduceAdd, Nat.reduceLeDiff, Int.reduceEq, Int.reduceLT, Int.reduceLE, Int.reduceAdd, Int.reduceSub, Int.reduceMul, Int.reduceNeg, Int.reduceToNat, Nat.reduceMul], by simp only [go_sem, Nat.reduceEqDiff, Nat.reduceAdd, Nat.reduceLeDiff, Int.reduceEq, Int.reduceLT, Int.reduceLE, Int.reduceAdd, Int.reduceSub, Int.reduceMul, Int.reduceNeg, Int.reduceToNat, Nat.reduceMul], by simp only [go_sem, Nat.reduceEqDiff, Nat.reduceAdd, Nat.reduceLeDiff, Int.reduceEq, Int.reduceLT, Int.reduceLE, Int.reduceAdd, Int.reduceSub, Int.reduceMul, Int.reduceNeg, Int.reduceToNat, Nat.reduceMul]⟩, hu⟩
theorem z11_ok (C : Cmp tbl G cap key Sx id K) {n c N : Nat} (ih : MergeTo tbl G cap key Sx id K n c N) {P A2 B2 S : List Int} {A H' : AH} (hid : id < A.next) (hKH : K H') (hn : (P ++ A2 ++ B2 ++ S).length = n) (hN : A2.length + B2.length < N) (hA2 : A2.Pairwise (R key)) (hB2 : B2.Pairwise (R key)) (hlt : ∀ x ∈ A2, ∀ y ∈ B2, x < y) (hSA : ∀ x ∈ A2, Sx x) (hSB : ∀ x ∈ B2, Sx x) (f : Fr) (f0 : f 0 = .slice (some ⟨id, 0, none⟩) n c) (f3 : f 3 = .int .i64 ((P.length + A2.length + B2.length : Nat) : Int)) (f4 : f 4 = .func (.func G) #[] cap.toArray) (f18 : f 18 = .int .i64 ((P.length : Nat) : Int)) (f24 : f 24 = .int .i64 ((P.length + A2.length : Nat) : Int)) (hu : UpS id A H' (P ++ A2 ++ B2 ++ S)) :
    (@RunC tbl z11 f H' ⟨fun e f' H'' => e = .normal ∧ UpS id A H'' (P ++ srt key (A2 ++ B2) ++ S)⟩) := by
  rw [z11]
  have hg := hu.get hid
  have hid2 : id < H'.next := by rw [hu.next]; exact hid
  have hn' := hn
  simp only [List.length_append] at hn
  by_cases c1 : (P.length : Int) < ((P.length + A2.length : Nat) : Int)
  · by_cases c2 : ((P.length + A2.length : Nat) : Int) < ((P.length + A2.length + B2.length : Nat) : Int)
    · obtain ⟨Y, hv, hu2⟩ := ih P A2 B2 S H' hN hid2 hKH hn' hg (by omega) (by omega) hA2 hB2 hlt hSA hSB P.length (P.length + A2.length) (P.length + A2.length + B2.length) rfl rfl rfl
      have hu3 := hu.trans hu2 hid
      simp only [f0, f3, f4, f18, f24, c1, c2, ↓hv.run, go_sem, Nat.reduceEqDiff, Nat.reduceAdd, Nat.reduceLeDiff, Int.reduceEq, Int.reduceLT, Int.reduceLE, Int.reduceAdd, Int.reduceSub, Int.reduceMul, Int.reduceNeg, Int.reduceToNat, Nat.reduceMul]
      exact hu3
    · have e := srt_none hA2 hB2 (.inr (List.eq_nil_of_length_eq_zero (by omega)))
      rw [e]
      rw [List.append_assoc P] at hu
      simp only [f0, f3, f4, f18, f24, c1, c2, go_sem, Nat.reduceEqDiff, Nat.reduceAdd, Nat.reduceLeDiff, Int.reduceEq, Int.reduceLT, Int.reduceLE, Int.reduceAdd, Int.reduceSub, Int.reduceMul, Int.reduceNeg, Int.reduceToNat, Nat.reduceMul]
      exact hu
  · have e := srt_none hA2 hB2 (.inl (List.eq_nil_of_length_eq_zero (by omega)))
    rw [e]
    rw [List.append_assoc P] at hu
    simp only [f0, f3, f4, f18, f24, c1, go_sem, Nat.reduceEqDiff, Nat.reduceAdd, Nat.reduceLeDiff, Int.reduceEq, Int.reduceLT, Int.reduceLE, Int.reduceAdd, Int.reduceSub, Int.reduceMul, Int.reduceNeg, Int.reduceToNat, Nat.reduceMul]
    exact hu
end Go.Proofs.Ytidpkoaomfbljaa.AM
namespace Go.Proofs.Ytidpkoaomfbljaa.AM
open Go
set_option linter.all false
set_option maxRecDepth 10000
variable {tbl : Tbl} [hT : TMono tbl]
variable {G : FuncId} {cap : List Value} {key : Int → Int} {Sx : Int → Prop} {id : Nat} {K : AH → Prop}

theorem z6_ok (h110 : tbl 110 = some (.code m110)) (h108 : tbl 108 = some (.code m108)) (C : Cmp tbl G cap key Sx id K) {n c N : Nat} (ih : MergeTo tbl G cap key Sx id K n c N) {P L M S : List Int} {A : AH} (hN : L.length + M.length ≤ N) (hid : id < A.next) (hK : K A) (hn : (P ++ L ++ M ++ S).length = n) (hb : n ≤ 1000000) (hX : A.get id = some (rwI (P ++ L ++ M ++ S)))
    (hL : L.Pairwise (R key)) (hM : M.Pairwise (R key)) (hlt : ∀ x ∈ L, ∀ y ∈ M, x < y) (hSL : ∀ x ∈ L, Sx x) (hSM : ∀ x ∈ M, Sx x) (h s0 r0 : Nat) (g1 : s0 ≤ r0) (g2 : r0 ≤ L.length) (g3 : r0 ≤ h) (g4 : h ≤ s0 + M.length) (g5 : s0 = 0 ∨ s0 + M.length = h) (g6 : r0 = L.length ∨ r0 = h) (g7 : 0 < h) (g8 : h < L.length + M.length)
    (f : Fr) (f0 : f 0 = .slice (some ⟨id, 0, none⟩) n c) (f1 : f 1 = .int .i64 P.length) (f2 : f 2 = .int .i64 ((P.length + L.length : Nat) : Int)) (f3 : f 3 = .int .i64 ((P.length + L.length + M.length : Nat) : Int)) (f4 : f 4 = .func (.func G) #[] cap.toArray) (f18 : f 18 = .int .i64 ((P.length + h : Nat) : Int)) (f19 : f 19 = .int .i64 ((P.length + h + (P.length + L.length) : Nat) : Int)) (f20 : f 20 = .int .i64 ((P.length + s0 : Nat) : Int)) (f21 : f 21 = .int .i64 ((P.length + r0 : Nat) : Int)) :
    (@RunC tbl z6 f A.enter ⟨fun e f' H'' => e = .normal ∧ UpS id A.enter H'' (P ++ srt key (L ++ M) ++ S)⟩) := by
  rw [z6]
  have hn' := hn
  simp only [List.length_append] at hn
  have hgA : A.enter.get id = some (rwI (P ++ L ++ M ++ S)) := hX
  obtain ⟨D, hD⟩ : ∃ D, D = P ++ L ++ M ++ S := ⟨_, rfl⟩
  have hDl : D.length = n := by rw [hD]; exact hn'
  have hDL : ∀ u (hu : u < L.length), ga D (P.length + u) = L[u] := fun u hu => by
    rw [hD, List.append_assoc, List.append_assoc, ga_app (q := u) rfl, ga_lt hu]
  have hDM : ∀ u (hu : u < M.length), ga D (P.length + L.length + u) = M[u] := fun u hu => by
    rw [hD, List.append_assoc (P ++ L), ga_app (q := u) (by rw [List.length_append]), ga_lt hu]
  rw [← hD] at hgA
  have hg' : A.get id = some (rwI D) := hgA
  have e1 : ((P.length + h + (P.length + L.length) : Nat) : Int) - 1 = ((P.length + h + (P.length + L.length) - 1 : Nat) : Int) := by omega
  have w1 := w64 (x := ((P.length + h + (P.length + L.length) - 1 : Nat) : Int)) (by omega) (by omega)
  simp only [f0, f1, f2, f3, f4, f18, f19, f20, f21, e1, w1, go_sem, Nat.reduceEqDiff, Nat.reduceAdd, Nat.reduceLeDiff, Int.reduceEq, Int.reduceLT, Int.reduceLE, Int.reduceAdd, Int.reduceSub, Int.reduceMul, Int.reduceNeg, Int.reduceToNat, Nat.reduceMul]
  refine rn_loop (fun k f' H' => ∃ σ ρ : Nat, k = ρ - σ ∧ s0 ≤ σ ∧ σ ≤ ρ ∧ ρ ≤ r0 ∧ f' 0 = .slice (some ⟨id, 0, none⟩) n c ∧ f' 1 = .int .i64 P.length ∧ f' 2 = .int .i64 ((P.length + L.length : Nat) : Int) ∧ f' 3 = .int .i64 ((P.length + L.length + M.length : Nat) : Int) ∧ f' 4 = .func (.func G) #[] cap.toArray ∧ f' 18 = .int .i64 ((P.length + h : Nat) : Int) ∧ f' 19 = .int .i64 ((P.length + h + (P.length + L.length) : Nat) : Int) ∧ f' 20 = .int .i64 ((P.length + σ : Nat) : Int) ∧ f' 21 = .int .i64 ((P.length + ρ : Nat) : Int) ∧ f' 22 = .int .i64 ((P.length + h + (P.length + L.length) - 1 : Nat) : Int) ∧ H' = A.enter ∧ (∀ u (hu : u < L.length) (hv : h - 1 - u < M.length), s0 ≤ u → u < σ → ¬ key M[h - 1 - u] < key L[u]) ∧ (∀ u (hu : u < L.length) (hv : h - 1 - u < M.length), ρ ≤ u → u < r0 → key M[h - 1 - u] < key L[u])) ?_ (n := r0 - s0)
    ⟨s0, r0, rfl, by omega, g1, by omega, by simp only [f0, go_sem, Nat.reduceEqDiff, Nat.reduceAdd, Nat.reduceLeDiff, Int.reduceEq, Int.reduceLT, Int.reduceLE, Int.reduceAdd, Int.reduceSub, Int.reduceMul, Int.reduceNeg, Int.reduceToNat, Nat.reduceMul], by simp only [f1, go_sem, Nat.reduceEqDiff, Nat.reduceAdd, Nat.reduceLeDiff, Int.reduceEq, Int.reduceLT, Int.reduceLE, Int.reduceAdd, Int.reduceSub, Int.reduceMul, Int.reduceNeg, Int.reduceToNat, Nat.reduceMul], by simp only [f2, go_sem, Nat.reduceEqDiff, Nat.reduceAdd, Nat.reduceLeDiff, Int.reduceEq, Int.reduceLT, Int.reduceLE, Int.reduceAdd, Int.reduceSub, Int.reduceMul, Int.reduceNeg, Int.reduceToNat, Nat.reduceMul], by simp only [f3, go_sem, Nat.reduceEqDiff, Nat.reduceAdd, Nat.reduceLeDiff, Int.reduceEq, Int.reduceLT, Int.reduceLE, Int.reduceAdd, Int.reduceSub, Int.reduceMul, Int.reduceNeg, Int.reduceToNat, Nat.reduceMul], by simp only [f4, go_sem, Nat.reduceEqDiff, Nat.reduceAdd, Nat.reduceLeDiff, Int.reduceEq, Int.reduceLT, Int.reduceLE, Int.reduceAdd, Int.reduceSub, Int.reduceMul, Int.reduceNeg, Int.reduceToNat, Nat.reduceMul], by simp only [f18, go_sem, Nat.reduceEqDiff, Nat.reduceAdd, Nat.reduceLeDiff, Int.reduceEq, Int.reduceLT, Int.reduceLE, Int.reduceAdd, Int.reduceSub, Int.reduceMul, Int.reduceNeg, Int.reduceToNat, Nat.reduceMul], by simp only [f19, go_sem, Nat.reduceEqDiff, Nat.reduceAdd, Nat.reduceLeDiff, Int.reduceEq, Int.reduceLT, Int.reduceLE, Int.reduceAdd, Int.reduceSub, Int.reduceMul, Int.reduceNeg, Int.reduceToNat, Nat.reduceMul], by simp only [f20, go_sem, Nat.reduceEqDiff, Nat.reduceAdd, Nat.reduceLeDiff, Int.reduceEq, Int.reduceLT, Int.reduceLE, Int.reduceAdd, Int.reduceSub, Int.reduceMul, Int.reduceNeg, Int.reduceToNat, Nat.reduceMul], by simp only [f21, go_sem, Nat.reduceEqDiff, Nat.reduceAdd, Nat.reduceLeDiff, Int.reduceEq, Int.reduceLT, Int.reduceLE, Int.reduceAdd, Int.reduceSub, Int.reduceMul, Int.reduceNeg, Int.reduceToNat, Nat.reduceMul], by simp only [go_sem, Nat.reduceEqDiff, Nat.reduceAdd, Nat.reduceLeDiff, Int.reduceEq, Int.reduceLT, Int.reduceLE, Int.reduceAdd, Int.reduceSub, Int.reduceMul, Int.reduceNeg, Int.reduceToNat, Nat.reduceMul], rfl, fun u _ _ h1 h2 => absurd h2 (by omega), fun u _ _ h1 h2 => absurd h2 (by omega)⟩
  clear f0 f1 f2 f3 f4 f18 f19 f20 f21
  rintro k f' H' ⟨σ, ρ, rfl, hs, hsr, hr, f0, f1, f2, f3, f4, f18, f19, f20, f21, f22, rfl, p1', p2'⟩
  by_cases hlt2 : ((P.length + σ : Nat) : Int) < ((P.length + ρ : Nat) : Int)
  · obtain ⟨q, hq⟩ : ∃ q, q = (σ + ρ) / 2 := ⟨_, rfl⟩
    have hqp : σ ≤ q := by omega
    have hqr : q < ρ := by omega
    have hqL : q < L.length := by omega
    have hqM : h - 1 - q < M.length := by omega
    have es : ((P.length + σ : Nat) : Int) + ((P.length + ρ : Nat) : Int) = ((P.length + σ + (P.length + ρ) : Nat) : Int) := by omega
    have ws := w64 (x := ((P.length + σ + (P.length + ρ) : Nat) : Int)) (by omega) (by omega)
    have hh := half64 (x := P.length + σ + (P.length + ρ)) (by omega)
    rw [show (P.length + σ + (P.length + ρ)) / 2 = P.length + q by omega] at hh
    have ep : ((P.length + h + (P.length + L.length) - 1 : Nat) : Int) - ((P.length + q : Nat) : Int) = ((P.length + L.length + (h - 1 - q) : Nat) : Int) := by omega
    have wp := w64 (x := ((P.length + L.length + (h - 1 - q) : Nat) : Int)) (by omega) (by omega)
    have q0 : (0 : Int) ≤ ((P.length + q : Nat) : Int) := by omega
    have q1 : ((P.length + q : Nat) : Int) < (n : Int) := by omega
    have q2 : P.length + q + 1 ≤ n := by omega
    have t0 : (0 : Int) ≤ ((P.length + L.length + (h - 1 - q) : Nat) : Int) := by omega
    have t1 : ((P.length + L.length + (h - 1 - q) : Nat) : Int) < (n : Int) := by omega
    have t2 : P.length + L.length + (h - 1 - q) + 1 ≤ n := by omega
    have hat1 := rwI_at (D := D) (i := P.length + q) (by omega)
    rw [hDL q hqL] at hat1
    have hat2 := rwI_at (D := D) (i := P.length + L.length + (h - 1 - q)) (by omega)
    rw [hDM _ hqM] at hat2
    have wq := w64 (x := ((P.length + q : Nat) : Int) + 1) (by omega) (by omega)
    obtain ⟨cc, hcv, hcc⟩ := C.call A.enter M[h - 1 - q] L[q] (C.enter _ hK) (hSM _ (List.getElem_mem _)) (hSL _ (List.getElem_mem _))
    obtain ⟨cc', hcv', hcc'⟩ := C.call A.enter.enter M[h - 1 - q] L[q] (C.enter _ (C.enter _ hK)) (hSM _ (List.getElem_mem _)) (hSL _ (List.getElem_mem _))
    by_cases hk : key M[h - 1 - q] < key L[q]
    · have hc0 := hcc.2 hk
      have hc0' := hcc'.2 hk
      simp only [f0, f1, f2, f3, f4, f18, f19, f20, f21, f22, hlt2, es, ws, hh, ep, wp, hg', hgA, q0, q1, q2, t0, t1, t2, hat1, hat2, hDl, idxSP_slc, Int.toNat_natCast, rwI_len, rwI_ro, rwI_es, addA, Nat.zero_add, Nat.mul_one, List.toList_toArray, List.nil_append, List.cons_append, ↓hcv.run, ↓hcv'.run, hc0, hc0', relow, wq, go_sem, Nat.reduceEqDiff, Nat.reduceAdd, Nat.reduceLeDiff, Int.reduceEq, Int.reduceLT, Int.reduceLE, Int.reduceAdd, Int.reduceSub, Int.reduceMul, Int.reduceNeg, Int.reduceToNat, Nat.reduceMul]
      refine ⟨q - σ, by omega, σ, q, rfl, hs, by omega, by omega, by simp only [f0, go_sem, Nat.reduceEqDiff, Nat.reduceAdd, Nat.reduceLeDiff, Int.reduceEq, Int.reduceLT, Int.reduceLE, Int.reduceAdd, Int.reduceSub, Int.reduceMul, Int.reduceNeg, Int.reduceToNat, Nat.reduceMul], by simp only [f1, go_sem, Nat.reduceEqDiff, Nat.reduceAdd, Nat.reduceLeDiff, Int.reduceEq, Int.reduceLT, Int.reduceLE, Int.reduceAdd, Int.reduceSub, Int.reduceMul, Int.reduceNeg, Int.reduceToNat, Nat.reduceMul], by simp only [f2, go_sem, Nat.reduceEqDiff, Nat.reduceAdd, Nat.reduceLeDiff, Int.reduceEq, Int.reduceLT, Int.reduceLE, Int.reduceAdd, Int.reduceSub, Int.reduceMul, Int.reduceNeg, Int.reduceToNat, Nat.reduceMul], by simp only [f3, go_sem, Nat.reduceEqDiff, Nat.reduceAdd, Nat.reduceLeDiff, Int.reduceEq, Int.reduceLT, Int.reduceLE, Int.reduceAdd, Int.reduceSub, Int.reduceMul, Int.reduceNeg, Int.reduceToNat, Nat.reduceMul], by simp only [f4, go_sem, Nat.reduceEqDiff, Nat.reduceAdd, Nat.reduceLeDiff, Int.reduceEq, Int.reduceLT, Int.reduceLE, Int.reduceAdd, Int.reduceSub, Int.reduceMul, Int.reduceNeg, Int.reduceToNat, Nat.reduceMul], by simp only [f18, go_sem, Nat.reduceEqDiff, Nat.reduceAdd, Nat.reduceLeDiff, Int.reduceEq, Int.reduceLT, Int.reduceLE, Int.reduceAdd, Int.reduceSub, Int.reduceMul, Int.reduceNeg, Int.reduceToNat, Nat.reduceMul], by simp only [f19, go_sem, Nat.reduceEqDiff, Nat.reduceAdd, Nat.reduceLeDiff, Int.reduceEq, Int.reduceLT, Int.reduceLE, Int.reduceAdd, Int.reduceSub, Int.reduceMul, Int.reduceNeg, Int.reduceToNat, Nat.reduceMul], by simp only [f20, go_sem, Nat.reduceEqDiff, Nat.reduceAdd, Nat.reduceLeDiff, Int.reduceEq, Int.reduceLT, Int.reduceLE, Int.reduceAdd, Int.reduceSub, Int.reduceMul, Int.reduceNeg, Int.reduceToNat, Nat.reduceMul], by simp only [go_sem, Nat.reduceEqDiff, Nat.reduceAdd, Nat.reduceLeDiff, Int.reduceEq, Int.reduceLT, Int.reduceLE, Int.reduceAdd, Int.reduceSub, Int.reduceMul, Int.reduceNeg, Int.reduceToNat, Nat.reduceMul], by simp only [f22, go_sem, Nat.reduceEqDiff, Nat.reduceAdd, Nat.reduceLeDiff, Int.reduceEq, Int.reduceLT, Int.reduceLE, Int.reduceAdd, Int.reduceSub, Int.reduceMul, Int.reduceNeg, Int.reduceToNat, Nat.reduceMul], rfl, p1', fun u hu hv h1 h2 => ?_⟩
      have k1 := key_le hL (show q ≤ u by omega) hu
      have k2 := key_le hM (show h - 1 - u ≤ h - 1 - q by omega) hqM
      omega
    · have hc0 : ¬ cc < 0 := fun h => hk (hcc.1 h)
      have hc0' : ¬ cc' < 0 := fun h => hk (hcc'.1 h)
      simp only [f0, f1, f2, f3, f4, f18, f19, f20, f21, f22, hlt2, es, ws, hh, ep, wp, hg', hgA, q0, q1, q2, t0, t1, t2, hat1, hat2, hDl, idxSP_slc, Int.toNat_natCast, rwI_len, rwI_ro, rwI_es, addA, Nat.zero_add, Nat.mul_one, List.toList_toArray, List.nil_append, List.cons_append, ↓hcv.run, ↓hcv'.run, hc0, hc0', relow, wq, go_sem, Nat.reduceEqDiff, Nat.reduceAdd, Nat.reduceLeDiff, Int.reduceEq, Int.reduceLT, Int.reduceLE, Int.reduceAdd, Int.reduceSub, Int.reduceMul, Int.reduceNeg, Int.reduceToNat, Nat.reduceMul]
      refine ⟨ρ - (q + 1), by omega, q + 1, ρ, rfl, by omega, by omega, hr, by simp only [f0, go_sem, Nat.reduceEqDiff, Nat.reduceAdd, Nat.reduceLeDiff, Int.reduceEq, Int.reduceLT, Int.reduceLE, Int.reduceAdd, Int.reduceSub, Int.reduceMul, Int.reduceNeg, Int.reduceToNat, Nat.reduceMul], by simp only [f1, go_sem, Nat.reduceEqDiff, Nat.reduceAdd, Nat.reduceLeDiff, Int.reduceEq, Int.reduceLT, Int.reduceLE, Int.reduceAdd, Int.reduceSub, Int.reduceMul, Int.reduceNeg, Int.reduceToNat, Nat.reduceMul], by simp only [f2, go_sem, Nat.reduceEqDiff, Nat.reduceAdd, Nat.reduceLeDiff, Int.reduceEq, Int.reduceLT, Int.reduceLE, Int.reduceAdd, Int.reduceSub, Int.reduceMul, Int.reduceNeg, Int.reduceToNat, Nat.reduceMul], by simp only [f3, go_sem, Nat.reduceEqDiff, Nat.reduceAdd, Nat.reduceLeDiff, Int.reduceEq, Int.reduceLT, Int.reduceLE, Int.reduceAdd, Int.reduceSub, Int.reduceMul, Int.reduceNeg, Int.reduceToNat, Nat.reduceMul], by simp only [f4, go_sem, Nat.reduceEqDiff, Nat.reduceAdd, Nat.reduceLeDiff, Int.reduceEq, Int.reduceLT, Int.reduceLE, Int.reduceAdd, Int.reduceSub, Int.reduceMul, Int.reduceNeg, Int.reduceToNat, Nat.reduceMul], by simp only [f18, go_sem, Nat.reduceEqDiff, Nat.reduceAdd, Nat.reduceLeDiff, Int.reduceEq, Int.reduceLT, Int.reduceLE, Int.reduceAdd, Int.reduceSub, Int.reduceMul, Int.reduceNeg, Int.reduceToNat, Nat.reduceMul], by simp only [f19, go_sem, Nat.reduceEqDiff, Nat.reduceAdd, Nat.reduceLeDiff, Int.reduceEq, Int.reduceLT, Int.reduceLE, Int.reduceAdd, Int.reduceSub, Int.reduceMul, Int.reduceNeg, Int.reduceToNat, Nat.reduceMul], by simp only [go_sem, Nat.reduceEqDiff, Nat.reduceAdd, Nat.reduceLeDiff, Int.reduceEq, Int.reduceLT, Int.reduceLE, Int.reduceAdd, Int.reduceSub, Int.reduceMul, Int.reduceNeg, Int.reduceToNat, Nat.reduceMul] <;> rfl, by simp only [f21, go_sem, Nat.reduceEqDiff, Nat.reduceAdd, Nat.reduceLeDiff, Int.reduceEq, Int.reduceLT, Int.reduceLE, Int.reduceAdd, Int.reduceSub, Int.reduceMul, Int.reduceNeg, Int.reduceToNat, Nat.reduceMul], by simp only [f22, go_sem, Nat.reduceEqDiff, Nat.reduceAdd, Nat.reduceLeDiff, Int.reduceEq, Int.reduceLT, Int.reduceLE, Int.reduceAdd, Int.reduceSub, Int.reduceMul, Int.reduceNeg, Int.reduceToNat, Nat.reduceMul], rfl, fun u hu hv h1 h2 hk2 => ?_, p2'⟩
      have k1 := key_le hL (show u ≤ q by omega) hqL
      have k2 := key_le hM (show h - 1 - q ≤ h - 1 - u by omega) hv
      omega
  · have hpe : ρ = σ := by omega
    subst hpe
    obtain ⟨t, ht⟩ : ∃ t, t = h - ρ := ⟨_, rfl⟩
    have htM : t ≤ M.length := by omega
    have hρL : ρ ≤ L.length := by omega
    have eL := List.take_append_drop ρ L
    have eM := List.take_append_drop t M
    have c1 : ∀ x ∈ L.take ρ, ∀ y ∈ M.drop t, R key x y := by
      intro x hx y hy
      obtain ⟨i, hi, rfl⟩ := List.mem_take_iff_getElem.1 hx
      obtain ⟨j, hj, rfl⟩ := List.getElem_of_mem hy
      rw [List.length_drop] at hj
      rw [List.getElem_drop]
      have hxy := hlt L[i] (List.getElem_mem _) (M[t + j]'(by omega)) (List.getElem_mem _)
      have hs0 : s0 < ρ := by
        rcases g5 with g5 | g5 <;> omega
      have := p1' (ρ - 1) (by omega) (by omega) (by omega) (by omega)
      have k1 := key_le hL (show i ≤ ρ - 1 by omega) (by omega)
      have k2 := key_le hM (show h - 1 - (ρ - 1) ≤ t + j by omega) (by omega)
      unfold R
      omega
    have c2 : ∀ y ∈ M.take t, ∀ x ∈ L.drop ρ, R key y x := by
      intro y hy x hx
      obtain ⟨j, hj, rfl⟩ := List.mem_take_iff_getElem.1 hy
      obtain ⟨i, hi, rfl⟩ := List.getElem_of_mem hx
      rw [List.length_drop] at hi
      rw [List.getElem_drop]
      have hr0 : ρ < r0 := by
        rcases g6 with g6 | g6 <;> omega
      have := p2' ρ (by omega) (by omega) (by omega) hr0
      have k1 := key_le hL (show ρ ≤ ρ + i by omega) (by omega)
      have k2 := key_le hM (show j ≤ h - 1 - ρ by omega) (by omega)
      exact .inl (by omega)
    have hnd : (L ++ M).Nodup := by
      rw [List.nodup_append]
      exact ⟨nodup_of hL, nodup_of hM, fun x hx y hy e => by have := hlt x hx y hy; omega⟩
    have hsp := srt_split (key := key) (a1 := L.take ρ) (a2 := L.drop ρ) (b1 := M.take t) (b2 := M.drop t) (by rw [eL]; exact hL) (by rw [eM]; exact hM) (by rw [eL, eM]; exact hnd) c1 c2
    rw [eL, eM] at hsp
    have hL' := hL
    have hM' := hM
    rw [← eL, List.pairwise_append] at hL'
    rw [← eM, List.pairwise_append] at hM'
    have lA1 : (L.take ρ).length = ρ := by rw [List.length_take]; omega
    have lA2 : (L.drop ρ).length = L.length - ρ := List.length_drop
    have lB1 : (M.take t).length = t := by rw [List.length_take]; omega
    have lB2 : (M.drop t).length = M.length - t := List.length_drop
    have mA1 : ∀ x ∈ L.take ρ, x ∈ L := fun x hx => List.mem_of_mem_take hx
    have mA2 : ∀ x ∈ L.drop ρ, x ∈ L := fun x hx => List.mem_of_mem_drop hx
    have mB1 : ∀ x ∈ M.take t, x ∈ M := fun x hx => List.mem_of_mem_take hx
    have mB2 : ∀ x ∈ M.drop t, x ∈ M := fun x hx => List.mem_of_mem_drop hx
    have eAll : P ++ L ++ M ++ S = P ++ L.take ρ ++ L.drop ρ ++ M.take t ++ M.drop t ++ S := by
      rw [show P ++ L.take ρ ++ L.drop ρ ++ M.take t ++ M.drop t ++ S = P ++ (L.take ρ ++ L.drop ρ) ++ (M.take t ++ M.drop t) ++ S by simp only [List.append_assoc], eL, eM]
    have e3 : ((P.length + h + (P.length + L.length) : Nat) : Int) - ((P.length + ρ : Nat) : Int) = ((P.length + L.length + t : Nat) : Int) := by omega
    have w3 := w64 (x := ((P.length + L.length + t : Nat) : Int)) (by omega) (by omega)
    have hsl1 := srt_len (key := key) (L.take ρ ++ M.take t)
    rw [List.length_append, lA1, lB1] at hsl1
    simp only [f0, f1, f2, f3, f4, f18, f19, f20, f21, f22, hlt2, e3, w3, go_sem, Nat.reduceEqDiff, Nat.reduceAdd, Nat.reduceLeDiff, Int.reduceEq, Int.reduceLT, Int.reduceLE, Int.reduceAdd, Int.reduceSub, Int.reduceMul, Int.reduceNeg, Int.reduceToNat, Nat.reduceMul]
    refine (z9_ok h110 h108 (id := id) (n := n) (c := c) (fn := .func (.func G) #[] cap.toArray) (P := P) (A1 := L.take ρ) (A2 := L.drop ρ) (B1 := M.take t) (B2 := M.drop t) (S := S) (A := A.enter) hid (by rw [← eAll]; exact hn') hb _ (by simp only [f0, go_sem, Nat.reduceEqDiff, Nat.reduceAdd, Nat.reduceLeDiff, Int.reduceEq, Int.reduceLT, Int.reduceLE, Int.reduceAdd, Int.reduceSub, Int.reduceMul, Int.reduceNeg, Int.reduceToNat, Nat.reduceMul]) (by simp only [f2, lA1, lA2, go_sem, Nat.reduceEqDiff, Nat.reduceAdd, Nat.reduceLeDiff, Int.reduceEq, Int.reduceLT, Int.reduceLE, Int.reduceAdd, Int.reduceSub, Int.reduceMul, Int.reduceNeg, Int.reduceToNat, Nat.reduceMul]; congr 1; omega) (by simp only [f4, go_sem, Nat.reduceEqDiff, Nat.reduceAdd, Nat.reduceLeDiff, Int.reduceEq, Int.reduceLT, Int.reduceLE, Int.reduceAdd, Int.reduceSub, Int.reduceMul, Int.reduceNeg, Int.reduceToNat, Nat.reduceMul]) (by simp only [f20, lA1, go_sem, Nat.reduceEqDiff, Nat.reduceAdd, Nat.reduceLeDiff, Int.reduceEq, Int.reduceLT, Int.reduceLE, Int.reduceAdd, Int.reduceSub, Int.reduceMul, Int.reduceNeg, Int.reduceToNat, Nat.reduceMul]) (by simp only [lA1, lA2, lB1, go_sem, Nat.reduceEqDiff, Nat.reduceAdd, Nat.reduceLeDiff, Int.reduceEq, Int.reduceLT, Int.reduceLE, Int.reduceAdd, Int.reduceSub, Int.reduceMul, Int.reduceNeg, Int.reduceToNat, Nat.reduceMul]; congr 1; omega) (.inl ⟨rfl, by rw [← eAll, ← hD]; exact hgA⟩)).mono ?_
    rintro _ f1' H1 ⟨rfl, ⟨k0, k1, k2, k3, k4, k18, k20, k24⟩, hu1⟩
    show (@RunC tbl (.seq z10 z11) f1' H1 ⟨_⟩)
    rw [rn_seq]
    refine (z10_ok C ih (P := P) (A1 := L.take ρ) (A2 := L.drop ρ) (B1 := M.take t) (B2 := M.drop t) (S := S) (A := A.enter) (H' := H1) hid (C.up (C.enter _ hK) hu1) (by simp only [List.length_append, lA1, lA2, lB1, lB2]; omega) (by rw [lA1, lB1]; omega) hL'.1 hM'.1 (fun x hx y hy => hlt x (mA1 x hx) y (mB1 y hy)) (fun x hx => hSL x (mA1 x hx)) (fun x hx => hSM x (mB1 x hx)) f1' (by rw [k0]; simp only [f0, go_sem, Nat.reduceEqDiff, Nat.reduceAdd, Nat.reduceLeDiff, Int.reduceEq, Int.reduceLT, Int.reduceLE, Int.reduceAdd, Int.reduceSub, Int.reduceMul, Int.reduceNeg, Int.reduceToNat, Nat.reduceMul]) (by rw [k1]; simp only [f1, go_sem, Nat.reduceEqDiff, Nat.reduceAdd, Nat.reduceLeDiff, Int.reduceEq, Int.reduceLT, Int.reduceLE, Int.reduceAdd, Int.reduceSub, Int.reduceMul, Int.reduceNeg, Int.reduceToNat, Nat.reduceMul]) (by rw [k4]; simp only [f4, go_sem, Nat.reduceEqDiff, Nat.reduceAdd, Nat.reduceLeDiff, Int.reduceEq, Int.reduceLT, Int.reduceLE, Int.reduceAdd, Int.reduceSub, Int.reduceMul, Int.reduceNeg, Int.reduceToNat, Nat.reduceMul]) (by rw [k18]; simp only [f18, lA1, lB1, go_sem, Nat.reduceEqDiff, Nat.reduceAdd, Nat.reduceLeDiff, Int.reduceEq, Int.reduceLT, Int.reduceLE, Int.reduceAdd, Int.reduceSub, Int.reduceMul, Int.reduceNeg, Int.reduceToNat, Nat.reduceMul]; congr 1; omega) (by rw [k20]; simp only [f20, lA1, go_sem, Nat.reduceEqDiff, Nat.reduceAdd, Nat.reduceLeDiff, Int.reduceEq, Int.reduceLT, Int.reduceLE, Int.reduceAdd, Int.reduceSub, Int.reduceMul, Int.reduceNeg, Int.reduceToNat, Nat.reduceMul]) hu1).mono ?_
    rintro _ f2' H2 ⟨rfl, ⟨j0, j1, j2, j3, j4, j18, j20, j24⟩, hu2⟩
    show (@RunC tbl z11 f2' H2 ⟨_⟩)
    have hu2' : UpS id A.enter H2 ((P ++ srt key (L.take ρ ++ M.take t)) ++ L.drop ρ ++ M.drop t ++ S) := hu2
    refine (z11_ok C ih (P := P ++ srt key (L.take ρ ++ M.take t)) (A2 := L.drop ρ) (B2 := M.drop t) (S := S) (A := A.enter) (H' := H2) hid (C.up (C.enter _ hK) hu2) (by simp only [List.length_append, hsl1, lA2, lB2]; omega) (by rw [lA2, lB2]; omega) hL'.2.1 hM'.2.1 (fun x hx y hy => hlt x (mA2 x hx) y (mB2 y hy)) (fun x hx => hSL x (mA2 x hx)) (fun x hx => hSM x (mB2 x hx)) f2' (by rw [j0, k0]; simp only [f0, go_sem, Nat.reduceEqDiff, Nat.reduceAdd, Nat.reduceLeDiff, Int.reduceEq, Int.reduceLT, Int.reduceLE, Int.reduceAdd, Int.reduceSub, Int.reduceMul, Int.reduceNeg, Int.reduceToNat, Nat.reduceMul]) (by rw [j3, k3]; simp only [f3, List.length_append, hsl1, lA2, lB2, go_sem, Nat.reduceEqDiff, Nat.reduceAdd, Nat.reduceLeDiff, Int.reduceEq, Int.reduceLT, Int.reduceLE, Int.reduceAdd, Int.reduceSub, Int.reduceMul, Int.reduceNeg, Int.reduceToNat, Nat.reduceMul]; congr 1; omega) (by rw [j4, k4]; simp only [f4, go_sem, Nat.reduceEqDiff, Nat.reduceAdd, Nat.reduceLeDiff, Int.reduceEq, Int.reduceLT, Int.reduceLE, Int.reduceAdd, Int.reduceSub, Int.reduceMul, Int.reduceNeg, Int.reduceToNat, Nat.reduceMul]) (by rw [j18, k18]; simp only [f18, List.length_append, hsl1, go_sem, Nat.reduceEqDiff, Nat.reduceAdd, Nat.reduceLeDiff, Int.reduceEq, Int.reduceLT, Int.reduceLE, Int.reduceAdd, Int.reduceSub, Int.reduceMul, Int.reduceNeg, Int.reduceToNat, Nat.reduceMul]; congr 1; omega) (by rw [j24, k24]; simp only [List.length_append, hsl1, lA2, go_sem, Nat.reduceEqDiff, Nat.reduceAdd, Nat.reduceLeDiff, Int.reduceEq, Int.reduceLT, Int.reduceLE, Int.reduceAdd, Int.reduceSub, Int.reduceMul, Int.reduceNeg, Int.reduceToNat, Nat.reduceMul]; congr 1; omega) hu2').mono ?_
    rintro _ f3' H3 ⟨rfl, hu3⟩
    refine ⟨rfl, ?_⟩
    rw [hsp]
    have e : P ++ srt key (L.take ρ ++ M.take t) ++ srt key (L.drop ρ ++ M.drop t) ++ S = P ++ (srt key (L.take ρ ++ M.take t) ++ srt key (L.drop ρ ++ M.drop t)) ++ S := by simp
    rw [← e]; exact hu3
end Go.Proofs.Ytidpkoaomfbljaa.AM
namespace Go.Proofs.Ytidpkoaomfbljaa.AM
open Go
set_option linter.all false
set_option maxRecDepth 10000
variable {tbl : Tbl} [hT : TMono tbl]
variable {G : FuncId} {cap : List Value} {key : Int → Int} {Sx : Int → Prop} {id : Nat} {K : AH → Prop}

theorem v101_all (h110 : tbl 110 = some (.code m110)) (h108 : tbl 108 = some (.code m108)) (h101 : tbl 101 = some (.code m101)) (C : Cmp tbl G cap key Sx id K) {n c : Nat} (hb : n ≤ 1000000) : ∀ N, MergeTo tbl G cap key Sx id K n c N := by
  intro N
  induction N with
  | zero => intro P A B S X h; omega
  | succ N ih =>
    intro P A B S X hN hid hK hn hX hA0 hB0 hA hB hlt hSA hSB a m b ha hm hbb
    have hn' := hn
    simp only [List.length_append] at hn
    by_cases hA1 : A.length = 1
    · obtain ⟨x, rfl⟩ := List.length_eq_one_iff.1 hA1
      exact v101_left h101 C hid hK hn' hb hX hB (fun y hy => hlt x (by simp) y hy) (hSA x (by simp)) hSB a m b ha (by simpa using hm) (by simpa using hbb)
    by_cases hB1 : B.length = 1
    · obtain ⟨y, rfl⟩ := List.length_eq_one_iff.1 hB1
      exact v101_right h101 C hid hK hn' hb hX hA hA1 (fun x hx => hlt x hx y (by simp)) (hSB y (by simp)) hSA a m b ha hm (by simpa using hbb)
    subst ha hm hbb
    refine ValU.of_all fun Q hQ => ?_
    rw [rn_fun h101, k101_eq]
    have e1 : ((P.length + A.length : Nat) : Int) - (P.length : Int) = (A.length : Int) := by omega
    have w1 := w64 (x := (A.length : Int)) (by omega) (by omega)
    have n1 : ¬ (A.length : Int) = 1 := by omega
    have e2 : ((P.length + A.length + B.length : Nat) : Int) - ((P.length + A.length : Nat) : Int) = (B.length : Int) := by omega
    have w2 := w64 (x := (B.length : Int)) (by omega) (by omega)
    have n2 : ¬ (B.length : Int) = 1 := by omega
    have e3 : (P.length : Int) + ((P.length + A.length + B.length : Nat) : Int) = ((P.length + (P.length + A.length + B.length) : Nat) : Int) := by omega
    have w3 := w64 (x := ((P.length + (P.length + A.length + B.length) : Nat) : Int)) (by omega) (by omega)
    obtain ⟨h, hh⟩ : ∃ h, h = (A.length + B.length) / 2 := ⟨_, rfl⟩
    have hhf := half64 (x := P.length + (P.length + A.length + B.length)) (by omega)
    rw [show (P.length + (P.length + A.length + B.length)) / 2 = P.length + h by omega] at hhf
    have e4 : ((P.length + h : Nat) : Int) + ((P.length + A.length : Nat) : Int) = ((P.length + h + (P.length + A.length) : Nat) : Int) := by omega
    have w4 := w64 (x := ((P.length + h + (P.length + A.length) : Nat) : Int)) (by omega) (by omega)
    have fin : ∀ (f' : Fr) (Y : AH), UpS id X.enter Y (P ++ srt key (A ++ B) ++ S) → finQ X [] Q .normal f' Y := fun f' Y hu => by
      obtain ⟨Z, hZ, hu2⟩ := hu.back hid
      simp only [finQ, hZ, go_sem, Nat.reduceEqDiff, Nat.reduceAdd, Nat.reduceLeDiff, Int.reduceEq, Int.reduceLT, Int.reduceLE, Int.reduceAdd, Int.reduceSub, Int.reduceMul, Int.reduceNeg, Int.reduceToNat, Nat.reduceMul]
      exact hQ Z hu2
    by_cases hc : ((P.length + h : Nat) : Int) < ((P.length + A.length : Nat) : Int)
    · have e5 : ((P.length + h + (P.length + A.length) : Nat) : Int) - ((P.length + A.length + B.length : Nat) : Int) = ((P.length + (h - B.length) : Nat) : Int) := by omega
      have w5 := w64 (x := ((P.length + (h - B.length) : Nat) : Int)) (by omega) (by omega)
      simp only [e1, w1, n1, e2, w2, n2, e3, w3, hhf, e4, w4, hc, e5, w5, go_sem, Nat.reduceEqDiff, Nat.reduceAdd, Nat.reduceLeDiff, Int.reduceEq, Int.reduceLT, Int.reduceLE, Int.reduceAdd, Int.reduceSub, Int.reduceMul, Int.reduceNeg, Int.reduceToNat, Nat.reduceMul]
      refine (z6_ok h110 h108 C ih (P := P) (L := A) (M := B) (S := S) (by omega) hid hK hn' hb hX hA hB hlt hSA hSB h (h - B.length) h (by omega) (by omega) (by omega) (by omega) (by omega) (by omega) (by omega) (by omega) _ (by simp only [go_sem, Nat.reduceEqDiff, Nat.reduceAdd, Nat.reduceLeDiff, Int.reduceEq, Int.reduceLT, Int.reduceLE, Int.reduceAdd, Int.reduceSub, Int.reduceMul, Int.reduceNeg, Int.reduceToNat, Nat.reduceMul]) (by simp only [go_sem, Nat.reduceEqDiff, Nat.reduceAdd, Nat.reduceLeDiff, Int.reduceEq, Int.reduceLT, Int.reduceLE, Int.reduceAdd, Int.reduceSub, Int.reduceMul, Int.reduceNeg, Int.reduceToNat, Nat.reduceMul]) (by simp only [go_sem, Nat.reduceEqDiff, Nat.reduceAdd, Nat.reduceLeDiff, Int.reduceEq, Int.reduceLT, Int.reduceLE, Int.reduceAdd, Int.reduceSub, Int.reduceMul, Int.reduceNeg, Int.reduceToNat, Nat.reduceMul]) (by simp only [go_sem, Nat.reduceEqDiff, Nat.reduceAdd, Nat.reduceLeDiff, Int.reduceEq, Int.reduceLT, Int.reduceLE, Int.reduceAdd, Int.reduceSub, Int.reduceMul, Int.reduceNeg, Int.reduceToNat, Nat.reduceMul]) (by simp only [go_sem, Nat.reduceEqDiff, Nat.reduceAdd, Nat.reduceLeDiff, Int.reduceEq, Int.reduceLT, Int.reduceLE, Int.reduceAdd, Int.reduceSub, Int.reduceMul, Int.reduceNeg, Int.reduceToNat, Nat.reduceMul]) (by simp only [go_sem, Nat.reduceEqDiff, Nat.reduceAdd, Nat.reduceLeDiff, Int.reduceEq, Int.reduceLT, Int.reduceLE, Int.reduceAdd, Int.reduceSub, Int.reduceMul, Int.reduceNeg, Int.reduceToNat, Nat.reduceMul]) (by simp only [go_sem, Nat.reduceEqDiff, Nat.reduceAdd, Nat.reduceLeDiff, Int.reduceEq, Int.reduceLT, Int.reduceLE, Int.reduceAdd, Int.reduceSub, Int.reduceMul, Int.reduceNeg, Int.reduceToNat, Nat.reduceMul]) (by simp only [go_sem, Nat.reduceEqDiff, Nat.reduceAdd, Nat.reduceLeDiff, Int.reduceEq, Int.reduceLT, Int.reduceLE, Int.reduceAdd, Int.reduceSub, Int.reduceMul, Int.reduceNeg, Int.reduceToNat, Nat.reduceMul]) (by simp only [go_sem, Nat.reduceEqDiff, Nat.reduceAdd, Nat.reduceLeDiff, Int.reduceEq, Int.reduceLT, Int.reduceLE, Int.reduceAdd, Int.reduceSub, Int.reduceMul, Int.reduceNeg, Int.reduceToNat, Nat.reduceMul])).mono ?_
      rintro _ f' Y ⟨rfl, hu⟩
      exact fin f' Y hu
    · simp only [e1, w1, n1, e2, w2, n2, e3, w3, hhf, e4, w4, hc, go_sem, Nat.reduceEqDiff, Nat.reduceAdd, Nat.reduceLeDiff, Int.reduceEq, Int.reduceLT, Int.reduceLE, Int.reduceAdd, Int.reduceSub, Int.reduceMul, Int.reduceNeg, Int.reduceToNat, Nat.reduceMul]
      refine (z6_ok h110 h108 C ih (P := P) (L := A) (M := B) (S := S) (by omega) hid hK hn' hb hX hA hB hlt hSA hSB h 0 A.length (by omega) (by omega) (by omega) (by omega) (by omega) (by omega) (by omega) (by omega) _ (by simp only [go_sem, Nat.reduceEqDiff, Nat.reduceAdd, Nat.reduceLeDiff, Int.reduceEq, Int.reduceLT, Int.reduceLE, Int.reduceAdd, Int.reduceSub, Int.reduceMul, Int.reduceNeg, Int.reduceToNat, Nat.reduceMul]) (by simp only [go_sem, Nat.reduceEqDiff, Nat.reduceAdd, Nat.reduceLeDiff, Int.reduceEq, Int.reduceLT, Int.reduceLE, Int.reduceAdd, Int.reduceSub, Int.reduceMul, Int.reduceNeg, Int.reduceToNat, Nat.reduceMul]) (by simp only [go_sem, Nat.reduceEqDiff, Nat.reduceAdd, Nat.reduceLeDiff, Int.reduceEq, Int.reduceLT, Int.reduceLE, Int.reduceAdd, Int.reduceSub, Int.reduceMul, Int.reduceNeg, Int.reduceToNat, Nat.reduceMul]) (by simp only [go_sem, Nat.reduceEqDiff, Nat.reduceAdd, Nat.reduceLeDiff, Int.reduceEq, Int.reduceLT, Int.reduceLE, Int.reduceAdd, Int.reduceSub, Int.reduceMul, Int.reduceNeg, Int.reduceToNat, Nat.reduceMul]) (by simp only [go_sem, Nat.reduceEqDiff, Nat.reduceAdd, Nat.reduceLeDiff, Int.reduceEq, Int.reduceLT, Int.reduceLE, Int.reduceAdd, Int.reduceSub, Int.reduceMul, Int.reduceNeg, Int.reduceToNat, Nat.reduceMul]) (by simp only [go_sem, Nat.reduceEqDiff, Nat.reduceAdd, Nat.reduceLeDiff, Int.reduceEq, Int.reduceLT, Int.reduceLE, Int.reduceAdd, Int.reduceSub, Int.reduceMul, Int.reduceNeg, Int.reduceToNat, Nat.reduceMul]) (by simp only [go_sem, Nat.reduceEqDiff, Nat.reduceAdd, Nat.reduceLeDiff, Int.reduceEq, Int.reduceLT, Int.reduceLE, Int.reduceAdd, Int.reduceSub, Int.reduceMul, Int.reduceNeg, Int.reduceToNat, Nat.reduceMul]) (by simp only [go_sem, Nat.reduceEqDiff, Nat.reduceAdd, Nat.reduceLeDiff, Int.reduceEq, Int.reduceLT, Int.reduceLE, Int.reduceAdd, Int.reduceSub, Int.reduceMul, Int.reduceNeg, Int.reduceToNat, Nat.reduceMul] <;> rfl) (by simp only [go_sem, Nat.reduceEqDiff, Nat.reduceAdd, Nat.reduceLeDiff, Int.reduceEq, Int.reduceLT, Int.reduceLE, Int.reduceAdd, Int.reduceSub, Int.reduceMul, Int.reduceNeg, Int.reduceToNat, Nat.reduceMul])).mono ?_
      rintro _ f' Y ⟨rfl, hu⟩
      exact fin f' Y hu
/-! ### Blocks -/
def bsF (key : Int → Int) (w : Nat) : Nat → List Int → List Int
  | 0, _ => []
  | k + 1, l => srt key (l.take w) ++ bsF key w k (l.drop w)
theorem bsF_nil {w : Nat} : ∀ k, bsF key w k [] = []
  | 0 => rfl
  | k + 1 => by
    simp only [bsF, List.take_nil, List.drop_nil]
    rw [bsF_nil k]
    rfl
theorem bsF_fuel {w : Nat} (hw : 0 < w) : ∀ (k k' : Nat) (l : List Int), l.length ≤ k → l.length ≤ k' → bsF key w k l = bsF key w k' l
  | 0, k', l, h, _ => by
    have := List.eq_nil_of_length_eq_zero (show l.length = 0 by omega)
    subst this
    rw [bsF_nil, bsF_nil]
  | k + 1, 0, l, _, h => by
    have := List.eq_nil_of_length_eq_zero (show l.length = 0 by omega)
    subst this
    rw [bsF_nil, bsF_nil]
  | k + 1, k' + 1, l, h, h' => by
    simp only [bsF]
    rw [bsF_fuel hw k k' (l.drop w) (by rw [List.length_drop]; omega) (by rw [List.length_drop]; omega)]
/-- A row whose blocks of w numbers are in order. -/
def bs (key : Int → Int) (w : Nat) (l : List Int) : List Int := bsF key w l.length l
theorem bs_step {w : Nat} (hw : 0 < w) (l : List Int) : bs key w l = srt key (l.take w) ++ bs key w (l.drop w) := by
  cases hl : l with
  | nil => simp [bs, bsF, srt]
  | cons x r =>
    rw [← hl]
    unfold bs
    have : l.length = (l.length - 1) + 1 := by rw [hl]; simp
    rw [bsF_fuel hw l.length (l.length - 1 + 1) l (Nat.le_refl _) (by omega)]
    simp only [bsF]
    rw [bsF_fuel hw (l.length - 1) (l.drop w).length (l.drop w) (by rw [List.length_drop]; omega) (Nat.le_refl _)]
theorem bs_small {w : Nat} (hw : 0 < w) {l : List Int} (h : l.length ≤ w) : bs key w l = srt key l := by
  rw [bs_step hw, List.take_of_length_le h, List.drop_of_length_le h]
  simp [bs, bsF]
theorem bs_len {w : Nat} (hw : 0 < w) : ∀ (k : Nat) (l : List Int), l.length ≤ k → (bs key w l).length = l.length
  | 0, l, h => by
    have := List.eq_nil_of_length_eq_zero (show l.length = 0 by omega)
    subst this
    rfl
  | k + 1, l, h => by
    by_cases h0 : l.length = 0
    · have := List.eq_nil_of_length_eq_zero h0
      subst this
      rfl
    · rw [bs_step hw, List.length_append, srt_len, bs_len hw k (l.drop w) (by rw [List.length_drop]; omega), List.length_take, List.length_drop]
      omega
theorem bs_len' {w : Nat} (hw : 0 < w) (l : List Int) : (bs key w l).length = l.length := bs_len hw l.length l (Nat.le_refl _)
end Go.Proofs.Ytidpkoaomfbljaa.AM
namespace Go.Proofs.Ytidpkoaomfbljaa.AM
open Go
set_option linter.all false
set_option maxRecDepth 10000
variable {tbl : Tbl} [hT : TMono tbl]
variable {G : FuncId} {cap : List Value} {key : Int → Int} {Sx : Int → Prop} {id : Nat} {K : AH → Prop}

structure StbTb (tbl : Tbl) : Prop where
  h110 : tbl 110 = some (.code m110)
  h108 : tbl 108 = some (.code m108)
  h101 : tbl 101 = some (.code m101)
  h100 : tbl 100 = some (.code m100)
  h88 : tbl 88 = some (.code m88)
  h78 : tbl 78 = some (.code m78)
theorem rise_two {l : List Int} (h : l.Pairwise (· < ·)) (w : Nat) : (l.take w).Pairwise (· < ·) ∧ (l.drop w).Pairwise (· < ·) ∧ ∀ x ∈ l.take w, ∀ y ∈ l.drop w, x < y := by
  have := h
  rw [← List.take_append_drop w l, List.pairwise_append] at this
  exact this
theorem rise_nd {l : List Int} (h : l.Pairwise (· < ·)) : l.Nodup := h.imp fun h e => by omega
/-- Two blocks become one. -/
theorem merge_bs (L : StbTb tbl) (C : Cmp tbl G cap key Sx id K) {n c w : Nat} (hw : 0 < w) (hb : n ≤ 1000000) {Q0 r : List Int} {X : AH} (hid : id < X.next) (hK : K X) (hn : (Q0 ++ r).length = n) (hr : r.Pairwise (· < ·)) (hS : ∀ x ∈ r, Sx x) (hX : X.get id = some (rwI (Q0 ++ bs key w r))) (hl : w < r.length) (e : Nat) (he : e = min (2 * w) r.length) :
    ValU tbl 101 [.slice (some ⟨id, 0, none⟩) n c, .int .i64 Q0.length, .int .i64 ((Q0.length + w : Nat) : Int), .int .i64 ((Q0.length + e : Nat) : Int), .func (.func G) #[] cap.toArray] id X (Q0 ++ (srt key (r.take (2 * w)) ++ bs key w (r.drop (2 * w)))) := by
  obtain ⟨r1, r2, r3⟩ := rise_two hr w
  obtain ⟨q1, q2, q3⟩ := rise_two r2 w
  have hnd := rise_nd hr
  have eb : bs key w r = srt key (r.take w) ++ (srt key ((r.drop w).take w) ++ bs key w (r.drop (2 * w))) := by
    rw [bs_step hw, bs_step hw (r.drop w), List.drop_drop, show w + w = 2 * w by omega]
  have et : r.take (2 * w) = r.take w ++ (r.drop w).take w := by rw [show 2 * w = w + w by omega, List.take_add]
  have hnt : (r.take w ++ (r.drop w).take w).Nodup := et ▸ (hnd.sublist (List.take_sublist _ _))
  have hm := srt_congr (key := key) ((srt_perm (key := key) (r.take w)).append (srt_perm (key := key) ((r.drop w).take w))) hnt
  rw [← et] at hm
  have l1 : (srt key (r.take w)).length = w := by rw [srt_len, List.length_take]; omega
  have l2 : (srt key ((r.drop w).take w)).length = e - w := by rw [srt_len, List.length_take, List.length_drop]; omega
  have l3 := bs_len' (key := key) hw (r.drop (2 * w))
  rw [List.length_drop] at l3
  rw [List.length_append] at hn
  have hv := v101_all L.h110 L.h108 L.h101 C (n := n) (c := c) hb (e + 1) Q0 (srt key (r.take w)) (srt key ((r.drop w).take w)) (bs key w (r.drop (2 * w))) X (by omega) hid hK (by simp only [List.length_append]; omega) (by rw [hX, eb]; simp) (by omega) (by omega) (srt_srt (rise_nd r1)) (srt_srt (rise_nd q1))
    (fun x hx y hy => r3 x ((srt_perm _).mem_iff.1 hx) y (List.mem_of_mem_take ((srt_perm _).mem_iff.1 hy)))
    (fun x hx => hS x (List.mem_of_mem_take ((srt_perm _).mem_iff.1 hx)))
    (fun x hx => hS x (List.mem_of_mem_drop (List.mem_of_mem_take ((srt_perm _).mem_iff.1 hx))))
    Q0.length (Q0.length + w) (Q0.length + e) rfl (by omega) (by omega)
  rw [hm, List.append_assoc] at hv
  exact hv
theorem v88 (L : StbTb tbl) (C : Cmp tbl G cap key Sx id K) {c : Nat} {D0 : List Int} {A : AH} (hb : D0.length ≤ 1000000) (hid : id < A.next) (hK : K A) (hr : D0.Pairwise (· < ·)) (hS : ∀ x ∈ D0, Sx x) (hX : A.get id = some (rwI D0)) :
    ValU tbl 88 [.slice (some ⟨id, 0, none⟩) D0.length c, .int .i64 D0.length, .func (.func G) #[] cap.toArray] id A (srt key D0) := by
  refine ValU.of_all fun Q hQ => ?_
  rw [rn_fun L.h88, k88]
  have hKE := C.enter _ hK
  simp only [go_sem, Nat.reduceEqDiff, Nat.reduceAdd, Nat.reduceLeDiff, Int.reduceEq, Int.reduceLT, Int.reduceLE, Int.reduceAdd, Int.reduceSub, Int.reduceMul, Int.reduceNeg, Int.reduceToNat, Nat.reduceMul]
  refine rn_loop (fun m f H' => ∃ (a : Nat) (Q0 : List Int), a ≤ D0.length ∧ m = D0.length - a ∧ Q0.length = a ∧ f 0 = .slice (some ⟨id, 0, none⟩) D0.length c ∧ f 1 = .int .i64 D0.length ∧ f 2 = .func (.func G) #[] cap.toArray ∧ f 6 = .int .i64 20 ∧ f 7 = .int .i64 (a : Int) ∧ f 8 = .int .i64 ((a + 20 : Nat) : Int) ∧ UpS id A.enter H' (Q0 ++ D0.drop a) ∧ Q0 ++ bs key 20 (D0.drop a) = bs key 20 D0) ?_ (n := D0.length)
    ⟨0, [], by omega, rfl, rfl, by simp only [go_sem, Nat.reduceEqDiff, Nat.reduceAdd, Nat.reduceLeDiff, Int.reduceEq, Int.reduceLT, Int.reduceLE, Int.reduceAdd, Int.reduceSub, Int.reduceMul, Int.reduceNeg, Int.reduceToNat, Nat.reduceMul], by simp only [go_sem, Nat.reduceEqDiff, Nat.reduceAdd, Nat.reduceLeDiff, Int.reduceEq, Int.reduceLT, Int.reduceLE, Int.reduceAdd, Int.reduceSub, Int.reduceMul, Int.reduceNeg, Int.reduceToNat, Nat.reduceMul], by simp only [go_sem, Nat.reduceEqDiff, Nat.reduceAdd, Nat.reduceLeDiff, Int.reduceEq, Int.reduceLT, Int.reduceLE, Int.reduceAdd, Int.reduceSub, Int.reduceMul, Int.reduceNeg, Int.reduceToNat, Nat.reduceMul], by simp only [go_sem, Nat.reduceEqDiff, Nat.reduceAdd, Nat.reduceLeDiff, Int.reduceEq, Int.reduceLT, Int.reduceLE, Int.reduceAdd, Int.reduceSub, Int.reduceMul, Int.reduceNeg, Int.reduceToNat, Nat.reduceMul], by simp only [go_sem, Nat.reduceEqDiff, Nat.reduceAdd, Nat.reduceLeDiff, Int.reduceEq, Int.reduceLT, Int.reduceLE, Int.reduceAdd, Int.reduceSub, Int.reduceMul, Int.reduceNeg, Int.reduceToNat, Nat.reduceMul] <;> rfl, by simp only [go_sem, Nat.reduceEqDiff, Nat.reduceAdd, Nat.reduceLeDiff, Int.reduceEq, Int.reduceLT, Int.reduceLE, Int.reduceAdd, Int.reduceSub, Int.reduceMul, Int.reduceNeg, Int.reduceToNat, Nat.reduceMul] <;> rfl, .inl ⟨rfl, hX⟩, rfl⟩
  rintro m f H' ⟨a, Q0, ha, rfl, hq, f0, f1, f2, f6, f7, f8, hu, hbs⟩
  have hg := hu.get hid
  have hid2 : id < H'.next := by rw [hu.next]; exact hid
  have hKu := C.up hKE hu
  obtain ⟨r1, r2, r3⟩ := rise_two hr a
  have hdl : (D0.drop a).length = D0.length - a := List.length_drop
  have hSd : ∀ x ∈ D0.drop a, Sx x := fun x hx => hS x (List.mem_of_mem_drop hx)
  by_cases hlt : ((a + 20 : Nat) : Int) ≤ D0.length
  · have hx20 : ((D0.drop a).take 20).length = 20 := by rw [List.length_take]; omega
    obtain ⟨Y, hv, hu2⟩ := v100 L.h100 C (n := D0.length) (c := c) (P := Q0) (X := (D0.drop a).take 20) (S := (D0.drop a).drop 20) (A := H') hid2 hKu (by simp only [List.length_append, List.length_take, List.length_drop]; omega) hb (by rw [List.append_assoc, List.take_append_drop]; exact hg) (rise_two r2 20).1 (fun x hx => hSd x (List.mem_of_mem_take hx)) a (a + 20) hq.symm (by rw [hx20, hq])
    have hu3 := hu.trans hu2 hid
    have e1 : ((a + 20 : Nat) : Int) + 20 = ((a + 20 + 20 : Nat) : Int) := by omega
    have w1 := w64 (x := ((a + 20 + 20 : Nat) : Int)) (by omega) (by omega)
    simp only [f0, f1, f2, f6, f7, f8, hlt, ↓hv.run, e1, w1, go_sem, Nat.reduceEqDiff, Nat.reduceAdd, Nat.reduceLeDiff, Int.reduceEq, Int.reduceLT, Int.reduceLE, Int.reduceAdd, Int.reduceSub, Int.reduceMul, Int.reduceNeg, Int.reduceToNat, Nat.reduceMul]
    refine ⟨D0.length - (a + 20), by omega, a + 20, Q0 ++ srt key ((D0.drop a).take 20), by omega, rfl, by rw [List.length_append, srt_len, hx20, hq], by simp only [f0, go_sem, Nat.reduceEqDiff, Nat.reduceAdd, Nat.reduceLeDiff, Int.reduceEq, Int.reduceLT, Int.reduceLE, Int.reduceAdd, Int.reduceSub, Int.reduceMul, Int.reduceNeg, Int.reduceToNat, Nat.reduceMul], by simp only [f1, go_sem, Nat.reduceEqDiff, Nat.reduceAdd, Nat.reduceLeDiff, Int.reduceEq, Int.reduceLT, Int.reduceLE, Int.reduceAdd, Int.reduceSub, Int.reduceMul, Int.reduceNeg, Int.reduceToNat, Nat.reduceMul], by simp only [f2, go_sem, Nat.reduceEqDiff, Nat.reduceAdd, Nat.reduceLeDiff, Int.reduceEq, Int.reduceLT, Int.reduceLE, Int.reduceAdd, Int.reduceSub, Int.reduceMul, Int.reduceNeg, Int.reduceToNat, Nat.reduceMul], by simp only [f6, go_sem, Nat.reduceEqDiff, Nat.reduceAdd, Nat.reduceLeDiff, Int.reduceEq, Int.reduceLT, Int.reduceLE, Int.reduceAdd, Int.reduceSub, Int.reduceMul, Int.reduceNeg, Int.reduceToNat, Nat.reduceMul], by simp only [go_sem, Nat.reduceEqDiff, Nat.reduceAdd, Nat.reduceLeDiff, Int.reduceEq, Int.reduceLT, Int.reduceLE, Int.reduceAdd, Int.reduceSub, Int.reduceMul, Int.reduceNeg, Int.reduceToNat, Nat.reduceMul], by simp only [go_sem, Nat.reduceEqDiff, Nat.reduceAdd, Nat.reduceLeDiff, Int.reduceEq, Int.reduceLT, Int.reduceLE, Int.reduceAdd, Int.reduceSub, Int.reduceMul, Int.reduceNeg, Int.reduceToNat, Nat.reduceMul], ?_, ?_⟩
    · rw [List.drop_drop] at hu3; exact hu3
    · rw [← hbs, bs_step (by omega) (D0.drop a), List.drop_drop, List.append_assoc]
  · obtain ⟨Y, hv, hu2⟩ := v100 L.h100 C (n := D0.length) (c := c) (P := Q0) (X := D0.drop a) (S := []) (A := H') hid2 hKu (by simp only [List.length_append, List.length_drop, List.length_nil]; omega) hb (by rw [List.append_nil]; exact hg) r2 hSd a D0.length hq.symm (by rw [hdl, hq]; omega)
    have hu3 := hu.trans hu2 hid
    rw [List.append_nil] at hu3
    have hbe : Q0 ++ srt key (D0.drop a) = bs key 20 D0 := by rw [← hbs, bs_small (by omega) (by omega)]
    rw [hbe] at hu3
    simp only [f0, f1, f2, f6, f7, f8, hlt, ↓hv.run, go_sem, Nat.reduceEqDiff, Nat.reduceAdd, Nat.reduceLeDiff, Int.reduceEq, Int.reduceLT, Int.reduceLE, Int.reduceAdd, Int.reduceSub, Int.reduceMul, Int.reduceNeg, Int.reduceToNat, Nat.reduceMul]
    refine rn_loop (fun m f H' => ∃ w : Nat, 20 ≤ w ∧ w ≤ 2000000 ∧ m = D0.length - w ∧ f 0 = .slice (some ⟨id, 0, none⟩) D0.length c ∧ f 1 = .int .i64 D0.length ∧ f 2 = .func (.func G) #[] cap.toArray ∧ f 6 = .int .i64 (w : Int) ∧ UpS id A.enter H' (bs key w D0)) ?_ (n := D0.length - 20)
      ⟨20, by omega, by omega, rfl, by simp only [f0, go_sem, Nat.reduceEqDiff, Nat.reduceAdd, Nat.reduceLeDiff, Int.reduceEq, Int.reduceLT, Int.reduceLE, Int.reduceAdd, Int.reduceSub, Int.reduceMul, Int.reduceNeg, Int.reduceToNat, Nat.reduceMul], by simp only [f1, go_sem, Nat.reduceEqDiff, Nat.reduceAdd, Nat.reduceLeDiff, Int.reduceEq, Int.reduceLT, Int.reduceLE, Int.reduceAdd, Int.reduceSub, Int.reduceMul, Int.reduceNeg, Int.reduceToNat, Nat.reduceMul], by simp only [f2, go_sem, Nat.reduceEqDiff, Nat.reduceAdd, Nat.reduceLeDiff, Int.reduceEq, Int.reduceLT, Int.reduceLE, Int.reduceAdd, Int.reduceSub, Int.reduceMul, Int.reduceNeg, Int.reduceToNat, Nat.reduceMul], by simp only [f6, go_sem, Nat.reduceEqDiff, Nat.reduceAdd, Nat.reduceLeDiff, Int.reduceEq, Int.reduceLT, Int.reduceLE, Int.reduceAdd, Int.reduceSub, Int.reduceMul, Int.reduceNeg, Int.reduceToNat, Nat.reduceMul] <;> rfl, hu3⟩
    clear f0 f1 f2 f6 f7 f8 hu hu3 hg hid2 hKu hv hu2 hbs hbe hlt
    rintro m f H' ⟨w, hw1, hw2, rfl, f0, f1, f2, f6, hu⟩
    have hw0 : 0 < w := by omega
    by_cases hlw : (w : Int) < D0.length
    · have e2 : (2 : Int) * (w : Int) = ((2 * w : Nat) : Int) := by omega
      have w2 := w64 (x := ((2 * w : Nat) : Int)) (by omega) (by omega)
      simp only [f0, f1, f2, f6, hlw, e2, w2, go_sem, Nat.reduceEqDiff, Nat.reduceAdd, Nat.reduceLeDiff, Int.reduceEq, Int.reduceLT, Int.reduceLE, Int.reduceAdd, Int.reduceSub, Int.reduceMul, Int.reduceNeg, Int.reduceToNat, Nat.reduceMul]
      refine rn_loop (fun m f H' => ∃ (a : Nat) (Q0 : List Int), a ≤ D0.length ∧ m = D0.length - a ∧ Q0.length = a ∧ f 0 = .slice (some ⟨id, 0, none⟩) D0.length c ∧ f 1 = .int .i64 D0.length ∧ f 2 = .func (.func G) #[] cap.toArray ∧ f 6 = .int .i64 (w : Int) ∧ f 7 = .int .i64 (a : Int) ∧ f 8 = .int .i64 ((a + 2 * w : Nat) : Int) ∧ UpS id A.enter H' (Q0 ++ bs key w (D0.drop a)) ∧ Q0 ++ bs key (2 * w) (D0.drop a) = bs key (2 * w) D0) ?_ (n := D0.length)
        ⟨0, [], by omega, rfl, rfl, by simp only [f0, go_sem, Nat.reduceEqDiff, Nat.reduceAdd, Nat.reduceLeDiff, Int.reduceEq, Int.reduceLT, Int.reduceLE, Int.reduceAdd, Int.reduceSub, Int.reduceMul, Int.reduceNeg, Int.reduceToNat, Nat.reduceMul], by simp only [f1, go_sem, Nat.reduceEqDiff, Nat.reduceAdd, Nat.reduceLeDiff, Int.reduceEq, Int.reduceLT, Int.reduceLE, Int.reduceAdd, Int.reduceSub, Int.reduceMul, Int.reduceNeg, Int.reduceToNat, Nat.reduceMul], by simp only [f2, go_sem, Nat.reduceEqDiff, Nat.reduceAdd, Nat.reduceLeDiff, Int.reduceEq, Int.reduceLT, Int.reduceLE, Int.reduceAdd, Int.reduceSub, Int.reduceMul, Int.reduceNeg, Int.reduceToNat, Nat.reduceMul], by simp only [f6, go_sem, Nat.reduceEqDiff, Nat.reduceAdd, Nat.reduceLeDiff, Int.reduceEq, Int.reduceLT, Int.reduceLE, Int.reduceAdd, Int.reduceSub, Int.reduceMul, Int.reduceNeg, Int.reduceToNat, Nat.reduceMul], by simp only [go_sem, Nat.reduceEqDiff, Nat.reduceAdd, Nat.reduceLeDiff, Int.reduceEq, Int.reduceLT, Int.reduceLE, Int.reduceAdd, Int.reduceSub, Int.reduceMul, Int.reduceNeg, Int.reduceToNat, Nat.reduceMul] <;> rfl, by simp only [go_sem, Nat.reduceEqDiff, Nat.reduceAdd, Nat.reduceLeDiff, Int.reduceEq, Int.reduceLT, Int.reduceLE, Int.reduceAdd, Int.reduceSub, Int.reduceMul, Int.reduceNeg, Int.reduceToNat, Nat.reduceMul] <;> (congr 1; omega), hu, rfl⟩
      clear f0 f1 f2 f6 hu
      rintro m f H' ⟨a, Q0, ha, rfl, hq, f0, f1, f2, f6, f7, f8, hu, hbs⟩
      have hg := hu.get hid
      have hid2 : id < H'.next := by rw [hu.next]; exact hid
      have hKu := C.up hKE hu
      obtain ⟨r1, r2, r3⟩ := rise_two hr a
      have hdl : (D0.drop a).length = D0.length - a := List.length_drop
      have hSd : ∀ x ∈ D0.drop a, Sx x := fun x hx => hS x (List.mem_of_mem_drop hx)
      have hQn : (Q0 ++ D0.drop a).length = D0.length := by rw [List.length_append]; omega
      have ew : (a : Int) + (w : Int) = ((a + w : Nat) : Int) := by omega
      have ww := w64 (x := ((a + w : Nat) : Int)) (by omega) (by omega)
      by_cases hlt : ((a + 2 * w : Nat) : Int) ≤ D0.length
      · obtain ⟨Y, hv, hu2⟩ := merge_bs L C (c := c) hw0 hb hid2 hKu hQn r2 hSd hg (by omega) (2 * w) (by omega)
        rw [hq] at hv
        have hu3 := hu.trans hu2 hid
        have e3 : ((a + 2 * w : Nat) : Int) + ((2 * w : Nat) : Int) = ((a + 2 * w + 2 * w : Nat) : Int) := by omega
        have w3 := w64 (x := ((a + 2 * w + 2 * w : Nat) : Int)) (by omega) (by omega)
        simp only [f0, f1, f2, f6, f7, f8, hlt, ew, ww, ↓hv.run, e2, w2, e3, w3, go_sem, Nat.reduceEqDiff, Nat.reduceAdd, Nat.reduceLeDiff, Int.reduceEq, Int.reduceLT, Int.reduceLE, Int.reduceAdd, Int.reduceSub, Int.reduceMul, Int.reduceNeg, Int.reduceToNat, Nat.reduceMul]
        refine ⟨D0.length - (a + 2 * w), by omega, a + 2 * w, Q0 ++ srt key ((D0.drop a).take (2 * w)), by omega, rfl, by rw [List.length_append, srt_len, List.length_take, hdl, hq]; omega, by simp only [f0, go_sem, Nat.reduceEqDiff, Nat.reduceAdd, Nat.reduceLeDiff, Int.reduceEq, Int.reduceLT, Int.reduceLE, Int.reduceAdd, Int.reduceSub, Int.reduceMul, Int.reduceNeg, Int.reduceToNat, Nat.reduceMul], by simp only [f1, go_sem, Nat.reduceEqDiff, Nat.reduceAdd, Nat.reduceLeDiff, Int.reduceEq, Int.reduceLT, Int.reduceLE, Int.reduceAdd, Int.reduceSub, Int.reduceMul, Int.reduceNeg, Int.reduceToNat, Nat.reduceMul], by simp only [f2, go_sem, Nat.reduceEqDiff, Nat.reduceAdd, Nat.reduceLeDiff, Int.reduceEq, Int.reduceLT, Int.reduceLE, Int.reduceAdd, Int.reduceSub, Int.reduceMul, Int.reduceNeg, Int.reduceToNat, Nat.reduceMul], by simp only [f6, go_sem, Nat.reduceEqDiff, Nat.reduceAdd, Nat.reduceLeDiff, Int.reduceEq, Int.reduceLT, Int.reduceLE, Int.reduceAdd, Int.reduceSub, Int.reduceMul, Int.reduceNeg, Int.reduceToNat, Nat.reduceMul], by simp only [go_sem, Nat.reduceEqDiff, Nat.reduceAdd, Nat.reduceLeDiff, Int.reduceEq, Int.reduceLT, Int.reduceLE, Int.reduceAdd, Int.reduceSub, Int.reduceMul, Int.reduceNeg, Int.reduceToNat, Nat.reduceMul], by simp only [go_sem, Nat.reduceEqDiff, Nat.reduceAdd, Nat.reduceLeDiff, Int.reduceEq, Int.reduceLT, Int.reduceLE, Int.reduceAdd, Int.reduceSub, Int.reduceMul, Int.reduceNeg, Int.reduceToNat, Nat.reduceMul], ?_, ?_⟩
        · rw [List.drop_drop] at hu3
          rw [List.append_assoc]; exact hu3
        · rw [← hbs, bs_step (by omega) (D0.drop a), List.drop_drop, List.append_assoc]
      · have e4 : (w : Int) * 2 = ((2 * w : Nat) : Int) := by omega
        by_cases hmn : ((a + w : Nat) : Int) < D0.length
        · obtain ⟨Y, hv, hu2⟩ := merge_bs L C (c := c) hw0 hb hid2 hKu hQn r2 hSd hg (by omega) (D0.length - a) (by omega)
          rw [hq, show a + (D0.length - a) = D0.length by omega] at hv
          have hu3 := hu.trans hu2 hid
          have eE : Q0 ++ (srt key ((D0.drop a).take (2 * w)) ++ bs key w ((D0.drop a).drop (2 * w))) = bs key (2 * w) D0 := by
            rw [← hbs, bs_step (by omega) (D0.drop a), List.drop_of_length_le (l := D0.drop a) (by omega)]
            simp [bs, bsF]
          rw [eE] at hu3
          simp only [f0, f1, f2, f6, f7, f8, hlt, ew, ww, hmn, ↓hv.run, e4, w2, go_sem, Nat.reduceEqDiff, Nat.reduceAdd, Nat.reduceLeDiff, Int.reduceEq, Int.reduceLT, Int.reduceLE, Int.reduceAdd, Int.reduceSub, Int.reduceMul, Int.reduceNeg, Int.reduceToNat, Nat.reduceMul]
          exact ⟨D0.length - 2 * w, by omega, 2 * w, by omega, by omega, rfl, by simp only [f0, go_sem, Nat.reduceEqDiff, Nat.reduceAdd, Nat.reduceLeDiff, Int.reduceEq, Int.reduceLT, Int.reduceLE, Int.reduceAdd, Int.reduceSub, Int.reduceMul, Int.reduceNeg, Int.reduceToNat, Nat.reduceMul], by simp only [f1, go_sem, Nat.reduceEqDiff, Nat.reduceAdd, Nat.reduceLeDiff, Int.reduceEq, Int.reduceLT, Int.reduceLE, Int.reduceAdd, Int.reduceSub, Int.reduceMul, Int.reduceNeg, Int.reduceToNat, Nat.reduceMul], by simp only [f2, go_sem, Nat.reduceEqDiff, Nat.reduceAdd, Nat.reduceLeDiff, Int.reduceEq, Int.reduceLT, Int.reduceLE, Int.reduceAdd, Int.reduceSub, Int.reduceMul, Int.reduceNeg, Int.reduceToNat, Nat.reduceMul], by simp only [go_sem, Nat.reduceEqDiff, Nat.reduceAdd, Nat.reduceLeDiff, Int.reduceEq, Int.reduceLT, Int.reduceLE, Int.reduceAdd, Int.reduceSub, Int.reduceMul, Int.reduceNeg, Int.reduceToNat, Nat.reduceMul], hu3⟩
        · have eE : Q0 ++ bs key w (D0.drop a) = bs key (2 * w) D0 := by
            rw [← hbs, bs_small hw0 (by omega), bs_small (by omega) (by omega)]
          rw [eE] at hu
          simp only [f0, f1, f2, f6, f7, f8, hlt, ew, ww, hmn, e4, w2, go_sem, Nat.reduceEqDiff, Nat.reduceAdd, Nat.reduceLeDiff, Int.reduceEq, Int.reduceLT, Int.reduceLE, Int.reduceAdd, Int.reduceSub, Int.reduceMul, Int.reduceNeg, Int.reduceToNat, Nat.reduceMul]
          exact ⟨D0.length - 2 * w, by omega, 2 * w, by omega, by omega, rfl, by simp only [f0, go_sem, Nat.reduceEqDiff, Nat.reduceAdd, Nat.reduceLeDiff, Int.reduceEq, Int.reduceLT, Int.reduceLE, Int.reduceAdd, Int.reduceSub, Int.reduceMul, Int.reduceNeg, Int.reduceToNat, Nat.reduceMul], by simp only [f1, go_sem, Nat.reduceEqDiff, Nat.reduceAdd, Nat.reduceLeDiff, Int.reduceEq, Int.reduceLT, Int.reduceLE, Int.reduceAdd, Int.reduceSub, Int.reduceMul, Int.reduceNeg, Int.reduceToNat, Nat.reduceMul], by simp only [f2, go_sem, Nat.reduceEqDiff, Nat.reduceAdd, Nat.reduceLeDiff, Int.reduceEq, Int.reduceLT, Int.reduceLE, Int.reduceAdd, Int.reduceSub, Int.reduceMul, Int.reduceNeg, Int.reduceToNat, Nat.reduceMul], by simp only [go_sem, Nat.reduceEqDiff, Nat.reduceAdd, Nat.reduceLeDiff, Int.reduceEq, Int.reduceLT, Int.reduceLE, Int.reduceAdd, Int.reduceSub, Int.reduceMul, Int.reduceNeg, Int.reduceToNat, Nat.reduceMul], hu⟩
    · rw [bs_small hw0 (by omega)] at hu
      obtain ⟨Z, hZ, hu4⟩ := hu.back hid
      simp only [f0, f1, f2, f6, hlw, hZ, go_sem, Nat.reduceEqDiff, Nat.reduceAdd, Nat.reduceLeDiff, Int.reduceEq, Int.reduceLT, Int.reduceLE, Int.reduceAdd, Int.reduceSub, Int.reduceMul, Int.reduceNeg, Int.reduceToNat, Nat.reduceMul]
      exact hQ Z hu4
theorem v78 (L : StbTb tbl) (C : Cmp tbl G cap key Sx id K) {c : Nat} {D0 : List Int} {A : AH} (hb : D0.length ≤ 1000000) (hid : id < A.next) (hK : K A) (hr : D0.Pairwise (· < ·)) (hS : ∀ x ∈ D0, Sx x) (hX : A.get id = some (rwI D0)) :
    ValU tbl 78 [.slice (some ⟨id, 0, none⟩) D0.length c, .func (.func G) #[] cap.toArray] id A (srt key D0) := by
  refine ValU.of_all fun Q hQ => ?_
  rw [rn_fun L.h78, k78]
  obtain ⟨Y, hv, hu⟩ := v88 L C (c := c) hb (show id < A.enter.next from hid) (C.enter _ hK) hr hS hX
  obtain ⟨Z, hZ, hu4⟩ := hu.back hid
  simp only [↓hv.run, hZ, go_sem, Nat.reduceEqDiff, Nat.reduceAdd, Nat.reduceLeDiff, Int.reduceEq, Int.reduceLT, Int.reduceLE, Int.reduceAdd, Int.reduceSub, Int.reduceMul, Int.reduceNeg, Int.reduceToNat, Nat.reduceMul]
  exact hQ Z hu4
end Go.Proofs.Ytidpkoaomfbljaa.AM
namespace Go.Proofs.Ytidpkoaomfbljaa.AM
open Go
set_option linter.all false
set_option maxRecDepth 10000
variable {tbl : Tbl} [hT : TMono tbl]

theorem Sl.keep {H H' : AH} {es n : Nat} {v : Value} {l : List Value} (h : Sl H es v n l) (hk : ∀ id, id < H.next → H'.get id = H.get id) : Sl H' es v n l := by
  rcases h with h | ⟨a, c, h1, h2⟩
  · exact .inl h
  · refine .inr ⟨a, c, h1, ?_⟩
    rw [ldc_eq, hk _ (ldc_lt h2), ← ldc_eq]
    exact h2
/-- New blocks alone. -/
structure Junk (H H' : AH) : Prop where
  old : ∀ id, id < H.next → H'.get id = H.get id
  nx : H.next ≤ H'.next
  low : H.next ≤ H'.low
theorem Junk.enter (H : AH) : Junk H H.enter := ⟨fun _ _ => rfl, Nat.le_refl _, Nat.le_refl _⟩
theorem Junk.push {H H' : AH} (h : Junk H H') (b : Blk) : Junk H (H'.push b) := by
  have := h.nx
  have := h.low
  exact ⟨fun id hid => by rw [AH.get_push_lt _ _ (by omega)]; exact h.old id hid, by rw [AH.next_push]; omega, by rw [lw_push]; omega⟩
theorem Junk.set {H H' : AH} (h : Junk H H') {k : Nat} (hk : H.next ≤ k) (x : Option Blk) : Junk H (H'.set k x) := by
  have := h.nx
  have := h.low
  exact ⟨fun id hid => by rw [AH.get_set_ne _ _ (by omega)]; exact h.old id hid, by rw [AH.next_set]; omega, by rw [lw_set]; omega⟩
/-! ### Steps -/
structure Stp where
  k : Int
  p : ByteArray
  q : ByteArray
  s : Int
  m : Int
def sv (x : Stp) : List Value := [.int .i64 x.k, .string x.p, .string x.q, .int .i64 x.s, .int .i64 x.m]
def sL (l : List Stp) : List Value := l.flatMap sv
theorem sL_at : ∀ (l : List Stp) (i : Nat) (h : i < l.length), ((sL l).drop (i * 5)).take 5 = sv l[i] := by
  intro l
  induction l with
  | nil => intro i h; simp at h
  | cons p l ih =>
    intro i h
    cases i with
    | zero => rfl
    | succ i =>
      have := ih i (by simpa using h)
      rw [Nat.succ_mul]
      simpa [sL, sv] using this
theorem sL_len (l : List Stp) : (sL l).length = l.length * 5 := by
  induction l with
  | nil => rfl
  | cons p l ih =>
    have : sL (p :: l) = sv p ++ sL l := rfl
    rw [this, List.length_append, ih, List.length_cons]
    have : (sv p).length = 5 := rfl
    omega
theorem sL_p1 (l : List Stp) : (sL l).all p1 = true := by
  induction l with
  | nil => rfl
  | cons p l ih =>
    have : sL (p :: l) = sv p ++ sL l := rfl
    rw [this, List.all_append, ih]
    rfl
def sav (x : Stp) : Value := .agg #[.int .i64 x.k, .string x.p, .string x.q, .int .i64 x.s, .int .i64 x.m]
def car (x : Stp) : Prop := x.k = 4 ∨ x.k = 5
instance (x : Stp) : Decidable (car x) := inferInstanceAs (Decidable (_ ∨ _))
theorem v76 (h76 : tbl 76 = some (.code m76)) (x : Stp) (H : AH) : Val tbl 76 [sav x] H (.bool (decide (car x))) H := by
  refine Val.of_all fun Q hQ => ?_
  rw [rn_fun h76, k76]
  simp only [sav, go_sem, Nat.reduceEqDiff, Nat.reduceAdd, Nat.reduceLeDiff, Int.reduceEq, Int.reduceLT, Int.reduceLE, Int.reduceAdd, Int.reduceSub, Int.reduceMul, Int.reduceNeg, Int.reduceToNat, Nat.reduceMul]
  iterate 6 (try (all_goals (try (refine iteP_intro ?_ ?_ <;> intro _ <;> simp only [*, go_sem, Nat.reduceEqDiff, Nat.reduceAdd, Nat.reduceLeDiff, Int.reduceEq, Int.reduceLT, Int.reduceLE, Int.reduceAdd, Int.reduceSub, Int.reduceMul, Int.reduceNeg, Int.reduceToNat, Nat.reduceMul]))))
  all_goals exact leaf hQ (by simp [car, *]) rfl
def cmpI (a b : Int) : Int := if a < b then -1 else if b < a then 1 else 0
theorem cmpI_neg {a b : Int} : cmpI a b < 0 ↔ a < b := by unfold cmpI; split <;> (try split) <;> omega
theorem v81 (h81 : tbl 81 = some (.code m81)) (a b : Int) (H : AH) : Val tbl 81 [.int .i64 a, .int .i64 b] H (.int .i64 (cmpI a b)) H := by
  refine Val.of_all fun Q hQ => ?_
  rw [rn_fun h81, k81]
  simp only [go_sem, Nat.reduceEqDiff, Nat.reduceAdd, Nat.reduceLeDiff, Int.reduceEq, Int.reduceLT, Int.reduceLE, Int.reduceAdd, Int.reduceSub, Int.reduceMul, Int.reduceNeg, Int.reduceToNat, Nat.reduceMul]
  unfold cmpI at hQ
  iterate 6 (try (all_goals (try (refine iteP_intro ?_ ?_ <;> intro _ <;> simp only [*, go_sem, Nat.reduceEqDiff, Nat.reduceAdd, Nat.reduceLeDiff, Int.reduceEq, Int.reduceLT, Int.reduceLE, Int.reduceAdd, Int.reduceSub, Int.reduceMul, Int.reduceNeg, Int.reduceToNat, Nat.reduceMul]))))
  all_goals exact leaf hQ (by simp [*]) rfl
theorem v80 (h81 : tbl 81 = some (.code m81)) (h80 : tbl 80 = some (.code m80)) (x y : Stp) (H : AH) : Val tbl 80 [sav x, sav y] H (.int .i64 (cmpI x.s y.s)) H := by
  refine Val.of_all fun Q hQ => ?_
  rw [rn_fun h80, k80]
  simp only [sav, ↓(v81 h81 _ _ _).run, go_sem, Nat.reduceEqDiff, Nat.reduceAdd, Nat.reduceLeDiff, Int.reduceEq, Int.reduceLT, Int.reduceLE, Int.reduceAdd, Int.reduceSub, Int.reduceMul, Int.reduceNeg, Int.reduceToNat, Nat.reduceMul]
  exact hQ
theorem v82 (h81 : tbl 81 = some (.code m81)) (h82 : tbl 82 = some (.code m82)) (x y : Stp) (H : AH) : Val tbl 82 [sav x, sav y] H (.int .i64 (cmpI y.s x.s)) H := by
  refine Val.of_all fun Q hQ => ?_
  rw [rn_fun h82, k82]
  simp only [sav, ↓(v81 h81 _ _ _).run, go_sem, Nat.reduceEqDiff, Nat.reduceAdd, Nat.reduceLeDiff, Int.reduceEq, Int.reduceLT, Int.reduceLE, Int.reduceAdd, Int.reduceSub, Int.reduceMul, Int.reduceNeg, Int.reduceToNat, Nat.reduceMul]
  exact hQ
theorem v83 (h81 : tbl 81 = some (.code m81)) (h83 : tbl 83 = some (.code m83)) (x y : Stp) (H : AH) : Val tbl 83 [sav x, sav y] H (.int .i64 (cmpI y.m x.m)) H := by
  refine Val.of_all fun Q hQ => ?_
  rw [rn_fun h83, k83]
  simp only [sav, ↓(v81 h81 _ _ _).run, go_sem, Nat.reduceEqDiff, Nat.reduceAdd, Nat.reduceLeDiff, Int.reduceEq, Int.reduceLT, Int.reduceLE, Int.reduceAdd, Int.reduceSub, Int.reduceMul, Int.reduceNeg, Int.reduceToNat, Nat.reduceMul]
  exact hQ
/-- A key of steps, by their numbers. -/
def dS : Stp := ⟨0, ByteArray.empty, ByteArray.empty, 0, 0⟩
def kyL (kf : Stp → Int) (l : List Stp) (x : Int) : Int := kf (l.getD x.toNat dS)
def inL (l : List Stp) (x : Int) : Prop := 0 ≤ x ∧ x < l.length
/-- A function that compares two steps by a key. -/
def CmpF (tbl : Tbl) (F : FuncId) (kf : Stp → Int) : Prop := ∀ x y X, ∃ c : Int, Val tbl F [sav x, sav y] X (.int .i64 c) X ∧ (c < 0 ↔ kf x < kf y)
theorem cmpF80 (h81 : tbl 81 = some (.code m81)) (h80 : tbl 80 = some (.code m80)) : CmpF tbl 80 (fun x => x.s) := fun x y X => ⟨_, v80 h81 h80 x y X, cmpI_neg⟩
theorem cmpF82 (h81 : tbl 81 = some (.code m81)) (h82 : tbl 82 = some (.code m82)) : CmpF tbl 82 (fun x => -x.s) := fun x y X => ⟨_, v82 h81 h82 x y X, by rw [cmpI_neg]; show _ ↔ -x.s < -y.s; omega⟩
theorem cmpF83 (h81 : tbl 81 = some (.code m81)) (h83 : tbl 83 = some (.code m83)) : CmpF tbl 83 (fun x => -x.m) := fun x y X => ⟨_, v83 h81 h83 x y X, by rw [cmpI_neg]; show _ ↔ -x.m < -y.m; omega⟩
theorem v79 (h79 : tbl 79 = some (.code m79)) {F : FuncId} {kf : Stp → Int} (hF : CmpF tbl F kf) {X : AH} {l : List Stp} {lv : Value} (hs : Sl X 5 lv l.length (sL l)) {a b : Nat} {es1 es2 : Nat} {r1 r2 : Bool} (ha : X.get a = some ⟨[.func (.func F) #[] #[]], es1, r1⟩) (hb : X.get b = some ⟨[lv], es2, r2⟩) (x y : Int) (hx : inL l x) (hy : inL l y) :
    ∃ c : Int, Val tbl 79 [.int .i64 x, .int .i64 y, .pointer (some ⟨a, 0, none⟩), .pointer (some ⟨b, 0, none⟩)] X (.int .i64 c) X ∧ (c < 0 ↔ kyL kf l x < kyL kf l y) := by
  obtain ⟨c, hc, hcc⟩ := hF (l.getD x.toNat dS) (l.getD y.toNat dS) X.enter
  refine ⟨c, ?_, hcc⟩
  obtain ⟨i, rfl⟩ : ∃ i : Nat, x = i := ⟨x.toNat, by have := hx.1; omega⟩
  obtain ⟨j, rfl⟩ : ∃ j : Nat, y = j := ⟨y.toNat, by have := hy.1; omega⟩
  have hi : i < l.length := by have := hx.2; omega
  have hj : j < l.length := by have := hy.2; omega
  have ei : l.getD (i : Int).toNat dS = l[i] := by simp [hi]
  have ej : l.getD (j : Int).toNat dS = l[j] := by simp [hj]
  rw [ei, ej] at hc
  have ea : X.enter.get a = some ⟨[.func (.func F) #[] #[]], es1, r1⟩ := ha
  have eb : X.enter.get b = some ⟨[lv], es2, r2⟩ := hb
  have hlow : X.enter.low = X.next := rfl
  refine Val.of_all fun Q hQ => ?_
  obtain ⟨ad, cp, hv⟩ := hs.shape
  subst hv
  rw [rn_fun h79, k79]
  simp only [ea, eb, go_sem, Nat.reduceEqDiff, Nat.reduceAdd, Nat.reduceLeDiff, Int.reduceEq, Int.reduceLT, Int.reduceLE, Int.reduceAdd, Int.reduceSub, Int.reduceMul, Int.reduceNeg, Int.reduceToNat, Nat.reduceMul]
  refine hs.at_ hi fun p hp1 hp2 => ?_
  rw [sL_at _ _ hi] at hp2
  have hp3 : X.enter.get p.block = X.get p.block := rfl
  simp only [ea, eb, hp3, hp2, sv, go_sem, Nat.reduceEqDiff, Nat.reduceAdd, Nat.reduceLeDiff, Int.reduceEq, Int.reduceLT, Int.reduceLE, Int.reduceAdd, Int.reduceSub, Int.reduceMul, Int.reduceNeg, Int.reduceToNat, Nat.reduceMul]
  refine hs.at_ hj fun q hq1 hq2 => ?_
  rw [sL_at _ _ hj] at hq2
  have hq3 : X.enter.get q.block = X.get q.block := rfl
  have hc' := hc
  simp only [sav] at hc'
  simp only [ea, eb, hq3, hq2, sv, ↓hc'.run, go_sem, Nat.reduceEqDiff, Nat.reduceAdd, Nat.reduceLeDiff, Int.reduceEq, Int.reduceLT, Int.reduceLE, Int.reduceAdd, Int.reduceSub, Int.reduceMul, Int.reduceNeg, Int.reduceToNat, Nat.reduceMul]
  exact hQ
end Go.Proofs.Ytidpkoaomfbljaa.AM
