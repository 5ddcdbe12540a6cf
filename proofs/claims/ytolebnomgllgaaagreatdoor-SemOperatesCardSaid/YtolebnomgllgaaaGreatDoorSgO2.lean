/- SEM: Unary and Binary, the program's and the reference's. -/
import Derived.Test.YtolebnomgllgaaaGreatDoorSgO
set_option linter.unusedVariables false
set_option linter.unusedSimpArgs false
namespace Go.SYG
open Go Go.SY Go.Proofs Go.RowKit
noncomputable section
def u6 : T := (.call 18 [(.v 1), (.v 2)] [4] (.br (.not (.is (.v 3))) (.ret 0 [(.n 0), (.n 2)]) (.br (.cmp .lt (.v 0) (.n 1)) (.ret 0 [(.n 0), (.n 2)]) (.br (.cmp .lt (.n 3) (.v 0)) (.ret 0 [(.n 0), (.n 2)]) (.br (.not (.or (.and (.cmp .eq (.v 0) (.n 2)) (.cmp .eq (.v 1) (.n 3))) (.and (.not (.cmp .eq (.v 0) (.n 2))) (.not (.cmp .eq (.v 1) (.n 3)))))) (.ret 0 [(.n 0), (.n 2)]) (.br (.cmp .eq (.v 0) (.n 2)) (.lt none (.bxor .i64 (.v 2) (.n 1)) (.ret 0 [(.v 4), (.n 0)])) (.br (.cmp .eq (.v 0) (.n 3)) (.lt none (.com .i64 (.v 2)) (.call 19 [(.v 1), (.v 4)] [2] (.ret 0 [(.v 5), (.n 0)]) [] (.fail 345))) (.lt none (.neg .i64 (.v 2)) (.call 19 [(.v 1), (.v 4)] [2] (.ret 0 [(.v 5), (.n 0)]) [] (.fail 345))))))))) [] (.fail 345))
theorem qu6 : sxFunc (Xl [c18, c19]) 400 6 ⟨[.dat 3, .dat 3, .dat 2], [], ⟨[.dat 2, .dat 24], []⟩, none⟩ = u6 := by kernel_rfl
def u7 : T := (.call 20 [(.v 1), (.v 2)] [4] (.br (.or (.or (.or (.not (.is (.v 3))) (.cmp .lt (.v 0) (.n 1))) (.cmp .lt (.n 3) (.v 0))) (.not (.or (.and (.cmp .eq (.v 0) (.n 2)) (.cmp .eq (.v 1) (.n 3))) (.and (.not (.cmp .eq (.v 0) (.n 2))) (.not (.cmp .eq (.v 1) (.n 3))))))) (.ret 0 [(.n 0), (.n 2)]) (.br (.cmp .eq (.v 0) (.n 1)) (.lt none (.neg .i64 (.v 2)) (.call 21 [(.v 1), (.v 4)] [2] (.ret 0 [(.v 5), (.n 0)]) [] (.fail 345))) (.br (.cmp .eq (.v 0) (.n 2)) (.lt none (.sub .i64 (.n 1) (.v 2)) (.ret 0 [(.v 4), (.n 0)])) (.lt none (.neg .i64 (.v 2)) (.lt none (.sub .i64 (.v 4) (.n 1)) (.call 21 [(.v 1), (.v 5)] [2] (.ret 0 [(.v 6), (.n 0)]) [] (.fail 345))))))) [] (.fail 345))
theorem qu7 : sxFunc (Xl [c20, c21]) 400 7 ⟨[.dat 3, .dat 3, .dat 2], [], ⟨[.dat 2, .dat 24], []⟩, none⟩ = u7 := by kernel_rfl
def u8 : T := (.call 18 [(.v 1), (.v 2)] [4] (.br (.is (.v 4)) (.call 18 [(.v 1), (.v 3)] [4] (.br (.not (.or (.not (.is (.v 4))) (.not (.is (.v 5))))) (.br (.or (.cmp .lt (.v 0) (.n 1)) (.cmp .lt (.n 18) (.v 0))) (.ret 0 [(.n 0), (.n 0), (.n 0), (.n 2)]) (.br (.or (.cmp .eq (.v 0) (.n 11)) (.cmp .eq (.v 0) (.n 12))) (.br (.cmp .eq (.v 0) (.n 0)) (.br (.cmp .eq (.v 1) (.n 2)) (.br (.and (.or (.cmp .eq (.v 0) (.n 6)) (.cmp .eq (.v 0) (.n 7))) (.or (.cmp .lt (.v 3) (.n 0)) (.not (.cmp .lt (.v 3) (.n 8))))) (.ret 0 [(.n 0), (.n 3), (.n 1), (.n 0)]) (.br (.cmp .eq (.v 0) (.n 6)) (.br (.cmp .lt (.v 3) (.n 0)) (.fail 156) (.lt none (.shl .i64 (.v 2) (.v 3)) (.call 19 [(.v 1), (.v 6)] [2] (.ret 0 [(.v 7), (.n 0), (.n 0), (.n 0)]) [] (.fail 345)))) (.br (.cmp .eq (.v 0) (.n 7)) (.br (.cmp .lt (.v 3) (.n 0)) (.fail 157) (.lt none (.shr .i64 (.v 2) (.v 3)) (.call 19 [(.v 1), (.v 6)] [2] (.ret 0 [(.v 7), (.n 0), (.n 0), (.n 0)]) [] (.fail 345)))) (.br (.cmp .eq (.v 3) (.n 0)) (.ret 0 [(.n 0), (.n 2), (.n 1), (.n 0)]) (.br (.and (.cmp .eq (.v 2) (.n (-9223372036854775808))) (.cmp .eq (.v 3) (.n (-1)))) (.ret 0 [(.n 0), (.n 3), (.n 2), (.n 0)]) (.br (.cmp .eq (.v 0) (.n 2)) (.lt none (.quo .i64 (.v 2) (.v 3)) (.call 19 [(.v 1), (.v 6)] [2] (.ret 0 [(.v 7), (.n 0), (.n 0), (.n 0)]) [] (.fail 345))) (.lt none (.rem (.v 2) (.v 3)) (.call 19 [(.v 1), (.v 6)] [2] (.ret 0 [(.v 7), (.n 0), (.n 0), (.n 0)]) [] (.fail 345))))))))) (.br (.and (.or (.cmp .eq (.v 0) (.n 6)) (.cmp .eq (.v 0) (.n 7))) (.or (.cmp .lt (.v 3) (.n 0)) (.not (.cmp .lt (.v 3) (.n 64))))) (.ret 0 [(.n 0), (.n 3), (.n 1), (.n 0)]) (.br (.cmp .eq (.v 0) (.n 6)) (.br (.cmp .lt (.v 3) (.n 0)) (.fail 156) (.lt none (.shl .i64 (.v 2) (.v 3)) (.call 19 [(.v 1), (.v 6)] [2] (.ret 0 [(.v 7), (.n 0), (.n 0), (.n 0)]) [] (.fail 345)))) (.br (.cmp .eq (.v 0) (.n 7)) (.br (.cmp .lt (.v 3) (.n 0)) (.fail 157) (.lt none (.shr .i64 (.v 2) (.v 3)) (.call 19 [(.v 1), (.v 6)] [2] (.ret 0 [(.v 7), (.n 0), (.n 0), (.n 0)]) [] (.fail 345)))) (.br (.cmp .eq (.v 3) (.n 0)) (.ret 0 [(.n 0), (.n 2), (.n 1), (.n 0)]) (.br (.and (.cmp .eq (.v 2) (.n (-9223372036854775808))) (.cmp .eq (.v 3) (.n (-1)))) (.ret 0 [(.n 0), (.n 3), (.n 2), (.n 0)]) (.br (.cmp .eq (.v 0) (.n 2)) (.lt none (.quo .i64 (.v 2) (.v 3)) (.call 19 [(.v 1), (.v 6)] [2] (.ret 0 [(.v 7), (.n 0), (.n 0), (.n 0)]) [] (.fail 345))) (.lt none (.rem (.v 2) (.v 3)) (.call 19 [(.v 1), (.v 6)] [2] (.ret 0 [(.v 7), (.n 0), (.n 0), (.n 0)]) [] (.fail 345)))))))))) (.br (.cmp .eq (.v 0) (.n 1)) (.lt none (.mul .i64 (.v 2) (.v 3)) (.call 19 [(.v 1), (.v 6)] [2] (.ret 0 [(.v 7), (.n 0), (.n 0), (.n 0)]) [] (.fail 345))) (.br (.cmp .eq (.v 0) (.n 2)) (.br (.cmp .eq (.v 1) (.n 2)) (.br (.and (.or (.cmp .eq (.v 0) (.n 6)) (.cmp .eq (.v 0) (.n 7))) (.or (.cmp .lt (.v 3) (.n 0)) (.not (.cmp .lt (.v 3) (.n 8))))) (.ret 0 [(.n 0), (.n 3), (.n 1), (.n 0)]) (.br (.cmp .eq (.v 0) (.n 6)) (.br (.cmp .lt (.v 3) (.n 0)) (.fail 156) (.lt none (.shl .i64 (.v 2) (.v 3)) (.call 19 [(.v 1), (.v 6)] [2] (.ret 0 [(.v 7), (.n 0), (.n 0), (.n 0)]) [] (.fail 345)))) (.br (.cmp .eq (.v 0) (.n 7)) (.br (.cmp .lt (.v 3) (.n 0)) (.fail 157) (.lt none (.shr .i64 (.v 2) (.v 3)) (.call 19 [(.v 1), (.v 6)] [2] (.ret 0 [(.v 7), (.n 0), (.n 0), (.n 0)]) [] (.fail 345)))) (.br (.cmp .eq (.v 3) (.n 0)) (.ret 0 [(.n 0), (.n 2), (.n 1), (.n 0)]) (.br (.and (.cmp .eq (.v 2) (.n (-9223372036854775808))) (.cmp .eq (.v 3) (.n (-1)))) (.ret 0 [(.n 0), (.n 3), (.n 2), (.n 0)]) (.lt none (.quo .i64 (.v 2) (.v 3)) (.call 19 [(.v 1), (.v 6)] [2] (.ret 0 [(.v 7), (.n 0), (.n 0), (.n 0)]) [] (.fail 345)))))))) (.br (.and (.or (.cmp .eq (.v 0) (.n 6)) (.cmp .eq (.v 0) (.n 7))) (.or (.cmp .lt (.v 3) (.n 0)) (.not (.cmp .lt (.v 3) (.n 64))))) (.ret 0 [(.n 0), (.n 3), (.n 1), (.n 0)]) (.br (.cmp .eq (.v 0) (.n 6)) (.br (.cmp .lt (.v 3) (.n 0)) (.fail 156) (.lt none (.shl .i64 (.v 2) (.v 3)) (.call 19 [(.v 1), (.v 6)] [2] (.ret 0 [(.v 7), (.n 0), (.n 0), (.n 0)]) [] (.fail 345)))) (.br (.cmp .eq (.v 0) (.n 7)) (.br (.cmp .lt (.v 3) (.n 0)) (.fail 157) (.lt none (.shr .i64 (.v 2) (.v 3)) (.call 19 [(.v 1), (.v 6)] [2] (.ret 0 [(.v 7), (.n 0), (.n 0), (.n 0)]) [] (.fail 345)))) (.br (.cmp .eq (.v 3) (.n 0)) (.ret 0 [(.n 0), (.n 2), (.n 1), (.n 0)]) (.br (.and (.cmp .eq (.v 2) (.n (-9223372036854775808))) (.cmp .eq (.v 3) (.n (-1)))) (.ret 0 [(.n 0), (.n 3), (.n 2), (.n 0)]) (.lt none (.quo .i64 (.v 2) (.v 3)) (.call 19 [(.v 1), (.v 6)] [2] (.ret 0 [(.v 7), (.n 0), (.n 0), (.n 0)]) [] (.fail 345))))))))) (.br (.cmp .eq (.v 0) (.n 3)) (.br (.cmp .eq (.v 1) (.n 2)) (.br (.and (.or (.cmp .eq (.v 0) (.n 6)) (.cmp .eq (.v 0) (.n 7))) (.or (.cmp .lt (.v 3) (.n 0)) (.not (.cmp .lt (.v 3) (.n 8))))) (.ret 0 [(.n 0), (.n 3), (.n 1), (.n 0)]) (.br (.cmp .eq (.v 0) (.n 6)) (.br (.cmp .lt (.v 3) (.n 0)) (.fail 156) (.lt none (.shl .i64 (.v 2) (.v 3)) (.call 19 [(.v 1), (.v 6)] [2] (.ret 0 [(.v 7), (.n 0), (.n 0), (.n 0)]) [] (.fail 345)))) (.br (.cmp .eq (.v 0) (.n 7)) (.br (.cmp .lt (.v 3) (.n 0)) (.fail 157) (.lt none (.shr .i64 (.v 2) (.v 3)) (.call 19 [(.v 1), (.v 6)] [2] (.ret 0 [(.v 7), (.n 0), (.n 0), (.n 0)]) [] (.fail 345)))) (.br (.cmp .eq (.v 3) (.n 0)) (.ret 0 [(.n 0), (.n 2), (.n 1), (.n 0)]) (.br (.and (.cmp .eq (.v 2) (.n (-9223372036854775808))) (.cmp .eq (.v 3) (.n (-1)))) (.ret 0 [(.n 0), (.n 3), (.n 2), (.n 0)]) (.lt none (.rem (.v 2) (.v 3)) (.call 19 [(.v 1), (.v 6)] [2] (.ret 0 [(.v 7), (.n 0), (.n 0), (.n 0)]) [] (.fail 345)))))))) (.br (.and (.or (.cmp .eq (.v 0) (.n 6)) (.cmp .eq (.v 0) (.n 7))) (.or (.cmp .lt (.v 3) (.n 0)) (.not (.cmp .lt (.v 3) (.n 64))))) (.ret 0 [(.n 0), (.n 3), (.n 1), (.n 0)]) (.br (.cmp .eq (.v 0) (.n 6)) (.br (.cmp .lt (.v 3) (.n 0)) (.fail 156) (.lt none (.shl .i64 (.v 2) (.v 3)) (.call 19 [(.v 1), (.v 6)] [2] (.ret 0 [(.v 7), (.n 0), (.n 0), (.n 0)]) [] (.fail 345)))) (.br (.cmp .eq (.v 0) (.n 7)) (.br (.cmp .lt (.v 3) (.n 0)) (.fail 157) (.lt none (.shr .i64 (.v 2) (.v 3)) (.call 19 [(.v 1), (.v 6)] [2] (.ret 0 [(.v 7), (.n 0), (.n 0), (.n 0)]) [] (.fail 345)))) (.br (.cmp .eq (.v 3) (.n 0)) (.ret 0 [(.n 0), (.n 2), (.n 1), (.n 0)]) (.br (.and (.cmp .eq (.v 2) (.n (-9223372036854775808))) (.cmp .eq (.v 3) (.n (-1)))) (.ret 0 [(.n 0), (.n 3), (.n 2), (.n 0)]) (.lt none (.rem (.v 2) (.v 3)) (.call 19 [(.v 1), (.v 6)] [2] (.ret 0 [(.v 7), (.n 0), (.n 0), (.n 0)]) [] (.fail 345))))))))) (.br (.cmp .eq (.v 0) (.n 4)) (.lt none (.add .i64 (.v 2) (.v 3)) (.call 19 [(.v 1), (.v 6)] [2] (.ret 0 [(.v 7), (.n 0), (.n 0), (.n 0)]) [] (.fail 345))) (.br (.cmp .eq (.v 0) (.n 5)) (.lt none (.sub .i64 (.v 2) (.v 3)) (.call 19 [(.v 1), (.v 6)] [2] (.ret 0 [(.v 7), (.n 0), (.n 0), (.n 0)]) [] (.fail 345))) (.br (.cmp .eq (.v 0) (.n 6)) (.br (.cmp .eq (.v 1) (.n 2)) (.br (.or (.cmp .lt (.v 3) (.n 0)) (.not (.cmp .lt (.v 3) (.n 8)))) (.ret 0 [(.n 0), (.n 3), (.n 1), (.n 0)]) (.lt none (.shl .i64 (.v 2) (.v 3)) (.call 19 [(.v 1), (.v 6)] [2] (.ret 0 [(.v 7), (.n 0), (.n 0), (.n 0)]) [] (.fail 345)))) (.br (.or (.cmp .lt (.v 3) (.n 0)) (.not (.cmp .lt (.v 3) (.n 64)))) (.ret 0 [(.n 0), (.n 3), (.n 1), (.n 0)]) (.lt none (.shl .i64 (.v 2) (.v 3)) (.call 19 [(.v 1), (.v 6)] [2] (.ret 0 [(.v 7), (.n 0), (.n 0), (.n 0)]) [] (.fail 345))))) (.br (.cmp .eq (.v 0) (.n 7)) (.br (.cmp .eq (.v 1) (.n 2)) (.br (.and (.or (.cmp .eq (.v 0) (.n 6)) (.cmp .eq (.v 0) (.n 7))) (.or (.cmp .lt (.v 3) (.n 0)) (.not (.cmp .lt (.v 3) (.n 8))))) (.ret 0 [(.n 0), (.n 3), (.n 1), (.n 0)]) (.br (.cmp .lt (.v 3) (.n 0)) (.fail 157) (.lt none (.shr .i64 (.v 2) (.v 3)) (.call 19 [(.v 1), (.v 6)] [2] (.ret 0 [(.v 7), (.n 0), (.n 0), (.n 0)]) [] (.fail 345))))) (.br (.and (.or (.cmp .eq (.v 0) (.n 6)) (.cmp .eq (.v 0) (.n 7))) (.or (.cmp .lt (.v 3) (.n 0)) (.not (.cmp .lt (.v 3) (.n 64))))) (.ret 0 [(.n 0), (.n 3), (.n 1), (.n 0)]) (.br (.cmp .lt (.v 3) (.n 0)) (.fail 157) (.lt none (.shr .i64 (.v 2) (.v 3)) (.call 19 [(.v 1), (.v 6)] [2] (.ret 0 [(.v 7), (.n 0), (.n 0), (.n 0)]) [] (.fail 345)))))) (.br (.cmp .eq (.v 0) (.n 8)) (.lt none (.band .i64 (.v 2) (.v 3)) (.call 19 [(.v 1), (.v 6)] [2] (.ret 0 [(.v 7), (.n 0), (.n 0), (.n 0)]) [] (.fail 345))) (.br (.cmp .eq (.v 0) (.n 9)) (.lt none (.bxor .i64 (.v 2) (.v 3)) (.call 19 [(.v 1), (.v 6)] [2] (.ret 0 [(.v 7), (.n 0), (.n 0), (.n 0)]) [] (.fail 345))) (.br (.cmp .eq (.v 0) (.n 10)) (.lt none (.bor .i64 (.v 2) (.v 3)) (.call 19 [(.v 1), (.v 6)] [2] (.ret 0 [(.v 7), (.n 0), (.n 0), (.n 0)]) [] (.fail 345))) (.br (.cmp .eq (.v 0) (.n 11)) (.br (.cmp .eq (.v 2) (.v 3)) (.call 19 [(.v 1), (.n 1)] [2] (.ret 0 [(.v 6), (.n 0), (.n 0), (.n 0)]) [] (.fail 345)) (.call 19 [(.v 1), (.n 0)] [2] (.ret 0 [(.v 6), (.n 0), (.n 0), (.n 0)]) [] (.fail 345))) (.br (.not (.cmp .eq (.v 2) (.v 3))) (.call 19 [(.v 1), (.n 1)] [2] (.ret 0 [(.v 6), (.n 0), (.n 0), (.n 0)]) [] (.fail 345)) (.call 19 [(.v 1), (.n 0)] [2] (.ret 0 [(.v 6), (.n 0), (.n 0), (.n 0)]) [] (.fail 345))))))))))))))) (.br (.or (.or (.not (.is (.v 4))) (.not (.is (.v 5)))) (.not (.or (.and (.not (.cmp .lt (.v 0) (.n 17))) (.cmp .eq (.v 1) (.n 3))) (.and (.cmp .lt (.v 0) (.n 17)) (.not (.cmp .eq (.v 1) (.n 3))))))) (.ret 0 [(.n 0), (.n 0), (.n 0), (.n 2)]) (.br (.cmp .eq (.v 0) (.n 0)) (.br (.cmp .eq (.v 1) (.n 2)) (.br (.and (.or (.cmp .eq (.v 0) (.n 6)) (.cmp .eq (.v 0) (.n 7))) (.or (.cmp .lt (.v 3) (.n 0)) (.not (.cmp .lt (.v 3) (.n 8))))) (.ret 0 [(.n 0), (.n 3), (.n 1), (.n 0)]) (.br (.cmp .eq (.v 0) (.n 6)) (.br (.cmp .lt (.v 3) (.n 0)) (.fail 156) (.lt none (.shl .i64 (.v 2) (.v 3)) (.call 19 [(.v 1), (.v 6)] [2] (.ret 0 [(.v 7), (.n 0), (.n 0), (.n 0)]) [] (.fail 345)))) (.br (.cmp .eq (.v 0) (.n 7)) (.br (.cmp .lt (.v 3) (.n 0)) (.fail 157) (.lt none (.shr .i64 (.v 2) (.v 3)) (.call 19 [(.v 1), (.v 6)] [2] (.ret 0 [(.v 7), (.n 0), (.n 0), (.n 0)]) [] (.fail 345)))) (.br (.cmp .eq (.v 3) (.n 0)) (.ret 0 [(.n 0), (.n 2), (.n 1), (.n 0)]) (.br (.and (.cmp .eq (.v 2) (.n (-9223372036854775808))) (.cmp .eq (.v 3) (.n (-1)))) (.ret 0 [(.n 0), (.n 3), (.n 2), (.n 0)]) (.br (.cmp .eq (.v 0) (.n 2)) (.lt none (.quo .i64 (.v 2) (.v 3)) (.call 19 [(.v 1), (.v 6)] [2] (.ret 0 [(.v 7), (.n 0), (.n 0), (.n 0)]) [] (.fail 345))) (.lt none (.rem (.v 2) (.v 3)) (.call 19 [(.v 1), (.v 6)] [2] (.ret 0 [(.v 7), (.n 0), (.n 0), (.n 0)]) [] (.fail 345))))))))) (.br (.and (.or (.cmp .eq (.v 0) (.n 6)) (.cmp .eq (.v 0) (.n 7))) (.or (.cmp .lt (.v 3) (.n 0)) (.not (.cmp .lt (.v 3) (.n 64))))) (.ret 0 [(.n 0), (.n 3), (.n 1), (.n 0)]) (.br (.cmp .eq (.v 0) (.n 6)) (.br (.cmp .lt (.v 3) (.n 0)) (.fail 156) (.lt none (.shl .i64 (.v 2) (.v 3)) (.call 19 [(.v 1), (.v 6)] [2] (.ret 0 [(.v 7), (.n 0), (.n 0), (.n 0)]) [] (.fail 345)))) (.br (.cmp .eq (.v 0) (.n 7)) (.br (.cmp .lt (.v 3) (.n 0)) (.fail 157) (.lt none (.shr .i64 (.v 2) (.v 3)) (.call 19 [(.v 1), (.v 6)] [2] (.ret 0 [(.v 7), (.n 0), (.n 0), (.n 0)]) [] (.fail 345)))) (.br (.cmp .eq (.v 3) (.n 0)) (.ret 0 [(.n 0), (.n 2), (.n 1), (.n 0)]) (.br (.and (.cmp .eq (.v 2) (.n (-9223372036854775808))) (.cmp .eq (.v 3) (.n (-1)))) (.ret 0 [(.n 0), (.n 3), (.n 2), (.n 0)]) (.br (.cmp .eq (.v 0) (.n 2)) (.lt none (.quo .i64 (.v 2) (.v 3)) (.call 19 [(.v 1), (.v 6)] [2] (.ret 0 [(.v 7), (.n 0), (.n 0), (.n 0)]) [] (.fail 345))) (.lt none (.rem (.v 2) (.v 3)) (.call 19 [(.v 1), (.v 6)] [2] (.ret 0 [(.v 7), (.n 0), (.n 0), (.n 0)]) [] (.fail 345)))))))))) (.br (.cmp .eq (.v 0) (.n 1)) (.lt none (.mul .i64 (.v 2) (.v 3)) (.call 19 [(.v 1), (.v 6)] [2] (.ret 0 [(.v 7), (.n 0), (.n 0), (.n 0)]) [] (.fail 345))) (.br (.cmp .eq (.v 0) (.n 2)) (.br (.cmp .eq (.v 1) (.n 2)) (.br (.and (.or (.cmp .eq (.v 0) (.n 6)) (.cmp .eq (.v 0) (.n 7))) (.or (.cmp .lt (.v 3) (.n 0)) (.not (.cmp .lt (.v 3) (.n 8))))) (.ret 0 [(.n 0), (.n 3), (.n 1), (.n 0)]) (.br (.cmp .eq (.v 0) (.n 6)) (.br (.cmp .lt (.v 3) (.n 0)) (.fail 156) (.lt none (.shl .i64 (.v 2) (.v 3)) (.call 19 [(.v 1), (.v 6)] [2] (.ret 0 [(.v 7), (.n 0), (.n 0), (.n 0)]) [] (.fail 345)))) (.br (.cmp .eq (.v 0) (.n 7)) (.br (.cmp .lt (.v 3) (.n 0)) (.fail 157) (.lt none (.shr .i64 (.v 2) (.v 3)) (.call 19 [(.v 1), (.v 6)] [2] (.ret 0 [(.v 7), (.n 0), (.n 0), (.n 0)]) [] (.fail 345)))) (.br (.cmp .eq (.v 3) (.n 0)) (.ret 0 [(.n 0), (.n 2), (.n 1), (.n 0)]) (.br (.and (.cmp .eq (.v 2) (.n (-9223372036854775808))) (.cmp .eq (.v 3) (.n (-1)))) (.ret 0 [(.n 0), (.n 3), (.n 2), (.n 0)]) (.lt none (.quo .i64 (.v 2) (.v 3)) (.call 19 [(.v 1), (.v 6)] [2] (.ret 0 [(.v 7), (.n 0), (.n 0), (.n 0)]) [] (.fail 345)))))))) (.br (.and (.or (.cmp .eq (.v 0) (.n 6)) (.cmp .eq (.v 0) (.n 7))) (.or (.cmp .lt (.v 3) (.n 0)) (.not (.cmp .lt (.v 3) (.n 64))))) (.ret 0 [(.n 0), (.n 3), (.n 1), (.n 0)]) (.br (.cmp .eq (.v 0) (.n 6)) (.br (.cmp .lt (.v 3) (.n 0)) (.fail 156) (.lt none (.shl .i64 (.v 2) (.v 3)) (.call 19 [(.v 1), (.v 6)] [2] (.ret 0 [(.v 7), (.n 0), (.n 0), (.n 0)]) [] (.fail 345)))) (.br (.cmp .eq (.v 0) (.n 7)) (.br (.cmp .lt (.v 3) (.n 0)) (.fail 157) (.lt none (.shr .i64 (.v 2) (.v 3)) (.call 19 [(.v 1), (.v 6)] [2] (.ret 0 [(.v 7), (.n 0), (.n 0), (.n 0)]) [] (.fail 345)))) (.br (.cmp .eq (.v 3) (.n 0)) (.ret 0 [(.n 0), (.n 2), (.n 1), (.n 0)]) (.br (.and (.cmp .eq (.v 2) (.n (-9223372036854775808))) (.cmp .eq (.v 3) (.n (-1)))) (.ret 0 [(.n 0), (.n 3), (.n 2), (.n 0)]) (.lt none (.quo .i64 (.v 2) (.v 3)) (.call 19 [(.v 1), (.v 6)] [2] (.ret 0 [(.v 7), (.n 0), (.n 0), (.n 0)]) [] (.fail 345))))))))) (.br (.cmp .eq (.v 0) (.n 3)) (.br (.cmp .eq (.v 1) (.n 2)) (.br (.and (.or (.cmp .eq (.v 0) (.n 6)) (.cmp .eq (.v 0) (.n 7))) (.or (.cmp .lt (.v 3) (.n 0)) (.not (.cmp .lt (.v 3) (.n 8))))) (.ret 0 [(.n 0), (.n 3), (.n 1), (.n 0)]) (.br (.cmp .eq (.v 0) (.n 6)) (.br (.cmp .lt (.v 3) (.n 0)) (.fail 156) (.lt none (.shl .i64 (.v 2) (.v 3)) (.call 19 [(.v 1), (.v 6)] [2] (.ret 0 [(.v 7), (.n 0), (.n 0), (.n 0)]) [] (.fail 345)))) (.br (.cmp .eq (.v 0) (.n 7)) (.br (.cmp .lt (.v 3) (.n 0)) (.fail 157) (.lt none (.shr .i64 (.v 2) (.v 3)) (.call 19 [(.v 1), (.v 6)] [2] (.ret 0 [(.v 7), (.n 0), (.n 0), (.n 0)]) [] (.fail 345)))) (.br (.cmp .eq (.v 3) (.n 0)) (.ret 0 [(.n 0), (.n 2), (.n 1), (.n 0)]) (.br (.and (.cmp .eq (.v 2) (.n (-9223372036854775808))) (.cmp .eq (.v 3) (.n (-1)))) (.ret 0 [(.n 0), (.n 3), (.n 2), (.n 0)]) (.lt none (.rem (.v 2) (.v 3)) (.call 19 [(.v 1), (.v 6)] [2] (.ret 0 [(.v 7), (.n 0), (.n 0), (.n 0)]) [] (.fail 345)))))))) (.br (.and (.or (.cmp .eq (.v 0) (.n 6)) (.cmp .eq (.v 0) (.n 7))) (.or (.cmp .lt (.v 3) (.n 0)) (.not (.cmp .lt (.v 3) (.n 64))))) (.ret 0 [(.n 0), (.n 3), (.n 1), (.n 0)]) (.br (.cmp .eq (.v 0) (.n 6)) (.br (.cmp .lt (.v 3) (.n 0)) (.fail 156) (.lt none (.shl .i64 (.v 2) (.v 3)) (.call 19 [(.v 1), (.v 6)] [2] (.ret 0 [(.v 7), (.n 0), (.n 0), (.n 0)]) [] (.fail 345)))) (.br (.cmp .eq (.v 0) (.n 7)) (.br (.cmp .lt (.v 3) (.n 0)) (.fail 157) (.lt none (.shr .i64 (.v 2) (.v 3)) (.call 19 [(.v 1), (.v 6)] [2] (.ret 0 [(.v 7), (.n 0), (.n 0), (.n 0)]) [] (.fail 345)))) (.br (.cmp .eq (.v 3) (.n 0)) (.ret 0 [(.n 0), (.n 2), (.n 1), (.n 0)]) (.br (.and (.cmp .eq (.v 2) (.n (-9223372036854775808))) (.cmp .eq (.v 3) (.n (-1)))) (.ret 0 [(.n 0), (.n 3), (.n 2), (.n 0)]) (.lt none (.rem (.v 2) (.v 3)) (.call 19 [(.v 1), (.v 6)] [2] (.ret 0 [(.v 7), (.n 0), (.n 0), (.n 0)]) [] (.fail 345))))))))) (.br (.cmp .eq (.v 0) (.n 4)) (.lt none (.add .i64 (.v 2) (.v 3)) (.call 19 [(.v 1), (.v 6)] [2] (.ret 0 [(.v 7), (.n 0), (.n 0), (.n 0)]) [] (.fail 345))) (.br (.cmp .eq (.v 0) (.n 5)) (.lt none (.sub .i64 (.v 2) (.v 3)) (.call 19 [(.v 1), (.v 6)] [2] (.ret 0 [(.v 7), (.n 0), (.n 0), (.n 0)]) [] (.fail 345))) (.br (.cmp .eq (.v 0) (.n 6)) (.br (.cmp .eq (.v 1) (.n 2)) (.br (.or (.cmp .lt (.v 3) (.n 0)) (.not (.cmp .lt (.v 3) (.n 8)))) (.ret 0 [(.n 0), (.n 3), (.n 1), (.n 0)]) (.lt none (.shl .i64 (.v 2) (.v 3)) (.call 19 [(.v 1), (.v 6)] [2] (.ret 0 [(.v 7), (.n 0), (.n 0), (.n 0)]) [] (.fail 345)))) (.br (.or (.cmp .lt (.v 3) (.n 0)) (.not (.cmp .lt (.v 3) (.n 64)))) (.ret 0 [(.n 0), (.n 3), (.n 1), (.n 0)]) (.lt none (.shl .i64 (.v 2) (.v 3)) (.call 19 [(.v 1), (.v 6)] [2] (.ret 0 [(.v 7), (.n 0), (.n 0), (.n 0)]) [] (.fail 345))))) (.br (.cmp .eq (.v 0) (.n 7)) (.br (.cmp .eq (.v 1) (.n 2)) (.br (.and (.or (.cmp .eq (.v 0) (.n 6)) (.cmp .eq (.v 0) (.n 7))) (.or (.cmp .lt (.v 3) (.n 0)) (.not (.cmp .lt (.v 3) (.n 8))))) (.ret 0 [(.n 0), (.n 3), (.n 1), (.n 0)]) (.br (.cmp .lt (.v 3) (.n 0)) (.fail 157) (.lt none (.shr .i64 (.v 2) (.v 3)) (.call 19 [(.v 1), (.v 6)] [2] (.ret 0 [(.v 7), (.n 0), (.n 0), (.n 0)]) [] (.fail 345))))) (.br (.and (.or (.cmp .eq (.v 0) (.n 6)) (.cmp .eq (.v 0) (.n 7))) (.or (.cmp .lt (.v 3) (.n 0)) (.not (.cmp .lt (.v 3) (.n 64))))) (.ret 0 [(.n 0), (.n 3), (.n 1), (.n 0)]) (.br (.cmp .lt (.v 3) (.n 0)) (.fail 157) (.lt none (.shr .i64 (.v 2) (.v 3)) (.call 19 [(.v 1), (.v 6)] [2] (.ret 0 [(.v 7), (.n 0), (.n 0), (.n 0)]) [] (.fail 345)))))) (.br (.cmp .eq (.v 0) (.n 8)) (.lt none (.band .i64 (.v 2) (.v 3)) (.call 19 [(.v 1), (.v 6)] [2] (.ret 0 [(.v 7), (.n 0), (.n 0), (.n 0)]) [] (.fail 345))) (.br (.cmp .eq (.v 0) (.n 9)) (.lt none (.bxor .i64 (.v 2) (.v 3)) (.call 19 [(.v 1), (.v 6)] [2] (.ret 0 [(.v 7), (.n 0), (.n 0), (.n 0)]) [] (.fail 345))) (.br (.cmp .eq (.v 0) (.n 10)) (.lt none (.bor .i64 (.v 2) (.v 3)) (.call 19 [(.v 1), (.v 6)] [2] (.ret 0 [(.v 7), (.n 0), (.n 0), (.n 0)]) [] (.fail 345))) (.br (.cmp .eq (.v 0) (.n 13)) (.br (.cmp .lt (.v 2) (.v 3)) (.call 19 [(.v 1), (.n 1)] [2] (.ret 0 [(.v 6), (.n 0), (.n 0), (.n 0)]) [] (.fail 345)) (.call 19 [(.v 1), (.n 0)] [2] (.ret 0 [(.v 6), (.n 0), (.n 0), (.n 0)]) [] (.fail 345))) (.br (.cmp .eq (.v 0) (.n 14)) (.br (.not (.cmp .lt (.v 3) (.v 2))) (.call 19 [(.v 1), (.n 1)] [2] (.ret 0 [(.v 6), (.n 0), (.n 0), (.n 0)]) [] (.fail 345)) (.call 19 [(.v 1), (.n 0)] [2] (.ret 0 [(.v 6), (.n 0), (.n 0), (.n 0)]) [] (.fail 345))) (.br (.cmp .eq (.v 0) (.n 15)) (.br (.cmp .lt (.v 3) (.v 2)) (.call 19 [(.v 1), (.n 1)] [2] (.ret 0 [(.v 6), (.n 0), (.n 0), (.n 0)]) [] (.fail 345)) (.call 19 [(.v 1), (.n 0)] [2] (.ret 0 [(.v 6), (.n 0), (.n 0), (.n 0)]) [] (.fail 345))) (.br (.cmp .eq (.v 0) (.n 16)) (.br (.not (.cmp .lt (.v 2) (.v 3))) (.call 19 [(.v 1), (.n 1)] [2] (.ret 0 [(.v 6), (.n 0), (.n 0), (.n 0)]) [] (.fail 345)) (.call 19 [(.v 1), (.n 0)] [2] (.ret 0 [(.v 6), (.n 0), (.n 0), (.n 0)]) [] (.fail 345))) (.br (.cmp .eq (.v 0) (.n 17)) (.lt none (.band .i64 (.v 2) (.v 3)) (.call 19 [(.v 1), (.v 6)] [2] (.ret 0 [(.v 7), (.n 0), (.n 0), (.n 0)]) [] (.fail 345))) (.br (.cmp .eq (.v 0) (.n 18)) (.lt none (.bor .i64 (.v 2) (.v 3)) (.call 19 [(.v 1), (.v 6)] [2] (.ret 0 [(.v 7), (.n 0), (.n 0), (.n 0)]) [] (.fail 345))) (.fail 106))))))))))))))))))))) (.ret 0 [(.n 0), (.n 0), (.n 0), (.n 2)])) [] (.fail 345)) (.ret 0 [(.n 0), (.n 0), (.n 0), (.n 2)])) [] (.fail 345))
theorem qu8 : sxFunc (Xl [c18, c19]) 400 8 ⟨[.dat 3, .dat 3, .dat 2, .dat 2], [], ⟨[.dat 2, .dat 3, .dat 3, .dat 24], []⟩, none⟩ = u8 := by kernel_rfl
def u9 : T := (.br (.not (.or (.or (.or (.cmp .lt (.v 1) (.n 1)) (.cmp .lt (.n 3) (.v 1))) (.cmp .lt (.v 0) (.n 1))) (.cmp .lt (.n 18) (.v 0)))) (.call 20 [(.v 1), (.v 2)] [4] (.br (.not (.or (.or (.or (.or (.cmp .lt (.v 1) (.n 1)) (.cmp .lt (.n 3) (.v 1))) (.cmp .lt (.v 0) (.n 1))) (.cmp .lt (.n 18) (.v 0))) (.not (.is (.v 4))))) (.call 20 [(.v 1), (.v 3)] [4] (.br (.or (.or (.or (.or (.or (.cmp .lt (.v 1) (.n 1)) (.cmp .lt (.n 3) (.v 1))) (.cmp .lt (.v 0) (.n 1))) (.cmp .lt (.n 18) (.v 0))) (.not (.is (.v 4)))) (.not (.is (.v 5)))) (.ret 0 [(.n 0), (.n 0), (.n 0), (.n 2)]) (.lt none (.mk [(.v 1), (.n 0)]) (.call 24 [(.v 0), (.v 6)] [48, 4] (.br (.not (.is (.v 8))) (.ret 0 [(.n 0), (.n 0), (.n 0), (.n 2)]) (.br (.cmp .eq (.v 1) (.n 2)) (.br (.cmp .eq (.v 0) (.n 1)) (.lt none (.mul .i64 (.v 2) (.v 3)) (.call 21 [(.v 1), (.v 9)] [2] (.ret 0 [(.v 10), (.n 0), (.n 0), (.n 0)]) [] (.fail 345))) (.br (.cmp .eq (.v 0) (.n 4)) (.lt none (.add .i64 (.v 2) (.v 3)) (.call 21 [(.v 1), (.v 9)] [2] (.ret 0 [(.v 10), (.n 0), (.n 0), (.n 0)]) [] (.fail 345))) (.br (.cmp .eq (.v 0) (.n 5)) (.lt none (.sub .i64 (.v 2) (.v 3)) (.call 21 [(.v 1), (.v 9)] [2] (.ret 0 [(.v 10), (.n 0), (.n 0), (.n 0)]) [] (.fail 345))) (.br (.cmp .eq (.v 0) (.n 2)) (.br (.cmp .eq (.v 3) (.n 0)) (.ret 0 [(.n 0), (.n 2), (.n 1), (.n 0)]) (.br (.and (.cmp .eq (.v 2) (.n (-9223372036854775808))) (.cmp .eq (.v 3) (.n (-1)))) (.ret 0 [(.n 0), (.n 3), (.n 2), (.n 0)]) (.lt none (.quo .i64 (.v 2) (.v 3)) (.br (.cmp .eq (.v 0) (.n 3)) (.lt none (.mul .i64 (.v 9) (.v 3)) (.lt none (.sub .i64 (.v 2) (.v 10)) (.call 21 [(.v 1), (.v 11)] [2] (.ret 0 [(.v 12), (.n 0), (.n 0), (.n 0)]) [] (.fail 345)))) (.call 21 [(.v 1), (.v 9)] [2] (.ret 0 [(.v 10), (.n 0), (.n 0), (.n 0)]) [] (.fail 345)))))) (.br (.cmp .eq (.v 0) (.n 3)) (.br (.cmp .eq (.v 3) (.n 0)) (.ret 0 [(.n 0), (.n 2), (.n 1), (.n 0)]) (.br (.and (.cmp .eq (.v 2) (.n (-9223372036854775808))) (.cmp .eq (.v 3) (.n (-1)))) (.ret 0 [(.n 0), (.n 3), (.n 2), (.n 0)]) (.lt none (.quo .i64 (.v 2) (.v 3)) (.lt none (.mul .i64 (.v 9) (.v 3)) (.lt none (.sub .i64 (.v 2) (.v 10)) (.call 21 [(.v 1), (.v 11)] [2] (.ret 0 [(.v 12), (.n 0), (.n 0), (.n 0)]) [] (.fail 345))))))) (.br (.cmp .eq (.v 0) (.n 6)) (.br (.or (.cmp .lt (.v 3) (.n 0)) (.not (.cmp .lt (.v 3) (.n 8)))) (.ret 0 [(.n 0), (.n 3), (.n 1), (.n 0)]) (.call 25 [(.v 0), (.v 1), (.v 2), (.v 3)] [2] (.call 21 [(.v 1), (.v 9)] [2] (.ret 0 [(.v 10), (.n 0), (.n 0), (.n 0)]) [] (.fail 345)) [] (.fail 345))) (.br (.cmp .eq (.v 0) (.n 7)) (.br (.or (.cmp .lt (.v 3) (.n 0)) (.not (.cmp .lt (.v 3) (.n 8)))) (.ret 0 [(.n 0), (.n 3), (.n 1), (.n 0)]) (.call 25 [(.v 0), (.v 1), (.v 2), (.v 3)] [2] (.call 21 [(.v 1), (.v 9)] [2] (.ret 0 [(.v 10), (.n 0), (.n 0), (.n 0)]) [] (.fail 345)) [] (.fail 345))) (.br (.cmp .eq (.v 0) (.n 8)) (.lt none (.band .i64 (.v 2) (.v 3)) (.call 21 [(.v 1), (.v 9)] [2] (.ret 0 [(.v 10), (.n 0), (.n 0), (.n 0)]) [] (.fail 345))) (.br (.cmp .eq (.v 0) (.n 17)) (.lt none (.band .i64 (.v 2) (.v 3)) (.call 21 [(.v 1), (.v 9)] [2] (.ret 0 [(.v 10), (.n 0), (.n 0), (.n 0)]) [] (.fail 345))) (.br (.cmp .eq (.v 0) (.n 9)) (.lt none (.bxor .i64 (.v 2) (.v 3)) (.call 21 [(.v 1), (.v 9)] [2] (.ret 0 [(.v 10), (.n 0), (.n 0), (.n 0)]) [] (.fail 345))) (.br (.cmp .eq (.v 0) (.n 10)) (.lt none (.bor .i64 (.v 2) (.v 3)) (.call 21 [(.v 1), (.v 9)] [2] (.ret 0 [(.v 10), (.n 0), (.n 0), (.n 0)]) [] (.fail 345))) (.br (.cmp .eq (.v 0) (.n 18)) (.lt none (.bor .i64 (.v 2) (.v 3)) (.call 21 [(.v 1), (.v 9)] [2] (.ret 0 [(.v 10), (.n 0), (.n 0), (.n 0)]) [] (.fail 345))) (.call 27 [(.v 0), (.v 2), (.v 3)] [4] (.call 26 [(.v 9)] [2] (.call 21 [(.v 1), (.v 10)] [2] (.ret 0 [(.v 11), (.n 0), (.n 0), (.n 0)]) [] (.fail 345)) [] (.fail 345)) [] (.fail 345)))))))))))))) (.br (.cmp .eq (.v 0) (.n 1)) (.lt none (.mul .i64 (.v 2) (.v 3)) (.call 21 [(.v 1), (.v 9)] [2] (.ret 0 [(.v 10), (.n 0), (.n 0), (.n 0)]) [] (.fail 345))) (.br (.cmp .eq (.v 0) (.n 4)) (.lt none (.add .i64 (.v 2) (.v 3)) (.call 21 [(.v 1), (.v 9)] [2] (.ret 0 [(.v 10), (.n 0), (.n 0), (.n 0)]) [] (.fail 345))) (.br (.cmp .eq (.v 0) (.n 5)) (.lt none (.sub .i64 (.v 2) (.v 3)) (.call 21 [(.v 1), (.v 9)] [2] (.ret 0 [(.v 10), (.n 0), (.n 0), (.n 0)]) [] (.fail 345))) (.br (.cmp .eq (.v 0) (.n 2)) (.br (.cmp .eq (.v 3) (.n 0)) (.ret 0 [(.n 0), (.n 2), (.n 1), (.n 0)]) (.br (.and (.cmp .eq (.v 2) (.n (-9223372036854775808))) (.cmp .eq (.v 3) (.n (-1)))) (.ret 0 [(.n 0), (.n 3), (.n 2), (.n 0)]) (.lt none (.quo .i64 (.v 2) (.v 3)) (.br (.cmp .eq (.v 0) (.n 3)) (.lt none (.mul .i64 (.v 9) (.v 3)) (.lt none (.sub .i64 (.v 2) (.v 10)) (.call 21 [(.v 1), (.v 11)] [2] (.ret 0 [(.v 12), (.n 0), (.n 0), (.n 0)]) [] (.fail 345)))) (.call 21 [(.v 1), (.v 9)] [2] (.ret 0 [(.v 10), (.n 0), (.n 0), (.n 0)]) [] (.fail 345)))))) (.br (.cmp .eq (.v 0) (.n 3)) (.br (.cmp .eq (.v 3) (.n 0)) (.ret 0 [(.n 0), (.n 2), (.n 1), (.n 0)]) (.br (.and (.cmp .eq (.v 2) (.n (-9223372036854775808))) (.cmp .eq (.v 3) (.n (-1)))) (.ret 0 [(.n 0), (.n 3), (.n 2), (.n 0)]) (.lt none (.quo .i64 (.v 2) (.v 3)) (.lt none (.mul .i64 (.v 9) (.v 3)) (.lt none (.sub .i64 (.v 2) (.v 10)) (.call 21 [(.v 1), (.v 11)] [2] (.ret 0 [(.v 12), (.n 0), (.n 0), (.n 0)]) [] (.fail 345))))))) (.br (.cmp .eq (.v 0) (.n 6)) (.br (.or (.cmp .lt (.v 3) (.n 0)) (.not (.cmp .lt (.v 3) (.n 64)))) (.ret 0 [(.n 0), (.n 3), (.n 1), (.n 0)]) (.call 25 [(.v 0), (.v 1), (.v 2), (.v 3)] [2] (.call 21 [(.v 1), (.v 9)] [2] (.ret 0 [(.v 10), (.n 0), (.n 0), (.n 0)]) [] (.fail 345)) [] (.fail 345))) (.br (.cmp .eq (.v 0) (.n 7)) (.br (.or (.cmp .lt (.v 3) (.n 0)) (.not (.cmp .lt (.v 3) (.n 64)))) (.ret 0 [(.n 0), (.n 3), (.n 1), (.n 0)]) (.call 25 [(.v 0), (.v 1), (.v 2), (.v 3)] [2] (.call 21 [(.v 1), (.v 9)] [2] (.ret 0 [(.v 10), (.n 0), (.n 0), (.n 0)]) [] (.fail 345)) [] (.fail 345))) (.br (.cmp .eq (.v 0) (.n 8)) (.lt none (.band .i64 (.v 2) (.v 3)) (.call 21 [(.v 1), (.v 9)] [2] (.ret 0 [(.v 10), (.n 0), (.n 0), (.n 0)]) [] (.fail 345))) (.br (.cmp .eq (.v 0) (.n 17)) (.lt none (.band .i64 (.v 2) (.v 3)) (.call 21 [(.v 1), (.v 9)] [2] (.ret 0 [(.v 10), (.n 0), (.n 0), (.n 0)]) [] (.fail 345))) (.br (.cmp .eq (.v 0) (.n 9)) (.lt none (.bxor .i64 (.v 2) (.v 3)) (.call 21 [(.v 1), (.v 9)] [2] (.ret 0 [(.v 10), (.n 0), (.n 0), (.n 0)]) [] (.fail 345))) (.br (.cmp .eq (.v 0) (.n 10)) (.lt none (.bor .i64 (.v 2) (.v 3)) (.call 21 [(.v 1), (.v 9)] [2] (.ret 0 [(.v 10), (.n 0), (.n 0), (.n 0)]) [] (.fail 345))) (.br (.cmp .eq (.v 0) (.n 18)) (.lt none (.bor .i64 (.v 2) (.v 3)) (.call 21 [(.v 1), (.v 9)] [2] (.ret 0 [(.v 10), (.n 0), (.n 0), (.n 0)]) [] (.fail 345))) (.call 27 [(.v 0), (.v 2), (.v 3)] [4] (.call 26 [(.v 9)] [2] (.call 21 [(.v 1), (.v 10)] [2] (.ret 0 [(.v 11), (.n 0), (.n 0), (.n 0)]) [] (.fail 345)) [] (.fail 345)) [] (.fail 345)))))))))))))))) [] (.fail 345)))) [] (.fail 345)) (.ret 0 [(.n 0), (.n 0), (.n 0), (.n 2)])) [] (.fail 345)) (.ret 0 [(.n 0), (.n 0), (.n 0), (.n 2)]))
theorem qu9 : sxFunc (Xl [c20, c21, c24, c25, c27, c26]) 400 9 ⟨[.dat 3, .dat 3, .dat 2, .dat 2], [], ⟨[.dat 2, .dat 3, .dat 3, .dat 24], []⟩, none⟩ = u9 := by kernel_rfl
theorem unI_bad {op k a : Int} (h : ¬ (valI k a = true ∧ 1 ≤ op ∧ op ≤ 3 ∧ ((op == 2) == (k == 3)) = true)) : unI op k a = [.num 0, .num 2] := by
  unfold unI
  rw [if_neg]
  simp only [Bool.and_eq_true, decide_eq_true_eq]
  exact fun g => h ⟨g.1.1, g.1.2.1, g.1.2.2, g.2⟩
theorem val3 {a : Int} (h : valI 3 a = true) : a = 0 ∨ a = 1 := by simpa [valI] using h
theorem w6 {op k a : Int} {Q : Post} (hq : Q 0 (unI op k a)) : u6.wp ty (fOf [c18, c19]) [.num op, .num k, .num a] Q := by
  have h18 : fOf [c18, c19] 18 = fun is Q => Q 0 ([.tru (valI (arg is 0).int (arg is 1).int)]) := rfl
  have h19 : fOf [c18, c19] 19 = fun is Q => Q 0 ([.num (wrpI (arg is 0).int (arg is 1).int)]) := rfl
  unfold u6
  cases hv : valI k a
  · rw [unI_bad (by simp [hv])] at hq
    simp [wq, dn, E.den, h18, hv]
    exact fun _ => hq
  · by_cases h1 : op < 1
    · rw [unI_bad (by omega)] at hq
      simp [wq, dn, E.den, h18, hv, h1]
      exact fun _ => hq
    · by_cases h3 : 3 < op
      · rw [unI_bad (by omega)] at hq
        simp [wq, dn, E.den, h18, hv, h1, h3]
        exact fun _ => hq
      · obtain rfl | rfl | rfl : op = 1 ∨ op = 2 ∨ op = 3 := by omega
        all_goals by_cases h : k = 3
        · subst h
          simpa [wq, dn, E.den, h18, h19, unI, hv] using fun _ => hq
        · simpa [wq, dn, E.den, h18, h19, unI, hv, h, beq_eq_false_iff_ne.2 h] using fun _ _ => hq
        · subst h
          have := xor1 (val3 hv)
          simpa [wq, dn, E.den, h18, h19, unI, hv, this] using fun _ => hq
        · simpa [wq, dn, E.den, h18, h19, unI, hv, h, beq_eq_false_iff_ne.2 h] using fun _ => hq
        · subst h
          simpa [wq, dn, E.den, h18, h19, unI, hv] using fun _ => hq
        · have : bitsOf IntKind.i64 (· ^^^ ·) (if IntKind.i64.signed = true then -1 else 9223372036854775807) a = _ := com_eq a
          simpa [wq, dn, E.den, h18, h19, unI, hv, h, this, beq_eq_false_iff_ne.2 h] using fun _ _ => hq
theorem w7 {op k a : Int} {Q : Post} (hq : Q 0 (unI op k a)) : u7.wp ty (fOf [c20, c21]) [.num op, .num k, .num a] Q := by
  have h20 : fOf [c20, c21] 20 = fun is Q => Q 0 ([.tru (valI (arg is 0).int (arg is 1).int)]) := rfl
  have h21 : fOf [c20, c21] 21 = fun is Q => Q 0 ([.num (wrpI (arg is 0).int (arg is 1).int)]) := rfl
  unfold u7
  cases hv : valI k a
  · rw [unI_bad (by simp [hv])] at hq
    simp [wq, dn, E.den, h20, hv]
    exact fun _ => hq
  · by_cases h1 : op < 1
    · rw [unI_bad (by omega)] at hq
      simp [wq, dn, E.den, h20, hv, h1]
      exact fun _ => hq
    · by_cases h3 : 3 < op
      · rw [unI_bad (by omega)] at hq
        simp [wq, dn, E.den, h20, hv, h1, h3]
        exact fun _ => hq
      · obtain rfl | rfl | rfl : op = 1 ∨ op = 2 ∨ op = 3 := by omega
        all_goals by_cases h : k = 3
        · subst h
          simpa [wq, dn, E.den, h20, h21, unI, hv] using fun _ => hq
        · simpa [wq, dn, E.den, h20, h21, unI, hv, h, beq_eq_false_iff_ne.2 h] using fun _ _ => hq
        · subst h
          simpa [wq, dn, E.den, h20, h21, unI, hv] using fun _ => hq
        · simpa [wq, dn, E.den, h20, h21, unI, hv, h, beq_eq_false_iff_ne.2 h] using fun _ => hq
        · subst h
          simpa [wq, dn, E.den, h20, h21, unI, hv] using fun _ => hq
        · simpa [wq, dn, E.den, h20, h21, unI, hv, h, beq_eq_false_iff_ne.2 h] using fun _ _ => hq
theorem H8 : (fOf [c18, c19] 18 = fun is Q => Q 0 ([.tru (valI (arg is 0).int (arg is 1).int)])) ∧ (fOf [c18, c19] 19 = fun is Q => Q 0 ([.num (wrpI (arg is 0).int (arg is 1).int)])) := ⟨rfl, rfl⟩
theorem H9 : (fOf [c20, c21, c24, c25, c27, c26] 20 = fun is Q => Q 0 ([.tru (valI (arg is 0).int (arg is 1).int)])) ∧ (fOf [c20, c21, c24, c25, c27, c26] 21 = fun is Q => Q 0 ([.num (wrpI (arg is 0).int (arg is 1).int)])) ∧ (fOf [c20, c21, c24, c25, c27, c26] 24 = fun is Q => Q 0 ([resT (arg is 0).int (arg is 1), .tru (resB (arg is 0).int ((arg is 1).fld 0).int ((arg is 1).fld 1).int)])) ∧ (fOf [c20, c21, c24, c25, c27, c26] 25 = shS) ∧ (fOf [c20, c21, c24, c25, c27, c26] 27 = fun is Q => Q 0 ([.tru (cmpI (arg is 0).int (arg is 1).int (arg is 2).int)])) ∧ (fOf [c20, c21, c24, c25, c27, c26] 26 = fun is Q => Q 0 ([.num (tI (arg is 0).bool)])) := ⟨rfl, rfl, rfl, rfl, rfl, rfl⟩
abbrev R (a : Int) : Prop := -9223372036854775808 ≤ a ∧ a ≤ 9223372036854775807
theorem wrp_wrp (k x : Int) : wrpI k (wrpI k x) = wrpI k x := by
  unfold wrpI
  by_cases h : k = 2
  · rw [if_pos h, if_pos h]
    have e : ∀ y : BitVec 64, IntKind.i64.wrap (((y &&& BitVec.ofInt 64 255).toNat : Nat) : Int) = ((y &&& BitVec.ofInt 64 255).toNat : Nat) := fun y => by
      have h1 : (y &&& BitVec.ofInt 64 255).toNat ≤ 255 := by
        rw [BitVec.toNat_and]
        exact Nat.le_trans Nat.and_le_right (by decide)
      exact IntWalk.i64_in _ (by omega)
    show IntKind.i64.wrap (((BitVec.ofInt 64 (IntKind.i64.wrap (((BitVec.ofInt 64 x &&& BitVec.ofInt 64 255).toNat : Nat) : Int)) &&& BitVec.ofInt 64 255).toNat : Nat) : Int) = IntKind.i64.wrap (((BitVec.ofInt 64 x &&& BitVec.ofInt 64 255).toNat : Nat) : Int)
    rw [e (BitVec.ofInt 64 x), BitVec.ofInt_natCast, BitVec.ofNat_toNat, BitVec.setWidth_eq, BitVec.and_assoc, BitVec.and_self, e]
  · rw [if_neg h, if_neg h]
theorem fdiv_pow (a : Int) (n : Nat) : a.fdiv (2 ^ n) = a / 2 ^ n := Int.fdiv_eq_ediv_of_nonneg _ (Int.pow_nonneg (by decide))
theorem w8_1 {op k a b : Int} {Q : Post} (ha : R a) (hbr : R b) (hva : valI k a = true) (hvb : valI k b = true) (hk : k = 1 ∨ k = 2 ∨ k = 3) (hop : op = 1 ∨ op = 4 ∨ op = 5 ∨ op = 8 ∨ op = 9 ∨ op = 10 ∨ op = 17 ∨ op = 18) (hq : Q 0 (binI op k a b)) : u8.wp ty (fOf [c18, c19]) [.num op, .num k, .num a, .num b] Q := by
  unfold u8
  rcases hop with rfl | rfl | rfl | rfl | rfl | rfl | rfl | rfl
  all_goals rcases hk with rfl | rfl | rfl
  all_goals simp [binI, binV, resB, rI, hva, hvb] at hq
  all_goals simp [wq, dn, E.den, H8, hva, hvb]
  all_goals first | done | (intros; exact hq) | (intros; exact ⟨by omega, fun _ => hq⟩)
theorem w8_2 {op k a b : Int} {Q : Post} (ha : R a) (hbr : R b) (hva : valI k a = true) (hvb : valI k b = true) (hk : k = 1 ∨ k = 2 ∨ k = 3) (hop : op = 2) (hq : Q 0 (binI op k a b)) : u8.wp ty (fOf [c18, c19]) [.num op, .num k, .num a, .num b] Q := by
  unfold u8
  obtain rfl := hop
  have hr := fun h : b ≠ 0 => rem_eq ha h hbr
  by_cases hb : b = 0
  · subst hb
    rcases hk with rfl | rfl | rfl <;> (simp [binI, binV, resB, rI, hva, hvb] at hq; simp [wq, dn, E.den, H8, hva, hvb]; intros; exact hq)
  · by_cases hm : a = -9223372036854775808 ∧ b = -1
    · obtain ⟨rfl, rfl⟩ := hm
      rcases hk with rfl | rfl | rfl <;> (simp [binI, binV, resB, rI, hva, hvb] at hq; simp [wq, dn, E.den, H8, hva, hvb]; intros; exact hq)
    · rcases hk with rfl | rfl | rfl <;> (simp [binI, binV, resB, rI, hva, hvb, hb, hm, hr hb] at hq; simp [wq, dn, E.den, H8, hva, hvb, hb, hm, hr hb]; intros; exact hq)
theorem w8_3 {op k a b : Int} {Q : Post} (ha : R a) (hbr : R b) (hva : valI k a = true) (hvb : valI k b = true) (hk : k = 1 ∨ k = 2 ∨ k = 3) (hop : op = 3) (hq : Q 0 (binI op k a b)) : u8.wp ty (fOf [c18, c19]) [.num op, .num k, .num a, .num b] Q := by
  unfold u8
  obtain rfl := hop
  have hr := fun h : b ≠ 0 => rem_eq ha h hbr
  by_cases hb : b = 0
  · subst hb
    rcases hk with rfl | rfl | rfl <;> (simp [binI, binV, resB, rI, hva, hvb] at hq; simp [wq, dn, E.den, H8, hva, hvb]; intros; exact hq)
  · by_cases hm : a = -9223372036854775808 ∧ b = -1
    · obtain ⟨rfl, rfl⟩ := hm
      rcases hk with rfl | rfl | rfl <;> (simp [binI, binV, resB, rI, hva, hvb] at hq; simp [wq, dn, E.den, H8, hva, hvb]; intros; exact hq)
    · rcases hk with rfl | rfl | rfl <;> (simp [binI, binV, resB, rI, hva, hvb, hb, hm, hr hb] at hq; simp [wq, dn, E.den, H8, hva, hvb, hb, hm, hr hb]; intros; exact hq)
theorem w8_6 {op k a b : Int} {Q : Post} (ha : R a) (hbr : R b) (hva : valI k a = true) (hvb : valI k b = true) (hk : k = 1 ∨ k = 2 ∨ k = 3) (hop : op = 6 ∨ op = 7) (hq : Q 0 (binI op k a b)) : u8.wp ty (fOf [c18, c19]) [.num op, .num k, .num a, .num b] Q := by
  unfold u8
  rcases hop with rfl | rfl
  all_goals rcases hk with rfl | rfl | rfl
  all_goals by_cases hs : b < 0
  all_goals by_cases hz : b < 8
  all_goals by_cases hy : b < 64
  all_goals first | (exfalso; omega) | skip
  all_goals have hmn : b < 64 → min b.toNat IntKind.i64.bits = b.toNat := fun h => by have : IntKind.i64.bits = 64 := rfl; omega
  all_goals simp [binI, binV, resB, rI, hva, hvb, hs, hz, hy, hmn, shI, bitI, fdiv_pow] at hq
  all_goals simp [wq, dn, E.den, H8, hva, hvb, hs, hz, hy, hmn, shI, bitI, fdiv_pow]
  all_goals first | done | (intros; exact hq) | (intros; exact ⟨by omega, fun _ => hq⟩)
theorem w8_11 {op k a b : Int} {Q : Post} (ha : R a) (hbr : R b) (hva : valI k a = true) (hvb : valI k b = true) (hk : k = 1 ∨ k = 2 ∨ k = 3) (hop : op = 11 ∨ op = 12) (hq : Q 0 (binI op k a b)) : u8.wp ty (fOf [c18, c19]) [.num op, .num k, .num a, .num b] Q := by
  unfold u8
  rcases hop with rfl | rfl
  all_goals rcases hk with rfl | rfl | rfl
  all_goals by_cases h1 : a = b
  all_goals by_cases h2 : a < b
  all_goals by_cases h3 : b < a
  all_goals first | (exfalso; omega) | skip
  all_goals simp [binI, binV, resB, rI, hva, hvb, h1, h2, h3, tI, cmpI] at hq
  all_goals simp [wq, dn, E.den, H8, hva, hvb, h1, h2, h3, tI, cmpI]
  all_goals first | done | (intros; exact hq) | (intros; exact ⟨by omega, fun _ => hq⟩)
theorem w8_13 {op k a b : Int} {Q : Post} (ha : R a) (hbr : R b) (hva : valI k a = true) (hvb : valI k b = true) (hk : k = 1 ∨ k = 2 ∨ k = 3) (hop : op = 13 ∨ op = 14) (hq : Q 0 (binI op k a b)) : u8.wp ty (fOf [c18, c19]) [.num op, .num k, .num a, .num b] Q := by
  unfold u8
  rcases hop with rfl | rfl
  all_goals rcases hk with rfl | rfl | rfl
  all_goals by_cases h1 : a = b
  all_goals by_cases h2 : a < b
  all_goals by_cases h3 : b < a
  all_goals first | (exfalso; omega) | skip
  all_goals simp [binI, binV, resB, rI, hva, hvb, h1, h2, h3, tI, cmpI] at hq
  all_goals simp [wq, dn, E.den, H8, hva, hvb, h1, h2, h3, tI, cmpI]
  all_goals first | done | (intros; exact hq) | (intros; exact ⟨by omega, fun _ => hq⟩)
theorem w8_15 {op k a b : Int} {Q : Post} (ha : R a) (hbr : R b) (hva : valI k a = true) (hvb : valI k b = true) (hk : k = 1 ∨ k = 2 ∨ k = 3) (hop : op = 15 ∨ op = 16) (hq : Q 0 (binI op k a b)) : u8.wp ty (fOf [c18, c19]) [.num op, .num k, .num a, .num b] Q := by
  unfold u8
  rcases hop with rfl | rfl
  all_goals rcases hk with rfl | rfl | rfl
  all_goals by_cases h1 : a = b
  all_goals by_cases h2 : a < b
  all_goals by_cases h3 : b < a
  all_goals first | (exfalso; omega) | skip
  all_goals simp [binI, binV, resB, rI, hva, hvb, h1, h2, h3, tI, cmpI] at hq
  all_goals simp [wq, dn, E.den, H8, hva, hvb, h1, h2, h3, tI, cmpI]
  all_goals first | done | (intros; exact hq) | (intros; exact ⟨by omega, fun _ => hq⟩)
theorem w9_1 {op k a b : Int} {Q : Post} (ha : R a) (hbr : R b) (hva : valI k a = true) (hvb : valI k b = true) (hk : k = 1 ∨ k = 2 ∨ k = 3) (hop : op = 1 ∨ op = 4 ∨ op = 5 ∨ op = 8 ∨ op = 9 ∨ op = 10 ∨ op = 17 ∨ op = 18) (hq : Q 0 (binI op k a b)) : u9.wp ty (fOf [c20, c21, c24, c25, c27, c26]) [.num op, .num k, .num a, .num b] Q := by
  unfold u9
  rcases hop with rfl | rfl | rfl | rfl | rfl | rfl | rfl | rfl
  all_goals rcases hk with rfl | rfl | rfl
  all_goals simp [binI, binV, resB, rI, hva, hvb] at hq
  all_goals simp [wq, dn, E.den, H9, wrp_wrp, shS, resT, resB, fld_tup, hva, hvb]
  all_goals first | done | (intros; exact hq) | (intros; exact ⟨by omega, fun _ => hq⟩)
theorem w9_2 {op k a b : Int} {Q : Post} (ha : R a) (hbr : R b) (hva : valI k a = true) (hvb : valI k b = true) (hk : k = 1 ∨ k = 2 ∨ k = 3) (hop : op = 2) (hq : Q 0 (binI op k a b)) : u9.wp ty (fOf [c20, c21, c24, c25, c27, c26]) [.num op, .num k, .num a, .num b] Q := by
  unfold u9
  obtain rfl := hop
  have hr := fun h : b ≠ 0 => rem_eq ha h hbr
  by_cases hb : b = 0
  · subst hb
    rcases hk with rfl | rfl | rfl <;> (simp [binI, binV, resB, rI, hva, hvb] at hq; simp [wq, dn, E.den, H9, wrp_wrp, shS, resT, resB, fld_tup, hva, hvb]; intros; exact hq)
  · by_cases hm : a = -9223372036854775808 ∧ b = -1
    · obtain ⟨rfl, rfl⟩ := hm
      rcases hk with rfl | rfl | rfl <;> (simp [binI, binV, resB, rI, hva, hvb] at hq; simp [wq, dn, E.den, H9, wrp_wrp, shS, resT, resB, fld_tup, hva, hvb]; intros; exact hq)
    · rcases hk with rfl | rfl | rfl <;> (simp [binI, binV, resB, rI, hva, hvb, hb, hm, hr hb] at hq; simp [wq, dn, E.den, H9, wrp_wrp, shS, resT, resB, fld_tup, hva, hvb, hb, hm, hr hb]; intros; exact hq)
theorem w9_3 {op k a b : Int} {Q : Post} (ha : R a) (hbr : R b) (hva : valI k a = true) (hvb : valI k b = true) (hk : k = 1 ∨ k = 2 ∨ k = 3) (hop : op = 3) (hq : Q 0 (binI op k a b)) : u9.wp ty (fOf [c20, c21, c24, c25, c27, c26]) [.num op, .num k, .num a, .num b] Q := by
  unfold u9
  obtain rfl := hop
  have hr := fun h : b ≠ 0 => rem_eq ha h hbr
  by_cases hb : b = 0
  · subst hb
    rcases hk with rfl | rfl | rfl <;> (simp [binI, binV, resB, rI, hva, hvb] at hq; simp [wq, dn, E.den, H9, wrp_wrp, shS, resT, resB, fld_tup, hva, hvb]; intros; exact hq)
  · by_cases hm : a = -9223372036854775808 ∧ b = -1
    · obtain ⟨rfl, rfl⟩ := hm
      rcases hk with rfl | rfl | rfl <;> (simp [binI, binV, resB, rI, hva, hvb] at hq; simp [wq, dn, E.den, H9, wrp_wrp, shS, resT, resB, fld_tup, hva, hvb]; intros; exact hq)
    · rcases hk with rfl | rfl | rfl <;> (simp [binI, binV, resB, rI, hva, hvb, hb, hm, hr hb] at hq; simp [wq, dn, E.den, H9, wrp_wrp, shS, resT, resB, fld_tup, hva, hvb, hb, hm, hr hb]; intros; exact hq)
theorem w9_6 {op k a b : Int} {Q : Post} (ha : R a) (hbr : R b) (hva : valI k a = true) (hvb : valI k b = true) (hk : k = 1 ∨ k = 2 ∨ k = 3) (hop : op = 6 ∨ op = 7) (hq : Q 0 (binI op k a b)) : u9.wp ty (fOf [c20, c21, c24, c25, c27, c26]) [.num op, .num k, .num a, .num b] Q := by
  unfold u9
  rcases hop with rfl | rfl
  all_goals rcases hk with rfl | rfl | rfl
  all_goals by_cases hs : b < 0
  all_goals by_cases hz : b < 8
  all_goals by_cases hy : b < 64
  all_goals first | (exfalso; omega) | skip
  all_goals have hmn : b < 64 → min b.toNat IntKind.i64.bits = b.toNat := fun h => by have : IntKind.i64.bits = 64 := rfl; omega
  all_goals simp [binI, binV, resB, rI, hva, hvb, hs, hz, hy, hmn, shI, bitI, fdiv_pow] at hq
  all_goals simp [wq, dn, E.den, H9, wrp_wrp, shS, resT, resB, fld_tup, hva, hvb, hs, hz, hy, hmn, shI, bitI, fdiv_pow]
  all_goals first | done | (intros; exact hq) | (intros; exact ⟨by omega, fun _ => hq⟩)
theorem w9_12 {op k a b : Int} {Q : Post} (ha : R a) (hbr : R b) (hva : valI k a = true) (hvb : valI k b = true) (hk : k = 1 ∨ k = 2 ∨ k = 3) (hop : op = 11 ∨ op = 12 ∨ op = 13 ∨ op = 14 ∨ op = 15 ∨ op = 16) (hq : Q 0 (binI op k a b)) : u9.wp ty (fOf [c20, c21, c24, c25, c27, c26]) [.num op, .num k, .num a, .num b] Q := by
  unfold u9
  rcases hop with rfl | rfl | rfl | rfl | rfl | rfl
  all_goals rcases hk with rfl | rfl | rfl
  all_goals simp [binI, binV, resB, rI, hva, hvb] at hq
  all_goals simp [wq, dn, E.den, H9, wrp_wrp, shS, resT, resB, fld_tup, hva, hvb]
  all_goals first | done | (intros; exact hq) | (intros; exact ⟨by omega, fun _ => hq⟩)
theorem binI_bad {op k a b : Int} (h : ¬ (valI k a = true ∧ valI k b = true ∧ 1 ≤ op ∧ op ≤ 18)) : binI op k a b = [.num 0, .num 0, .num 0, .num 2] := by
  unfold binI
  rw [if_neg]
  simp only [Bool.and_eq_true, decide_eq_true_eq]
  exact fun g => h ⟨g.1.1.1, g.1.1.2, g.1.2.1, g.1.2.2⟩
theorem val_kind {k a : Int} (h : valI k a = true) : k = 1 ∨ k = 2 ∨ k = 3 := by
  simp only [valI, Bool.or_eq_true, Bool.and_eq_true, beq_iff_eq] at h
  omega
theorem w8 {op k a b : Int} {Q : Post} (ha : R a) (hbr : R b) (hq : Q 0 (binI op k a b)) : u8.wp ty (fOf [c18, c19]) [.num op, .num k, .num a, .num b] Q := by
  cases hva : valI k a
  · rw [binI_bad (by simp [hva])] at hq
    unfold u8
    simp [wq, dn, E.den, H8, hva]
    intros; exact hq
  cases hvb : valI k b
  · rw [binI_bad (by simp [hvb])] at hq
    unfold u8
    simp [wq, dn, E.den, H8, hva, hvb]
    intros; exact hq
  by_cases h1 : op < 1
  · rw [binI_bad (by omega)] at hq
    unfold u8
    simp [wq, dn, E.den, H8, hva, hvb, h1]
    intros; exact hq
  by_cases h3 : 18 < op
  · rw [binI_bad (by omega)] at hq
    unfold u8
    simp [wq, dn, E.den, H8, hva, hvb, h1, h3]
    intros; exact hq
  obtain rfl | rfl | rfl | rfl | rfl | rfl | rfl | rfl | rfl | rfl | rfl | rfl | rfl | rfl | rfl | rfl | rfl | rfl : op = 1 ∨ op = 2 ∨ op = 3 ∨ op = 4 ∨ op = 5 ∨ op = 6 ∨ op = 7 ∨ op = 8 ∨ op = 9 ∨ op = 10 ∨ op = 11 ∨ op = 12 ∨ op = 13 ∨ op = 14 ∨ op = 15 ∨ op = 16 ∨ op = 17 ∨ op = 18 := by omega
  · exact w8_1 ha hbr hva hvb (val_kind hva) (by decide) hq
  · exact w8_2 ha hbr hva hvb (val_kind hva) (by decide) hq
  · exact w8_3 ha hbr hva hvb (val_kind hva) (by decide) hq
  · exact w8_1 ha hbr hva hvb (val_kind hva) (by decide) hq
  · exact w8_1 ha hbr hva hvb (val_kind hva) (by decide) hq
  · exact w8_6 ha hbr hva hvb (val_kind hva) (by decide) hq
  · exact w8_6 ha hbr hva hvb (val_kind hva) (by decide) hq
  · exact w8_1 ha hbr hva hvb (val_kind hva) (by decide) hq
  · exact w8_1 ha hbr hva hvb (val_kind hva) (by decide) hq
  · exact w8_1 ha hbr hva hvb (val_kind hva) (by decide) hq
  · exact w8_11 ha hbr hva hvb (val_kind hva) (by decide) hq
  · exact w8_11 ha hbr hva hvb (val_kind hva) (by decide) hq
  · exact w8_13 ha hbr hva hvb (val_kind hva) (by decide) hq
  · exact w8_13 ha hbr hva hvb (val_kind hva) (by decide) hq
  · exact w8_15 ha hbr hva hvb (val_kind hva) (by decide) hq
  · exact w8_15 ha hbr hva hvb (val_kind hva) (by decide) hq
  · exact w8_1 ha hbr hva hvb (val_kind hva) (by decide) hq
  · exact w8_1 ha hbr hva hvb (val_kind hva) (by decide) hq
theorem w9 {op k a b : Int} {Q : Post} (ha : R a) (hbr : R b) (hq : Q 0 (binI op k a b)) : u9.wp ty (fOf [c20, c21, c24, c25, c27, c26]) [.num op, .num k, .num a, .num b] Q := by
  by_cases hk : k < 1
  · rw [binI_bad (fun g => by have := val_kind g.1; omega)] at hq
    unfold u9
    simp [wq, dn, E.den, hk]
    exact hq
  by_cases hk3 : 3 < k
  · rw [binI_bad (fun g => by have := val_kind g.1; omega)] at hq
    unfold u9
    simp [wq, dn, E.den, hk, hk3]
    exact hq
  by_cases h1 : op < 1
  · rw [binI_bad (by omega)] at hq
    unfold u9
    simp [wq, dn, E.den, h1]
    exact hq
  by_cases h3 : 18 < op
  · rw [binI_bad (by omega)] at hq
    unfold u9
    simp [wq, dn, E.den, h3]
    exact hq
  cases hva : valI k a
  · rw [binI_bad (by simp [hva])] at hq
    unfold u9
    simp [wq, dn, E.den, H9, hva, hk, hk3, h1, h3]
    intros; exact hq
  cases hvb : valI k b
  · rw [binI_bad (by simp [hvb])] at hq
    unfold u9
    simp [wq, dn, E.den, H9, hva, hvb, hk, hk3, h1, h3]
    intros; exact hq
  obtain rfl | rfl | rfl | rfl | rfl | rfl | rfl | rfl | rfl | rfl | rfl | rfl | rfl | rfl | rfl | rfl | rfl | rfl : op = 1 ∨ op = 2 ∨ op = 3 ∨ op = 4 ∨ op = 5 ∨ op = 6 ∨ op = 7 ∨ op = 8 ∨ op = 9 ∨ op = 10 ∨ op = 11 ∨ op = 12 ∨ op = 13 ∨ op = 14 ∨ op = 15 ∨ op = 16 ∨ op = 17 ∨ op = 18 := by omega
  · exact w9_1 ha hbr hva hvb (val_kind hva) (by decide) hq
  · exact w9_2 ha hbr hva hvb (val_kind hva) (by decide) hq
  · exact w9_3 ha hbr hva hvb (val_kind hva) (by decide) hq
  · exact w9_1 ha hbr hva hvb (val_kind hva) (by decide) hq
  · exact w9_1 ha hbr hva hvb (val_kind hva) (by decide) hq
  · exact w9_6 ha hbr hva hvb (val_kind hva) (by decide) hq
  · exact w9_6 ha hbr hva hvb (val_kind hva) (by decide) hq
  · exact w9_1 ha hbr hva hvb (val_kind hva) (by decide) hq
  · exact w9_1 ha hbr hva hvb (val_kind hva) (by decide) hq
  · exact w9_1 ha hbr hva hvb (val_kind hva) (by decide) hq
  · exact w9_12 ha hbr hva hvb (val_kind hva) (by decide) hq
  · exact w9_12 ha hbr hva hvb (val_kind hva) (by decide) hq
  · exact w9_12 ha hbr hva hvb (val_kind hva) (by decide) hq
  · exact w9_12 ha hbr hva hvb (val_kind hva) (by decide) hq
  · exact w9_12 ha hbr hva hvb (val_kind hva) (by decide) hq
  · exact w9_12 ha hbr hva hvb (val_kind hva) (by decide) hq
  · exact w9_1 ha hbr hva hvb (val_kind hva) (by decide) hq
  · exact w9_1 ha hbr hva hvb (val_kind hva) (by decide) hq
theorem e6 : Ent X c6 := ent_of XOk (l := [c18, c19]) rfl (ents_cons e18 (ents_cons e19 ents_nil)) qu6 sF_mono fun is Q h hq => by
  obtain ⟨x, y, z, rfl, hx, hy, hz⟩ := ty3 h
  obtain ⟨op, rfl, -⟩ := num_of td3 hx
  obtain ⟨k, rfl, -⟩ := num_of td3 hy
  obtain ⟨a, rfl, -⟩ := num_of td2 hz
  exact w6 hq
theorem e7 : Ent X c7 := ent_of XOk (l := [c20, c21]) rfl (ents_cons e20 (ents_cons e21 ents_nil)) qu7 sF_mono fun is Q h hq => by
  obtain ⟨x, y, z, rfl, hx, hy, hz⟩ := ty3 h
  obtain ⟨op, rfl, -⟩ := num_of td3 hx
  obtain ⟨k, rfl, -⟩ := num_of td3 hy
  obtain ⟨a, rfl, -⟩ := num_of td2 hz
  exact w7 hq
theorem e8 : Ent X c8 := ent_of XOk (l := [c18, c19]) rfl (ents_cons e18 (ents_cons e19 ents_nil)) qu8 sF_mono fun is Q h hq => by
  obtain ⟨x, y, z, u, rfl, hx, hy, hz, hu⟩ := ty4 h
  obtain ⟨op, rfl, -⟩ := num_of td3 hx
  obtain ⟨k, rfl, -⟩ := num_of td3 hy
  obtain ⟨a, rfl, ha⟩ := num_of td2 hz
  obtain ⟨b, rfl, hb⟩ := num_of td2 hu
  exact w8 ha hb hq
theorem e9 : Ent X c9 := ent_of XOk (l := [c20, c21, c24, c25, c27, c26]) rfl (ents_cons e20 (ents_cons e21 (ents_cons e24 (ents_cons e25 (ents_cons e27 (ents_cons e26 ents_nil)))))) qu9 sF_mono fun is Q h hq => by
  obtain ⟨x, y, z, u, rfl, hx, hy, hz, hu⟩ := ty4 h
  obtain ⟨op, rfl, -⟩ := num_of td3 hx
  obtain ⟨k, rfl, -⟩ := num_of td3 hy
  obtain ⟨a, rfl, ha⟩ := num_of td2 hz
  obtain ⟨b, rfl, hb⟩ := num_of td2 hu
  exact w9 ha hb hq
end
end Go.SYG
