/- IRSEM: the table of types, contracts, the concrete runs behind 'awake'. -/
import Derived.Test.YtdfogmblgephdaaSyS29
import Derived.Test.YtdfogmblgephdaaProg
import Derived.Test.YtdfogmblgephdaaChecked
import Derived.KernelRfl
set_option linter.unusedVariables false
namespace Go.SYI
open Go Go.SY Go.Proofs Go.RowKit

def keys : List Nat := [1, 2, 3, 4, 5, 6, 7, 8, 9, 10, 11, 12, 13, 14, 15, 16, 17, 18, 19, 20, 21, 22, 24, 25, 26, 27, 28, 29, 30, 31, 32, 33, 34, 35, 36, 38, 39, 40, 41, 42, 43, 44, 46, 47, 48, 49, 50, 51, 52, 53, 54, 55, 56, 57, 58, 59, 60, 61, 62, 63, 65, 66, 67, 68, 69, 70, 71, 72, 73, 74, 75, 76, 77, 78, 79, 80, 82, 83, 84, 85, 86, 87, 88, 89, 90, 91, 92, 93, 94, 95, 96, 97, 98, 99, 100, 101, 102, 103, 104, 105, 106, 107, 108, 109, 110, 111, 112, 113, 114, 115, 116, 117, 118, 119, 120, 121, 122, 123, 124, 125, 126, 127, 128, 129, 130, 131, 132, 134, 135, 136, 137, 139, 140, 141, 142, 143, 144, 145, 146, 147, 148, 149, 150, 151, 152, 153, 154, 155, 156, 157, 158, 159, 160, 161, 162, 163]
def ty : Ty := (.n (.n (.n (.n (.n (.n (.n (.n .e (some ⟨.func, 1, 8, some [.nilfn]⟩) .e) (some ⟨(.ptr 71), 1, 8, some [.nilp]⟩) .e) (some ⟨(.slice 73 2), 1, 24, some [.nilsl]⟩) (.n (.n .e (some ⟨(.ptr 5), 1, 8, some [.nilp]⟩) .e) (some ⟨(.struct [(35, 0, 4), (51, 4, 6), (3, 10, 1)] true), 11, 176, some [.nilsl, .nilsl, .nilsl, (.int .i64 (.n (0))), (.str (.d (.byt []))), (.int .i64 (.n (0))), (.int .i64 (.n (0))), (.bool (.c false)), .nilsl, .nilsl, (.int .i64 (.n (0)))]⟩) .e)) (some ⟨(.ptr 150), 1, 8, some [.nilp]⟩) (.n (.n (.n .e (some ⟨.func, 1, 8, some [.nilfn]⟩) .e) (some ⟨(.struct [(3, 0, 1), (3, 1, 1)] true), 2, 16, some [(.int .i64 (.n (0))), (.int .i64 (.n (0)))]⟩) .e) (some ⟨.func, 1, 8, some [.nilfn]⟩) (.n .e (some ⟨(.map 9 4), 1, 8, some [.nilmap]⟩) .e))) (some ⟨(.struct [(2, 0, 1), (3, 1, 1), (4, 2, 1), (6, 3, 1)] true), 4, 24, some [(.int .i64 (.n (0))), (.int .i64 (.n (0))), (.bool (.c false)), (.int .u8 (.n (0)))]⟩) (.n (.n (.n (.n .e (some ⟨.func, 1, 8, some [.nilfn]⟩) .e) (some ⟨(.struct [(35, 0, 4), (3, 4, 1), (27, 5, 1), (69, 6, 1), (27, 7, 1), (44, 8, 1)] true), 9, 184, some [.nilsl, .nilsl, .nilsl, (.int .i64 (.n (0))), (.int .i64 (.n (0))), .nilsl, .nilsl, .nilsl, .nilsl]⟩) .e) (some ⟨.func, 1, 8, some [.nilfn]⟩) (.n .e (some ⟨.func, 1, 8, some [.nilfn]⟩) .e)) none (.n (.n (.n .e (some ⟨(.arr 0 16 1), 0, 0, some []⟩) .e) (some ⟨.func, 1, 8, some [.nilfn]⟩) .e) (some ⟨(.struct [(3, 0, 1), (54, 1, 2), (3, 3, 1), (3, 4, 1)] true), 5, 40, some [(.int .i64 (.n (0))), (.int .i64 (.n (0))), (.int .i64 (.n (0))), (.int .i64 (.n (0))), (.int .i64 (.n (0)))]⟩) (.n .e (some ⟨.func, 1, 8, some [.nilfn]⟩) .e)))) (some ⟨(.int .i64), 1, 8, some [(.int .i64 (.n (0)))]⟩) (.n (.n (.n (.n (.n .e (some ⟨.func, 1, 8, some [.nilfn]⟩) .e) (some ⟨(.struct [(3, 0, 1), (3, 1, 1)] true), 2, 16, some [(.int .i64 (.n (0))), (.int .i64 (.n (0)))]⟩) .e) (some ⟨(.struct [(31, 0, 1), (32, 1, 1), (33, 2, 1), (3, 3, 1)] true), 4, 80, some [.nilsl, .nilsl, .nilsl, (.int .i64 (.n (0)))]⟩) (.n (.n .e (some ⟨(.struct [(12, 0, 1), (12, 1, 1), (155, 2, 1), (156, 3, 1), (5, 4, 1), (5, 5, 1), (157, 6, 1), (158, 7, 1), (159, 8, 1), (160, 9, 1), (161, 10, 1)] false), 11, 48, some [(.int .u64 (.n (0))), (.int .u64 (.n (0))), (.int .u32 (.n (0))), (.int .u8 (.n (0))), (.int .u8 (.n (0))), (.int .u8 (.n (0))), (.int .u8 (.n (0))), .nilfn, .nilp, (.int .i32 (.n (0))), (.int .i32 (.n (0)))]⟩) .e) (some ⟨(.slice 4 1), 1, 24, some [.nilsl]⟩) .e)) (some ⟨(.struct [(17, 0, 1)] false), 1, 8, some [.nilp]⟩) (.n (.n (.n .e (some ⟨.func, 1, 8, some [.nilfn]⟩) .e) (some ⟨.func, 1, 8, some [.nilfn]⟩) .e) (some ⟨(.struct [(9, 0, 1), (3, 1, 1), (3, 2, 1), (4, 3, 1), (48, 4, 1), (49, 5, 1)] true), 6, 88, some [(.str (.d (.byt []))), (.int .i64 (.n (0))), (.int .i64 (.n (0))), (.bool (.c false)), .nilsl, .nilsl]⟩) (.n .e (some ⟨.func, 1, 8, some [.nilfn]⟩) .e))) (some ⟨.str, 1, 16, some [(.str (.d (.byt [])))]⟩) (.n (.n (.n (.n .e (some ⟨(.map 3 137), 1, 8, some [.nilmap]⟩) .e) (some ⟨(.struct [(9, 0, 1), (3, 1, 1), (4, 2, 1)] true), 3, 32, some [(.str (.d (.byt []))), (.int .i64 (.n (0))), (.bool (.c false))]⟩) .e) (some ⟨.func, 1, 8, some [.nilfn]⟩) (.n .e (some ⟨(.struct [(3, 0, 1), (3, 1, 1), (4, 2, 1), (3, 3, 1)] true), 4, 32, some [(.int .i64 (.n (0))), (.int .i64 (.n (0))), (.bool (.c false)), (.int .i64 (.n (0)))]⟩) .e)) (some ⟨(.slice 2 1), 1, 24, some [.nilsl]⟩) (.n (.n (.n .e (some ⟨(.int .u32), 1, 4, some [(.int .u32 (.n (0)))]⟩) .e) (some ⟨.func, 1, 8, some [.nilfn]⟩) .e) (some ⟨(.slice 54 2), 1, 24, some [.nilsl]⟩) (.n .e (some ⟨(.arr 9 122 1), 9, 72, some [.nilfn, .nilfn, .nilfn, .nilfn, .nilfn, .nilfn, .nilfn, .nilfn, .nilfn]⟩) .e))))) (some ⟨.func, 1, 8, some [.nilfn]⟩) (.n (.n (.n (.n (.n (.n .e (some ⟨.func, 1, 8, some [.nilfn]⟩) .e) (some ⟨.func, 1, 8, some [.nilfn]⟩) .e) (some ⟨(.slice 51 6), 1, 24, some [.nilsl]⟩) (.n (.n .e (some ⟨(.int .i32), 1, 4, some [(.int .i32 (.n (0)))]⟩) .e) (some ⟨(.slice 99 1), 1, 24, some [.nilsl]⟩) .e)) (some ⟨(.ptr 163), 1, 8, some [.nilp]⟩) (.n (.n (.n .e (some ⟨(.ptr 2), 1, 8, some [.nilp]⟩) .e) none .e) (some ⟨(.slice 58 6), 1, 24, some [.nilsl]⟩) (.n .e (some ⟨.func, 1, 8, some [.nilfn]⟩) .e))) (some ⟨.str, 1, 16, some [(.str (.d (.byt [])))]⟩) (.n (.n (.n (.n .e (some ⟨(.struct [(4, 0, 1), (4, 1, 1), (4, 2, 1), (4, 3, 1), (4, 4, 1), (4, 5, 1)] true), 6, 6, some [(.bool (.c false)), (.bool (.c false)), (.bool (.c false)), (.bool (.c false)), (.bool (.c false)), (.bool (.c false))]⟩) .e) (some ⟨(.struct [(9, 0, 1), (2, 1, 1)] true), 2, 24, some [(.str (.d (.byt []))), (.int .i64 (.n (0)))]⟩) .e) (some ⟨(.int .u64), 1, 8, some [(.int .u64 (.n (0)))]⟩) (.n .e (some ⟨(.struct [(51, 0, 6), (27, 6, 1), (69, 7, 1)] true), 8, 136, some [(.str (.d (.byt []))), (.int .i64 (.n (0))), (.int .i64 (.n (0))), (.bool (.c false)), .nilsl, .nilsl, .nilsl, .nilsl]⟩) .e)) (some ⟨.func, 1, 8, some [.nilfn]⟩) (.n (.n (.n .e (some ⟨(.struct [(151, 0, 0)] false), 0, 0, some []⟩) .e) (some ⟨.func, 1, 8, some [.nilfn]⟩) .e) (some ⟨(.struct [(52, 0, 1), (56, 1, 5)] true), 6, 64, some [.nilsl, (.int .i64 (.n (0))), (.int .i64 (.n (0))), (.int .i64 (.n (0))), (.int .i64 (.n (0))), (.int .i64 (.n (0)))]⟩) (.n .e (some ⟨.func, 1, 8, some [.nilfn]⟩) .e)))) (some ⟨(.int .u8), 1, 1, some [(.int .u8 (.n (0)))]⟩) (.n (.n (.n (.n .e (some ⟨(.slice 78 2), 1, 24, some [.nilsl]⟩) .e) none (.n .e (some ⟨.func, 1, 8, some [.nilfn]⟩) .e)) (some ⟨(.int .i32), 1, 4, some [(.int .i32 (.n (0)))]⟩) (.n (.n (.n .e (some ⟨(.struct [(17, 0, 1), (17, 1, 1), (17, 2, 1), (9, 3, 1)] false), 4, 40, some [.nilp, .nilp, .nilp, (.str (.d (.byt [])))]⟩) .e) (some ⟨.func, 1, 8, some [.nilfn]⟩) .e) (some ⟨(.struct [(3, 0, 1), (2, 1, 1)] true), 2, 16, some [(.int .i64 (.n (0))), (.int .i64 (.n (0)))]⟩) (.n .e (some ⟨.func, 1, 8, some [.nilfn]⟩) .e))) (some ⟨(.struct [(9, 0, 1), (12, 1, 1)] false), 2, 24, some [(.str (.d (.byt []))), (.int .u64 (.n (0)))]⟩) (.n (.n (.n (.n .e (some ⟨.func, 1, 8, some [.nilfn]⟩) .e) (some ⟨(.struct [(27, 0, 1), (4, 1, 1)] true), 2, 32, some [.nilsl, (.bool (.c false))]⟩) .e) none (.n .e (some ⟨.func, 1, 8, some [.nilfn]⟩) .e)) (some ⟨(.struct [(27, 0, 1), (3, 1, 1), (3, 2, 1)] true), 3, 40, some [.nilsl, (.int .i64 (.n (0))), (.int .i64 (.n (0)))]⟩) (.n (.n (.n .e (some ⟨(.int .u8), 1, 1, some [(.int .u8 (.n (0)))]⟩) .e) (some ⟨(.arr 2 91 1), 2, 16, some [.nilfn, .nilfn]⟩) .e) (some ⟨(.struct [(3, 0, 1), (3, 1, 1), (3, 2, 1), (54, 3, 2), (54, 5, 2), (3, 7, 1), (3, 8, 1), (3, 9, 1), (59, 10, 1), (60, 11, 1), (60, 12, 1)] true), 13, 152, some [(.int .i64 (.n (0))), (.int .i64 (.n (0))), (.int .i64 (.n (0))), (.int .i64 (.n (0))), (.int .i64 (.n (0))), (.int .i64 (.n (0))), (.int .i64 (.n (0))), (.int .i64 (.n (0))), (.int .i64 (.n (0))), (.int .i64 (.n (0))), .nilsl, .nilsl, .nilsl]⟩) (.n .e (some ⟨.func, 1, 8, some [.nilfn]⟩) .e)))))) none (.n (.n (.n (.n (.n (.n (.n .e (some ⟨.func, 1, 8, some [.nilfn]⟩) .e) none .e) (some ⟨(.slice 75 3), 1, 24, some [.nilsl]⟩) (.n (.n .e (some ⟨(.int .i32), 1, 4, some [(.int .i32 (.n (0)))]⟩) .e) (some ⟨.func, 1, 8, some [.nilfn]⟩) .e)) (some ⟨(.ptr 153), 1, 8, some [.nilp]⟩) (.n (.n (.n .e (some ⟨.func, 1, 8, some [.nilfn]⟩) .e) (some ⟨(.struct [(3, 0, 1), (3, 1, 1)] true), 2, 16, some [(.int .i64 (.n (0))), (.int .i64 (.n (0)))]⟩) .e) (some ⟨(.slice 108 4), 1, 24, some [.nilsl]⟩) (.n .e (some ⟨.func, 1, 8, some [.nilfn]⟩) .e))) (some ⟨(.struct [(2, 0, 1), (3, 1, 1), (4, 2, 1), (6, 3, 1)] true), 4, 24, some [(.int .i64 (.n (0))), (.int .i64 (.n (0))), (.bool (.c false)), (.int .u8 (.n (0)))]⟩) (.n (.n (.n (.n .e (some ⟨(.struct [(4, 0, 1), (4, 1, 1), (4, 2, 1), (4, 3, 1), (4, 4, 1), (4, 5, 1)] true), 6, 6, some [(.bool (.c false)), (.bool (.c false)), (.bool (.c false)), (.bool (.c false)), (.bool (.c false)), (.bool (.c false))]⟩) .e) (some ⟨(.struct [(9, 0, 1), (2, 1, 1)] true), 2, 24, some [(.str (.d (.byt []))), (.int .i64 (.n (0)))]⟩) .e) (some ⟨.func, 1, 8, some [.nilfn]⟩) (.n .e (some ⟨(.ptr 106), 1, 8, some [.nilp]⟩) .e)) (some ⟨.func, 1, 8, some [.nilfn]⟩) (.n (.n (.n .e (some ⟨(.struct [(151, 0, 0)] false), 0, 0, some []⟩) .e) (some ⟨.func, 1, 8, some [.nilfn]⟩) .e) (some ⟨(.struct [(3, 0, 1), (54, 1, 2), (3, 3, 1), (3, 4, 1)] true), 5, 40, some [(.int .i64 (.n (0))), (.int .i64 (.n (0))), (.int .i64 (.n (0))), (.int .i64 (.n (0))), (.int .i64 (.n (0)))]⟩) (.n .e (some ⟨.func, 1, 8, some [.nilfn]⟩) .e)))) (some ⟨.bool, 1, 1, some [(.bool (.c false))]⟩) (.n (.n (.n (.n (.n .e (some ⟨.func, 1, 8, some [.nilfn]⟩) .e) (some ⟨(.struct [(3, 0, 1), (3, 1, 1)] true), 2, 16, some [(.int .i64 (.n (0))), (.int .i64 (.n (0)))]⟩) .e) (some ⟨.func, 1, 8, some [.nilfn]⟩) (.n .e (some ⟨.func, 1, 8, some [.nilfn]⟩) .e)) (some ⟨.iface, 1, 16, some [.niliface]⟩) (.n (.n (.n .e (some ⟨.func, 1, 8, some [.nilfn]⟩) .e) (some ⟨.func, 1, 8, some [.nilfn]⟩) .e) (some ⟨(.slice 62 13), 1, 24, some [.nilsl]⟩) (.n .e (some ⟨.func, 1, 8, some [.nilfn]⟩) .e))) (some ⟨(.int .u64), 1, 8, some [(.int .u64 (.n (0)))]⟩) (.n (.n (.n (.n .e (some ⟨.func, 1, 8, some [.nilfn]⟩) .e) (some ⟨.func, 1, 8, some [.nilfn]⟩) .e) (some ⟨(.slice 68 2), 1, 24, some [.nilsl]⟩) (.n .e (some ⟨(.struct [(3, 0, 1), (3, 1, 1), (4, 2, 1), (3, 3, 1)] true), 4, 32, some [(.int .i64 (.n (0))), (.int .i64 (.n (0))), (.bool (.c false)), (.int .i64 (.n (0)))]⟩) .e)) (some ⟨(.struct [(27, 0, 1), (3, 1, 1), (3, 2, 1)] true), 3, 40, some [.nilsl, (.int .i64 (.n (0))), (.int .i64 (.n (0)))]⟩) (.n (.n (.n .e (some ⟨(.int .u8), 1, 1, some [(.int .u8 (.n (0)))]⟩) .e) (some ⟨(.ptr 95), 1, 8, some [.nilp]⟩) .e) (some ⟨(.slice 3 1), 1, 24, some [.nilsl]⟩) (.n .e (some ⟨.func, 1, 8, some [.nilfn]⟩) .e))))) (some ⟨(.int .i64), 1, 8, some [(.int .i64 (.n (0)))]⟩) (.n (.n (.n (.n (.n (.n .e (some ⟨.func, 1, 8, some [.nilfn]⟩) .e) (some ⟨.func, 1, 8, some [.nilfn]⟩) .e) (some ⟨(.struct [(31, 0, 1), (32, 1, 1), (33, 2, 1), (3, 3, 1)] true), 4, 80, some [.nilsl, .nilsl, .nilsl, (.int .i64 (.n (0)))]⟩) (.n (.n .e (some ⟨(.struct [(12, 0, 1), (12, 1, 1), (155, 2, 1), (156, 3, 1), (5, 4, 1), (5, 5, 1), (157, 6, 1), (158, 7, 1), (159, 8, 1), (160, 9, 1), (161, 10, 1)] false), 11, 48, some [(.int .u64 (.n (0))), (.int .u64 (.n (0))), (.int .u32 (.n (0))), (.int .u8 (.n (0))), (.int .u8 (.n (0))), (.int .u8 (.n (0))), (.int .u8 (.n (0))), .nilfn, .nilp, (.int .i32 (.n (0))), (.int .i32 (.n (0)))]⟩) .e) (some ⟨.func, 1, 8, some [.nilfn]⟩) .e)) (some ⟨(.struct [(17, 0, 1)] false), 1, 8, some [.nilp]⟩) (.n (.n (.n .e (some ⟨.func, 1, 8, some [.nilfn]⟩) .e) (some ⟨.func, 1, 8, some [.nilfn]⟩) .e) (some ⟨(.struct [(9, 0, 1), (3, 1, 1), (3, 2, 1), (4, 3, 1), (48, 4, 1), (49, 5, 1)] true), 6, 88, some [(.str (.d (.byt []))), (.int .i64 (.n (0))), (.int .i64 (.n (0))), (.bool (.c false)), .nilsl, .nilsl]⟩) (.n .e (some ⟨.func, 1, 8, some [.nilfn]⟩) .e))) (some ⟨.str, 1, 16, some [(.str (.d (.byt [])))]⟩) (.n (.n (.n .e (some ⟨(.struct [(9, 0, 1), (3, 1, 1), (4, 2, 1)] true), 3, 32, some [(.str (.d (.byt []))), (.int .i64 (.n (0))), (.bool (.c false))]⟩) .e) (some ⟨.func, 1, 8, some [.nilfn]⟩) (.n .e (some ⟨(.struct [(51, 0, 6), (27, 6, 1), (69, 7, 1)] true), 8, 136, some [(.str (.d (.byt []))), (.int .i64 (.n (0))), (.int .i64 (.n (0))), (.bool (.c false)), .nilsl, .nilsl, .nilsl, .nilsl]⟩) .e)) (some ⟨.func, 1, 8, some [.nilfn]⟩) (.n (.n (.n .e (some ⟨.func, 1, 8, some [.nilfn]⟩) .e) (some ⟨.func, 1, 8, some [.nilfn]⟩) .e) (some ⟨(.struct [(52, 0, 1), (56, 1, 5)] true), 6, 64, some [.nilsl, (.int .i64 (.n (0))), (.int .i64 (.n (0))), (.int .i64 (.n (0))), (.int .i64 (.n (0))), (.int .i64 (.n (0)))]⟩) (.n .e (some ⟨.func, 1, 8, some [.nilfn]⟩) .e)))) (some ⟨(.int .u8), 1, 1, some [(.int .u8 (.n (0)))]⟩) (.n (.n (.n (.n (.n .e (some ⟨.func, 1, 8, some [.nilfn]⟩) .e) (some ⟨(.struct [(35, 0, 4), (3, 4, 1), (27, 5, 1), (69, 6, 1), (27, 7, 1), (44, 8, 1)] true), 9, 184, some [.nilsl, .nilsl, .nilsl, (.int .i64 (.n (0))), (.int .i64 (.n (0))), .nilsl, .nilsl, .nilsl, .nilsl]⟩) .e) (some ⟨.func, 1, 8, some [.nilfn]⟩) (.n .e (some ⟨.func, 1, 8, some [.nilfn]⟩) .e)) (some ⟨(.int .i64), 1, 8, some [(.int .i64 (.n (0)))]⟩) (.n (.n (.n .e (some ⟨(.struct [(17, 0, 1), (17, 1, 1), (17, 2, 1), (9, 3, 1)] false), 4, 40, some [.nilp, .nilp, .nilp, (.str (.d (.byt [])))]⟩) .e) (some ⟨.func, 1, 8, some [.nilfn]⟩) .e) (some ⟨(.struct [(3, 0, 1), (2, 1, 1)] true), 2, 16, some [(.int .i64 (.n (0))), (.int .i64 (.n (0)))]⟩) (.n .e (some ⟨.func, 1, 8, some [.nilfn]⟩) .e))) (some ⟨(.struct [(9, 0, 1), (12, 1, 1)] false), 2, 24, some [(.str (.d (.byt []))), (.int .u64 (.n (0)))]⟩) (.n (.n (.n (.n .e (some ⟨.func, 1, 8, some [.nilfn]⟩) .e) (some ⟨(.struct [(27, 0, 1), (4, 1, 1)] true), 2, 32, some [.nilsl, (.bool (.c false))]⟩) .e) (some ⟨.func, 1, 8, some [.nilfn]⟩) (.n .e (some ⟨.func, 1, 8, some [.nilfn]⟩) .e)) (some ⟨.func, 1, 8, some [.nilfn]⟩) (.n (.n (.n .e (some ⟨.func, 1, 8, some [.nilfn]⟩) .e) (some ⟨(.struct [(35, 0, 4), (51, 4, 6), (3, 10, 1)] true), 11, 176, some [.nilsl, .nilsl, .nilsl, (.int .i64 (.n (0))), (.str (.d (.byt []))), (.int .i64 (.n (0))), (.int .i64 (.n (0))), (.bool (.c false)), .nilsl, .nilsl, (.int .i64 (.n (0)))]⟩) .e) (some ⟨(.struct [(3, 0, 1), (3, 1, 1), (3, 2, 1), (54, 3, 2), (54, 5, 2), (3, 7, 1), (3, 8, 1), (3, 9, 1), (59, 10, 1), (60, 11, 1), (60, 12, 1)] true), 13, 152, some [(.int .i64 (.n (0))), (.int .i64 (.n (0))), (.int .i64 (.n (0))), (.int .i64 (.n (0))), (.int .i64 (.n (0))), (.int .i64 (.n (0))), (.int .i64 (.n (0))), (.int .i64 (.n (0))), (.int .i64 (.n (0))), (.int .i64 (.n (0))), .nilsl, .nilsl, .nilsl]⟩) (.n .e (some ⟨.func, 1, 8, some [.nilfn]⟩) .e)))))))
theorem ty_eq : mkTy Try.prog keys = ty := by kernel_rfl
theorem mkTy_ok (P : Program) : ∀ (l : List Nat) t e, (mkTy P l).get t = some e → mkTE P t = some e
  | [], t, e, h => by simp [mkTy, Tb.get] at h
  | x :: l, t, e, h => by
    simp only [mkTy] at h
    split at h
    · rename_i y hy
      rcases Tb.get_put h with ⟨rfl, rfl⟩ | ⟨_, h⟩
      · exact hy
      · exact mkTy_ok P l t e h
    · exact mkTy_ok P l t e h
theorem tyOk : TyOk Try.prog ty := fun t e h => mkTy_ok Try.prog keys t e (by rw [ty_eq]; exact h)
theorem mixed : Try.prog.follows .mixedOrders = true := by kernel_rfl
/-- A contract: the function, the contract's number, its shapes, what it says. -/
abbrev Ct := Nat × Nat × Sig × (List Dt → Post → Prop)
def spOf : List Ct → Nat → List (Nat × Sig)
  | [], _ => []
  | e :: l, f => bif Nat.beq e.1 f then (e.2.1, e.2.2.1) :: spOf l f else spOf l f
def fOf : List Ct → Nat → List Dt → Post → Prop
  | [], _, _, _ => False
  | e :: l, g, is, Q => bif Nat.beq e.2.1 g then e.2.2.2 is Q else fOf l g is Q
def unAll (_ : Nat) : Bool := true
def noOw (_ : Nat) : List Nat := []
noncomputable def Cf (l : List Ct) : Cfg := ⟨Try.prog, ty, [], spOf l, unAll, noOw, false⟩
/-- A contract that is kept. -/
def Ent (e : Ct) : Prop := ConOk Try.prog ty [] (fun _ => e.2.2.2) 0 e.1 e.2.2.1
theorem spOf_mem : ∀ {l : List Ct} {f : Nat} {x : Nat × Sig}, x ∈ spOf l f → ∃ e ∈ l, e.1 = f ∧ e.2.1 = x.1 ∧ e.2.2.1 = x.2
  | [], _, _, h => nomatch h
  | e :: l, f, x, h => by
    simp only [spOf] at h
    cases hb : Nat.beq e.1 f <;> rw [hb] at h <;> simp only [cond_true, cond_false] at h
    · obtain ⟨y, hy, q⟩ := spOf_mem h
      exact ⟨y, .tail _ hy, q⟩
    · rcases List.mem_cons.1 h with rfl | h
      · exact ⟨e, .head _, beq_nat hb, rfl, rfl⟩
      · obtain ⟨y, hy, q⟩ := spOf_mem h
        exact ⟨y, .tail _ hy, q⟩
theorem fOf_get : ∀ {l : List Ct} {e : Ct}, (l.map (·.2.1)).Nodup → e ∈ l → ∀ is Q, fOf l e.2.1 is Q ↔ e.2.2.2 is Q
  | [], _, _, h, _, _ => nomatch h
  | y :: l, e, hn, h, is, Q => by
    simp only [List.map_cons, List.nodup_cons] at hn
    simp only [fOf]
    rcases List.mem_cons.1 h with rfl | h
    · simp
    · have : Nat.beq y.2.1 e.2.1 = false := by
        cases hb : Nat.beq y.2.1 e.2.1 with
        | false => rfl
        | true =>
          have := beq_nat hb
          exact absurd (List.mem_map.2 ⟨e, h, this.symm⟩) hn.1
      rw [this]
      exact fOf_get hn.2 h is Q
theorem con_of {l : List Ct} (hn : (l.map (·.2.1)).Nodup) (h : ∀ e ∈ l, Ent e) : ∀ f x, x ∈ spOf l f → ConOk Try.prog ty [] (fOf l) x.1 f x.2 := by
  intro f x hx
  obtain ⟨e, he, rfl, q2, q3⟩ := spOf_mem hx
  intro fz w β vs d1 d2 f1 f2 Q hg hz r1 r2 hnd hfp hβ hF
  rw [← q2] at hF
  rw [← q3] at r1 r2 hβ ⊢
  exact h e he fz w β vs d1 d2 f1 f2 Q hg hz r1 r2 hnd hfp hβ ((fOf_get hn he _ Q).1 hF)
theorem hyp_of {l : List Ct} (hn : (l.map (·.2.1)).Nodup) (h : ∀ e ∈ l, Ent e) : Hyp (Cf l) (fOf l) := ⟨tyOk, mixed, con_of hn h, fun _ => rfl⟩
theorem ent_of {l : List Ct} (hn : (l.map (·.2.1)).Nodup) (h : ∀ e ∈ l, Ent e) {fuel f g : Nat} {sig : Sig} {t : T} {s : List Dt → Post → Prop} (ht : sxFunc (Cf l) fuel f sig = t)
    (hs : ∀ is Q, hasTyL ty is (Sh.tysL sig.ins ++ ShB.tysL sig.bl) = true → s is Q → t.wp ty (fOf l) is Q) : Ent (f, g, sig, s) := by
  intro fz w β vs d1 d2 f1 f2 Q hg hz r1 r2 hnd hfp hβ hF
  refine run_ok (C := Cf l) (F := fOf l) (fuel := fuel) (hyp_of hn h) hg hz r1 r2 hnd hfp hβ ?_
  rw [ht]
  exact hs _ _ (hasTyL_append r1.tys r2.tys) hF
theorem ents_nil : ∀ e ∈ ([] : List Ct), Ent e := fun _ h => nomatch h
theorem ents_cons {e : Ct} {l : List Ct} (h : Ent e) (hl : ∀ x ∈ l, Ent x) : ∀ x ∈ e :: l, Ent x := fun x hx => by
  rcases List.mem_cons.1 hx with rfl | hx
  · exact h
  · exact hl x hx

/-! ### Concrete runs -/
/-- It has no data and yields none. -/
def s0 : List Dt → Post → Prop := fun is Q => is = [] ∧ Q 0 []
def n (x : Int) : Dt := .num x
def zeroOpd : Dt := .tup [n 0, n 0]
def fx : Dt := .tup [.byt [102], n 0, n 1, .tru false, .nil, .row [.tup [.row [.tup [n 2, n 1, n 0, .tup [n (-1), n 2], .tup [n (-1), n 3], n 0, n 0, n 0, .nil, .nil, .nil], .tup [n 8, n 0, n (-1), zeroOpd, zeroOpd, n 0, n 0, n 0, .nil, .nil, .nil]], .tup [n 3, zeroOpd, n 0, n 0]]]]
def exM : Dt := .tup [.nil, .nil, .row [fx], n 0]
def r3 : Dt := .tup [.row [n 5], n 1, n 0]
def r2 : Dt := .tup [.row [n 5], n 4, n 0]
abbrev L (t : Nat) (x : Dt) : Sh := .lit t x
def g25 : Sig := ⟨[L 35 exM], [], ⟨[L 22 (n 0)], []⟩, none⟩
def c25 : Ct := (25, 25, g25, s0)
theorem q25 : sxFunc (Cf []) 400 25 g25 = .ret 0 [] := by kernel_rfl
theorem e25 : Ent c25 := ent_of (l := []) .nil ents_nil q25 fun is Q _ h => h.2
def g17 : Sig := ⟨[], [], ⟨[L 35 exM], []⟩, none⟩
def c17 : Ct := (17, 17, g17, s0)
theorem q17 : sxFunc (Cf []) 400 17 g17 = .ret 0 [] := by kernel_rfl
theorem e17 : Ent c17 := ent_of (l := []) .nil ents_nil q17 fun is Q _ h => h.2
def g1303 : Sig := ⟨[L 35 exM, L 3 (n 3)], [], ⟨[L 29 r3, L 22 (n 0)], []⟩, none⟩
def c1303 : Ct := (13, 1303, g1303, s0)
theorem q1303 : sxFunc (Cf [c25]) 400 13 g1303 = .call 25 [] [] (.ret 0 []) [] (.fail 345) := by kernel_rfl
theorem call0 {l : List Ct} {g : Nat} {t : T} {is : List Dt} {Q : Post} (hg : ∀ is Q, s0 is Q → fOf l g is Q) (h : t.wp ty (fOf l) is Q) : (T.call g [] [] t [] (.fail 345)).wp ty (fOf l) is Q := by
  simp only [T.wp]
  refine hg _ _ ⟨rfl, ?_⟩
  simp only [if_true]
  intro _
  rw [List.append_nil]
  exact h
theorem e1303 : Ent c1303 := ent_of (l := [c25]) (by simp) (ents_cons e25 ents_nil) q1303 fun is Q _ h => call0 (fun is Q h => h) h.2
def g1302 : Sig := ⟨[L 35 exM, L 3 (n 2)], [], ⟨[L 29 r2, L 22 (n 0)], []⟩, none⟩
def c1302 : Ct := (13, 1302, g1302, s0)
theorem q1302 : sxFunc (Cf [c25]) 400 13 g1302 = .call 25 [] [] (.ret 0 []) [] (.fail 345) := by kernel_rfl
theorem e1302 : Ent c1302 := ent_of (l := [c25]) (by simp) (ents_cons e25 ents_nil) q1302 fun is Q _ h => call0 (fun is Q h => h) h.2
def g18 : Sig := ⟨[L 35 exM, L 3 (n 3), L 3 (n 10)], [], ⟨[L 44 (.row [.tup [n 0, n 0]]), L 22 (n 0)], []⟩, none⟩
def c18 : Ct := (18, 18, g18, s0)
theorem q18 : sxFunc (Cf [c25]) 400 18 g18 = .call 25 [] [] (.ret 0 []) [] (.fail 345) := by kernel_rfl
theorem e18 : Ent c18 := ent_of (l := [c25]) (by simp) (ents_cons e25 ents_nil) q18 fun is Q _ h => call0 (fun is Q h => h) h.2
def g9 : Sig := ⟨[], [], ⟨[L 4 (.tru true)], []⟩, none⟩
def c9 : Ct := (9, 9, g9, s0)
def l9 : List Ct := [c17, c1303, c1302, c18]
theorem q9 : sxFunc (Cf l9) 400 9 g9 = .call 17 [] [] (.call 1303 [] [] (.call 17 [] [] (.call 1302 [] [] (.call 17 [] [] (.call 18 [] [] (.ret 0 []) [] (.fail 345)) [] (.fail 345)) [] (.fail 345)) [] (.fail 345)) [] (.fail 345)) [] (.fail 345) := by kernel_rfl
theorem e9 : Ent c9 := ent_of (l := l9) (by simp [l9, c17, c1303, c1302, c18]) (ents_cons e17 (ents_cons e1303 (ents_cons e1302 (ents_cons e18 ents_nil)))) q9 fun is Q _ h => by
  refine call0 (fun is Q h => h) (call0 (fun is Q h => h) (call0 (fun is Q h => h) (call0 (fun is Q h => h) (call0 (fun is Q h => h) (call0 (fun is Q h => h) ?_)))))
  exact h.2

end Go.SYI
