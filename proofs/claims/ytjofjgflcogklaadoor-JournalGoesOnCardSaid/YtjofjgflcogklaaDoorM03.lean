/-
  Merged from JsTab_Tryd JsLays_Tryd DkHand JsHand AbsRules AbsSim: The functions that the statements reach, translated for the abstract machine, and that this is what the translation gives.
-/
import Derived.Test.YtjofjgflcogklaaDoorM02
import Derived.Test.YtjofjgflcogklaaDoorProg
import Derived.KernelRfl
import Derived.Shelf.SlIterI.Nil
import Derived.Shelf.SortM.Plain
import Derived.Shelf.SortM.SortNone
import Derived.Shelf.Strings.Repeat
import Derived.Test.YtjofjgflcogklaaDoorM01
import Derived.Shelf.SlMaps.Clone
import Derived.IntWalk
set_option linter.unusedSimpArgs false
set_option linter.unusedVariables false
set_option linter.defProp false
set_option linter.constructorNameAsVariable false
/-
  The functions that the statements reach, translated for the abstract machine, and that this is what the translation gives.
-/
set_option maxRecDepth 100000
namespace Go.Proofs.YtjofjgflcogklaaDoor
open Go Go.Abs
def shaK : List AVal := [.int .u32 1116352408, .int .u32 1899447441, .int .u32 3049323471, .int .u32 3921009573, .int .u32 961987163, .int .u32 1508970993, .int .u32 2453635748, .int .u32 2870763221, .int .u32 3624381080, .int .u32 310598401, .int .u32 607225278, .int .u32 1426881987, .int .u32 1925078388, .int .u32 2162078206, .int .u32 2614888103, .int .u32 3248222580, .int .u32 3835390401, .int .u32 4022224774, .int .u32 264347078, .int .u32 604807628, .int .u32 770255983, .int .u32 1249150122, .int .u32 1555081692, .int .u32 1996064986, .int .u32 2554220882, .int .u32 2821834349, .int .u32 2952996808, .int .u32 3210313671, .int .u32 3336571891, .int .u32 3584528711, .int .u32 113926993, .int .u32 338241895, .int .u32 666307205, .int .u32 773529912, .int .u32 1294757372, .int .u32 1396182291, .int .u32 1695183700, .int .u32 1986661051, .int .u32 2177026350, .int .u32 2456956037, .int .u32 2730485921, .int .u32 2820302411, .int .u32 3259730800, .int .u32 3345764771, .int .u32 3516065817, .int .u32 3600352804, .int .u32 4094571909, .int .u32 275423344, .int .u32 430227734, .int .u32 506948616, .int .u32 659060556, .int .u32 883997877, .int .u32 958139571, .int .u32 1322822218, .int .u32 1537002063, .int .u32 1747873779, .int .u32 1955562222, .int .u32 2024104815, .int .u32 2227730452, .int .u32 2361852424, .int .u32 2428436474, .int .u32 2756734187, .int .u32 3204031479, .int .u32 3329325298]
def hints : Hints := ⟨fun _ _ => false, fun f s => (f == 37 && s == 7) || (f == 38 && s == 7) || (f == 62 && s == 11), fun _ _ => false, fun f => [6, 7, 8, 9, 10, 11, 12, 17, 18, 23, 29, 30, 31, 34, 35, 47, 48, 49, 50, 52, 60, 61, 62, 63, 64, 65, 72, 76, 77, 81].contains f, fun _ => false, fun f r => if f == 22 && r == 1 then [0, 1, 2, 3, 5, 6, 7, 8, 4, 9, 10] else [], fun f => [19, 20, 21, 22, 25, 26, 32, 68].contains f, fun g => if g = 2 then some shaK else none⟩
def c4 : AFunc := ⟨[0, 1, 2, 6, 7, 8, 10, 11, 12, 13, 14, 15, 17, 18, 19, 20, 21, 33, 41, 47, 48, 49, 50, 70, 71, 72, 73, 74, 84, 85, 89, 100], (.seq (.ops [⟨(.var 3), .mov (.c (.bool false)), .none⟩]) (.seq (.seq (.ops [⟨.tmp, .mov (.v 0), .none⟩, ⟨.tmp, .bin .gtr .arith (.t 0) (.c (.int .i64 200)), .none⟩, ⟨.tmp, .mov (.t 1), .none⟩, ⟨.tmp, .mov (.v 1), (some ((.t 2), false))⟩, ⟨.tmp, .len (.t 3), (some ((.t 2), false))⟩, ⟨.tmp, .bin .gtr .arith (.t 4) (.c (.int .i64 20)), (some ((.t 2), false))⟩, ⟨.tmp, .pick (.t 2) (.c (.bool true)) (.t 5), .none⟩, ⟨.tmp, .mov (.t 6), .none⟩, ⟨.tmp, .mov (.v 2), (some ((.t 7), false))⟩, ⟨.tmp, .len (.t 8), (some ((.t 7), false))⟩, ⟨.tmp, .bin .gtr .arith (.t 9) (.c (.int .i64 8)), (some ((.t 7), false))⟩, ⟨(.var 17), .pick (.t 7) (.c (.bool true)) (.t 10), .none⟩]) (.cond (.v 17) (.seq (.ops [⟨.tmp, .call (.c (.fn 5 [])) [], .none⟩, ⟨(.var 3), .mov (.t 0), .none⟩]) .ret) .skip)) (.seq (.ops [⟨.tmp, .mov (.v 0), .none⟩, ⟨.tmp, .call (.c (.fn 13 [])) [(.t 0)], .none⟩, ⟨.tmp, .mov (.t 1), .none⟩, ⟨.tmp, .ext (.t 2) 0, .none⟩, ⟨.tmp, .ext (.t 2) 1, .none⟩, ⟨(.var 4), .mov (.t 3), .none⟩, ⟨(.var 5), .mov (.t 4), .none⟩]) (.seq (.seq (.ops [⟨.tmp, .mov (.v 5), .none⟩, ⟨(.var 18), .bin .neq .arith (.t 0) (.c (.int .i64 0)), .none⟩]) (.cond (.v 18) (.seq (.ops [⟨.tmp, .call (.c (.fn 5 [])) [], .none⟩, ⟨.tmp, .mov (.t 0), .none⟩, ⟨.tmp, .mov (.v 0), (some ((.t 1), true))⟩, ⟨.tmp, .bin .lss .arith (.t 2) (.c (.int .i64 1)), (some ((.t 1), true))⟩, ⟨.tmp, .pick (.t 1) (.t 3) (.c (.bool false)), .none⟩, ⟨(.var 3), .mov (.t 4), .none⟩]) .ret) .skip)) (.seq (.seq (.ops [⟨(.var 19), .mov (.v 2), .none⟩, ⟨(.var 20), .len (.v 19), .none⟩, ⟨(.var 21), .mov (.c (.int .i64 0)), .none⟩]) (.block 0 (.loop (.seq (.ops [⟨(.var 22), .bin .lss .arith (.v 21) (.v 20), .none⟩]) (.seq (.cond (.v 22) .skip (.exit 0)) (.seq (.block 1 (.seq (.ops [⟨.tmp, .iaddr 1 (.v 19) (.v 21), .none⟩, ⟨.tmp, .load 1 false (.t 0), .none⟩, ⟨(.var 6), .mov (.t 1), .none⟩]) (.ops [⟨.tmp, .mov (.v 4), .none⟩, ⟨.tmp, .mov (.v 6), .none⟩, ⟨.tmp, .toInt .i64 (.t 1), .none⟩, ⟨.tmp, .mov (.v 0), .none⟩, ⟨.tmp, .bin .rem .arith (.t 2) (.t 3), .none⟩, ⟨.tmp, .call (.c (.fn 14 [])) [(.t 0), (.t 4)], .none⟩]))) (.ops [⟨.tmp, .bin .add .arith (.v 21) (.c (.int .i64 1)), .none⟩, ⟨(.var 21), .mov (.t 0), .none⟩]))))))) (.seq (.ops [⟨.tmp, .mov (.v 4), .none⟩, ⟨.tmp, .call (.c (.fn 15 [])) [(.t 0)], .none⟩, ⟨.tmp, .mov (.t 1), .none⟩, ⟨.tmp, .ext (.t 2) 0, .none⟩, ⟨.tmp, .ext (.t 2) 1, .none⟩, ⟨(.var 7), .mov (.t 3), .none⟩, ⟨(.var 8), .mov (.t 4), .none⟩]) (.seq (.seq (.ops [⟨.tmp, .mov (.v 8), .none⟩, ⟨.tmp, .bin .neq .arith (.t 0) (.c (.int .i64 0)), .none⟩, ⟨.tmp, .mov (.t 1), .none⟩, ⟨.tmp, .mov (.v 7), (some ((.t 2), false))⟩, ⟨.tmp, .bin .eql .ptr (.t 3) (.c .nilptr), (some ((.t 2), false))⟩, ⟨(.var 23), .pick (.t 2) (.c (.bool true)) (.t 4), .none⟩]) (.cond (.v 23) (.seq (.ops [⟨(.var 3), .mov (.c (.bool false)), .none⟩]) .ret) .skip)) (.seq (.ops [⟨(.var 9), .mov (.c (.sl [] .nil)), .none⟩]) (.seq (.ops [⟨(.var 10), .mov (.c (.sl [] .nil)), .none⟩]) (.seq (.ops [⟨(.var 11), .mov (.c (.int .i64 0)), .none⟩]) (.seq (.seq (.ops [⟨(.var 24), .mov (.v 1), .none⟩, ⟨(.var 25), .len (.v 24), .none⟩, ⟨(.var 26), .mov (.c (.int .i64 0)), .none⟩]) (.block 2 (.loop (.seq (.ops [⟨(.var 27), .bin .lss .arith (.v 26) (.v 25), .none⟩]) (.seq (.cond (.v 27) .skip (.exit 2)) (.seq (.block 3 (.seq (.ops [⟨.tmp, .iaddr 6 (.v 24) (.v 26), .none⟩, ⟨.tmp, .load 6 true (.t 0), .none⟩, ⟨(.var 12), .alloc 46 6 true [(.int .i64 0), (.int .i64 0), (.int .i64 0), (.int .i64 0), (.int .u8 0), (.sl [] .nil)], .none⟩, ⟨.no, .store 6 (.v 12) (.t 1), .none⟩]) (.seq (.ops [⟨.tmp, .mov (.v 7), .none⟩, ⟨.tmp, .load 6 true (.v 12), .none⟩, ⟨.tmp, .pcall 17 [(.t 1)], .none⟩, ⟨.tmp, .call (.c (.fn 16 [])) [(.t 0), (.t 2)], .none⟩, ⟨.tmp, .mov (.t 3), .none⟩, ⟨.tmp, .ext (.t 4) 0, .none⟩, ⟨.tmp, .ext (.t 4) 1, .none⟩, ⟨(.var 13), .mov (.t 5), .none⟩, ⟨(.var 14), .mov (.t 6), .none⟩]) (.seq (.ops [⟨(.var 28), .mov (.v 14), .none⟩]) (.block 4 (.seq (.ops [⟨.tmp, .bin .eql .arith (.v 28) (.c (.int .i64 0)), .none⟩, ⟨(.var 29), .mov (.t 0), .none⟩]) (.cond (.v 29) (.seq (.seq (.ops [⟨.tmp, .mov (.v 13), .none⟩, ⟨.tmp, .mov (.v 11), .none⟩, ⟨(.var 30), .bin .leq .arith (.t 0) (.t 1), .none⟩]) (.cond (.v 30) (.seq (.ops [⟨(.var 3), .mov (.c (.bool false)), .none⟩]) .ret) .skip)) (.ops [⟨.tmp, .mov (.v 9), .none⟩, ⟨.tmp, .mov (.v 13), .none⟩, ⟨.tmp, .lit 0 3 1 1 false [(.int .i64 0)] [(0, (.t 1))], .none⟩, ⟨.tmp, .append false 3 8 1 false (.t 0) (.t 2), .none⟩, ⟨.tmp, .mov (.v 10), .none⟩, ⟨.tmp, .load 6 true (.v 12), .none⟩, ⟨.tmp, .pcall 17 [(.t 5)], .none⟩, ⟨.tmp, .lit 0 9 1 1 false [(.str [])] [(0, (.t 6))], .none⟩, ⟨.tmp, .append false 9 16 1 false (.t 4) (.t 7), .none⟩, ⟨.tmp, .mov (.v 13), .none⟩, ⟨(.var 9), .mov (.t 3), .none⟩, ⟨(.var 10), .mov (.t 8), .none⟩, ⟨(.var 11), .mov (.t 9), .none⟩])) (.seq (.seq (.ops [⟨.tmp, .bin .eql .arith (.v 28) (.c (.int .i64 22)), .none⟩, ⟨(.var 31), .mov (.t 0), .none⟩]) (.cond (.v 31) .skip (.seq (.ops [⟨.tmp, .bin .eql .arith (.v 28) (.c (.int .i64 20)), .none⟩, ⟨(.var 31), .mov (.t 0), .none⟩]) (.cond (.v 31) .skip (.ops [⟨.tmp, .bin .eql .arith (.v 28) (.c (.int .i64 4)), .none⟩, ⟨(.var 31), .mov (.t 0), .none⟩]))))) (.cond (.v 31) .skip (.seq (.ops [⟨(.var 3), .mov (.c (.bool false)), .none⟩]) .ret)))))))))) (.ops [⟨.tmp, .bin .add .arith (.v 26) (.c (.int .i64 1)), .none⟩, ⟨(.var 26), .mov (.t 0), .none⟩]))))))) (.seq (.ops [⟨.tmp, .mov (.v 4), .none⟩, ⟨.tmp, .call (.c (.fn 15 [])) [(.t 0)], .none⟩, ⟨.tmp, .mov (.t 1), .none⟩, ⟨.tmp, .ext (.t 2) 0, .none⟩, ⟨.tmp, .ext (.t 2) 1, .none⟩, ⟨(.var 15), .mov (.t 3), .none⟩, ⟨(.var 16), .mov (.t 4), .none⟩]) (.seq (.ops [⟨.tmp, .call (.c (.fn 5 [])) [], .none⟩, ⟨.tmp, .mov (.t 0), .none⟩, ⟨.tmp, .mov (.v 16), (some ((.t 1), true))⟩, ⟨.tmp, .bin .eql .arith (.t 2) (.c (.int .i64 0)), (some ((.t 1), true))⟩, ⟨.tmp, .pick (.t 1) (.t 3) (.c (.bool false)), .none⟩, ⟨.tmp, .mov (.t 4), .none⟩, ⟨.tmp, .mov (.v 7), (some ((.t 5), true))⟩, ⟨.tmp, .gcall 19 [(.t 6)], (some ((.t 5), true))⟩, ⟨.tmp, .mov (.v 9), (some ((.t 5), true))⟩, ⟨.tmp, .pcall 18 [(.t 7), (.t 8)], (some ((.t 5), true))⟩, ⟨.tmp, .pick (.t 5) (.t 9) (.c (.bool false)), .none⟩, ⟨.tmp, .mov (.t 10), .none⟩, ⟨.tmp, .mov (.v 7), (some ((.t 11), true))⟩, ⟨.tmp, .gcall 20 [(.t 12)], (some ((.t 11), true))⟩, ⟨.tmp, .mov (.v 10), (some ((.t 11), true))⟩, ⟨.tmp, .pcall 10 [(.t 13), (.t 14)], (some ((.t 11), true))⟩, ⟨.tmp, .pick (.t 11) (.t 15) (.c (.bool false)), .none⟩, ⟨.tmp, .mov (.t 16), .none⟩, ⟨.tmp, .mov (.v 15), (some ((.t 17), true))⟩, ⟨.tmp, .gcall 19 [(.t 18)], (some ((.t 17), true))⟩, ⟨.tmp, .mov (.v 9), (some ((.t 17), true))⟩, ⟨.tmp, .pcall 18 [(.t 19), (.t 20)], (some ((.t 17), true))⟩, ⟨.tmp, .pick (.t 17) (.t 21) (.c (.bool false)), .none⟩, ⟨.tmp, .mov (.t 22), .none⟩, ⟨.tmp, .mov (.v 15), (some ((.t 23), true))⟩, ⟨.tmp, .gcall 20 [(.t 24)], (some ((.t 23), true))⟩, ⟨.tmp, .mov (.v 10), (some ((.t 23), true))⟩, ⟨.tmp, .pcall 10 [(.t 25), (.t 26)], (some ((.t 23), true))⟩, ⟨.tmp, .pick (.t 23) (.t 27) (.c (.bool false)), .none⟩, ⟨(.var 3), .mov (.t 28), .none⟩]) .ret))))))))))))), [.v 3], []⟩
def c5 : AFunc := ⟨[0, 1, 2, 3, 4, 5, 6, 7, 8, 9, 10, 11, 12, 13, 14, 16, 17, 18, 19, 20, 21, 22, 23, 33, 54, 104, 137], (.seq (.ops [⟨(.var 0), .mov (.c (.bool false)), .none⟩]) (.seq (.ops [⟨.tmp, .call (.c (.fn 13 [])) [(.c (.int .i64 4))], .none⟩, ⟨.tmp, .mov (.t 0), .none⟩, ⟨.tmp, .ext (.t 1) 0, .none⟩, ⟨.tmp, .ext (.t 1) 1, .none⟩, ⟨(.var 1), .mov (.t 2), .none⟩, ⟨(.var 2), .mov (.t 3), .none⟩]) (.seq (.seq (.ops [⟨.tmp, .mov (.v 2), .none⟩, ⟨.tmp, .bin .neq .arith (.t 0) (.c (.int .i64 0)), .none⟩, ⟨.tmp, .mov (.t 1), .none⟩, ⟨.tmp, .mov (.v 1), (some ((.t 2), false))⟩, ⟨.tmp, .bin .eql .ptr (.t 3) (.c .nilptr), (some ((.t 2), false))⟩, ⟨(.var 23), .pick (.t 2) (.c (.bool true)) (.t 4), .none⟩]) (.cond (.v 23) (.seq (.ops [⟨(.var 0), .mov (.c (.bool false)), .none⟩]) .ret) .skip)) (.seq (.ops [⟨.tmp, .mov (.v 1), .none⟩, ⟨.tmp, .call (.c (.fn 15 [])) [(.t 0)], .none⟩, ⟨.tmp, .mov (.t 1), .none⟩, ⟨.tmp, .ext (.t 2) 0, .none⟩, ⟨.tmp, .ext (.t 2) 1, .none⟩, ⟨(.var 3), .mov (.t 3), .none⟩, ⟨(.var 4), .mov (.t 4), .none⟩]) (.seq (.seq (.ops [⟨.tmp, .mov (.v 4), .none⟩, ⟨.tmp, .bin .neq .arith (.t 0) (.c (.int .i64 0)), .none⟩, ⟨.tmp, .mov (.t 1), .none⟩, ⟨.tmp, .mov (.v 3), (some ((.t 2), false))⟩, ⟨.tmp, .bin .eql .ptr (.t 3) (.c .nilptr), (some ((.t 2), false))⟩, ⟨.tmp, .pick (.t 2) (.c (.bool true)) (.t 4), .none⟩, ⟨.tmp, .mov (.t 5), .none⟩, ⟨.tmp, .mov (.v 3), (some ((.t 6), false))⟩, ⟨.tmp, .gcall 21 [(.t 7)], (some ((.t 6), false))⟩, ⟨.tmp, .bin .neq .arith (.t 8) (.c (.int .i64 1)), (some ((.t 6), false))⟩, ⟨.tmp, .pick (.t 6) (.c (.bool true)) (.t 9), .none⟩, ⟨.tmp, .mov (.t 10), .none⟩, ⟨.tmp, .mov (.v 3), (some ((.t 11), false))⟩, ⟨.tmp, .gcall 22 [(.t 12)], (some ((.t 11), false))⟩, ⟨.tmp, .bin .neq .arith (.t 13) (.c (.int .i64 4)), (some ((.t 11), false))⟩, ⟨(.var 24), .pick (.t 11) (.c (.bool true)) (.t 14), .none⟩]) (.cond (.v 24) (.seq (.ops [⟨(.var 0), .mov (.c (.bool false)), .none⟩]) .ret) .skip)) (.seq (.ops [⟨.tmp, .mov (.v 3), .none⟩, ⟨.tmp, .call (.c (.fn 16 [])) [(.t 0), (.c (.str [97]))], .none⟩, ⟨.tmp, .mov (.t 1), .none⟩, ⟨.tmp, .ext (.t 2) 0, .none⟩, ⟨.tmp, .ext (.t 2) 1, .none⟩, ⟨(.var 5), .mov (.t 3), .none⟩, ⟨(.var 6), .mov (.t 4), .none⟩]) (.seq (.ops [⟨.tmp, .mov (.v 3), .none⟩, ⟨.tmp, .pcall 23 [(.c (.str [120])), (.c (.int .i64 50))], .none⟩, ⟨.tmp, .call (.c (.fn 16 [])) [(.t 0), (.t 1)], .none⟩, ⟨.tmp, .mov (.t 2), .none⟩, ⟨.tmp, .ext (.t 3) 0, .none⟩, ⟨.tmp, .ext (.t 3) 1, .none⟩, ⟨(.var 7), .mov (.t 4), .none⟩, ⟨(.var 8), .mov (.t 5), .none⟩]) (.seq (.ops [⟨.tmp, .mov (.v 3), .none⟩, ⟨.tmp, .gcall 22 [(.t 0)], .none⟩, ⟨(.var 9), .mov (.t 1), .none⟩]) (.seq (.ops [⟨.tmp, .mov (.v 1), .none⟩, ⟨.tmp, .call (.c (.fn 24 [])) [(.t 0), (.c (.int .i64 1)), (.c (.int .i64 70))], .none⟩, ⟨(.var 10), .mov (.t 1), .none⟩]) (.seq (.ops [⟨.tmp, .mov (.v 1), .none⟩, ⟨.tmp, .call (.c (.fn 15 [])) [(.t 0)], .none⟩, ⟨.tmp, .mov (.t 1), .none⟩, ⟨.tmp, .ext (.t 2) 0, .none⟩, ⟨.tmp, .ext (.t 2) 1, .none⟩, ⟨(.var 11), .mov (.t 3), .none⟩, ⟨(.var 12), .mov (.t 4), .none⟩]) (.seq (.seq (.ops [⟨.tmp, .mov (.v 5), .none⟩, ⟨.tmp, .bin .neq .arith (.t 0) (.c (.int .i64 1)), .none⟩, ⟨.tmp, .mov (.t 1), .none⟩, ⟨.tmp, .mov (.v 6), (some ((.t 2), false))⟩, ⟨.tmp, .bin .neq .arith (.t 3) (.c (.int .i64 0)), (some ((.t 2), false))⟩, ⟨.tmp, .pick (.t 2) (.c (.bool true)) (.t 4), .none⟩, ⟨.tmp, .mov (.t 5), .none⟩, ⟨.tmp, .mov (.v 7), (some ((.t 6), false))⟩, ⟨.tmp, .bin .neq .arith (.t 7) (.c (.int .i64 2)), (some ((.t 6), false))⟩, ⟨.tmp, .pick (.t 6) (.c (.bool true)) (.t 8), .none⟩, ⟨.tmp, .mov (.t 9), .none⟩, ⟨.tmp, .mov (.v 8), (some ((.t 10), false))⟩, ⟨.tmp, .bin .neq .arith (.t 11) (.c (.int .i64 0)), (some ((.t 10), false))⟩, ⟨.tmp, .pick (.t 10) (.c (.bool true)) (.t 12), .none⟩, ⟨.tmp, .mov (.t 13), .none⟩, ⟨.tmp, .mov (.v 9), (some ((.t 14), false))⟩, ⟨.tmp, .bin .neq .arith (.t 15) (.c (.int .i64 1)), (some ((.t 14), false))⟩, ⟨.tmp, .pick (.t 14) (.c (.bool true)) (.t 16), .none⟩, ⟨.tmp, .mov (.t 17), .none⟩, ⟨.tmp, .mov (.v 10), (some ((.t 18), false))⟩, ⟨.tmp, .bin .neq .arith (.t 19) (.c (.int .i64 0)), (some ((.t 18), false))⟩, ⟨.tmp, .pick (.t 18) (.c (.bool true)) (.t 20), .none⟩, ⟨.tmp, .mov (.t 21), .none⟩, ⟨.tmp, .mov (.v 12), (some ((.t 22), false))⟩, ⟨.tmp, .bin .neq .arith (.t 23) (.c (.int .i64 0)), (some ((.t 22), false))⟩, ⟨.tmp, .pick (.t 22) (.c (.bool true)) (.t 24), .none⟩, ⟨.tmp, .mov (.t 25), .none⟩, ⟨.tmp, .mov (.v 11), (some ((.t 26), false))⟩, ⟨.tmp, .bin .eql .ptr (.t 27) (.c .nilptr), (some ((.t 26), false))⟩, ⟨(.var 25), .pick (.t 26) (.c (.bool true)) (.t 28), .none⟩]) (.cond (.v 25) (.seq (.ops [⟨(.var 0), .mov (.c (.bool false)), .none⟩]) .ret) .skip)) (.seq (.ops [⟨.tmp, .mov (.v 11), .none⟩, ⟨.tmp, .call (.c (.fn 16 [])) [(.t 0), (.c (.str [98]))], .none⟩, ⟨.tmp, .mov (.t 1), .none⟩, ⟨.tmp, .ext (.t 2) 0, .none⟩, ⟨.tmp, .ext (.t 2) 1, .none⟩, ⟨(.var 13), .mov (.t 3), .none⟩, ⟨(.var 14), .mov (.t 4), .none⟩]) (.seq (.ops [⟨.tmp, .mov (.v 11), .none⟩, ⟨.tmp, .call (.c (.fn 16 [])) [(.t 0), (.c (.str [99]))], .none⟩, ⟨.tmp, .mov (.t 1), .none⟩, ⟨.tmp, .ext (.t 2) 0, .none⟩, ⟨.tmp, .ext (.t 2) 1, .none⟩, ⟨.tmp, .mov (.t 3), .none⟩, ⟨(.var 15), .mov (.t 4), .none⟩]) (.seq (.ops [⟨.tmp, .pcall 6 [(.c (.int .i64 1)), (.c (.str [97]))], .none⟩, ⟨.tmp, .mov (.t 0), .none⟩, ⟨.tmp, .ext (.t 1) 0, .none⟩, ⟨.tmp, .ext (.t 1) 1, .none⟩, ⟨(.var 16), .mov (.t 2), .none⟩, ⟨(.var 17), .mov (.t 3), .none⟩]) (.seq (.seq (.ops [⟨.tmp, .mov (.v 13), .none⟩, ⟨.tmp, .bin .neq .arith (.t 0) (.c (.int .i64 3)), .none⟩, ⟨.tmp, .mov (.t 1), .none⟩, ⟨.tmp, .mov (.v 14), (some ((.t 2), false))⟩, ⟨.tmp, .bin .neq .arith (.t 3) (.c (.int .i64 0)), (some ((.t 2), false))⟩, ⟨.tmp, .pick (.t 2) (.c (.bool true)) (.t 4), .none⟩, ⟨.tmp, .mov (.t 5), .none⟩, ⟨.tmp, .mov (.v 15), (some ((.t 6), false))⟩, ⟨.tmp, .bin .neq .arith (.t 7) (.c (.int .i64 20)), (some ((.t 6), false))⟩, ⟨.tmp, .pick (.t 6) (.c (.bool true)) (.t 8), .none⟩, ⟨.tmp, .mov (.t 9), .none⟩, ⟨.tmp, .mov (.v 16), (some ((.t 10), false))⟩, ⟨.tmp, .len (.t 11), (some ((.t 10), false))⟩, ⟨.tmp, .bin .neq .arith (.t 12) (.c (.int .i64 1)), (some ((.t 10), false))⟩, ⟨.tmp, .pick (.t 10) (.c (.bool true)) (.t 13), .none⟩, ⟨.tmp, .mov (.t 14), .none⟩, ⟨.tmp, .mov (.v 17), (some ((.t 15), false))⟩, ⟨.tmp, .bin .neq .arith (.t 16) (.c (.int .i64 0)), (some ((.t 15), false))⟩, ⟨(.var 26), .pick (.t 15) (.c (.bool true)) (.t 17), .none⟩]) (.cond (.v 26) (.seq (.ops [⟨(.var 0), .mov (.c (.bool false)), .none⟩]) .ret) .skip)) (.seq (.ops [⟨.tmp, .mov (.v 16), .none⟩, ⟨.tmp, .iaddr 1 (.t 0) (.c (.int .i64 0)), .none⟩, ⟨.tmp, .load 1 false (.t 1), .none⟩, ⟨.tmp, .pcall 8 [(.t 2)], .none⟩, ⟨.tmp, .mov (.t 3), .none⟩, ⟨.tmp, .ext (.t 4) 0, .none⟩, ⟨.tmp, .ext (.t 4) 1, .none⟩, ⟨.tmp, .ext (.t 4) 2, .none⟩, ⟨.tmp, .ext (.t 4) 3, .none⟩, ⟨.tmp, .ext (.t 4) 4, .none⟩, ⟨(.var 18), .mov (.t 5), .none⟩, ⟨(.var 19), .mov (.t 6), .none⟩, ⟨(.var 20), .mov (.t 7), .none⟩, ⟨(.var 21), .mov (.t 8), .none⟩, ⟨(.var 22), .mov (.t 9), .none⟩]) (.seq (.ops [⟨.tmp, .mov (.v 11), .none⟩, ⟨.tmp, .gcall 19 [(.t 0)], .none⟩, ⟨.tmp, .lit 0 3 2 1 false [(.int .i64 0)] [(0, (.c (.int .i64 1))), (1, (.c (.int .i64 3)))], .none⟩, ⟨.tmp, .pcall 18 [(.t 1), (.t 2)], .none⟩, ⟨.tmp, .mov (.t 3), .none⟩, ⟨.tmp, .mov (.v 11), (some ((.t 4), true))⟩, ⟨.tmp, .gcall 20 [(.t 5)], (some ((.t 4), true))⟩, ⟨.tmp, .lit 0 9 2 1 false [(.str [])] [(0, (.c (.str [97]))), (1, (.c (.str [98])))], (some ((.t 4), true))⟩, ⟨.tmp, .pcall 10 [(.t 6), (.t 7)], (some ((.t 4), true))⟩, ⟨.tmp, .pick (.t 4) (.t 8) (.c (.bool false)), .none⟩, ⟨.tmp, .mov (.t 9), .none⟩, ⟨.tmp, .mov (.v 11), (some ((.t 10), true))⟩, ⟨.tmp, .gcall 25 [(.t 11)], (some ((.t 10), true))⟩, ⟨.tmp, .lit 0 3 1 1 false [(.int .i64 0)] [(0, (.c (.int .i64 2)))], (some ((.t 10), true))⟩, ⟨.tmp, .pcall 18 [(.t 12), (.t 13)], (some ((.t 10), true))⟩, ⟨.tmp, .pick (.t 10) (.t 14) (.c (.bool false)), .none⟩, ⟨.tmp, .mov (.t 15), .none⟩, ⟨.tmp, .mov (.v 11), (some ((.t 16), true))⟩, ⟨.tmp, .gcall 26 [(.t 17)], (some ((.t 16), true))⟩, ⟨.tmp, .lit 0 3 1 1 false [(.int .i64 0)] [(0, (.c (.int .i64 1)))], (some ((.t 16), true))⟩, ⟨.tmp, .pcall 18 [(.t 18), (.t 19)], (some ((.t 16), true))⟩, ⟨.tmp, .pick (.t 16) (.t 20) (.c (.bool false)), .none⟩, ⟨.tmp, .mov (.t 21), .none⟩, ⟨.tmp, .pcall 11 [(.c (.int .i64 49))], (some ((.t 22), true))⟩, ⟨.tmp, .bin .eql .arith (.t 23) (.c (.int .i64 2)), (some ((.t 22), true))⟩, ⟨.tmp, .pick (.t 22) (.t 24) (.c (.bool false)), .none⟩, ⟨.tmp, .mov (.t 25), .none⟩, ⟨.tmp, .mov (.v 18), (some ((.t 26), true))⟩, ⟨.tmp, .bin .eql .arith (.t 27) (.c (.int .i64 1)), (some ((.t 26), true))⟩, ⟨.tmp, .pick (.t 26) (.t 28) (.c (.bool false)), .none⟩, ⟨.tmp, .mov (.t 29), .none⟩, ⟨.tmp, .mov (.v 19), (some ((.t 30), true))⟩, ⟨.tmp, .bin .eql .arith (.t 31) (.c (.int .i64 0)), (some ((.t 30), true))⟩, ⟨.tmp, .pick (.t 30) (.t 32) (.c (.bool false)), .none⟩, ⟨.tmp, .mov (.t 33), .none⟩, ⟨.tmp, .mov (.v 20), (some ((.t 34), true))⟩, ⟨.tmp, .bin .eql .arith (.t 35) (.c (.int .i64 1)), (some ((.t 34), true))⟩, ⟨.tmp, .pick (.t 34) (.t 36) (.c (.bool false)), .none⟩, ⟨.tmp, .mov (.t 37), .none⟩, ⟨.tmp, .mov (.v 21), (some ((.t 38), true))⟩, ⟨.tmp, .bin .eql .arith (.t 39) (.c (.str [97])), (some ((.t 38), true))⟩, ⟨.tmp, .pick (.t 38) (.t 40) (.c (.bool false)), .none⟩, ⟨.tmp, .mov (.t 41), .none⟩, ⟨.tmp, .mov (.v 22), (some ((.t 42), true))⟩, ⟨.tmp, .pick (.t 42) (.t 43) (.c (.bool false)), .none⟩, ⟨(.var 0), .mov (.t 44), .none⟩]) .ret))))))))))))))))), [.v 0], []⟩
def c6L0 : ALoop := ⟨[(some 9)], (.ops [⟨(.var 5), .alloc 61 64 true (List.replicate 64 (.int .u8 0)), .none⟩, ⟨.no, .store 64 (.v 5) (.v 9), .none⟩]), (.block 2 (.ops [⟨.tmp, .load 1 false (.v 4), .none⟩, ⟨.tmp, .x (.aslice 64 1 false false false) [(.v 5)], .none⟩, ⟨.tmp, .x .b2s [(.t 1)], .none⟩, ⟨.tmp, .lit 0 9 1 1 false [(.str [])] [(0, (.t 2))], .none⟩, ⟨.tmp, .append false 9 16 1 false (.t 0) (.t 3), .none⟩, ⟨.no, .store 1 (.v 4) (.t 4), .none⟩]))⟩
def c6 : AFunc := ⟨[0, 1, 4, 5, 6, 7, 8, 15, 21, 22], (.seq (.ops [⟨(.var 2), .mov (.c (.sl [] .nil)), .none⟩, ⟨(.var 3), .mov (.c (.int .i64 0)), .none⟩]) (.seq (.block 0 (.seq (.ops [⟨.tmp, .mov (.v 0), .none⟩, ⟨.tmp, .bin .lss .arith (.t 0) (.c (.int .i64 1)), .none⟩, ⟨.tmp, .mov (.t 1), .none⟩, ⟨.tmp, .mov (.v 0), (some ((.t 2), false))⟩, ⟨.tmp, .bin .gtr .arith (.t 3) (.c (.int .i64 4096)), (some ((.t 2), false))⟩, ⟨.tmp, .pick (.t 2) (.c (.bool true)) (.t 4), .none⟩, ⟨(.var 6), .mov (.t 5), .none⟩]) (.cond (.v 6) (.seq (.ops [⟨(.var 2), .mov (.c (.sl [] .nil)), .none⟩, ⟨(.var 3), .mov (.c (.int .i64 1)), .none⟩]) .ret) (.seq (.ops [⟨.tmp, .mov (.v 1), .none⟩, ⟨.tmp, .slen (.t 0), .none⟩, ⟨.tmp, .bin .gtr .arith (.t 1) (.c (.int .i64 8000)), .none⟩, ⟨(.var 7), .mov (.t 2), .none⟩]) (.cond (.v 7) (.seq (.ops [⟨(.var 2), .mov (.c (.sl [] .nil)), .none⟩, ⟨(.var 3), .mov (.c (.int .i64 4)), .none⟩]) .ret) .skip))))) (.seq (.ops [⟨(.var 4), .alloc 23 1 false [(.sl [] .nil)], .none⟩]) (.seq (.seq (.ops [⟨.tmp, .mov (.v 0), .none⟩, ⟨.tmp, .mov (.v 1), .none⟩, ⟨(.var 8), .call (.c (.fn 27 [])) [(.t 0), (.t 1)], .none⟩]) (.block 1 (.rfunc 6 0 [0, 1, 4, 5, 6, 7, 8, 15, 21, 22] (.v 8)))) (.seq (.ops [⟨.tmp, .load 1 false (.v 4), .none⟩, ⟨(.var 2), .mov (.t 0), .none⟩, ⟨(.var 3), .mov (.c (.int .i64 0)), .none⟩]) .ret))))), [.v 2, .v 3], [c6L0]⟩
def c8 : AFunc := ⟨[0, 2, 3, 4, 5, 6, 7], (.seq (.ops [⟨(.var 1), .mov (.c (.int .i64 0)), .none⟩, ⟨(.var 2), .mov (.c (.int .i64 0)), .none⟩, ⟨(.var 3), .mov (.c (.int .i64 0)), .none⟩, ⟨(.var 4), .mov (.c (.str [])), .none⟩, ⟨(.var 5), .mov (.c (.bool false)), .none⟩]) (.seq (.ops [⟨.tmp, .mov (.v 0), .none⟩, ⟨.tmp, .pcall 30 [(.t 0)], .none⟩, ⟨(.var 6), .alloc 65 5 true [(.int .i64 0), (.int .i64 0), (.int .i64 0), (.str []), (.bool false)], .none⟩, ⟨.no, .store 5 (.v 6) (.t 1), .none⟩]) (.seq (.ops [⟨.tmp, .faddr 0 (.v 6), .none⟩, ⟨.tmp, .load 1 false (.t 0), .none⟩, ⟨.tmp, .faddr 1 (.v 6), .none⟩, ⟨.tmp, .load 1 false (.t 2), .none⟩, ⟨.tmp, .faddr 2 (.v 6), .none⟩, ⟨.tmp, .load 1 false (.t 4), .none⟩, ⟨.tmp, .faddr 3 (.v 6), .none⟩, ⟨.tmp, .load 1 false (.t 6), .none⟩, ⟨.tmp, .faddr 4 (.v 6), .none⟩, ⟨.tmp, .load 1 false (.t 8), .none⟩, ⟨(.var 1), .mov (.t 1), .none⟩, ⟨(.var 2), .mov (.t 3), .none⟩, ⟨(.var 3), .mov (.t 5), .none⟩, ⟨(.var 4), .mov (.t 7), .none⟩, ⟨(.var 5), .mov (.t 9), .none⟩]) .ret))), [.v 1, .v 2, .v 3, .v 4, .v 5], []⟩
def c10 : AFunc := ⟨[0, 1, 4, 5, 10, 14, 25], (.seq (.ops [⟨(.var 2), .mov (.c (.bool false)), .none⟩]) (.seq (.seq (.ops [⟨.tmp, .mov (.v 0), .none⟩, ⟨.tmp, .len (.t 0), .none⟩, ⟨.tmp, .mov (.v 1), .none⟩, ⟨.tmp, .len (.t 2), .none⟩, ⟨(.var 4), .bin .neq .arith (.t 1) (.t 3), .none⟩]) (.cond (.v 4) (.seq (.ops [⟨(.var 2), .mov (.c (.bool false)), .none⟩]) .ret) .skip)) (.seq (.seq (.ops [⟨(.var 3), .mov (.c (.int .i64 0)), .none⟩]) (.block 0 (.loop (.seq (.seq (.ops [⟨.tmp, .mov (.v 3), .none⟩, ⟨.tmp, .mov (.v 0), .none⟩, ⟨.tmp, .len (.t 1), .none⟩, ⟨(.var 5), .bin .lss .arith (.t 0) (.t 2), .none⟩]) (.cond (.v 5) .skip (.exit 0))) (.seq (.block 1 (.seq (.ops [⟨.tmp, .mov (.v 0), .none⟩, ⟨.tmp, .mov (.v 3), .none⟩, ⟨.tmp, .iaddr 1 (.t 0) (.t 1), .none⟩, ⟨.tmp, .load 1 false (.t 2), .none⟩, ⟨.tmp, .mov (.v 1), .none⟩, ⟨.tmp, .mov (.v 3), .none⟩, ⟨.tmp, .iaddr 1 (.t 4) (.t 5), .none⟩, ⟨.tmp, .load 1 false (.t 6), .none⟩, ⟨(.var 6), .bin .neq .arith (.t 3) (.t 7), .none⟩]) (.cond (.v 6) (.seq (.ops [⟨(.var 2), .mov (.c (.bool false)), .none⟩]) .ret) .skip))) (.ops [⟨.tmp, .mov (.v 3), .none⟩, ⟨.tmp, .bin .add .arith (.t 0) (.c (.int .i64 1)), .none⟩, ⟨(.var 3), .mov (.t 1), .none⟩])))))) (.seq (.ops [⟨(.var 2), .mov (.c (.bool true)), .none⟩]) .ret)))), [.v 2], []⟩
def c11 : AFunc := ⟨[0, 2, 8], (.seq (.ops [⟨(.var 1), .mov (.c (.int .i64 0)), .none⟩]) (.seq (.seq (.ops [⟨.tmp, .mov (.v 0), .none⟩, ⟨.tmp, .bin .lss .arith (.t 0) (.c (.int .i64 0)), .none⟩, ⟨.tmp, .mov (.t 1), .none⟩, ⟨.tmp, .mov (.v 0), (some ((.t 2), false))⟩, ⟨.tmp, .bin .gtr .arith (.t 3) (.c (.int .i64 8000)), (some ((.t 2), false))⟩, ⟨(.var 2), .pick (.t 2) (.c (.bool true)) (.t 4), .none⟩]) (.cond (.v 2) (.seq (.ops [⟨(.var 1), .mov (.c (.int .i64 0)), .none⟩]) .ret) .skip)) (.seq (.ops [⟨.tmp, .mov (.v 0), .none⟩, ⟨.tmp, .bin .add .arith (.t 0) (.c (.int .i64 48)), .none⟩, ⟨.tmp, .bin .sub .arith (.t 1) (.c (.int .i64 1)), .none⟩, ⟨.tmp, .bin .quo .arith (.t 2) (.c (.int .i64 48)), .none⟩, ⟨.tmp, .mnx true (.c (.int .i64 1)) (.t 3), .none⟩, ⟨(.var 1), .mov (.t 4), .none⟩]) .ret))), [.v 1], []⟩
def c13 : AFunc := ⟨[0, 2, 3, 9], (.seq (.ops [⟨(.var 1), .mov (.c .nilptr), .none⟩, ⟨(.var 2), .mov (.c (.int .i64 0)), .none⟩]) (.seq (.seq (.ops [⟨.tmp, .mov (.v 0), .none⟩, ⟨.tmp, .bin .lss .arith (.t 0) (.c (.int .i64 1)), .none⟩, ⟨.tmp, .mov (.t 1), .none⟩, ⟨.tmp, .mov (.v 0), (some ((.t 2), false))⟩, ⟨.tmp, .bin .gtr .arith (.t 3) (.c (.int .i64 4096)), (some ((.t 2), false))⟩, ⟨(.var 3), .pick (.t 2) (.c (.bool true)) (.t 4), .none⟩]) (.cond (.v 3) (.seq (.ops [⟨(.var 1), .mov (.c .nilptr), .none⟩, ⟨(.var 2), .mov (.c (.int .i64 1)), .none⟩]) .ret) .skip)) (.seq (.ops [⟨.tmp, .mov (.v 0), .none⟩, ⟨.tmp, .mksl 64 64 true (List.replicate 64 (.int .u8 0)) (.t 0) (.t 0), .none⟩, ⟨.tmp, .x (.mkmap (.int .i64)) [], .none⟩, ⟨.tmp, .x (.mkmap (.int .i64)) [], .none⟩, ⟨.tmp, .build [(.sl [] .nil), .nilmp, .nilmp, (.bool false), (.int .i64 0)] [(0, 1, (.t 1)), (1, 1, (.t 2)), (2, 1, (.t 3)), (4, 1, (.c (.int .i64 (-1))))], .none⟩, ⟨.tmp, .box 5 true (.t 4), .none⟩, ⟨(.var 1), .mov (.t 5), .none⟩, ⟨(.var 2), .mov (.c (.int .i64 0)), .none⟩]) .ret))), [.v 1, .v 2], []⟩
def c14 : AFunc := ⟨[0, 1, 4, 15], (.seq (.ops [⟨(.var 2), .mov (.c (.int .i64 0)), .none⟩]) (.seq (.seq (.ops [⟨.tmp, .mov (.v 1), .none⟩, ⟨.tmp, .bin .lss .arith (.t 0) (.c (.int .i64 0)), .none⟩, ⟨.tmp, .mov (.t 1), .none⟩, ⟨.tmp, .mov (.v 1), (some ((.t 2), false))⟩, ⟨.tmp, .mov (.v 0), (some ((.t 2), false))⟩, ⟨.tmp, .nilc (.t 4), (some ((.t 2), false))⟩, ⟨.tmp, .faddr 0 (.t 5), (some ((.t 2), false))⟩, ⟨.tmp, .load 1 false (.t 6), (some ((.t 2), false))⟩, ⟨.tmp, .len (.t 7), (some ((.t 2), false))⟩, ⟨.tmp, .bin .geq .arith (.t 3) (.t 8), (some ((.t 2), false))⟩, ⟨(.var 3), .pick (.t 2) (.c (.bool true)) (.t 9), .none⟩]) (.cond (.v 3) (.seq (.ops [⟨(.var 2), .mov (.c (.int .i64 1)), .none⟩]) .ret) .skip)) (.seq (.ops [⟨.tmp, .mov (.v 0), .none⟩, ⟨.tmp, .nilc (.t 0), .none⟩, ⟨.tmp, .faddr 2 (.t 1), .none⟩, ⟨.tmp, .load 1 false (.t 2), .none⟩, ⟨.tmp, .mov (.v 1), .none⟩, ⟨.no, .x (.mput (.int .i64)) [(.t 3), (.t 4), (.c (.bool true))], .none⟩]) (.seq (.ops [⟨(.var 2), .mov (.c (.int .i64 0)), .none⟩]) .ret)))), [.v 2], []⟩
def c15 : AFunc := ⟨[0, 2, 3, 4, 5, 6, 7, 8, 9, 10, 11, 12, 13, 14, 19, 20, 21, 30, 50, 62, 88, 98, 111], (.seq (.ops [⟨(.var 1), .mov (.c .nilptr), .none⟩, ⟨(.var 2), .mov (.c (.int .i64 0)), .none⟩]) (.seq (.ops [⟨.tmp, .mov (.v 0), .none⟩, ⟨.tmp, .build [.nilptr, (.sl [] .nil), (.sl [] .nil), (.sl [] .nil), (.int .i64 0), (.int .i64 0), (.bool false)] [(0, 1, (.t 0)), (4, 1, (.c (.int .i64 1)))], .none⟩, ⟨.tmp, .box 7 true (.t 1), .none⟩, ⟨(.var 3), .mov (.t 2), .none⟩]) (.seq (.ops [⟨(.var 4), .mov (.c (.sl [] .nil)), .none⟩]) (.seq (.seq (.ops [⟨.tmp, .mov (.v 0), .none⟩, ⟨(.var 14), .gcall 32 [(.t 0)], .none⟩, ⟨(.var 15), .mov (.c (.int .i64 0)), .none⟩]) (.block 0 (.loop (.seq (.ops [⟨(.var 16), .bin .lss .arith (.v 15) (.v 14), .none⟩]) (.seq (.cond (.v 16) .skip (.exit 0)) (.seq (.block 1 (.seq (.ops [⟨.tmp, .mov (.v 15), .none⟩, ⟨(.var 5), .mov (.t 0), .none⟩]) (.seq (.ops [⟨.tmp, .mov (.v 0), .none⟩, ⟨.tmp, .mov (.v 5), .none⟩, ⟨.tmp, .call (.c (.fn 33 [])) [(.t 0), (.t 1)], .none⟩, ⟨.tmp, .mov (.t 2), .none⟩, ⟨.tmp, .ext (.t 3) 0, .none⟩, ⟨.tmp, .ext (.t 3) 1, .none⟩, ⟨(.var 6), .mov (.t 4), .none⟩, ⟨(.var 7), .mov (.t 5), .none⟩]) (.seq (.seq (.ops [⟨.tmp, .mov (.v 7), .none⟩, ⟨(.var 17), .bin .neq .arith (.t 0) (.c (.int .i64 0)), .none⟩]) (.cond (.v 17) (.seq (.ops [⟨.tmp, .mov (.v 7), .none⟩, ⟨(.var 1), .mov (.c .nilptr), .none⟩, ⟨(.var 2), .mov (.t 0), .none⟩]) .ret) .skip)) (.seq (.ops [⟨.tmp, .mov (.v 6), .none⟩, ⟨.tmp, .pcall 30 [(.t 0)], .none⟩, ⟨(.var 8), .alloc 65 5 true [(.int .i64 0), (.int .i64 0), (.int .i64 0), (.str []), (.bool false)], .none⟩, ⟨.no, .store 5 (.v 8) (.t 1), .none⟩]) (.seq (.ops [⟨.tmp, .mov (.v 4), .none⟩, ⟨.tmp, .load 5 true (.v 8), .none⟩, ⟨.tmp, .lit 0 65 1 5 true [(.int .i64 0), (.int .i64 0), (.int .i64 0), (.str []), (.bool false)] [(0, (.t 1))], .none⟩, ⟨.tmp, .append false 65 48 5 true (.t 0) (.t 2), .none⟩, ⟨(.var 4), .mov (.t 3), .none⟩]) (.seq (.ops [⟨.tmp, .mov (.v 6), .none⟩, ⟨.tmp, .slen (.t 0), .none⟩, ⟨.tmp, .bin .eql .arith (.t 1) (.c (.int .i64 64)), .none⟩, ⟨.tmp, .mov (.t 2), .none⟩, ⟨.tmp, .mov (.v 6), (some ((.t 3), true))⟩, ⟨.tmp, .x (.s2b false) [(.t 4)], (some ((.t 3), true))⟩, ⟨.tmp, .x (.s2ap 64 1) [(.t 5)], (some ((.t 3), true))⟩, ⟨.tmp, .load 64 true (.t 6), (some ((.t 3), true))⟩, ⟨.tmp, .build (List.replicate 64 (.int .u8 0)) [], (some ((.t 3), true))⟩, ⟨.tmp, .bin .eql (.struct (List.replicate 64 .int)) (.t 7) (.t 8), (some ((.t 3), true))⟩, ⟨.tmp, .pick (.t 3) (.t 9) (.c (.bool false)), .none⟩, ⟨(.var 9), .mov (.t 10), .none⟩]) (.seq (.seq (.ops [⟨.tmp, .mov (.v 9), .none⟩, ⟨(.var 18), .un .not (.t 0), .none⟩]) (.cond (.v 18) (.ops [⟨.tmp, .mov (.v 3), .none⟩, ⟨.tmp, .mov (.v 5), .none⟩, ⟨.tmp, .bin .add .arith (.t 1) (.c (.int .i64 1)), .none⟩, ⟨.tmp, .nilc (.t 0), .none⟩, ⟨.tmp, .faddr 5 (.t 3), .none⟩, ⟨.no, .store 1 (.t 4) (.t 2), .none⟩]) .skip)) (.seq (.seq (.ops [⟨.tmp, .faddr 4 (.v 8), .none⟩, ⟨.tmp, .load 1 false (.t 0), .none⟩, ⟨.tmp, .un .not (.t 1), .none⟩, ⟨.tmp, .mov (.t 2), .none⟩, ⟨.tmp, .mov (.v 9), (some ((.t 3), true))⟩, ⟨.tmp, .un .not (.t 4), (some ((.t 3), true))⟩, ⟨(.var 19), .pick (.t 3) (.t 5) (.c (.bool false)), .none⟩]) (.cond (.v 19) (.ops [⟨.tmp, .mov (.v 3), .none⟩, ⟨.tmp, .mov (.v 3), .none⟩, ⟨.tmp, .nilc (.t 1), .none⟩, ⟨.tmp, .faddr 2 (.t 2), .none⟩, ⟨.tmp, .load 1 false (.t 3), .none⟩, ⟨.tmp, .mov (.v 5), .none⟩, ⟨.tmp, .lit 0 3 1 1 false [(.int .i64 0)] [(0, (.t 5))], .none⟩, ⟨.tmp, .append false 3 8 1 false (.t 4) (.t 6), .none⟩, ⟨.tmp, .nilc (.t 0), .none⟩, ⟨.tmp, .faddr 2 (.t 8), .none⟩, ⟨.no, .store 1 (.t 9) (.t 7), .none⟩]) .skip)) (.ops [⟨.tmp, .mov (.v 3), .none⟩, ⟨.tmp, .mov (.v 3), .none⟩, ⟨.tmp, .nilc (.t 1), .none⟩, ⟨.tmp, .faddr 4 (.t 2), .none⟩, ⟨.tmp, .load 1 false (.t 3), .none⟩, ⟨.tmp, .faddr 0 (.v 8), .none⟩, ⟨.tmp, .load 1 false (.t 5), .none⟩, ⟨.tmp, .bin .add .arith (.t 6) (.c (.int .i64 1)), .none⟩, ⟨.tmp, .mnx true (.t 4) (.t 7), .none⟩, ⟨.tmp, .nilc (.t 0), .none⟩, ⟨.tmp, .faddr 4 (.t 9), .none⟩, ⟨.no, .store 1 (.t 10) (.t 8), .none⟩])))))))))) (.ops [⟨.tmp, .bin .add .arith (.v 15) (.c (.int .i64 1)), .none⟩, ⟨(.var 15), .mov (.t 0), .none⟩]))))))) (.seq (.seq (.ops [⟨(.var 10), .mov (.c (.int .i64 0)), .none⟩]) (.block 2 (.loop (.seq (.seq (.ops [⟨.tmp, .mov (.v 10), .none⟩, ⟨.tmp, .mov (.v 4), .none⟩, ⟨.tmp, .len (.t 1), .none⟩, ⟨(.var 20), .bin .lss .arith (.t 0) (.t 2), .none⟩]) (.cond (.v 20) .skip (.exit 2))) (.block 3 (.seq (.ops [⟨.tmp, .mov (.v 4), .none⟩, ⟨.tmp, .mov (.v 10), .none⟩, ⟨.tmp, .slice 5 (.t 0) (some (.t 1)) .none, .none⟩, ⟨.tmp, .pcall 34 [(.t 2)], .none⟩, ⟨.tmp, .mov (.t 3), .none⟩, ⟨.tmp, .ext (.t 4) 0, .none⟩, ⟨.tmp, .ext (.t 4) 1, .none⟩, ⟨.tmp, .ext (.t 4) 2, .none⟩, ⟨(.var 11), .mov (.t 5), .none⟩, ⟨(.var 12), .mov (.t 6), .none⟩, ⟨(.var 13), .mov (.t 7), .none⟩]) (.seq (.seq (.ops [⟨.tmp, .mov (.v 13), .none⟩, ⟨(.var 21), .un .not (.t 0), .none⟩]) (.cond (.v 21) (.seq (.ops [⟨.tmp, .mov (.v 10), .none⟩, ⟨.tmp, .bin .add .arith (.t 0) (.c (.int .i64 1)), .none⟩, ⟨(.var 10), .mov (.t 1), .none⟩]) (.exit 3)) .skip)) (.seq (.seq (.ops [⟨.tmp, .mov (.v 3), .none⟩, ⟨.tmp, .nilc (.t 0), .none⟩, ⟨.tmp, .faddr 1 (.t 1), .none⟩, ⟨.tmp, .load 1 false (.t 2), .none⟩, ⟨.tmp, .mov (.v 4), .none⟩, ⟨.tmp, .mov (.v 10), .none⟩, ⟨.tmp, .iaddr 5 (.t 4) (.t 5), .none⟩, ⟨.tmp, .faddr 0 (.t 6), .none⟩, ⟨.tmp, .load 1 false (.t 7), .none⟩, ⟨.tmp, .pcall 35 [(.t 3), (.t 8)], .none⟩, ⟨(.var 22), .un .not (.t 9), .none⟩]) (.cond (.v 22) (.ops [⟨.tmp, .mov (.v 3), .none⟩, ⟨.tmp, .mov (.v 3), .none⟩, ⟨.tmp, .mov (.v 3), .none⟩, ⟨.tmp, .nilc (.t 2), .none⟩, ⟨.tmp, .faddr 1 (.t 3), .none⟩, ⟨.tmp, .load 1 false (.t 4), .none⟩, ⟨.tmp, .mov (.v 4), .none⟩, ⟨.tmp, .mov (.v 10), .none⟩, ⟨.tmp, .iaddr 5 (.t 6) (.t 7), .none⟩, ⟨.tmp, .faddr 0 (.t 8), .none⟩, ⟨.tmp, .load 1 false (.t 9), .none⟩, ⟨.tmp, .lit 0 3 1 1 false [(.int .i64 0)] [(0, (.t 10))], .none⟩, ⟨.tmp, .append false 3 8 1 false (.t 5) (.t 11), .none⟩, ⟨.tmp, .mov (.v 3), .none⟩, ⟨.tmp, .nilc (.t 13), .none⟩, ⟨.tmp, .faddr 3 (.t 14), .none⟩, ⟨.tmp, .load 1 false (.t 15), .none⟩, ⟨.tmp, .mov (.v 11), .none⟩, ⟨.tmp, .lit 0 9 1 1 false [(.str [])] [(0, (.t 17))], .none⟩, ⟨.tmp, .append false 9 16 1 false (.t 16) (.t 18), .none⟩, ⟨.tmp, .nilc (.t 0), .none⟩, ⟨.tmp, .faddr 1 (.t 20), .none⟩, ⟨.no, .store 1 (.t 21) (.t 12), .none⟩, ⟨.tmp, .nilc (.t 1), .none⟩, ⟨.tmp, .faddr 3 (.t 23), .none⟩, ⟨.no, .store 1 (.t 24) (.t 19), .none⟩]) .skip)) (.ops [⟨.tmp, .mov (.v 10), .none⟩, ⟨.tmp, .mov (.v 12), .none⟩, ⟨.tmp, .bin .add .arith (.t 0) (.t 1), .none⟩, ⟨(.var 10), .mov (.t 2), .none⟩]))))))))) (.seq (.ops [⟨.tmp, .mov (.v 3), .none⟩, ⟨(.var 1), .mov (.t 0), .none⟩, ⟨(.var 2), .mov (.c (.int .i64 0)), .none⟩]) .ret)))))), [.v 1, .v 2], []⟩
def c16 : AFunc := ⟨[0, 1, 4, 5, 6, 7, 8, 10, 11, 12, 17, 28, 68, 75], (.seq (.ops [⟨(.var 2), .mov (.c (.int .i64 0)), .none⟩, ⟨(.var 3), .mov (.c (.int .i64 0)), .none⟩]) (.seq (.block 0 (.seq (.ops [⟨.tmp, .mov (.v 0), .none⟩, ⟨.tmp, .nilc (.t 0), .none⟩, ⟨.tmp, .faddr 6 (.t 1), .none⟩, ⟨.tmp, .load 1 false (.t 2), .none⟩, ⟨(.var 9), .mov (.t 3), .none⟩]) (.cond (.v 9) (.seq (.ops [⟨(.var 2), .mov (.c (.int .i64 0)), .none⟩, ⟨(.var 3), .mov (.c (.int .i64 21)), .none⟩]) .ret) (.seq (.ops [⟨.tmp, .mov (.v 1), .none⟩, ⟨.tmp, .slen (.t 0), .none⟩, ⟨.tmp, .bin .gtr .arith (.t 1) (.c (.int .i64 8000)), .none⟩, ⟨.tmp, .mov (.t 2), .none⟩, ⟨.tmp, .mov (.v 0), (some ((.t 3), false))⟩, ⟨.tmp, .nilc (.t 4), (some ((.t 3), false))⟩, ⟨.tmp, .faddr 4 (.t 5), (some ((.t 3), false))⟩, ⟨.tmp, .load 1 false (.t 6), (some ((.t 3), false))⟩, ⟨.tmp, .bin .gtr .arith (.t 7) (.c (.int .i64 4096)), (some ((.t 3), false))⟩, ⟨.tmp, .pick (.t 3) (.c (.bool true)) (.t 8), .none⟩, ⟨(.var 10), .mov (.t 9), .none⟩]) (.cond (.v 10) (.seq (.ops [⟨(.var 2), .mov (.c (.int .i64 0)), .none⟩, ⟨(.var 3), .mov (.c (.int .i64 4)), .none⟩]) .ret) (.seq (.ops [⟨.tmp, .mov (.v 1), .none⟩, ⟨.tmp, .slen (.t 0), .none⟩, ⟨.tmp, .pcall 11 [(.t 1)], .none⟩, ⟨.tmp, .mov (.v 0), .none⟩, ⟨.tmp, .gcall 22 [(.t 3)], .none⟩, ⟨.tmp, .bin .gtr .arith (.t 2) (.t 4), .none⟩, ⟨(.var 11), .mov (.t 5), .none⟩]) (.cond (.v 11) (.seq (.ops [⟨(.var 2), .mov (.c (.int .i64 0)), .none⟩, ⟨(.var 3), .mov (.c (.int .i64 20)), .none⟩]) .ret) .skip))))))) (.seq (.ops [⟨.tmp, .mov (.v 0), .none⟩, ⟨.tmp, .nilc (.t 0), .none⟩, ⟨.tmp, .faddr 4 (.t 1), .none⟩, ⟨.tmp, .load 1 false (.t 2), .none⟩, ⟨.tmp, .mov (.v 0), .none⟩, ⟨.tmp, .nilc (.t 4), .none⟩, ⟨.tmp, .faddr 5 (.t 5), .none⟩, ⟨.tmp, .load 1 false (.t 6), .none⟩, ⟨(.var 4), .mov (.t 3), .none⟩, ⟨(.var 5), .mov (.t 7), .none⟩]) (.seq (.ops [⟨.tmp, .mov (.v 4), .none⟩, ⟨.tmp, .mov (.v 1), .none⟩, ⟨.tmp, .pcall 6 [(.t 0), (.t 1)], .none⟩, ⟨.tmp, .mov (.t 2), .none⟩, ⟨.tmp, .ext (.t 3) 0, .none⟩, ⟨.tmp, .ext (.t 3) 1, .none⟩, ⟨(.var 6), .mov (.t 4), .none⟩, ⟨.tmp, .mov (.t 5), .none⟩]) (.seq (.ops [⟨.tmp, .mov (.v 0), .none⟩, ⟨.tmp, .mov (.v 0), .none⟩, ⟨.tmp, .mov (.v 4), .none⟩, ⟨.tmp, .bin .add .arith (.t 2) (.c (.int .i64 1)), .none⟩, ⟨.tmp, .mov (.v 5), .none⟩, ⟨.tmp, .mov (.v 6), .none⟩, ⟨.tmp, .len (.t 5), .none⟩, ⟨.tmp, .bin .add .arith (.t 4) (.t 6), .none⟩, ⟨.tmp, .nilc (.t 0), .none⟩, ⟨.tmp, .faddr 4 (.t 8), .none⟩, ⟨.no, .store 1 (.t 9) (.t 3), .none⟩, ⟨.tmp, .nilc (.t 1), .none⟩, ⟨.tmp, .faddr 5 (.t 11), .none⟩, ⟨.no, .store 1 (.t 12) (.t 7), .none⟩]) (.seq (.seq (.ops [⟨.tmp, .mov (.v 0), .none⟩, ⟨.tmp, .mov (.v 5), .none⟩, ⟨.tmp, .mov (.v 6), .none⟩, ⟨.tmp, .call (.c (.fn 36 [])) [(.t 0), (.t 1), (.t 2)], .none⟩, ⟨.tmp, .mov (.t 3), .none⟩, ⟨.tmp, .ext (.t 4) 0, .none⟩, ⟨.tmp, .ext (.t 4) 1, .none⟩, ⟨(.var 7), .mov (.t 5), .none⟩, ⟨(.var 8), .mov (.t 6), .none⟩]) (.block 1 (.seq (.ops [⟨.tmp, .mov (.v 7), .none⟩, ⟨.tmp, .bin .neq .arith (.t 0) (.c (.int .i64 0)), .none⟩, ⟨(.var 12), .mov (.t 1), .none⟩]) (.cond (.v 12) (.seq (.ops [⟨.tmp, .mov (.v 0), .none⟩, ⟨.tmp, .nilc (.t 0), .none⟩, ⟨.tmp, .faddr 6 (.t 1), .none⟩, ⟨.no, .store 1 (.t 2) (.c (.bool true)), .none⟩]) (.seq (.ops [⟨.tmp, .mov (.v 7), .none⟩, ⟨(.var 2), .mov (.c (.int .i64 0)), .none⟩, ⟨(.var 3), .mov (.t 0), .none⟩]) .ret)) (.seq (.ops [⟨.tmp, .mov (.v 8), .none⟩, ⟨.tmp, .un .not (.t 0), .none⟩, ⟨(.var 13), .mov (.t 1), .none⟩]) (.cond (.v 13) (.seq (.ops [⟨(.var 2), .mov (.c (.int .i64 0)), .none⟩, ⟨(.var 3), .mov (.c (.int .i64 22)), .none⟩]) .ret) .skip)))))) (.seq (.ops [⟨.tmp, .mov (.v 0), .none⟩, ⟨.tmp, .mov (.v 0), .none⟩, ⟨.tmp, .mov (.v 0), .none⟩, ⟨.tmp, .nilc (.t 2), .none⟩, ⟨.tmp, .faddr 1 (.t 3), .none⟩, ⟨.tmp, .load 1 false (.t 4), .none⟩, ⟨.tmp, .mov (.v 4), .none⟩, ⟨.tmp, .lit 0 3 1 1 false [(.int .i64 0)] [(0, (.t 6))], .none⟩, ⟨.tmp, .append false 3 8 1 false (.t 5) (.t 7), .none⟩, ⟨.tmp, .mov (.v 0), .none⟩, ⟨.tmp, .nilc (.t 9), .none⟩, ⟨.tmp, .faddr 3 (.t 10), .none⟩, ⟨.tmp, .load 1 false (.t 11), .none⟩, ⟨.tmp, .mov (.v 1), .none⟩, ⟨.tmp, .lit 0 9 1 1 false [(.str [])] [(0, (.t 13))], .none⟩, ⟨.tmp, .append false 9 16 1 false (.t 12) (.t 14), .none⟩, ⟨.tmp, .nilc (.t 0), .none⟩, ⟨.tmp, .faddr 1 (.t 16), .none⟩, ⟨.no, .store 1 (.t 17) (.t 8), .none⟩, ⟨.tmp, .nilc (.t 1), .none⟩, ⟨.tmp, .faddr 3 (.t 19), .none⟩, ⟨.no, .store 1 (.t 20) (.t 15), .none⟩]) (.seq (.ops [⟨.tmp, .mov (.v 4), .none⟩, ⟨(.var 2), .mov (.t 0), .none⟩, ⟨(.var 3), .mov (.c (.int .i64 0)), .none⟩]) .ret)))))))), [.v 2, .v 3], []⟩
def c17 : AFunc := ⟨[0, 1, 2, 3, 4, 5, 12], (.seq (.ops [⟨(.var 1), .box 6 true (.v 0), .none⟩, ⟨(.var 2), .mov (.c (.str [])), .none⟩]) (.seq (.ops [⟨.tmp, .faddr 3 (.v 1), .none⟩, ⟨.tmp, .load 1 false (.t 0), .none⟩, ⟨.tmp, .mnx true (.t 1) (.c (.int .i64 0)), .none⟩, ⟨.tmp, .mnx false (.t 2) (.c (.int .i64 8100)), .none⟩, ⟨(.var 3), .mov (.t 3), .none⟩]) (.seq (.ops [⟨(.var 4), .mov (.c (.sl [] .nil)), .none⟩]) (.seq (.seq (.ops [⟨(.var 5), .mov (.c (.int .i64 0)), .none⟩]) (.block 0 (.loop (.seq (.seq (.ops [⟨.tmp, .mov (.v 5), .none⟩, ⟨.tmp, .mov (.v 3), .none⟩, ⟨(.var 6), .bin .lss .arith (.t 0) (.t 1), .none⟩]) (.cond (.v 6) .skip (.exit 0))) (.seq (.block 1 (.ops [⟨.tmp, .mov (.v 4), .none⟩, ⟨.tmp, .faddr 4 (.v 1), .none⟩, ⟨.tmp, .load 1 false (.t 1), .none⟩, ⟨.tmp, .mov (.v 5), .none⟩, ⟨.tmp, .toInt .u8 (.t 3), .none⟩, ⟨.tmp, .bin .add .arith (.t 2) (.t 4), .none⟩, ⟨.tmp, .lit 0 5 1 1 false [(.int .u8 0)] [(0, (.t 5))], .none⟩, ⟨.tmp, .append false 5 1 1 false (.t 0) (.t 6), .none⟩, ⟨(.var 4), .mov (.t 7), .none⟩])) (.ops [⟨.tmp, .mov (.v 5), .none⟩, ⟨.tmp, .bin .add .arith (.t 0) (.c (.int .i64 1)), .none⟩, ⟨(.var 5), .mov (.t 1), .none⟩])))))) (.seq (.ops [⟨.tmp, .mov (.v 4), .none⟩, ⟨.tmp, .x .b2s [(.t 0)], .none⟩, ⟨(.var 2), .mov (.t 1), .none⟩]) .ret))))), [.v 2], []⟩
def c18 : AFunc := ⟨[0, 1, 4, 5, 10, 14, 25], (.seq (.ops [⟨(.var 2), .mov (.c (.bool false)), .none⟩]) (.seq (.seq (.ops [⟨.tmp, .mov (.v 0), .none⟩, ⟨.tmp, .len (.t 0), .none⟩, ⟨.tmp, .mov (.v 1), .none⟩, ⟨.tmp, .len (.t 2), .none⟩, ⟨(.var 4), .bin .neq .arith (.t 1) (.t 3), .none⟩]) (.cond (.v 4) (.seq (.ops [⟨(.var 2), .mov (.c (.bool false)), .none⟩]) .ret) .skip)) (.seq (.seq (.ops [⟨(.var 3), .mov (.c (.int .i64 0)), .none⟩]) (.block 0 (.loop (.seq (.seq (.ops [⟨.tmp, .mov (.v 3), .none⟩, ⟨.tmp, .mov (.v 0), .none⟩, ⟨.tmp, .len (.t 1), .none⟩, ⟨(.var 5), .bin .lss .arith (.t 0) (.t 2), .none⟩]) (.cond (.v 5) .skip (.exit 0))) (.seq (.block 1 (.seq (.ops [⟨.tmp, .mov (.v 0), .none⟩, ⟨.tmp, .mov (.v 3), .none⟩, ⟨.tmp, .iaddr 1 (.t 0) (.t 1), .none⟩, ⟨.tmp, .load 1 false (.t 2), .none⟩, ⟨.tmp, .mov (.v 1), .none⟩, ⟨.tmp, .mov (.v 3), .none⟩, ⟨.tmp, .iaddr 1 (.t 4) (.t 5), .none⟩, ⟨.tmp, .load 1 false (.t 6), .none⟩, ⟨(.var 6), .bin .neq .arith (.t 3) (.t 7), .none⟩]) (.cond (.v 6) (.seq (.ops [⟨(.var 2), .mov (.c (.bool false)), .none⟩]) .ret) .skip))) (.ops [⟨.tmp, .mov (.v 3), .none⟩, ⟨.tmp, .bin .add .arith (.t 0) (.c (.int .i64 1)), .none⟩, ⟨(.var 3), .mov (.t 1), .none⟩])))))) (.seq (.ops [⟨(.var 2), .mov (.c (.bool true)), .none⟩]) .ret)))), [.v 2], []⟩
def c19 : AFunc := ⟨[0, 2], (.seq (.ops [⟨(.var 1), .mov (.c (.sl [] .nil)), .none⟩]) (.seq (.ops [⟨.tmp, .mov (.v 0), .none⟩, ⟨.tmp, .nilc (.t 0), .none⟩, ⟨.tmp, .faddr 1 (.t 1), .none⟩, ⟨.tmp, .load 1 false (.t 2), .none⟩, ⟨.tmp, .call (.c (.fn 37 [])) [(.t 3)], .none⟩, ⟨(.var 1), .mov (.t 4), .none⟩]) .ret)), [.v 1], []⟩
def c20 : AFunc := ⟨[0, 2], (.seq (.ops [⟨(.var 1), .mov (.c (.sl [] .nil)), .none⟩]) (.seq (.ops [⟨.tmp, .mov (.v 0), .none⟩, ⟨.tmp, .nilc (.t 0), .none⟩, ⟨.tmp, .faddr 3 (.t 1), .none⟩, ⟨.tmp, .load 1 false (.t 2), .none⟩, ⟨.tmp, .call (.c (.fn 38 [])) [(.t 3)], .none⟩, ⟨(.var 1), .mov (.t 4), .none⟩]) .ret)), [.v 1], []⟩
def c21 : AFunc := ⟨[0, 2], (.seq (.ops [⟨(.var 1), .mov (.c (.int .i64 0)), .none⟩]) (.seq (.ops [⟨.tmp, .mov (.v 0), .none⟩, ⟨.tmp, .nilc (.t 0), .none⟩, ⟨.tmp, .faddr 4 (.t 1), .none⟩, ⟨.tmp, .load 1 false (.t 2), .none⟩, ⟨(.var 1), .mov (.t 3), .none⟩]) .ret)), [.v 1], []⟩
def c22 : AFunc := ⟨[0, 2], (.seq (.ops [⟨(.var 1), .mov (.c (.int .i64 0)), .none⟩]) (.seq (.ops [⟨.tmp, .mov (.v 0), .none⟩, ⟨.tmp, .nilc (.t 0), .none⟩, ⟨.tmp, .faddr 0 (.t 1), .none⟩, ⟨.tmp, .load 1 false (.t 2), .none⟩, ⟨.tmp, .mov (.v 0), .none⟩, ⟨.tmp, .nilc (.t 4), .none⟩, ⟨.tmp, .faddr 5 (.t 5), .none⟩, ⟨.tmp, .load 1 false (.t 6), .none⟩, ⟨.tmp, .gcall 32 [(.t 3)], .none⟩, ⟨.tmp, .bin .sub .arith (.t 8) (.t 7), .none⟩, ⟨(.var 1), .mov (.t 9), .none⟩]) .ret)), [.v 1], []⟩
def c24 : AFunc := ⟨[0, 1, 2, 6, 25], (.seq (.ops [⟨(.var 3), .mov (.c (.int .i64 0)), .none⟩]) (.seq (.seq (.ops [⟨.tmp, .mov (.v 1), .none⟩, ⟨.tmp, .bin .lss .arith (.t 0) (.c (.int .i64 0)), .none⟩, ⟨.tmp, .mov (.t 1), .none⟩, ⟨.tmp, .mov (.v 1), (some ((.t 2), false))⟩, ⟨.tmp, .mov (.v 0), (some ((.t 2), false))⟩, ⟨.tmp, .nilc (.t 4), (some ((.t 2), false))⟩, ⟨.tmp, .faddr 0 (.t 5), (some ((.t 2), false))⟩, ⟨.tmp, .load 1 false (.t 6), (some ((.t 2), false))⟩, ⟨.tmp, .len (.t 7), (some ((.t 2), false))⟩, ⟨.tmp, .bin .geq .arith (.t 3) (.t 8), (some ((.t 2), false))⟩, ⟨.tmp, .pick (.t 2) (.c (.bool true)) (.t 9), .none⟩, ⟨.tmp, .mov (.t 10), .none⟩, ⟨.tmp, .mov (.v 2), (some ((.t 11), false))⟩, ⟨.tmp, .bin .lss .arith (.t 12) (.c (.int .i64 0)), (some ((.t 11), false))⟩, ⟨.tmp, .pick (.t 11) (.c (.bool true)) (.t 13), .none⟩, ⟨.tmp, .mov (.t 14), .none⟩, ⟨.tmp, .mov (.v 2), (some ((.t 15), false))⟩, ⟨.tmp, .bin .geq .arith (.t 16) (.c (.int .i64 512)), (some ((.t 15), false))⟩, ⟨(.var 4), .pick (.t 15) (.c (.bool true)) (.t 17), .none⟩]) (.cond (.v 4) (.seq (.ops [⟨(.var 3), .mov (.c (.int .i64 1)), .none⟩]) .ret) .skip)) (.seq (.ops [⟨.tmp, .mov (.v 0), .none⟩, ⟨.tmp, .nilc (.t 0), .none⟩, ⟨.tmp, .faddr 0 (.t 1), .none⟩, ⟨.tmp, .load 1 false (.t 2), .none⟩, ⟨.tmp, .mov (.v 1), .none⟩, ⟨.tmp, .mov (.v 2), .none⟩, ⟨.tmp, .bin .quo .arith (.t 5) (.c (.int .i64 8)), .none⟩, ⟨.tmp, .iaddr 64 (.t 3) (.t 4), .none⟩, ⟨.tmp, .aaddr 64 1 (.t 7) (.t 6), .none⟩, ⟨.tmp, .load 1 false (.t 8), .none⟩, ⟨.tmp, .mov (.v 2), .none⟩, ⟨.tmp, .bin .rem .arith (.t 10) (.c (.int .i64 8)), .none⟩, ⟨.tmp, .bin .shl .arith (.c (.int .u8 1)) (.t 11), .none⟩, ⟨.tmp, .bin .xor .arith (.t 9) (.t 12), .none⟩, ⟨.tmp, .iaddr 64 (.t 3) (.t 4), .none⟩, ⟨.tmp, .aaddr 64 1 (.t 14) (.t 6), .none⟩, ⟨.no, .store 1 (.t 15) (.t 13), .none⟩]) (.seq (.ops [⟨(.var 3), .mov (.c (.int .i64 0)), .none⟩]) .ret)))), [.v 3], []⟩
def c25 : AFunc := ⟨[0, 2, 3, 5, 6, 7, 12, 13, 14, 15, 26, 32], (.seq (.ops [⟨(.var 1), .mov (.c (.sl [] .nil)), .none⟩]) (.seq (.ops [⟨.tmp, .x (.mkmap (.int .i64)) [], .none⟩, ⟨(.var 2), .mov (.t 0), .none⟩]) (.seq (.seq (.ops [⟨.tmp, .mov (.v 0), .none⟩, ⟨.tmp, .nilc (.t 0), .none⟩, ⟨.tmp, .faddr 1 (.t 1), .none⟩, ⟨(.var 6), .load 1 false (.t 2), .none⟩, ⟨(.var 7), .len (.v 6), .none⟩, ⟨(.var 8), .mov (.c (.int .i64 0)), .none⟩]) (.block 0 (.loop (.seq (.ops [⟨(.var 9), .bin .lss .arith (.v 8) (.v 7), .none⟩]) (.seq (.cond (.v 9) .skip (.exit 0)) (.seq (.block 1 (.seq (.ops [⟨.tmp, .iaddr 1 (.v 6) (.v 8), .none⟩, ⟨.tmp, .load 1 false (.t 0), .none⟩, ⟨(.var 3), .mov (.t 1), .none⟩]) (.ops [⟨.tmp, .mov (.v 2), .none⟩, ⟨.tmp, .mov (.v 3), .none⟩, ⟨.no, .x (.mput (.int .i64)) [(.t 0), (.t 1), (.c (.bool true))], .none⟩]))) (.ops [⟨.tmp, .bin .add .arith (.v 8) (.c (.int .i64 1)), .none⟩, ⟨(.var 8), .mov (.t 0), .none⟩]))))))) (.seq (.ops [⟨(.var 4), .mov (.c (.sl [] .nil)), .none⟩]) (.seq (.seq (.ops [⟨(.var 5), .mov (.c (.int .i64 1)), .none⟩]) (.block 2 (.loop (.seq (.seq (.ops [⟨.tmp, .mov (.v 5), .none⟩, ⟨.tmp, .mov (.v 0), .none⟩, ⟨.tmp, .nilc (.t 1), .none⟩, ⟨.tmp, .faddr 4 (.t 2), .none⟩, ⟨.tmp, .load 1 false (.t 3), .none⟩, ⟨(.var 10), .bin .lss .arith (.t 0) (.t 4), .none⟩]) (.cond (.v 10) .skip (.exit 2))) (.seq (.block 3 (.seq (.ops [⟨.tmp, .mov (.v 2), .none⟩, ⟨.tmp, .mov (.v 5), .none⟩, ⟨.tmp, .x (.mlook (.int .i64) (.bool false) false) [(.t 0), (.t 1)], .none⟩, ⟨(.var 11), .un .not (.t 2), .none⟩]) (.cond (.v 11) (.ops [⟨.tmp, .mov (.v 4), .none⟩, ⟨.tmp, .mov (.v 5), .none⟩, ⟨.tmp, .lit 0 3 1 1 false [(.int .i64 0)] [(0, (.t 1))], .none⟩, ⟨.tmp, .append false 3 8 1 false (.t 0) (.t 2), .none⟩, ⟨(.var 4), .mov (.t 3), .none⟩]) .skip))) (.ops [⟨.tmp, .mov (.v 5), .none⟩, ⟨.tmp, .bin .add .arith (.t 0) (.c (.int .i64 1)), .none⟩, ⟨(.var 5), .mov (.t 1), .none⟩])))))) (.seq (.ops [⟨.tmp, .mov (.v 4), .none⟩, ⟨(.var 1), .mov (.t 0), .none⟩]) .ret)))))), [.v 1], []⟩
def c26 : AFunc := ⟨[0, 2], (.seq (.ops [⟨(.var 1), .mov (.c (.sl [] .nil)), .none⟩]) (.seq (.ops [⟨.tmp, .mov (.v 0), .none⟩, ⟨.tmp, .nilc (.t 0), .none⟩, ⟨.tmp, .faddr 2 (.t 1), .none⟩, ⟨.tmp, .load 1 false (.t 2), .none⟩, ⟨.tmp, .call (.c (.fn 37 [])) [(.t 3)], .none⟩, ⟨(.var 1), .mov (.t 4), .none⟩]) .ret)), [.v 1], []⟩
def c27 : AFunc := ⟨[0, 1, 2, 3, 4], (.seq (.ops [⟨(.var 2), .box 1 false (.v 0), .none⟩, ⟨(.var 3), .box 1 false (.v 1), .none⟩, ⟨(.var 4), .mov (.c .nilfn), .none⟩]) (.seq (.ops [⟨.tmp, .clo 45 [(.v 3), (.v 2)], .none⟩, ⟨(.var 4), .mov (.t 0), .none⟩]) .ret)), [.v 4], []⟩
def c30 : AFunc := ⟨[0, 2, 3, 4, 5, 6, 7, 10, 71], (.seq (.ops [⟨(.var 1), .alloc 65 5 true [(.int .i64 0), (.int .i64 0), (.int .i64 0), (.str []), (.bool false)], .none⟩]) (.seq (.seq (.ops [⟨.tmp, .mov (.v 0), .none⟩, ⟨.tmp, .slen (.t 0), .none⟩, ⟨(.var 7), .bin .neq .arith (.t 1) (.c (.int .i64 64)), .none⟩]) (.cond (.v 7) (.seq (.ops [⟨.tmp, .build [(.int .i64 0), (.int .i64 0), (.int .i64 0), (.str []), (.bool false)] [], .none⟩, ⟨.no, .store 5 (.v 1) (.t 0), .none⟩]) .ret) .skip)) (.seq (.ops [⟨.tmp, .mov (.v 0), .none⟩, ⟨.tmp, .x (.s2b false) [(.t 0)], .none⟩, ⟨.tmp, .x (.s2ap 64 1) [(.t 1)], .none⟩, ⟨.tmp, .load 64 true (.t 2), .none⟩, ⟨(.var 2), .alloc 61 64 true (List.replicate 64 (.int .u8 0)), .none⟩, ⟨.no, .store 64 (.v 2) (.t 3), .none⟩]) (.seq (.ops [⟨.tmp, .x (.aslice 64 1 false false true) [(.v 2), (.c (.int .i64 56))], .none⟩, ⟨.tmp, .pcall 47 [(.t 0)], .none⟩, ⟨(.var 3), .alloc 101 32 true (List.replicate 32 (.int .u8 0)), .none⟩, ⟨.no, .store 32 (.v 3) (.t 1), .none⟩]) (.seq (.ops [⟨.tmp, .x (.aslice 64 1 false false true) [(.v 2), (.c (.int .i64 4))], .none⟩, ⟨.tmp, .pcall 49 [(.t 0)], .none⟩, ⟨.tmp, .x (.aslice 64 1 false true true) [(.v 2), (.c (.int .i64 4)), (.c (.int .i64 6))], .none⟩, ⟨.tmp, .pcall 49 [(.t 2)], .none⟩, ⟨.tmp, .x (.aslice 64 1 false true true) [(.v 2), (.c (.int .i64 6)), (.c (.int .i64 8))], .none⟩, ⟨.tmp, .pcall 49 [(.t 4)], .none⟩, ⟨.tmp, .build [(.int .i64 0), (.int .i64 0), (.int .i64 0), (.str []), (.bool false)] [(0, 1, (.t 1)), (1, 1, (.t 3)), (2, 1, (.t 5)), (4, 1, (.c (.bool true)))], .none⟩, ⟨(.var 4), .alloc 65 5 true [(.int .i64 0), (.int .i64 0), (.int .i64 0), (.str []), (.bool false)], .none⟩, ⟨.no, .store 5 (.v 4) (.t 6), .none⟩]) (.seq (.ops [⟨.tmp, .faddr 2 (.v 4), .none⟩, ⟨.tmp, .load 1 false (.t 0), .none⟩, ⟨.tmp, .mnx false (.t 1) (.c (.int .i64 48)), .none⟩, ⟨(.var 5), .mov (.t 2), .none⟩]) (.seq (.ops [⟨.tmp, .mov (.v 5), .none⟩, ⟨.tmp, .bin .sub .arith (.c (.int .i64 48)) (.t 0), .none⟩, ⟨.tmp, .mksl 1 1 false [(.int .u8 0)] (.t 1) (.t 1), .none⟩, ⟨(.var 6), .mov (.t 2), .none⟩]) (.seq (.seq (.ops [⟨.tmp, .x (.aslice 32 1 false false true) [(.v 3), (.c (.int .i64 8))], .none⟩, ⟨.tmp, .x (.aslice 64 1 false true false) [(.v 2), (.c (.int .i64 56))], .none⟩, ⟨.tmp, .pcall 50 [(.t 0), (.t 1)], .none⟩, ⟨.tmp, .un .not (.t 2), .none⟩, ⟨.tmp, .mov (.t 3), .none⟩, ⟨.tmp, .faddr 0 (.v 4), (some ((.t 4), false))⟩, ⟨.tmp, .load 1 false (.t 5), (some ((.t 4), false))⟩, ⟨.tmp, .bin .eql .arith (.t 6) (.c (.int .i64 0)), (some ((.t 4), false))⟩, ⟨.tmp, .pick (.t 4) (.c (.bool true)) (.t 7), .none⟩, ⟨.tmp, .mov (.t 8), .none⟩, ⟨.tmp, .faddr 0 (.v 4), (some ((.t 9), false))⟩, ⟨.tmp, .load 1 false (.t 10), (some ((.t 9), false))⟩, ⟨.tmp, .bin .gtr .arith (.t 11) (.c (.int .i64 4096)), (some ((.t 9), false))⟩, ⟨.tmp, .pick (.t 9) (.c (.bool true)) (.t 12), .none⟩, ⟨.tmp, .mov (.t 13), .none⟩, ⟨.tmp, .faddr 1 (.v 4), (some ((.t 14), false))⟩, ⟨.tmp, .load 1 false (.t 15), (some ((.t 14), false))⟩, ⟨.tmp, .bin .mul .arith (.c (.int .i64 48)) (.t 16), (some ((.t 14), false))⟩, ⟨.tmp, .faddr 2 (.v 4), (some ((.t 14), false))⟩, ⟨.tmp, .load 1 false (.t 18), (some ((.t 14), false))⟩, ⟨.tmp, .bin .add .arith (.t 17) (.t 19), (some ((.t 14), false))⟩, ⟨.tmp, .bin .gtr .arith (.t 20) (.c (.int .i64 8000)), (some ((.t 14), false))⟩, ⟨.tmp, .pick (.t 14) (.c (.bool true)) (.t 21), .none⟩, ⟨.tmp, .mov (.t 22), .none⟩, ⟨.tmp, .faddr 2 (.v 4), (some ((.t 23), false))⟩, ⟨.tmp, .load 1 false (.t 24), (some ((.t 23), false))⟩, ⟨.tmp, .bin .eql .arith (.t 25) (.c (.int .i64 0)), (some ((.t 23), false))⟩, ⟨.tmp, .mov (.t 26), (some ((.t 23), false))⟩, ⟨.tmp, .faddr 1 (.v 4), (some ((.t 27), true))⟩, ⟨.tmp, .load 1 false (.t 28), (some ((.t 27), true))⟩, ⟨.tmp, .bin .gtr .arith (.t 29) (.c (.int .i64 0)), (some ((.t 27), true))⟩, ⟨.tmp, .pick (.t 27) (.t 30) (.c (.bool false)), (some ((.t 23), false))⟩, ⟨.tmp, .pick (.t 23) (.c (.bool true)) (.t 31), .none⟩, ⟨.tmp, .mov (.t 32), .none⟩, ⟨.tmp, .mov (.v 5), (some ((.t 33), false))⟩, ⟨.tmp, .bin .add .arith (.c (.int .i64 8)) (.t 34), (some ((.t 33), false))⟩, ⟨.tmp, .x (.aslice 64 1 false true true) [(.v 2), (.t 35), (.c (.int .i64 56))], (some ((.t 33), false))⟩, ⟨.tmp, .mov (.v 6), (some ((.t 33), false))⟩, ⟨.tmp, .pcall 50 [(.t 36), (.t 37)], (some ((.t 33), false))⟩, ⟨.tmp, .un .not (.t 38), (some ((.t 33), false))⟩, ⟨(.var 8), .pick (.t 33) (.c (.bool true)) (.t 39), .none⟩]) (.cond (.v 8) (.seq (.ops [⟨.tmp, .build [(.int .i64 0), (.int .i64 0), (.int .i64 0), (.str []), (.bool false)] [], .none⟩, ⟨.no, .store 5 (.v 1) (.t 0), .none⟩]) .ret) .skip)) (.seq (.ops [⟨.tmp, .mov (.v 0), .none⟩, ⟨.tmp, .mov (.v 5), .none⟩, ⟨.tmp, .bin .add .arith (.c (.int .i64 8)) (.t 1), .none⟩, ⟨.tmp, .sslice (.t 0) (some (.c (.int .i64 8))) (some (.t 2)), .none⟩, ⟨.tmp, .faddr 3 (.v 4), .none⟩, ⟨.no, .store 1 (.t 4) (.t 3), .none⟩]) (.seq (.ops [⟨.tmp, .load 5 true (.v 4), .none⟩, ⟨.no, .store 5 (.v 1) (.t 0), .none⟩]) .ret)))))))))), [.c 1 5 true], []⟩
def c32 : AFunc := ⟨[0, 2], (.seq (.ops [⟨(.var 1), .mov (.c (.int .i64 0)), .none⟩]) (.seq (.ops [⟨.tmp, .mov (.v 0), .none⟩, ⟨.tmp, .nilc (.t 0), .none⟩, ⟨.tmp, .faddr 0 (.t 1), .none⟩, ⟨.tmp, .load 1 false (.t 2), .none⟩, ⟨.tmp, .len (.t 3), .none⟩, ⟨(.var 1), .mov (.t 4), .none⟩]) .ret)), [.v 1], []⟩
def c33 : AFunc := ⟨[0, 1, 4, 5, 6, 7, 8, 13, 24], (.seq (.ops [⟨(.var 2), .mov (.c (.str [])), .none⟩, ⟨(.var 3), .mov (.c (.int .i64 0)), .none⟩]) (.seq (.seq (.ops [⟨.tmp, .mov (.v 0), .none⟩, ⟨.tmp, .mov (.v 1), .none⟩, ⟨.tmp, .call (.c (.fn 51 [])) [(.t 0), (.t 1)], .none⟩, ⟨(.var 4), .mov (.t 2), .none⟩]) (.seq (.ops [⟨.tmp, .mov (.v 4), .none⟩, ⟨(.var 7), .bin .neq .arith (.t 0) (.c (.int .i64 0)), .none⟩]) (.cond (.v 7) (.seq (.ops [⟨.tmp, .mov (.v 4), .none⟩, ⟨(.var 2), .mov (.c (.str [])), .none⟩, ⟨(.var 3), .mov (.t 0), .none⟩]) .ret) .skip))) (.seq (.seq (.ops [⟨.tmp, .mov (.v 0), .none⟩, ⟨.tmp, .nilc (.t 0), .none⟩, ⟨.tmp, .faddr 1 (.t 1), .none⟩, ⟨.tmp, .load 1 false (.t 2), .none⟩, ⟨.tmp, .mov (.v 1), .none⟩, ⟨.tmp, .x (.mlook (.int .i64) (.agg (List.replicate 64 (.int .u8 0))) true) [(.t 3), (.t 4)], .none⟩, ⟨.tmp, .mov (.t 5), .none⟩, ⟨.tmp, .ext (.t 6) 0, .none⟩, ⟨.tmp, .ext (.t 6) 1, .none⟩, ⟨(.var 5), .alloc 98 64 true (List.replicate 64 (.int .u8 0)), .none⟩, ⟨.no, .store 64 (.v 5) (.t 7), .none⟩, ⟨(.var 6), .mov (.t 8), .none⟩]) (.seq (.ops [⟨(.var 8), .mov (.v 6), .none⟩]) (.cond (.v 8) (.seq (.ops [⟨.tmp, .x (.aslice 64 1 false false false) [(.v 5)], .none⟩, ⟨.tmp, .x .b2s [(.t 0)], .none⟩, ⟨(.var 2), .mov (.t 1), .none⟩, ⟨(.var 3), .mov (.c (.int .i64 0)), .none⟩]) .ret) .skip))) (.seq (.ops [⟨.tmp, .mov (.v 0), .none⟩, ⟨.tmp, .nilc (.t 0), .none⟩, ⟨.tmp, .faddr 0 (.t 1), .none⟩, ⟨.tmp, .load 1 false (.t 2), .none⟩, ⟨.tmp, .mov (.v 1), .none⟩, ⟨.tmp, .iaddr 64 (.t 3) (.t 4), .none⟩, ⟨.tmp, .x (.aslice 64 1 false false false) [(.t 5)], .none⟩, ⟨.tmp, .x .b2s [(.t 6)], .none⟩, ⟨(.var 2), .mov (.t 7), .none⟩, ⟨(.var 3), .mov (.c (.int .i64 0)), .none⟩]) .ret)))), [.v 2, .v 3], []⟩
def c34 : AFunc := ⟨[0, 2, 3, 4, 5, 6, 7, 8, 9, 29, 32, 33, 34, 35, 64], (.seq (.ops [⟨(.var 1), .mov (.c (.str [])), .none⟩, ⟨(.var 2), .mov (.c (.int .i64 0)), .none⟩, ⟨(.var 3), .mov (.c (.bool false)), .none⟩]) (.seq (.ops [⟨.tmp, .mov (.v 0), .none⟩, ⟨.tmp, .iaddr 5 (.t 0) (.c (.int .i64 0)), .none⟩, ⟨.tmp, .load 5 true (.t 1), .none⟩, ⟨(.var 4), .alloc 65 5 true [(.int .i64 0), (.int .i64 0), (.int .i64 0), (.str []), (.bool false)], .none⟩, ⟨.no, .store 5 (.v 4) (.t 2), .none⟩]) (.seq (.ops [⟨.tmp, .faddr 2 (.v 4), .none⟩, ⟨.tmp, .load 1 false (.t 0), .none⟩, ⟨.tmp, .pcall 11 [(.t 1)], .none⟩, ⟨(.var 5), .mov (.t 2), .none⟩]) (.seq (.seq (.ops [⟨.tmp, .faddr 4 (.v 4), .none⟩, ⟨.tmp, .load 1 false (.t 0), .none⟩, ⟨.tmp, .un .not (.t 1), .none⟩, ⟨.tmp, .mov (.t 2), .none⟩, ⟨.tmp, .faddr 1 (.v 4), (some ((.t 3), false))⟩, ⟨.tmp, .load 1 false (.t 4), (some ((.t 3), false))⟩, ⟨.tmp, .bin .neq .arith (.t 5) (.c (.int .i64 0)), (some ((.t 3), false))⟩, ⟨.tmp, .pick (.t 3) (.c (.bool true)) (.t 6), .none⟩, ⟨.tmp, .mov (.t 7), .none⟩, ⟨.tmp, .mov (.v 5), (some ((.t 8), false))⟩, ⟨.tmp, .mov (.v 0), (some ((.t 8), false))⟩, ⟨.tmp, .len (.t 10), (some ((.t 8), false))⟩, ⟨.tmp, .bin .gtr .arith (.t 9) (.t 11), (some ((.t 8), false))⟩, ⟨(.var 9), .pick (.t 8) (.c (.bool true)) (.t 12), .none⟩]) (.cond (.v 9) (.seq (.ops [⟨(.var 1), .mov (.c (.str [])), .none⟩, ⟨(.var 2), .mov (.c (.int .i64 0)), .none⟩, ⟨(.var 3), .mov (.c (.bool false)), .none⟩]) .ret) .skip)) (.seq (.ops [⟨(.var 6), .mov (.c (.str [])), .none⟩]) (.seq (.seq (.ops [⟨.tmp, .mov (.v 0), .none⟩, ⟨.tmp, .mov (.v 5), .none⟩, ⟨(.var 10), .slice 5 (.t 0) .none (some (.t 1)), .none⟩, ⟨(.var 11), .len (.v 10), .none⟩, ⟨(.var 12), .mov (.c (.int .i64 0)), .none⟩]) (.block 0 (.loop (.seq (.ops [⟨(.var 13), .bin .lss .arith (.v 12) (.v 11), .none⟩]) (.seq (.cond (.v 13) .skip (.exit 0)) (.seq (.block 1 (.seq (.ops [⟨.tmp, .mov (.v 12), .none⟩, ⟨.tmp, .iaddr 5 (.v 10) (.v 12), .none⟩, ⟨.tmp, .load 5 true (.t 1), .none⟩, ⟨(.var 8), .alloc 65 5 true [(.int .i64 0), (.int .i64 0), (.int .i64 0), (.str []), (.bool false)], .none⟩, ⟨(.var 7), .mov (.t 0), .none⟩, ⟨.no, .store 5 (.v 8) (.t 2), .none⟩]) (.seq (.seq (.ops [⟨.tmp, .faddr 4 (.v 8), .none⟩, ⟨.tmp, .load 1 false (.t 0), .none⟩, ⟨.tmp, .un .not (.t 1), .none⟩, ⟨.tmp, .mov (.t 2), .none⟩, ⟨.tmp, .faddr 0 (.v 8), (some ((.t 3), false))⟩, ⟨.tmp, .load 1 false (.t 4), (some ((.t 3), false))⟩, ⟨.tmp, .faddr 0 (.v 4), (some ((.t 3), false))⟩, ⟨.tmp, .load 1 false (.t 6), (some ((.t 3), false))⟩, ⟨.tmp, .bin .neq .arith (.t 5) (.t 7), (some ((.t 3), false))⟩, ⟨.tmp, .pick (.t 3) (.c (.bool true)) (.t 8), .none⟩, ⟨.tmp, .mov (.t 9), .none⟩, ⟨.tmp, .faddr 1 (.v 8), (some ((.t 10), false))⟩, ⟨.tmp, .load 1 false (.t 11), (some ((.t 10), false))⟩, ⟨.tmp, .mov (.v 7), (some ((.t 10), false))⟩, ⟨.tmp, .bin .neq .arith (.t 12) (.t 13), (some ((.t 10), false))⟩, ⟨.tmp, .pick (.t 10) (.c (.bool true)) (.t 14), .none⟩, ⟨.tmp, .mov (.t 15), .none⟩, ⟨.tmp, .faddr 2 (.v 8), (some ((.t 16), false))⟩, ⟨.tmp, .load 1 false (.t 17), (some ((.t 16), false))⟩, ⟨.tmp, .faddr 2 (.v 4), (some ((.t 16), false))⟩, ⟨.tmp, .load 1 false (.t 19), (some ((.t 16), false))⟩, ⟨.tmp, .mov (.v 7), (some ((.t 16), false))⟩, ⟨.tmp, .bin .mul .arith (.c (.int .i64 48)) (.t 21), (some ((.t 16), false))⟩, ⟨.tmp, .bin .sub .arith (.t 20) (.t 22), (some ((.t 16), false))⟩, ⟨.tmp, .bin .neq .arith (.t 18) (.t 23), (some ((.t 16), false))⟩, ⟨(.var 14), .pick (.t 16) (.c (.bool true)) (.t 24), .none⟩]) (.cond (.v 14) (.seq (.ops [⟨(.var 1), .mov (.c (.str [])), .none⟩, ⟨(.var 2), .mov (.c (.int .i64 0)), .none⟩, ⟨(.var 3), .mov (.c (.bool false)), .none⟩]) .ret) .skip)) (.ops [⟨.tmp, .mov (.v 6), .none⟩, ⟨.tmp, .faddr 3 (.v 8), .none⟩, ⟨.tmp, .load 1 false (.t 1), .none⟩, ⟨.tmp, .bin .add .arith (.t 0) (.t 2), .none⟩, ⟨(.var 6), .mov (.t 3), .none⟩])))) (.ops [⟨.tmp, .bin .add .arith (.v 12) (.c (.int .i64 1)), .none⟩, ⟨(.var 12), .mov (.t 0), .none⟩]))))))) (.seq (.ops [⟨.tmp, .mov (.v 6), .none⟩, ⟨.tmp, .mov (.v 5), .none⟩, ⟨(.var 1), .mov (.t 0), .none⟩, ⟨(.var 2), .mov (.t 1), .none⟩, ⟨(.var 3), .mov (.c (.bool true)), .none⟩]) .ret))))))), [.v 1, .v 2, .v 3], []⟩
def c35 : AFunc := ⟨[0, 1, 4], (.seq (.ops [⟨(.var 2), .mov (.c (.bool false)), .none⟩]) (.seq (.ops [⟨.tmp, .mov (.v 0), .none⟩, ⟨.tmp, .mov (.v 1), .none⟩, ⟨.tmp, .pcall 52 [(.t 0), (.t 1)], .none⟩, ⟨.tmp, .bin .geq .arith (.t 2) (.c (.int .i64 0)), .none⟩, ⟨(.var 2), .mov (.t 3), .none⟩]) .ret)), [.v 2], []⟩
def c36 : AFunc := ⟨[0, 1, 2, 6, 7, 8, 9, 10, 11, 12, 13, 14, 15, 16, 17, 18, 19, 20, 34, 43, 45, 46, 47, 48, 64], (.seq (.ops [⟨(.var 3), .mov (.c (.int .i64 0)), .none⟩, ⟨(.var 4), .mov (.c (.bool false)), .none⟩]) (.seq (.seq (.ops [⟨(.var 14), .mov (.v 2), .none⟩, ⟨(.var 15), .len (.v 14), .none⟩, ⟨(.var 16), .mov (.c (.int .i64 0)), .none⟩]) (.block 0 (.loop (.seq (.ops [⟨(.var 17), .bin .lss .arith (.v 16) (.v 15), .none⟩]) (.seq (.cond (.v 17) .skip (.exit 0)) (.seq (.block 1 (.seq (.ops [⟨.tmp, .mov (.v 16), .none⟩, ⟨.tmp, .iaddr 1 (.v 14) (.v 16), .none⟩, ⟨.tmp, .load 1 false (.t 1), .none⟩, ⟨(.var 5), .mov (.t 0), .none⟩, ⟨(.var 6), .mov (.t 2), .none⟩]) (.seq (.ops [⟨.tmp, .mov (.v 0), .none⟩, ⟨.tmp, .nilc (.t 0), .none⟩, ⟨.tmp, .faddr 0 (.t 1), .none⟩, ⟨.tmp, .load 1 false (.t 2), .none⟩, ⟨.tmp, .mov (.v 1), .none⟩, ⟨.tmp, .mov (.v 5), .none⟩, ⟨.tmp, .bin .add .arith (.t 4) (.t 5), .none⟩, ⟨.tmp, .mov (.v 6), .none⟩, ⟨.tmp, .call (.c (.fn 53 [])) [(.t 3), (.t 6), (.t 7)], .none⟩, ⟨(.var 7), .mov (.t 8), .none⟩]) (.seq (.ops [⟨.tmp, .mov (.v 7), .none⟩, ⟨(.var 18), .bin .neq .arith (.t 0) (.c (.int .i64 0)), .none⟩]) (.cond (.v 18) (.seq (.ops [⟨.tmp, .mov (.v 7), .none⟩, ⟨(.var 3), .mov (.t 0), .none⟩, ⟨(.var 4), .mov (.c (.bool false)), .none⟩]) .ret) .skip))))) (.ops [⟨.tmp, .bin .add .arith (.v 16) (.c (.int .i64 1)), .none⟩, ⟨(.var 16), .mov (.t 0), .none⟩]))))))) (.seq (.seq (.ops [⟨.tmp, .mov (.v 0), .none⟩, ⟨.tmp, .nilc (.t 0), .none⟩, ⟨.tmp, .faddr 0 (.t 1), .none⟩, ⟨.tmp, .load 1 false (.t 2), .none⟩, ⟨.tmp, .call (.c (.fn 54 [])) [(.t 3)], .none⟩, ⟨(.var 8), .mov (.t 4), .none⟩]) (.seq (.ops [⟨.tmp, .mov (.v 8), .none⟩, ⟨(.var 19), .bin .neq .arith (.t 0) (.c (.int .i64 0)), .none⟩]) (.cond (.v 19) (.seq (.ops [⟨.tmp, .mov (.v 8), .none⟩, ⟨(.var 3), .mov (.t 0), .none⟩, ⟨(.var 4), .mov (.c (.bool false)), .none⟩]) .ret) .skip))) (.seq (.ops [⟨(.var 9), .mov (.c (.bool true)), .none⟩]) (.seq (.seq (.ops [⟨(.var 20), .mov (.v 2), .none⟩, ⟨(.var 21), .len (.v 20), .none⟩, ⟨(.var 22), .mov (.c (.int .i64 0)), .none⟩]) (.block 2 (.loop (.seq (.ops [⟨(.var 23), .bin .lss .arith (.v 22) (.v 21), .none⟩]) (.seq (.cond (.v 23) .skip (.exit 2)) (.seq (.block 3 (.seq (.ops [⟨.tmp, .mov (.v 22), .none⟩, ⟨.tmp, .iaddr 1 (.v 20) (.v 22), .none⟩, ⟨.tmp, .load 1 false (.t 1), .none⟩, ⟨(.var 10), .mov (.t 0), .none⟩, ⟨(.var 11), .mov (.t 2), .none⟩]) (.seq (.ops [⟨.tmp, .mov (.v 0), .none⟩, ⟨.tmp, .nilc (.t 0), .none⟩, ⟨.tmp, .faddr 0 (.t 1), .none⟩, ⟨.tmp, .load 1 false (.t 2), .none⟩, ⟨.tmp, .mov (.v 1), .none⟩, ⟨.tmp, .mov (.v 10), .none⟩, ⟨.tmp, .bin .add .arith (.t 4) (.t 5), .none⟩, ⟨.tmp, .call (.c (.fn 33 [])) [(.t 3), (.t 6)], .none⟩, ⟨.tmp, .mov (.t 7), .none⟩, ⟨.tmp, .ext (.t 8) 0, .none⟩, ⟨.tmp, .ext (.t 8) 1, .none⟩, ⟨(.var 12), .mov (.t 9), .none⟩, ⟨(.var 13), .mov (.t 10), .none⟩]) (.seq (.seq (.ops [⟨.tmp, .mov (.v 13), .none⟩, ⟨(.var 24), .bin .neq .arith (.t 0) (.c (.int .i64 0)), .none⟩]) (.cond (.v 24) (.seq (.ops [⟨.tmp, .mov (.v 13), .none⟩, ⟨(.var 3), .mov (.t 0), .none⟩, ⟨(.var 4), .mov (.c (.bool false)), .none⟩]) .ret) .skip)) (.ops [⟨.tmp, .mov (.v 9), .none⟩, ⟨.tmp, .mov (.t 0), .none⟩, ⟨.tmp, .mov (.v 11), (some ((.t 1), true))⟩, ⟨.tmp, .mov (.v 12), (some ((.t 1), true))⟩, ⟨.tmp, .bin .eql .arith (.t 2) (.t 3), (some ((.t 1), true))⟩, ⟨.tmp, .pick (.t 1) (.t 4) (.c (.bool false)), .none⟩, ⟨(.var 9), .mov (.t 5), .none⟩]))))) (.ops [⟨.tmp, .bin .add .arith (.v 22) (.c (.int .i64 1)), .none⟩, ⟨(.var 22), .mov (.t 0), .none⟩]))))))) (.seq (.ops [⟨.tmp, .mov (.v 9), .none⟩, ⟨(.var 3), .mov (.c (.int .i64 0)), .none⟩, ⟨(.var 4), .mov (.t 0), .none⟩]) .ret)))))), [.v 3, .v 4], []⟩
def c37 : AFunc := ⟨[0, 2, 4], (.seq (.ops [⟨(.var 1), .mov (.c (.sl [] .nil)), .none⟩]) (.seq (.seq (.ops [⟨.tmp, .mov (.v 0), .none⟩, ⟨(.var 2), .bin .eql .sl (.t 0) (.c (.sl [] .nil)), .none⟩]) (.cond (.v 2) (.seq (.ops [⟨(.var 1), .mov (.c (.sl [] .nil)), .none⟩]) .ret) .skip)) (.seq (.ops [⟨.tmp, .x .elit [], .none⟩, ⟨.tmp, .mov (.v 0), .none⟩, ⟨.tmp, .x (.afresh 3 8 1 false) [(.t 0), (.t 1)], .none⟩, ⟨(.var 1), .mov (.t 2), .none⟩]) .ret))), [.v 1], []⟩
def c38 : AFunc := ⟨[0, 2, 4], (.seq (.ops [⟨(.var 1), .mov (.c (.sl [] .nil)), .none⟩]) (.seq (.seq (.ops [⟨.tmp, .mov (.v 0), .none⟩, ⟨(.var 2), .bin .eql .sl (.t 0) (.c (.sl [] .nil)), .none⟩]) (.cond (.v 2) (.seq (.ops [⟨(.var 1), .mov (.c (.sl [] .nil)), .none⟩]) .ret) .skip)) (.seq (.ops [⟨.tmp, .x .elit [], .none⟩, ⟨.tmp, .mov (.v 0), .none⟩, ⟨.tmp, .x (.afresh 9 16 1 false) [(.t 0), (.t 1)], .none⟩, ⟨(.var 1), .mov (.t 2), .none⟩]) .ret))), [.v 1], []⟩
def c45 : AFunc := ⟨[0, 1, 2, 4, 5, 6, 7, 10, 11, 12, 39], (.seq (.ops [⟨.tmp, .load 1 false (.v 1), .none⟩, ⟨.tmp, .slen (.t 0), .none⟩, ⟨(.var 7), .pcall 11 [(.t 1)], .none⟩, ⟨(.var 8), .mov (.c (.int .i64 0)), .none⟩]) (.block 0 (.loop (.seq (.ops [⟨(.var 9), .bin .lss .arith (.v 8) (.v 7), .none⟩]) (.seq (.cond (.v 9) .skip (.exit 0)) (.seq (.block 1 (.seq (.ops [⟨.tmp, .mov (.v 8), .none⟩, ⟨(.var 3), .mov (.t 0), .none⟩]) (.seq (.ops [⟨(.var 4), .alloc 61 64 true (List.replicate 64 (.int .u8 0)), .none⟩]) (.seq (.ops [⟨.tmp, .load 1 false (.v 1), .none⟩, ⟨.tmp, .mov (.v 3), .none⟩, ⟨.tmp, .bin .mul .arith (.c (.int .i64 48)) (.t 1), .none⟩, ⟨.tmp, .sslice (.t 0) (some (.t 2)) .none, .none⟩, ⟨(.var 5), .mov (.t 3), .none⟩]) (.seq (.ops [⟨.tmp, .x (.aslice 64 1 false false true) [(.v 4), (.c (.int .i64 4))], .none⟩, ⟨.tmp, .load 1 false (.v 2), .none⟩, ⟨.tmp, .call (.c (.fn 46 [])) [(.t 0), (.t 1)], .none⟩]) (.seq (.ops [⟨.tmp, .x (.aslice 64 1 false true true) [(.v 4), (.c (.int .i64 4)), (.c (.int .i64 6))], .none⟩, ⟨.tmp, .mov (.v 3), .none⟩, ⟨.tmp, .call (.c (.fn 46 [])) [(.t 0), (.t 1)], .none⟩]) (.seq (.ops [⟨.tmp, .x (.aslice 64 1 false true true) [(.v 4), (.c (.int .i64 6)), (.c (.int .i64 8))], .none⟩, ⟨.tmp, .mov (.v 5), .none⟩, ⟨.tmp, .slen (.t 1), .none⟩, ⟨.tmp, .call (.c (.fn 46 [])) [(.t 0), (.t 2)], .none⟩]) (.seq (.ops [⟨.tmp, .x (.aslice 64 1 false true true) [(.v 4), (.c (.int .i64 8)), (.c (.int .i64 56))], .none⟩, ⟨.tmp, .mov (.v 5), .none⟩, ⟨.tmp, .copy 1 (.t 0) (.t 1), .none⟩]) (.seq (.ops [⟨.tmp, .x (.aslice 64 1 false false true) [(.v 4), (.c (.int .i64 56))], .none⟩, ⟨.tmp, .pcall 47 [(.t 0)], .none⟩, ⟨(.var 6), .alloc 101 32 true (List.replicate 32 (.int .u8 0)), .none⟩, ⟨.no, .store 32 (.v 6) (.t 1), .none⟩]) (.seq (.ops [⟨.tmp, .x (.aslice 64 1 false true false) [(.v 4), (.c (.int .i64 56))], .none⟩, ⟨.tmp, .x (.aslice 32 1 false false false) [(.v 6)], .none⟩, ⟨.tmp, .copy 1 (.t 0) (.t 1), .none⟩]) (.seq (.ops [⟨.tmp, .mov (.v 0), .none⟩, ⟨.tmp, .load 64 true (.v 4), .none⟩, ⟨.tmp, .call (.t 0) [(.t 1)], .none⟩, ⟨(.var 10), .un .not (.t 2), .none⟩]) (.cond (.v 10) .ret .skip)))))))))))) (.ops [⟨.tmp, .bin .add .arith (.v 8) (.c (.int .i64 1)), .none⟩, ⟨(.var 8), .mov (.t 0), .none⟩]))))))), [], []⟩
def c46 : AFunc := ⟨[0, 1, 4, 6, 7, 8], (.seq (.ops [⟨.tmp, .mov (.v 0), .none⟩, ⟨(.var 3), .len (.t 0), .none⟩, ⟨(.var 4), .mov (.c (.int .i64 0)), .none⟩]) (.block 0 (.loop (.seq (.ops [⟨(.var 5), .bin .lss .arith (.v 4) (.v 3), .none⟩]) (.seq (.cond (.v 5) .skip (.exit 0)) (.seq (.block 1 (.seq (.ops [⟨.tmp, .mov (.v 4), .none⟩, ⟨(.var 2), .mov (.t 0), .none⟩]) (.seq (.ops [⟨.tmp, .mov (.v 0), .none⟩, ⟨.tmp, .mov (.v 2), .none⟩, ⟨.tmp, .mov (.v 1), .none⟩, ⟨.tmp, .toInt .u8 (.t 2), .none⟩, ⟨.tmp, .iaddr 1 (.t 0) (.t 1), .none⟩, ⟨.no, .store 1 (.t 4) (.t 3), .none⟩]) (.ops [⟨.tmp, .mov (.v 1), .none⟩, ⟨.tmp, .bin .shr .arith (.t 0) (.c (.int .u64 8)), .none⟩, ⟨(.var 1), .mov (.t 1), .none⟩])))) (.ops [⟨.tmp, .bin .add .arith (.v 4) (.c (.int .i64 1)), .none⟩, ⟨(.var 4), .mov (.t 0), .none⟩]))))))), [], []⟩
def c47 : AFunc := ⟨[0, 2], (.seq (.ops [⟨(.var 1), .alloc 101 32 true (List.replicate 32 (.int .u8 0)), .none⟩]) (.seq (.ops [⟨.tmp, .pcall 60 [], .none⟩, ⟨.tmp, .mov (.v 0), .none⟩, ⟨.tmp, .x .b2s [(.t 1)], .none⟩, ⟨.tmp, .pcall 61 [(.t 0), (.t 2)], .none⟩, ⟨.tmp, .pcall 62 [(.t 3)], .none⟩, ⟨.no, .store 32 (.v 1) (.t 4), .none⟩]) .ret)), [.c 1 32 true], []⟩
def c49L0 : ALoop := ⟨[.none, (some 5)], (.ops [⟨(.var 3), .mov (.v 5), .none⟩]), (.block 1 (.ops [⟨.tmp, .load 1 false (.v 2), .none⟩, ⟨.tmp, .bin .shl .arith (.t 0) (.c (.int .u64 8)), .none⟩, ⟨.tmp, .mov (.v 3), .none⟩, ⟨.tmp, .toInt .i64 (.t 2), .none⟩, ⟨.tmp, .bin .or .arith (.t 1) (.t 3), .none⟩, ⟨.no, .store 1 (.v 2) (.t 4), .none⟩]))⟩
def c49 : AFunc := ⟨[0, 2, 3, 5, 7, 9], (.seq (.ops [⟨(.var 1), .mov (.c (.int .i64 0)), .none⟩]) (.seq (.ops [⟨(.var 2), .alloc 3 1 false [(.int .i64 0)], .none⟩, ⟨.no, .store 1 (.v 2) (.c (.int .i64 0)), .none⟩]) (.seq (.seq (.ops [⟨.tmp, .mov (.v 0), .none⟩, ⟨(.var 4), .call (.c (.fn 66 [])) [(.t 0)], .none⟩]) (.block 0 (.rfunc 49 0 [0, 2, 3, 5, 7, 9] (.v 4)))) (.seq (.ops [⟨.tmp, .load 1 false (.v 2), .none⟩, ⟨(.var 1), .mov (.t 0), .none⟩]) .ret)))), [.v 1], [c49L0]⟩
def c50 : AFunc := ⟨[0, 1, 4], (.seq (.ops [⟨(.var 2), .mov (.c (.bool false)), .none⟩]) (.seq (.ops [⟨.tmp, .mov (.v 0), .none⟩, ⟨.tmp, .x .b2s [(.t 0)], .none⟩, ⟨.tmp, .mov (.v 1), .none⟩, ⟨.tmp, .x .b2s [(.t 2)], .none⟩, ⟨.tmp, .bin .eql .arith (.t 1) (.t 3), .none⟩, ⟨(.var 2), .mov (.t 4), .none⟩]) .ret)), [.v 2], []⟩
def c51 : AFunc := ⟨[0, 1, 4, 5, 10], (.seq (.ops [⟨(.var 2), .mov (.c (.int .i64 0)), .none⟩]) (.seq (.block 0 (.seq (.ops [⟨.tmp, .mov (.v 0), .none⟩, ⟨.tmp, .nilc (.t 0), .none⟩, ⟨.tmp, .faddr 3 (.t 1), .none⟩, ⟨.tmp, .load 1 false (.t 2), .none⟩, ⟨(.var 3), .mov (.t 3), .none⟩]) (.cond (.v 3) (.seq (.ops [⟨(.var 2), .mov (.c (.int .i64 21)), .none⟩]) .ret) (.seq (.ops [⟨.tmp, .mov (.v 1), .none⟩, ⟨.tmp, .bin .lss .arith (.t 0) (.c (.int .i64 0)), .none⟩, ⟨.tmp, .mov (.t 1), .none⟩, ⟨.tmp, .mov (.v 1), (some ((.t 2), false))⟩, ⟨.tmp, .mov (.v 0), (some ((.t 2), false))⟩, ⟨.tmp, .nilc (.t 4), (some ((.t 2), false))⟩, ⟨.tmp, .faddr 0 (.t 5), (some ((.t 2), false))⟩, ⟨.tmp, .load 1 false (.t 6), (some ((.t 2), false))⟩, ⟨.tmp, .len (.t 7), (some ((.t 2), false))⟩, ⟨.tmp, .bin .geq .arith (.t 3) (.t 8), (some ((.t 2), false))⟩, ⟨.tmp, .pick (.t 2) (.c (.bool true)) (.t 9), .none⟩, ⟨(.var 4), .mov (.t 10), .none⟩]) (.cond (.v 4) (.seq (.ops [⟨(.var 2), .mov (.c (.int .i64 1)), .none⟩]) .ret) .skip))))) (.seq (.ops [⟨(.var 2), .mov (.c (.int .i64 0)), .none⟩]) .ret))), [.v 2], []⟩
def c52 : AFunc := ⟨[0, 1, 4, 5, 7, 8, 9, 16], (.seq (.ops [⟨(.var 2), .mov (.c (.int .i64 0)), .none⟩]) (.seq (.seq (.ops [⟨.tmp, .mov (.v 0), .none⟩, ⟨(.var 4), .len (.t 0), .none⟩, ⟨(.var 5), .mov (.c (.int .i64 0)), .none⟩]) (.block 0 (.loop (.seq (.ops [⟨(.var 6), .bin .lss .arith (.v 5) (.v 4), .none⟩]) (.seq (.cond (.v 6) .skip (.exit 0)) (.seq (.block 1 (.seq (.ops [⟨.tmp, .mov (.v 5), .none⟩, ⟨(.var 3), .mov (.t 0), .none⟩]) (.seq (.ops [⟨.tmp, .mov (.v 1), .none⟩, ⟨.tmp, .mov (.v 0), .none⟩, ⟨.tmp, .mov (.v 3), .none⟩, ⟨.tmp, .iaddr 1 (.t 1) (.t 2), .none⟩, ⟨.tmp, .load 1 false (.t 3), .none⟩, ⟨(.var 7), .bin .eql .arith (.t 0) (.t 4), .none⟩]) (.cond (.v 7) (.seq (.ops [⟨.tmp, .mov (.v 3), .none⟩, ⟨(.var 2), .mov (.t 0), .none⟩]) .ret) .skip)))) (.ops [⟨.tmp, .bin .add .arith (.v 5) (.c (.int .i64 1)), .none⟩, ⟨(.var 5), .mov (.t 0), .none⟩]))))))) (.seq (.ops [⟨(.var 2), .mov (.c (.int .i64 (-1))), .none⟩]) .ret))), [.v 2], []⟩
def c53 : AFunc := ⟨[0, 1, 2, 6, 7, 8, 13, 17, 21], (.seq (.ops [⟨(.var 3), .mov (.c (.int .i64 0)), .none⟩]) (.seq (.seq (.ops [⟨.tmp, .mov (.v 0), .none⟩, ⟨.tmp, .mov (.v 1), .none⟩, ⟨.tmp, .call (.c (.fn 51 [])) [(.t 0), (.t 1)], .none⟩, ⟨(.var 4), .mov (.t 2), .none⟩]) (.seq (.ops [⟨.tmp, .mov (.v 4), .none⟩, ⟨(.var 6), .bin .neq .arith (.t 0) (.c (.int .i64 0)), .none⟩]) (.cond (.v 6) (.seq (.ops [⟨.tmp, .mov (.v 4), .none⟩, ⟨(.var 3), .mov (.t 0), .none⟩]) .ret) .skip))) (.seq (.seq (.ops [⟨.tmp, .mov (.v 2), .none⟩, ⟨.tmp, .slen (.t 0), .none⟩, ⟨(.var 7), .bin .neq .arith (.t 1) (.c (.int .i64 64)), .none⟩]) (.cond (.v 7) (.seq (.ops [⟨(.var 3), .mov (.c (.int .i64 1)), .none⟩]) .ret) .skip)) (.seq (.seq (.ops [⟨.tmp, .mov (.v 0), .none⟩, ⟨.tmp, .call (.c (.fn 67 [])) [(.t 0)], .none⟩, ⟨(.var 5), .mov (.t 1), .none⟩]) (.seq (.ops [⟨.tmp, .mov (.v 5), .none⟩, ⟨(.var 8), .bin .neq .arith (.t 0) (.c (.int .i64 0)), .none⟩]) (.cond (.v 8) (.seq (.ops [⟨.tmp, .mov (.v 5), .none⟩, ⟨(.var 3), .mov (.t 0), .none⟩]) .ret) .skip))) (.seq (.ops [⟨.tmp, .mov (.v 0), .none⟩, ⟨.tmp, .nilc (.t 0), .none⟩, ⟨.tmp, .faddr 1 (.t 1), .none⟩, ⟨.tmp, .load 1 false (.t 2), .none⟩, ⟨.tmp, .mov (.v 1), .none⟩, ⟨.tmp, .mov (.v 2), .none⟩, ⟨.tmp, .x (.s2b false) [(.t 5)], .none⟩, ⟨.tmp, .x (.s2ap 64 1) [(.t 6)], .none⟩, ⟨.tmp, .load 64 true (.t 7), .none⟩, ⟨.no, .x (.mput (.int .i64)) [(.t 3), (.t 4), (.t 8)], .none⟩]) (.seq (.ops [⟨(.var 3), .mov (.c (.int .i64 0)), .none⟩]) .ret)))))), [.v 3], []⟩
def c54 : AFunc := ⟨[0, 2, 3, 4, 6, 10, 15, 18, 19, 20, 21], (.seq (.ops [⟨(.var 1), .mov (.c (.int .i64 0)), .none⟩]) (.seq (.seq (.ops [⟨.tmp, .mov (.v 0), .none⟩, ⟨.tmp, .call (.c (.fn 51 [])) [(.t 0), (.c (.int .i64 0))], .none⟩, ⟨(.var 2), .mov (.t 1), .none⟩]) (.seq (.ops [⟨.tmp, .mov (.v 2), .none⟩, ⟨(.var 5), .bin .neq .arith (.t 0) (.c (.int .i64 0)), .none⟩]) (.cond (.v 5) (.seq (.ops [⟨.tmp, .mov (.v 2), .none⟩, ⟨(.var 1), .mov (.t 0), .none⟩]) .ret) .skip))) (.seq (.seq (.ops [⟨.tmp, .mov (.v 0), .none⟩, ⟨.tmp, .call (.c (.fn 67 [])) [(.t 0)], .none⟩, ⟨(.var 3), .mov (.t 1), .none⟩]) (.seq (.ops [⟨.tmp, .mov (.v 3), .none⟩, ⟨(.var 6), .bin .neq .arith (.t 0) (.c (.int .i64 0)), .none⟩]) (.cond (.v 6) (.seq (.ops [⟨.tmp, .mov (.v 3), .none⟩, ⟨(.var 1), .mov (.t 0), .none⟩]) .ret) .skip))) (.seq (.seq (.ops [⟨.tmp, .mov (.v 0), .none⟩, ⟨(.var 7), .gcall 68 [(.t 0)], .none⟩, ⟨(.var 8), .len (.v 7), .none⟩, ⟨(.var 9), .mov (.c (.int .i64 0)), .none⟩]) (.block 0 (.loop (.seq (.ops [⟨(.var 10), .bin .lss .arith (.v 9) (.v 8), .none⟩]) (.seq (.cond (.v 10) .skip (.exit 0)) (.seq (.block 1 (.seq (.ops [⟨.tmp, .iaddr 1 (.v 7) (.v 9), .none⟩, ⟨.tmp, .load 1 false (.t 0), .none⟩, ⟨(.var 4), .mov (.t 1), .none⟩]) (.ops [⟨.tmp, .mov (.v 0), .none⟩, ⟨.tmp, .mov (.v 4), .none⟩, ⟨.tmp, .call (.c (.fn 69 [])) [(.t 0), (.t 1), (.c (.int .i64 64))], .none⟩]))) (.ops [⟨.tmp, .bin .add .arith (.v 9) (.c (.int .i64 1)), .none⟩, ⟨(.var 9), .mov (.t 0), .none⟩]))))))) (.seq (.ops [⟨(.var 1), .mov (.c (.int .i64 0)), .none⟩]) .ret))))), [.v 1], []⟩
def c60 : AFunc := ⟨[0], (.seq (.ops [⟨(.var 0), .alloc 118 73 true (List.replicate 8 (.int .u32 0) ++ List.replicate 64 (.int .u8 0) ++ [(.int .u64 0)]), .none⟩]) (.seq (.ops [⟨.tmp, .build [(.int .u32 0), (.int .u32 0), (.int .u32 0), (.int .u32 0), (.int .u32 0), (.int .u32 0), (.int .u32 0), (.int .u32 0)] [(0, 1, (.c (.int .u32 1779033703))), (1, 1, (.c (.int .u32 3144134277))), (2, 1, (.c (.int .u32 1013904242))), (3, 1, (.c (.int .u32 2773480762))), (4, 1, (.c (.int .u32 1359893119))), (5, 1, (.c (.int .u32 2600822924))), (6, 1, (.c (.int .u32 528734635))), (7, 1, (.c (.int .u32 1541459225)))], .none⟩, ⟨.tmp, .build (List.replicate 8 (.int .u32 0) ++ List.replicate 64 (.int .u8 0) ++ [(.int .u64 0)]) [(0, 8, (.t 0))], .none⟩, ⟨.no, .store 73 (.v 0) (.t 1), .none⟩]) .ret)), [.c 0 73 true], []⟩
def c61 : AFunc := ⟨[0, 1, 2, 4, 5, 6, 8, 30], (.seq (.ops [⟨(.var 2), .box 73 true (.v 0), .none⟩, ⟨(.var 3), .alloc 118 73 true (List.replicate 8 (.int .u32 0) ++ List.replicate 64 (.int .u8 0) ++ [(.int .u64 0)]), .none⟩]) (.seq (.block 0 (.loop (.seq (.seq (.ops [⟨.tmp, .mov (.v 1), .none⟩, ⟨(.var 6), .bin .neq .arith (.t 0) (.c (.str [])), .none⟩]) (.cond (.v 6) .skip (.exit 0))) (.block 1 (.seq (.ops [⟨.tmp, .faddr 72 (.v 2), .none⟩, ⟨.tmp, .load 1 false (.t 0), .none⟩, ⟨.tmp, .bin .rem .arith (.t 1) (.c (.int .u64 64)), .none⟩, ⟨.tmp, .toInt .i64 (.t 2), .none⟩, ⟨(.var 4), .mov (.t 3), .none⟩]) (.seq (.ops [⟨.tmp, .faddr 8 (.v 2), .none⟩, ⟨.tmp, .mov (.v 4), .none⟩, ⟨.tmp, .x (.aslice 64 1 false true false) [(.t 0), (.t 1)], .none⟩, ⟨.tmp, .mov (.v 1), .none⟩, ⟨.tmp, .copy 1 (.t 2) (.t 3), .none⟩, ⟨(.var 5), .mov (.t 4), .none⟩]) (.seq (.ops [⟨.tmp, .mov (.v 1), .none⟩, ⟨.tmp, .mov (.v 5), .none⟩, ⟨.tmp, .sslice (.t 0) (some (.t 1)) .none, .none⟩, ⟨(.var 1), .mov (.t 2), .none⟩]) (.seq (.ops [⟨.tmp, .faddr 72 (.v 2), .none⟩, ⟨.tmp, .load 1 false (.t 0), .none⟩, ⟨.tmp, .mov (.v 5), .none⟩, ⟨.tmp, .toInt .u64 (.t 2), .none⟩, ⟨.tmp, .bin .add .arith (.t 1) (.t 3), .none⟩, ⟨.tmp, .faddr 72 (.v 2), .none⟩, ⟨.no, .store 1 (.t 5) (.t 4), .none⟩]) (.seq (.ops [⟨.tmp, .mov (.v 4), .none⟩, ⟨.tmp, .mov (.v 5), .none⟩, ⟨.tmp, .bin .add .arith (.t 0) (.t 1), .none⟩, ⟨(.var 7), .bin .eql .arith (.t 2) (.c (.int .i64 64)), .none⟩]) (.cond (.v 7) (.ops [⟨.tmp, .faddr 0 (.v 2), .none⟩, ⟨.tmp, .load 8 true (.t 0), .none⟩, ⟨.tmp, .faddr 8 (.v 2), .none⟩, ⟨.tmp, .x (.aslice 64 1 false false false) [(.t 2)], .none⟩, ⟨.tmp, .pcall 72 [(.t 1), (.t 3)], .none⟩, ⟨.tmp, .faddr 0 (.v 2), .none⟩, ⟨.no, .store 8 (.t 5) (.t 4), .none⟩]) .skip)))))))))) (.seq (.ops [⟨.tmp, .load 73 true (.v 2), .none⟩, ⟨.no, .store 73 (.v 3) (.t 0), .none⟩]) .ret))), [.c 3 73 true], []⟩
def c62 : AFunc := ⟨[0, 1, 2, 3, 4, 5, 6, 7, 19, 23, 24, 40, 41], (.seq (.ops [⟨(.var 1), .box 73 true (.v 0), .none⟩, ⟨(.var 2), .alloc 101 32 true (List.replicate 32 (.int .u8 0)), .none⟩]) (.seq (.ops [⟨.tmp, .faddr 72 (.v 1), .none⟩, ⟨.tmp, .load 1 false (.t 0), .none⟩, ⟨.tmp, .bin .mul .arith (.c (.int .u64 8)) (.t 1), .none⟩, ⟨(.var 3), .mov (.t 2), .none⟩]) (.seq (.ops [⟨.tmp, .lit 1 5 1 1 false [(.int .u8 0)] [(0, (.c (.int .u8 128)))], .none⟩, ⟨(.var 4), .mov (.t 0), .none⟩]) (.seq (.block 0 (.loop (.seq (.seq (.ops [⟨.tmp, .faddr 72 (.v 1), .none⟩, ⟨.tmp, .load 1 false (.t 0), .none⟩, ⟨.tmp, .toInt .i64 (.t 1), .none⟩, ⟨.tmp, .mov (.v 4), .none⟩, ⟨.tmp, .len (.t 3), .none⟩, ⟨.tmp, .bin .add .arith (.t 2) (.t 4), .none⟩, ⟨.tmp, .bin .rem .arith (.t 5) (.c (.int .i64 64)), .none⟩, ⟨(.var 8), .bin .neq .arith (.t 6) (.c (.int .i64 56)), .none⟩]) (.cond (.v 8) .skip (.exit 0))) (.block 1 (.ops [⟨.tmp, .mov (.v 4), .none⟩, ⟨.tmp, .lit 0 5 1 1 false [(.int .u8 0)] [(0, (.c (.int .u8 0)))], .none⟩, ⟨.tmp, .append false 5 1 1 false (.t 0) (.t 1), .none⟩, ⟨(.var 4), .mov (.t 2), .none⟩]))))) (.seq (.seq (.ops [⟨(.var 9), .mov (.c (.int .i64 0)), .none⟩]) (.block 2 (.loop (.seq (.ops [⟨(.var 10), .bin .lss .arith (.v 9) (.c (.int .i64 8)), .none⟩]) (.seq (.cond (.v 10) .skip (.exit 2)) (.seq (.block 3 (.seq (.ops [⟨.tmp, .mov (.v 9), .none⟩, ⟨(.var 5), .mov (.t 0), .none⟩]) (.ops [⟨.tmp, .mov (.v 4), .none⟩, ⟨.tmp, .mov (.v 3), .none⟩, ⟨.tmp, .mov (.v 5), .none⟩, ⟨.tmp, .bin .mul .arith (.c (.int .i64 8)) (.t 2), .none⟩, ⟨.tmp, .bin .sub .arith (.c (.int .i64 56)) (.t 3), .none⟩, ⟨.tmp, .bin .shr .arith (.t 1) (.t 4), .none⟩, ⟨.tmp, .toInt .u8 (.t 5), .none⟩, ⟨.tmp, .lit 0 5 1 1 false [(.int .u8 0)] [(0, (.t 6))], .none⟩, ⟨.tmp, .append false 5 1 1 false (.t 0) (.t 7), .none⟩, ⟨(.var 4), .mov (.t 8), .none⟩]))) (.ops [⟨.tmp, .bin .add .arith (.v 9) (.c (.int .i64 1)), .none⟩, ⟨(.var 9), .mov (.t 0), .none⟩]))))))) (.seq (.ops [⟨.tmp, .load 73 true (.v 1), .none⟩, ⟨.tmp, .mov (.v 4), .none⟩, ⟨.tmp, .x .b2s [(.t 1)], .none⟩, ⟨.tmp, .pcall 61 [(.t 0), (.t 2)], .none⟩, ⟨.no, .store 73 (.v 1) (.t 3), .none⟩]) (.seq (.ops [⟨(.var 6), .alloc 101 32 true (List.replicate 32 (.int .u8 0)), .none⟩]) (.seq (.seq (.ops [⟨(.var 11), .mov (.c (.int .i64 0)), .none⟩]) (.block 4 (.loop (.seq (.ops [⟨(.var 12), .bin .lss .arith (.v 11) (.c (.int .i64 32)), .none⟩]) (.seq (.cond (.v 12) .skip (.exit 4)) (.seq (.block 5 (.seq (.ops [⟨.tmp, .mov (.v 11), .none⟩, ⟨(.var 7), .mov (.t 0), .none⟩]) (.ops [⟨.tmp, .mov (.v 7), .none⟩, ⟨.tmp, .mov (.v 7), .none⟩, ⟨.tmp, .bin .quo .arith (.t 1) (.c (.int .i64 4)), .none⟩, ⟨.tmp, .faddr 0 (.v 1), .none⟩, ⟨.tmp, .aaddr 8 1 (.t 3) (.t 2), .none⟩, ⟨.tmp, .load 1 false (.t 4), .none⟩, ⟨.tmp, .mov (.v 7), .none⟩, ⟨.tmp, .bin .rem .arith (.t 6) (.c (.int .i64 4)), .none⟩, ⟨.tmp, .bin .mul .arith (.c (.int .i64 8)) (.t 7), .none⟩, ⟨.tmp, .bin .sub .arith (.c (.int .i64 24)) (.t 8), .none⟩, ⟨.tmp, .bin .shr .arith (.t 5) (.t 9), .none⟩, ⟨.tmp, .toInt .u8 (.t 10), .none⟩, ⟨.tmp, .aaddr 32 1 (.v 6) (.t 0), .none⟩, ⟨.no, .store 1 (.t 12) (.t 11), .none⟩]))) (.ops [⟨.tmp, .bin .add .arith (.v 11) (.c (.int .i64 1)), .none⟩, ⟨(.var 11), .mov (.t 0), .none⟩]))))))) (.seq (.ops [⟨.tmp, .load 32 true (.v 6), .none⟩, ⟨.no, .store 32 (.v 2) (.t 0), .none⟩]) .ret))))))))), [.c 2 32 true], []⟩
def c66 : AFunc := ⟨[0, 1, 2], (.seq (.ops [⟨(.var 1), .box 1 false (.v 0), .none⟩, ⟨(.var 2), .mov (.c .nilfn), .none⟩]) (.seq (.ops [⟨.tmp, .clo 73 [(.v 1)], .none⟩, ⟨(.var 2), .mov (.t 0), .none⟩]) .ret)), [.v 2], []⟩
def c67 : AFunc := ⟨[0, 2, 3, 12], (.seq (.ops [⟨(.var 1), .mov (.c (.int .i64 0)), .none⟩]) (.seq (.block 0 (.seq (.ops [⟨.tmp, .mov (.v 0), .none⟩, ⟨.tmp, .nilc (.t 0), .none⟩, ⟨.tmp, .faddr 4 (.t 1), .none⟩, ⟨.tmp, .load 1 false (.t 2), .none⟩, ⟨.tmp, .bin .eql .arith (.t 3) (.c (.int .i64 0)), .none⟩, ⟨(.var 2), .mov (.t 4), .none⟩]) (.cond (.v 2) (.seq (.ops [⟨.tmp, .mov (.v 0), .none⟩, ⟨.tmp, .nilc (.t 0), .none⟩, ⟨.tmp, .faddr 3 (.t 1), .none⟩, ⟨.no, .store 1 (.t 2) (.c (.bool true)), .none⟩]) (.seq (.ops [⟨(.var 1), .mov (.c (.int .i64 21)), .none⟩]) .ret)) (.seq (.ops [⟨.tmp, .mov (.v 0), .none⟩, ⟨.tmp, .nilc (.t 0), .none⟩, ⟨.tmp, .faddr 4 (.t 1), .none⟩, ⟨.tmp, .load 1 false (.t 2), .none⟩, ⟨.tmp, .bin .gtr .arith (.t 3) (.c (.int .i64 0)), .none⟩, ⟨(.var 3), .mov (.t 4), .none⟩]) (.cond (.v 3) (.ops [⟨.tmp, .mov (.v 0), .none⟩, ⟨.tmp, .nilc (.t 0), .none⟩, ⟨.tmp, .faddr 4 (.t 1), .none⟩, ⟨.tmp, .load 1 false (.t 2), .none⟩, ⟨.tmp, .bin .sub .arith (.t 3) (.c (.int .i64 1)), .none⟩, ⟨.tmp, .nilc (.t 0), .none⟩, ⟨.tmp, .faddr 4 (.t 5), .none⟩, ⟨.no, .store 1 (.t 6) (.t 4), .none⟩]) .skip))))) (.seq (.ops [⟨(.var 1), .mov (.c (.int .i64 0)), .none⟩]) .ret))), [.v 1], []⟩
def c68 : AFunc := ⟨[0, 2], (.seq (.ops [⟨(.var 1), .mov (.c (.sl [] .nil)), .none⟩]) (.seq (.ops [⟨.tmp, .mov (.v 0), .none⟩, ⟨.tmp, .nilc (.t 0), .none⟩, ⟨.tmp, .faddr 1 (.t 1), .none⟩, ⟨.tmp, .load 1 false (.t 2), .none⟩, ⟨.tmp, .call (.c (.fn 75 [])) [(.t 3)], .none⟩, ⟨.tmp, .call (.c (.fn 74 [])) [(.t 4)], .none⟩, ⟨(.var 1), .mov (.t 5), .none⟩]) .ret)), [.v 1], []⟩
def c69 : AFunc := ⟨[0, 1, 2, 6, 35], (.seq (.ops [⟨.tmp, .mov (.v 0), .none⟩, ⟨.tmp, .nilc (.t 0), .none⟩, ⟨.tmp, .faddr 1 (.t 1), .none⟩, ⟨.tmp, .load 1 false (.t 2), .none⟩, ⟨.tmp, .mov (.v 1), .none⟩, ⟨.tmp, .x (.mlook (.int .i64) (.agg (List.replicate 64 (.int .u8 0))) false) [(.t 3), (.t 4)], .none⟩, ⟨(.var 3), .alloc 98 64 true (List.replicate 64 (.int .u8 0)), .none⟩, ⟨.no, .store 64 (.v 3) (.t 5), .none⟩]) (.seq (.ops [⟨.tmp, .mov (.v 0), .none⟩, ⟨.tmp, .nilc (.t 0), .none⟩, ⟨.tmp, .faddr 1 (.t 1), .none⟩, ⟨.tmp, .load 1 false (.t 2), .none⟩, ⟨.tmp, .mov (.v 1), .none⟩, ⟨.no, .x (.mdel (.int .i64)) [(.t 3), (.t 4)], .none⟩]) (.seq (.ops [⟨.tmp, .mov (.v 0), .none⟩, ⟨.tmp, .nilc (.t 0), .none⟩, ⟨.tmp, .faddr 2 (.t 1), .none⟩, ⟨.tmp, .load 1 false (.t 2), .none⟩, ⟨.tmp, .mov (.v 1), .none⟩, ⟨.tmp, .x (.mlook (.int .i64) (.bool false) false) [(.t 3), (.t 4)], .none⟩, ⟨.tmp, .un .not (.t 5), .none⟩, ⟨.tmp, .mov (.t 6), .none⟩, ⟨.tmp, .load 64 true (.v 3), (some ((.t 7), true))⟩, ⟨.tmp, .mov (.v 0), (some ((.t 7), true))⟩, ⟨.tmp, .nilc (.t 9), (some ((.t 7), true))⟩, ⟨.tmp, .faddr 0 (.t 10), (some ((.t 7), true))⟩, ⟨.tmp, .load 1 false (.t 11), (some ((.t 7), true))⟩, ⟨.tmp, .mov (.v 1), (some ((.t 7), true))⟩, ⟨.tmp, .iaddr 64 (.t 12) (.t 13), (some ((.t 7), true))⟩, ⟨.tmp, .load 64 true (.t 14), (some ((.t 7), true))⟩, ⟨.tmp, .bin .neq (.struct (List.replicate 64 .int)) (.t 8) (.t 15), (some ((.t 7), true))⟩, ⟨(.var 4), .pick (.t 7) (.t 16) (.c (.bool false)), .none⟩]) (.cond (.v 4) (.ops [⟨.tmp, .mov (.v 0), .none⟩, ⟨.tmp, .nilc (.t 0), .none⟩, ⟨.tmp, .faddr 0 (.t 1), .none⟩, ⟨.tmp, .load 1 false (.t 2), .none⟩, ⟨.tmp, .mov (.v 1), .none⟩, ⟨.tmp, .iaddr 64 (.t 3) (.t 4), .none⟩, ⟨.tmp, .mov (.v 2), .none⟩, ⟨.tmp, .mnx false (.t 6) (.c (.int .i64 64)), .none⟩, ⟨.tmp, .mnx true (.c (.int .i64 0)) (.t 7), .none⟩, ⟨.tmp, .x (.aslice 64 1 false false true) [(.t 5), (.t 8)], .none⟩, ⟨.tmp, .x (.aslice 64 1 false false false) [(.v 3)], .none⟩, ⟨.tmp, .copy 1 (.t 9) (.t 10), .none⟩]) .skip)))), [], []⟩
def c73 : AFunc := ⟨[0, 1, 3, 8, 18], (.seq (.ops [⟨.tmp, .load 1 false (.v 1), .none⟩, ⟨.tmp, .len (.t 0), .none⟩, ⟨.tmp, .bin .sub .arith (.t 1) (.c (.int .i64 1)), .none⟩, ⟨(.var 2), .mov (.t 2), .none⟩]) (.block 0 (.loop (.seq (.seq (.ops [⟨.tmp, .mov (.v 2), .none⟩, ⟨(.var 3), .bin .geq .arith (.t 0) (.c (.int .i64 0)), .none⟩]) (.cond (.v 3) .skip (.exit 0))) (.seq (.block 1 (.seq (.ops [⟨.tmp, .mov (.v 0), .none⟩, ⟨.tmp, .mov (.v 2), .none⟩, ⟨.tmp, .load 1 false (.v 1), .none⟩, ⟨.tmp, .mov (.v 2), .none⟩, ⟨.tmp, .iaddr 1 (.t 2) (.t 3), .none⟩, ⟨.tmp, .load 1 false (.t 4), .none⟩, ⟨.tmp, .call (.t 0) [(.t 1), (.t 5)], .none⟩, ⟨(.var 4), .un .not (.t 6), .none⟩]) (.cond (.v 4) .ret .skip))) (.ops [⟨.tmp, .mov (.v 2), .none⟩, ⟨.tmp, .bin .sub .arith (.t 0) (.c (.int .i64 1)), .none⟩, ⟨(.var 2), .mov (.t 1), .none⟩])))))), [], []⟩
def c75 : AFunc := ⟨[0, 1, 2], (.seq (.ops [⟨(.var 1), .box 1 false (.v 0), .none⟩, ⟨(.var 2), .mov (.c .nilfn), .none⟩]) (.seq (.ops [⟨.tmp, .clo 80 [(.v 1)], .none⟩, ⟨(.var 2), .mov (.t 0), .none⟩]) .ret)), [.v 2], []⟩
def c76 : AFunc := ⟨[0, 2, 3, 4, 6, 7, 8, 9, 10, 11, 12, 15, 22, 23, 24, 25], (.seq (.ops [⟨(.var 1), .alloc 123 64 true (List.replicate 64 (.int .u32 0)), .none⟩]) (.seq (.ops [⟨(.var 2), .alloc 123 64 true (List.replicate 64 (.int .u32 0)), .none⟩]) (.seq (.seq (.ops [⟨(.var 9), .mov (.c (.int .i64 0)), .none⟩]) (.block 0 (.loop (.seq (.ops [⟨(.var 10), .bin .lss .arith (.v 9) (.c (.int .i64 64)), .none⟩]) (.seq (.cond (.v 10) .skip (.exit 0)) (.seq (.block 1 (.seq (.ops [⟨.tmp, .mov (.v 9), .none⟩, ⟨(.var 3), .mov (.t 0), .none⟩]) (.seq (.seq (.ops [⟨.tmp, .mov (.v 3), .none⟩, ⟨(.var 11), .bin .lss .arith (.t 0) (.c (.int .i64 16)), .none⟩]) (.cond (.v 11) (.seq (.seq (.ops [⟨.tmp, .mov (.v 0), .none⟩, ⟨.tmp, .mov (.v 3), .none⟩, ⟨.tmp, .bin .mul .arith (.c (.int .i64 4)) (.t 1), .none⟩, ⟨.tmp, .mov (.v 3), .none⟩, ⟨.tmp, .bin .mul .arith (.c (.int .i64 4)) (.t 3), .none⟩, ⟨.tmp, .bin .add .arith (.t 4) (.c (.int .i64 4)), .none⟩, ⟨(.var 12), .slice 1 (.t 0) (some (.t 2)) (some (.t 5)), .none⟩, ⟨(.var 13), .len (.v 12), .none⟩, ⟨(.var 14), .mov (.c (.int .i64 0)), .none⟩]) (.block 2 (.loop (.seq (.ops [⟨(.var 15), .bin .lss .arith (.v 14) (.v 13), .none⟩]) (.seq (.cond (.v 15) .skip (.exit 2)) (.seq (.block 3 (.seq (.ops [⟨.tmp, .iaddr 1 (.v 12) (.v 14), .none⟩, ⟨.tmp, .load 1 false (.t 0), .none⟩, ⟨(.var 4), .mov (.t 1), .none⟩]) (.ops [⟨.tmp, .mov (.v 3), .none⟩, ⟨.tmp, .mov (.v 3), .none⟩, ⟨.tmp, .aaddr 64 1 (.v 2) (.t 1), .none⟩, ⟨.tmp, .load 1 false (.t 2), .none⟩, ⟨.tmp, .bin .shl .arith (.t 3) (.c (.int .u64 8)), .none⟩, ⟨.tmp, .mov (.v 4), .none⟩, ⟨.tmp, .toInt .u32 (.t 5), .none⟩, ⟨.tmp, .bin .or .arith (.t 4) (.t 6), .none⟩, ⟨.tmp, .aaddr 64 1 (.v 2) (.t 0), .none⟩, ⟨.no, .store 1 (.t 8) (.t 7), .none⟩]))) (.ops [⟨.tmp, .bin .add .arith (.v 14) (.c (.int .i64 1)), .none⟩, ⟨(.var 14), .mov (.t 0), .none⟩]))))))) (.exit 1)) .skip)) (.seq (.ops [⟨.tmp, .mov (.v 3), .none⟩, ⟨.tmp, .bin .sub .arith (.t 0) (.c (.int .i64 15)), .none⟩, ⟨.tmp, .aaddr 64 1 (.v 2) (.t 1), .none⟩, ⟨.tmp, .load 1 false (.t 2), .none⟩, ⟨.tmp, .mov (.v 3), .none⟩, ⟨.tmp, .bin .sub .arith (.t 4) (.c (.int .i64 2)), .none⟩, ⟨.tmp, .aaddr 64 1 (.v 2) (.t 5), .none⟩, ⟨.tmp, .load 1 false (.t 6), .none⟩, ⟨(.var 5), .mov (.t 3), .none⟩, ⟨(.var 6), .mov (.t 7), .none⟩]) (.seq (.ops [⟨.tmp, .mov (.v 5), .none⟩, ⟨.tmp, .pcall 81 [(.t 0), (.c (.int .i64 (-7)))], .none⟩, ⟨.tmp, .mov (.v 5), .none⟩, ⟨.tmp, .pcall 81 [(.t 2), (.c (.int .i64 (-18)))], .none⟩, ⟨.tmp, .bin .xor .arith (.t 1) (.t 3), .none⟩, ⟨.tmp, .mov (.v 5), .none⟩, ⟨.tmp, .bin .shr .arith (.t 5) (.c (.int .u64 3)), .none⟩, ⟨.tmp, .bin .xor .arith (.t 4) (.t 6), .none⟩, ⟨(.var 7), .mov (.t 7), .none⟩]) (.seq (.ops [⟨.tmp, .mov (.v 6), .none⟩, ⟨.tmp, .pcall 81 [(.t 0), (.c (.int .i64 (-17)))], .none⟩, ⟨.tmp, .mov (.v 6), .none⟩, ⟨.tmp, .pcall 81 [(.t 2), (.c (.int .i64 (-19)))], .none⟩, ⟨.tmp, .bin .xor .arith (.t 1) (.t 3), .none⟩, ⟨.tmp, .mov (.v 6), .none⟩, ⟨.tmp, .bin .shr .arith (.t 5) (.c (.int .u64 10)), .none⟩, ⟨.tmp, .bin .xor .arith (.t 4) (.t 6), .none⟩, ⟨(.var 8), .mov (.t 7), .none⟩]) (.ops [⟨.tmp, .mov (.v 3), .none⟩, ⟨.tmp, .mov (.v 3), .none⟩, ⟨.tmp, .bin .sub .arith (.t 1) (.c (.int .i64 16)), .none⟩, ⟨.tmp, .aaddr 64 1 (.v 2) (.t 2), .none⟩, ⟨.tmp, .load 1 false (.t 3), .none⟩, ⟨.tmp, .mov (.v 7), .none⟩, ⟨.tmp, .bin .add .arith (.t 4) (.t 5), .none⟩, ⟨.tmp, .mov (.v 3), .none⟩, ⟨.tmp, .bin .sub .arith (.t 7) (.c (.int .i64 7)), .none⟩, ⟨.tmp, .aaddr 64 1 (.v 2) (.t 8), .none⟩, ⟨.tmp, .load 1 false (.t 9), .none⟩, ⟨.tmp, .bin .add .arith (.t 6) (.t 10), .none⟩, ⟨.tmp, .mov (.v 8), .none⟩, ⟨.tmp, .bin .add .arith (.t 11) (.t 12), .none⟩, ⟨.tmp, .aaddr 64 1 (.v 2) (.t 0), .none⟩, ⟨.no, .store 1 (.t 14) (.t 13), .none⟩]))))))) (.ops [⟨.tmp, .bin .add .arith (.v 9) (.c (.int .i64 1)), .none⟩, ⟨(.var 9), .mov (.t 0), .none⟩]))))))) (.seq (.ops [⟨.tmp, .load 64 true (.v 2), .none⟩, ⟨.no, .store 64 (.v 1) (.t 0), .none⟩]) .ret)))), [.c 1 64 true], []⟩
def c77 : AFunc := ⟨[0, 1, 2, 3, 8], (.seq (.ops [⟨(.var 4), .mov (.c (.int .u32 0)), .none⟩]) (.seq (.ops [⟨.tmp, .mov (.v 0), .none⟩, ⟨.tmp, .mov (.v 1), .none⟩, ⟨.tmp, .un .neg (.t 1), .none⟩, ⟨.tmp, .pcall 81 [(.t 0), (.t 2)], .none⟩, ⟨.tmp, .mov (.v 0), .none⟩, ⟨.tmp, .mov (.v 2), .none⟩, ⟨.tmp, .un .neg (.t 5), .none⟩, ⟨.tmp, .pcall 81 [(.t 4), (.t 6)], .none⟩, ⟨.tmp, .bin .xor .arith (.t 3) (.t 7), .none⟩, ⟨.tmp, .mov (.v 0), .none⟩, ⟨.tmp, .mov (.v 3), .none⟩, ⟨.tmp, .un .neg (.t 10), .none⟩, ⟨.tmp, .pcall 81 [(.t 9), (.t 11)], .none⟩, ⟨.tmp, .bin .xor .arith (.t 8) (.t 12), .none⟩, ⟨(.var 4), .mov (.t 13), .none⟩]) .ret)), [.v 4], []⟩
def c81 : AFunc := ⟨[0, 1, 4, 5], (.seq (.ops [⟨(.var 2), .mov (.c (.int .u32 0)), .none⟩]) (.seq (.ops [⟨.tmp, .mov (.v 1), .none⟩, ⟨.tmp, .toInt .u64 (.t 0), .none⟩, ⟨.tmp, .bin .and .arith (.t 1) (.c (.int .u64 31)), .none⟩, ⟨(.var 3), .mov (.t 2), .none⟩]) (.seq (.ops [⟨.tmp, .mov (.v 0), .none⟩, ⟨.tmp, .mov (.v 3), .none⟩, ⟨.tmp, .bin .shl .arith (.t 0) (.t 1), .none⟩, ⟨.tmp, .mov (.v 0), .none⟩, ⟨.tmp, .mov (.v 3), .none⟩, ⟨.tmp, .bin .sub .arith (.c (.int .u64 32)) (.t 4), .none⟩, ⟨.tmp, .bin .shr .arith (.t 3) (.t 5), .none⟩, ⟨.tmp, .bin .or .arith (.t 2) (.t 6), .none⟩, ⟨(.var 2), .mov (.t 7), .none⟩]) .ret))), [.v 2], []⟩
def c72_0 : ACode :=
 (.ops [⟨(.var 2), .box 8 true (.v 0), .none⟩,
   ⟨(.var 3), .alloc 116 8 true [(.int .u32 0), (.int .u32 0), (.int .u32 0), (.int .u32 0), (.int .u32 0), (.int .u32 0), (.int .u32 0), (.int .u32 0)], .none⟩])
def c72_1 : ACode :=
 (.ops [⟨.tmp, .mov (.v 1), .none⟩,
   ⟨.tmp, .pcall 76 [(.t 0)], .none⟩,
   ⟨(.var 4), .alloc 123 64 true (List.replicate 64 (.int .u32 0)), .none⟩,
   ⟨.no, .store 64 (.v 4) (.t 1), .none⟩])
def c72_3 : ACode :=
 (.seq (.ops [⟨(.var 12), .load 64 true (.c (.rp shaK)), .none⟩,
   ⟨(.var 13), .mov (.c (.int .i64 0)), .none⟩])
 (.block 0 (.loop (.seq (.ops [⟨(.var 14), .bin .lss .arith (.v 13) (.c (.int .i64 64)), .none⟩])
   (.seq (.cond (.v 14)
    .skip
    (.exit 0))
   (.seq (.block 1 (.seq (.ops [⟨.tmp, .mov (.v 13), .none⟩,
      ⟨.tmp, .aidx 64 1 false (.v 12) (.v 13), .none⟩,
      ⟨(.var 7), .mov (.t 0), .none⟩,
      ⟨(.var 8), .mov (.t 1), .none⟩])
    (.seq (.ops [⟨.tmp, .aaddr 4 1 (.v 6) (.c (.int .i64 3)), .none⟩,
      ⟨.tmp, .load 1 false (.t 0), .none⟩,
      ⟨.tmp, .aaddr 4 1 (.v 6) (.c (.int .i64 0)), .none⟩,
      ⟨.tmp, .load 1 false (.t 2), .none⟩,
      ⟨.tmp, .pcall 77 [(.t 3), (.c (.int .i64 6)), (.c (.int .i64 11)), (.c (.int .i64 25))], .none⟩,
      ⟨.tmp, .bin .add .arith (.t 1) (.t 4), .none⟩,
      ⟨.tmp, .aaddr 4 1 (.v 6) (.c (.int .i64 0)), .none⟩,
      ⟨.tmp, .load 1 false (.t 6), .none⟩,
      ⟨.tmp, .aaddr 4 1 (.v 6) (.c (.int .i64 1)), .none⟩,
      ⟨.tmp, .load 1 false (.t 8), .none⟩,
      ⟨.tmp, .bin .and .arith (.t 7) (.t 9), .none⟩,
      ⟨.tmp, .aaddr 4 1 (.v 6) (.c (.int .i64 0)), .none⟩,
      ⟨.tmp, .load 1 false (.t 11), .none⟩,
      ⟨.tmp, .un .xor (.t 12), .none⟩,
      ⟨.tmp, .aaddr 4 1 (.v 6) (.c (.int .i64 2)), .none⟩,
      ⟨.tmp, .load 1 false (.t 14), .none⟩,
      ⟨.tmp, .bin .and .arith (.t 13) (.t 15), .none⟩,
      ⟨.tmp, .bin .xor .arith (.t 10) (.t 16), .none⟩,
      ⟨.tmp, .bin .add .arith (.t 5) (.t 17), .none⟩,
      ⟨.tmp, .mov (.v 8), .none⟩,
      ⟨.tmp, .bin .add .arith (.t 18) (.t 19), .none⟩,
      ⟨.tmp, .mov (.v 7), .none⟩,
      ⟨.tmp, .aaddr 64 1 (.v 4) (.t 21), .none⟩,
      ⟨.tmp, .load 1 false (.t 22), .none⟩,
      ⟨.tmp, .bin .add .arith (.t 20) (.t 23), .none⟩,
      ⟨(.var 9), .mov (.t 24), .none⟩])
    (.seq (.ops [⟨.tmp, .aaddr 4 1 (.v 5) (.c (.int .i64 0)), .none⟩,
      ⟨.tmp, .load 1 false (.t 0), .none⟩,
      ⟨.tmp, .pcall 77 [(.t 1), (.c (.int .i64 2)), (.c (.int .i64 13)), (.c (.int .i64 22))], .none⟩,
      ⟨.tmp, .aaddr 4 1 (.v 5) (.c (.int .i64 0)), .none⟩,
      ⟨.tmp, .load 1 false (.t 3), .none⟩,
      ⟨.tmp, .aaddr 4 1 (.v 5) (.c (.int .i64 1)), .none⟩,
      ⟨.tmp, .load 1 false (.t 5), .none⟩,
      ⟨.tmp, .bin .and .arith (.t 4) (.t 6), .none⟩,
      ⟨.tmp, .aaddr 4 1 (.v 5) (.c (.int .i64 0)), .none⟩,
      ⟨.tmp, .load 1 false (.t 8), .none⟩,
      ⟨.tmp, .aaddr 4 1 (.v 5) (.c (.int .i64 2)), .none⟩,
      ⟨.tmp, .load 1 false (.t 10), .none⟩,
      ⟨.tmp, .bin .and .arith (.t 9) (.t 11), .none⟩,
      ⟨.tmp, .bin .xor .arith (.t 7) (.t 12), .none⟩,
      ⟨.tmp, .aaddr 4 1 (.v 5) (.c (.int .i64 1)), .none⟩,
      ⟨.tmp, .load 1 false (.t 14), .none⟩,
      ⟨.tmp, .aaddr 4 1 (.v 5) (.c (.int .i64 2)), .none⟩,
      ⟨.tmp, .load 1 false (.t 16), .none⟩,
      ⟨.tmp, .bin .and .arith (.t 15) (.t 17), .none⟩,
      ⟨.tmp, .bin .xor .arith (.t 13) (.t 18), .none⟩,
      ⟨.tmp, .bin .add .arith (.t 2) (.t 19), .none⟩,
      ⟨(.var 10), .mov (.t 20), .none⟩])
    (.seq (.ops [⟨.tmp, .aaddr 4 1 (.v 5) (.c (.int .i64 3)), .none⟩,
      ⟨.tmp, .load 1 false (.t 0), .none⟩,
      ⟨.tmp, .mov (.v 9), .none⟩,
      ⟨.tmp, .bin .add .arith (.t 1) (.t 2), .none⟩,
      ⟨.tmp, .aaddr 4 1 (.v 6) (.c (.int .i64 0)), .none⟩,
      ⟨.tmp, .load 1 false (.t 4), .none⟩,
      ⟨.tmp, .aaddr 4 1 (.v 6) (.c (.int .i64 1)), .none⟩,
      ⟨.tmp, .load 1 false (.t 6), .none⟩,
      ⟨.tmp, .aaddr 4 1 (.v 6) (.c (.int .i64 2)), .none⟩,
      ⟨.tmp, .load 1 false (.t 8), .none⟩,
      ⟨.tmp, .build [(.int .u32 0), (.int .u32 0), (.int .u32 0), (.int .u32 0)] [(0, 1, (.t 3)), (1, 1, (.t 5)), (2, 1, (.t 7)), (3, 1, (.t 9))], .none⟩,
      ⟨.no, .store 4 (.v 6) (.t 10), .none⟩])
    (.ops [⟨.tmp, .mov (.v 9), .none⟩,
      ⟨.tmp, .mov (.v 10), .none⟩,
      ⟨.tmp, .bin .add .arith (.t 0) (.t 1), .none⟩,
      ⟨.tmp, .aaddr 4 1 (.v 5) (.c (.int .i64 0)), .none⟩,
      ⟨.tmp, .load 1 false (.t 3), .none⟩,
      ⟨.tmp, .aaddr 4 1 (.v 5) (.c (.int .i64 1)), .none⟩,
      ⟨.tmp, .load 1 false (.t 5), .none⟩,
      ⟨.tmp, .aaddr 4 1 (.v 5) (.c (.int .i64 2)), .none⟩,
      ⟨.tmp, .load 1 false (.t 7), .none⟩,
      ⟨.tmp, .build [(.int .u32 0), (.int .u32 0), (.int .u32 0), (.int .u32 0)] [(0, 1, (.t 2)), (1, 1, (.t 4)), (2, 1, (.t 6)), (3, 1, (.t 8))], .none⟩,
      ⟨.no, .store 4 (.v 5) (.t 9), .none⟩]))))))
   (.ops [⟨.tmp, .bin .add .arith (.v 13) (.c (.int .i64 1)), .none⟩,
     ⟨(.var 13), .mov (.t 0), .none⟩])))))))
def c72_4 : ACode :=
 (.seq (.seq (.ops [⟨(.var 15), .mov (.c (.int .i64 0)), .none⟩])
 (.block 2 (.loop (.seq (.ops [⟨(.var 16), .bin .lss .arith (.v 15) (.c (.int .i64 4)), .none⟩])
   (.seq (.cond (.v 16)
    .skip
    (.exit 2))
   (.seq (.block 3 (.seq (.ops [⟨.tmp, .mov (.v 15), .none⟩,
      ⟨(.var 11), .mov (.t 0), .none⟩])
    (.seq (.ops [⟨.tmp, .mov (.v 11), .none⟩,
      ⟨.tmp, .aaddr 8 1 (.v 2) (.t 0), .none⟩,
      ⟨.tmp, .load 1 false (.t 1), .none⟩,
      ⟨.tmp, .mov (.v 11), .none⟩,
      ⟨.tmp, .aaddr 4 1 (.v 5) (.t 3), .none⟩,
      ⟨.tmp, .load 1 false (.t 4), .none⟩,
      ⟨.tmp, .bin .add .arith (.t 2) (.t 5), .none⟩,
      ⟨.tmp, .aaddr 8 1 (.v 2) (.t 0), .none⟩,
      ⟨.no, .store 1 (.t 7) (.t 6), .none⟩])
    (.ops [⟨.tmp, .mov (.v 11), .none⟩,
      ⟨.tmp, .bin .add .arith (.t 0) (.c (.int .i64 4)), .none⟩,
      ⟨.tmp, .aaddr 8 1 (.v 2) (.t 1), .none⟩,
      ⟨.tmp, .load 1 false (.t 2), .none⟩,
      ⟨.tmp, .mov (.v 11), .none⟩,
      ⟨.tmp, .aaddr 4 1 (.v 6) (.t 4), .none⟩,
      ⟨.tmp, .load 1 false (.t 5), .none⟩,
      ⟨.tmp, .bin .add .arith (.t 3) (.t 6), .none⟩,
      ⟨.tmp, .aaddr 8 1 (.v 2) (.t 1), .none⟩,
      ⟨.no, .store 1 (.t 8) (.t 7), .none⟩]))))
   (.ops [⟨.tmp, .bin .add .arith (.v 15) (.c (.int .i64 1)), .none⟩,
     ⟨(.var 15), .mov (.t 0), .none⟩])))))))
 (.seq (.ops [⟨.tmp, .load 8 true (.v 2), .none⟩,
   ⟨.no, .store 8 (.v 3) (.t 0), .none⟩])
 .ret))
def c72_nt : Nat := 116
def c72_slots : List Nat := [0, 1, 2, 4, 5, 6, 7, 8, 9, 10, 11, 12, 21, 22, 23, 94, 95]
def c72_res : List ResV := [.c 3 8 true]
def c72_r2 : List AOper := [⟨.tmp, .x (.aslice 8 1 false false true) [(.v 2), (.c (.int .i64 4))], .none⟩,
 ⟨.tmp, .x (.s2ap 4 1) [(.t 0)], .none⟩,
 ⟨.tmp, .load 4 true (.t 1), .none⟩,
 ⟨.tmp, .x (.aslice 8 1 false true false) [(.v 2), (.c (.int .i64 4))], .none⟩,
 ⟨.tmp, .x (.s2ap 4 1) [(.t 3)], .none⟩,
 ⟨.tmp, .load 4 true (.t 4), .none⟩,
 ⟨(.var 5), .alloc 139 4 true [(.int .u32 0), (.int .u32 0), (.int .u32 0), (.int .u32 0)], .none⟩,
 ⟨(.var 6), .alloc 139 4 true [(.int .u32 0), (.int .u32 0), (.int .u32 0), (.int .u32 0)], .none⟩,
 ⟨.no, .store 4 (.v 5) (.t 2), .none⟩,
 ⟨.no, .store 4 (.v 6) (.t 5), .none⟩]
def c72_r2_0 : List AOper := [⟨.tmp, .x (.aslice 8 1 false false true) [(.v 2), (.c (.int .i64 4))], .none⟩,
 ⟨.tmp, .x (.s2ap 4 1) [(.t 0)], .none⟩,
 ⟨.tmp, .load 4 true (.t 1), .none⟩,
 ⟨.tmp, .x (.aslice 8 1 false true false) [(.v 2), (.c (.int .i64 4))], .none⟩,
 ⟨.tmp, .x (.s2ap 4 1) [(.t 3)], .none⟩,
 ⟨.tmp, .load 4 true (.t 4), .none⟩,
 ⟨(.var 5), .alloc 139 4 true [(.int .u32 0), (.int .u32 0), (.int .u32 0), (.int .u32 0)], .none⟩,
 ⟨(.var 6), .alloc 139 4 true [(.int .u32 0), (.int .u32 0), (.int .u32 0), (.int .u32 0)], .none⟩,
 ⟨.no, .store 4 (.v 5) (.t 2), .none⟩,
 ⟨.no, .store 4 (.v 6) (.t 5), .none⟩]
def c72_r2_1 : List AOper := [⟨.tmp, .x (.aslice 8 1 false false true) [(.v 2), (.c (.int .i64 4))], .none⟩,
 ⟨.tmp, .x (.s2ap 4 1) [(.t 0)], .none⟩,
 ⟨.tmp, .load 4 true (.t 1), .none⟩,
 ⟨.tmp, .x (.aslice 8 1 false true false) [(.v 2), (.c (.int .i64 4))], .none⟩,
 ⟨.tmp, .x (.s2ap 4 1) [(.t 3)], .none⟩,
 ⟨.tmp, .load 4 true (.t 4), .none⟩,
 ⟨(.var 6), .alloc 139 4 true [(.int .u32 0), (.int .u32 0), (.int .u32 0), (.int .u32 0)], .none⟩,
 ⟨(.var 5), .alloc 139 4 true [(.int .u32 0), (.int .u32 0), (.int .u32 0), (.int .u32 0)], .none⟩,
 ⟨.no, .store 4 (.v 5) (.t 2), .none⟩,
 ⟨.no, .store 4 (.v 6) (.t 5), .none⟩]
def c72_r2_2 : List AOper := [⟨.tmp, .x (.aslice 8 1 false false true) [(.v 2), (.c (.int .i64 4))], .none⟩,
 ⟨.tmp, .x (.s2ap 4 1) [(.t 0)], .none⟩,
 ⟨.tmp, .load 4 true (.t 1), .none⟩,
 ⟨(.var 5), .alloc 139 4 true [(.int .u32 0), (.int .u32 0), (.int .u32 0), (.int .u32 0)], .none⟩,
 ⟨(.var 6), .alloc 139 4 true [(.int .u32 0), (.int .u32 0), (.int .u32 0), (.int .u32 0)], .none⟩,
 ⟨.no, .store 4 (.v 5) (.t 2), .none⟩,
 ⟨.tmp, .x (.aslice 8 1 false true false) [(.v 2), (.c (.int .i64 4))], .none⟩,
 ⟨.tmp, .x (.s2ap 4 1) [(.t 6)], .none⟩,
 ⟨.tmp, .load 4 true (.t 7), .none⟩,
 ⟨.no, .store 4 (.v 6) (.t 8), .none⟩]
def c72_r2_3 : List AOper := [⟨.tmp, .x (.aslice 8 1 false false true) [(.v 2), (.c (.int .i64 4))], .none⟩,
 ⟨.tmp, .x (.s2ap 4 1) [(.t 0)], .none⟩,
 ⟨.tmp, .load 4 true (.t 1), .none⟩,
 ⟨(.var 6), .alloc 139 4 true [(.int .u32 0), (.int .u32 0), (.int .u32 0), (.int .u32 0)], .none⟩,
 ⟨(.var 5), .alloc 139 4 true [(.int .u32 0), (.int .u32 0), (.int .u32 0), (.int .u32 0)], .none⟩,
 ⟨.no, .store 4 (.v 5) (.t 2), .none⟩,
 ⟨.tmp, .x (.aslice 8 1 false true false) [(.v 2), (.c (.int .i64 4))], .none⟩,
 ⟨.tmp, .x (.s2ap 4 1) [(.t 6)], .none⟩,
 ⟨.tmp, .load 4 true (.t 7), .none⟩,
 ⟨.no, .store 4 (.v 6) (.t 8), .none⟩]
def c72_r2_4 : List AOper := [⟨.tmp, .x (.aslice 8 1 false false true) [(.v 2), (.c (.int .i64 4))], .none⟩,
 ⟨.tmp, .x (.s2ap 4 1) [(.t 0)], .none⟩,
 ⟨.tmp, .load 4 true (.t 1), .none⟩,
 ⟨.tmp, .x (.aslice 8 1 false true false) [(.v 2), (.c (.int .i64 4))], .none⟩,
 ⟨(.var 5), .alloc 139 4 true [(.int .u32 0), (.int .u32 0), (.int .u32 0), (.int .u32 0)], .none⟩,
 ⟨(.var 6), .alloc 139 4 true [(.int .u32 0), (.int .u32 0), (.int .u32 0), (.int .u32 0)], .none⟩,
 ⟨.no, .store 4 (.v 5) (.t 2), .none⟩,
 ⟨.tmp, .x (.s2ap 4 1) [(.t 3)], .none⟩,
 ⟨.tmp, .load 4 true (.t 7), .none⟩,
 ⟨.no, .store 4 (.v 6) (.t 8), .none⟩]
def c72_r2_5 : List AOper := [⟨.tmp, .x (.aslice 8 1 false false true) [(.v 2), (.c (.int .i64 4))], .none⟩,
 ⟨.tmp, .x (.s2ap 4 1) [(.t 0)], .none⟩,
 ⟨.tmp, .load 4 true (.t 1), .none⟩,
 ⟨.tmp, .x (.aslice 8 1 false true false) [(.v 2), (.c (.int .i64 4))], .none⟩,
 ⟨(.var 6), .alloc 139 4 true [(.int .u32 0), (.int .u32 0), (.int .u32 0), (.int .u32 0)], .none⟩,
 ⟨(.var 5), .alloc 139 4 true [(.int .u32 0), (.int .u32 0), (.int .u32 0), (.int .u32 0)], .none⟩,
 ⟨.no, .store 4 (.v 5) (.t 2), .none⟩,
 ⟨.tmp, .x (.s2ap 4 1) [(.t 3)], .none⟩,
 ⟨.tmp, .load 4 true (.t 7), .none⟩,
 ⟨.no, .store 4 (.v 6) (.t 8), .none⟩]
theorem c4_ok : compFunc Tryd.prog hints 4 = some c4 := by kernel_rfl
theorem c5_ok : compFunc Tryd.prog hints 5 = some c5 := by kernel_rfl
theorem c6_ok : compFunc Tryd.prog hints 6 = some c6 := by kernel_rfl
theorem c8_ok : compFunc Tryd.prog hints 8 = some c8 := by kernel_rfl
theorem c10_ok : compFunc Tryd.prog hints 10 = some c10 := by kernel_rfl
theorem c11_ok : compFunc Tryd.prog hints 11 = some c11 := by kernel_rfl
theorem c13_ok : compFunc Tryd.prog hints 13 = some c13 := by kernel_rfl
theorem c14_ok : compFunc Tryd.prog hints 14 = some c14 := by kernel_rfl
theorem c15_ok : compFunc Tryd.prog hints 15 = some c15 := by kernel_rfl
theorem c16_ok : compFunc Tryd.prog hints 16 = some c16 := by kernel_rfl
theorem c17_ok : compFunc Tryd.prog hints 17 = some c17 := by kernel_rfl
theorem c18_ok : compFunc Tryd.prog hints 18 = some c18 := by kernel_rfl
theorem c19_ok : compFunc Tryd.prog hints 19 = some c19 := by kernel_rfl
theorem c20_ok : compFunc Tryd.prog hints 20 = some c20 := by kernel_rfl
theorem c21_ok : compFunc Tryd.prog hints 21 = some c21 := by kernel_rfl
theorem c22_ok : compFunc Tryd.prog hints 22 = some c22 := by kernel_rfl
theorem c24_ok : compFunc Tryd.prog hints 24 = some c24 := by kernel_rfl
theorem c25_ok : compFunc Tryd.prog hints 25 = some c25 := by kernel_rfl
theorem c26_ok : compFunc Tryd.prog hints 26 = some c26 := by kernel_rfl
theorem c27_ok : compFunc Tryd.prog hints 27 = some c27 := by kernel_rfl
theorem c30_ok : compFunc Tryd.prog hints 30 = some c30 := by kernel_rfl
theorem c32_ok : compFunc Tryd.prog hints 32 = some c32 := by kernel_rfl
theorem c33_ok : compFunc Tryd.prog hints 33 = some c33 := by kernel_rfl
theorem c34_ok : compFunc Tryd.prog hints 34 = some c34 := by kernel_rfl
theorem c35_ok : compFunc Tryd.prog hints 35 = some c35 := by kernel_rfl
theorem c36_ok : compFunc Tryd.prog hints 36 = some c36 := by kernel_rfl
theorem c37_ok : compFunc Tryd.prog hints 37 = some c37 := by kernel_rfl
theorem c38_ok : compFunc Tryd.prog hints 38 = some c38 := by kernel_rfl
theorem c45_ok : compFunc Tryd.prog hints 45 = some c45 := by kernel_rfl
theorem c46_ok : compFunc Tryd.prog hints 46 = some c46 := by kernel_rfl
theorem c47_ok : compFunc Tryd.prog hints 47 = some c47 := by kernel_rfl
theorem c49_ok : compFunc Tryd.prog hints 49 = some c49 := by kernel_rfl
theorem c50_ok : compFunc Tryd.prog hints 50 = some c50 := by kernel_rfl
theorem c51_ok : compFunc Tryd.prog hints 51 = some c51 := by kernel_rfl
theorem c52_ok : compFunc Tryd.prog hints 52 = some c52 := by kernel_rfl
theorem c53_ok : compFunc Tryd.prog hints 53 = some c53 := by kernel_rfl
theorem c54_ok : compFunc Tryd.prog hints 54 = some c54 := by kernel_rfl
theorem c60_ok : compFunc Tryd.prog hints 60 = some c60 := by kernel_rfl
theorem c61_ok : compFunc Tryd.prog hints 61 = some c61 := by kernel_rfl
theorem c62_ok : compFunc Tryd.prog hints 62 = some c62 := by kernel_rfl
theorem c66_ok : compFunc Tryd.prog hints 66 = some c66 := by kernel_rfl
theorem c67_ok : compFunc Tryd.prog hints 67 = some c67 := by kernel_rfl
theorem c68_ok : compFunc Tryd.prog hints 68 = some c68 := by kernel_rfl
theorem c69_ok : compFunc Tryd.prog hints 69 = some c69 := by kernel_rfl
theorem c73_ok : compFunc Tryd.prog hints 73 = some c73 := by kernel_rfl
theorem c75_ok : compFunc Tryd.prog hints 75 = some c75 := by kernel_rfl
theorem c76_ok : compFunc Tryd.prog hints 76 = some c76 := by kernel_rfl
theorem c77_ok : compFunc Tryd.prog hints 77 = some c77 := by kernel_rfl
theorem c81_ok : compFunc Tryd.prog hints 81 = some c81 := by kernel_rfl
theorem c72_0_ok : compCode Tryd.prog hints 72 c72_nt c72_slots false 0 (seqL (bodyOf Tryd.prog 72)) = c72_0 := by kernel_rfl
theorem c72_1_ok : compCode Tryd.prog hints 72 c72_nt c72_slots false 0 (seqL (seqR (bodyOf Tryd.prog 72))) = c72_1 := by kernel_rfl
theorem c72_r2_ok : compOpers Tryd.prog hints 72 c72_slots (regOps (seqL (seqR (seqR (bodyOf Tryd.prog 72))))).toList (regOps (seqL (seqR (seqR (bodyOf Tryd.prog 72))))).toList 0 = some c72_r2 := by kernel_rfl
theorem c72_r2_0_ok : renOpers [0, 1, 2, 3, 4, 5, 6, 7, 8, 9] c72_r2 [0, 1, 2, 3, 4, 5, 6, 7, 8, 9] = some c72_r2_0 := by kernel_rfl
theorem c72_r2_1_ok : renOpers [0, 1, 2, 3, 4, 5, 7, 6, 8, 9] c72_r2 [0, 1, 2, 3, 4, 5, 7, 6, 8, 9] = some c72_r2_1 := by kernel_rfl
theorem c72_r2_2_ok : renOpers [0, 1, 2, 6, 7, 8, 3, 4, 5, 9] c72_r2 [0, 1, 2, 6, 7, 8, 3, 4, 5, 9] = some c72_r2_2 := by kernel_rfl
theorem c72_r2_3_ok : renOpers [0, 1, 2, 7, 6, 8, 3, 4, 5, 9] c72_r2 [0, 1, 2, 7, 6, 8, 3, 4, 5, 9] = some c72_r2_3 := by kernel_rfl
theorem c72_r2_4_ok : renOpers [0, 1, 2, 3, 6, 7, 8, 4, 5, 9] c72_r2 [0, 1, 2, 3, 6, 7, 8, 4, 5, 9] = some c72_r2_4 := by kernel_rfl
theorem c72_r2_5_ok : renOpers [0, 1, 2, 3, 7, 6, 8, 4, 5, 9] c72_r2 [0, 1, 2, 3, 7, 6, 8, 4, 5, 9] = some c72_r2_5 := by kernel_rfl
theorem c72_3_ok : compCode Tryd.prog hints 72 c72_nt c72_slots false 0 (seqL (seqR (seqR (seqR (bodyOf Tryd.prog 72))))) = c72_3 := by kernel_rfl
theorem c72_4_ok : compCode Tryd.prog hints 72 c72_nt c72_slots false 0 (seqR (seqR (seqR (seqR (bodyOf Tryd.prog 72))))) = c72_4 := by kernel_rfl
end Go.Proofs.YtjofjgflcogklaaDoor

namespace Go.Proofs.YtjofjgflcogklaaDoor
open Go Go.Shelf Go.Proofs
set_option maxHeartbeats 4000000
set_option maxRecDepth 100000
def keysA_ren : Go.Shelf.Ren := ⟨fun | 7 => 75 | 10 => 80 | n => n, fun | 23 => 69 | 26 => 3 | 3 => 98 | 28 => 137 | 0 => 0 | 27 => 136 | 33 => 143 | 4 => 4 | n => n, fun | n => n⟩
theorem keysA : Go.Proofs.SlLaysZI.n7 Tryd.prog keysA_ren where
  mixed := by kernel_rfl
  f7 := ⟨ "maps.Keys[map[int]wordbook/disk.block,int,wordbook/disk.block]", by decide, Tryd.func75.trans (congrArg some (by kernel_rfl))⟩
  f10 := ⟨ "maps.Keys[map[int]wordbook/disk.block,int,wordbook/disk.block]$1", by decide, Tryd.func80.trans (congrArg some (by kernel_rfl))⟩
  t0 := Tryd.underlying0
  a0 := Tryd.isAgg0
  z0 := Tryd.sizeOf0
  v0 := Tryd.zeroValue0
  t4 := Tryd.underlying4
  a4 := Tryd.isAgg4
  z4 := Tryd.sizeOf4
  v4 := Tryd.zeroValue4
  t23 := Tryd.underlying69
  a23 := Tryd.isAgg69
  z23 := Tryd.sizeOf69
  v23 := Tryd.zeroValue69
  t26 := Tryd.underlying3
  a26 := Tryd.isAgg3
  z26 := Tryd.sizeOf3
  v26 := Tryd.zeroValue3
  t27 := Tryd.underlying136
  a27 := Tryd.isAgg136
  z27 := Tryd.sizeOf136
  v27 := Tryd.zeroValue136
  t28 := Tryd.underlying137
  a28 := Tryd.isAgg137
  z28 := Tryd.sizeOf137
  v28 := Tryd.zeroValue137
  t33 := Tryd.underlying143
  a33 := Tryd.isAgg143
  z33 := Tryd.sizeOf143
  v33 := Tryd.zeroValue143
def sortedA_ren : Go.Shelf.Ren := ⟨fun | 6 => 74 | 8 => 78 | 9 => 79 | 11 => 82 | 13 => 84 | 12 => 83 | 23 => 94 | 24 => 95 | 14 => 85 | 15 => 86 | 16 => 87 | 17 => 88 | 18 => 89 | 19 => 90 | 20 => 91 | 21 => 92 | 22 => 93 | 25 => 96 | 26 => 97 | 27 => 98 | 28 => 99 | 29 => 100 | 30 => 101 | 31 => 102 | n => n, fun | 26 => 3 | 28 => 137 | 24 => 44 | 0 => 0 | 3 => 3 | 37 => 85 | 48 => 109 | 50 => 112 | 4 => 4 | 40 => 149 | 39 => 148 | 45 => 154 | 5 => 5 | 9 => 9 | 51 => 158 | 55 => 162 | 57 => 164 | 58 => 165 | 33 => 143 | n => n, fun | n => n⟩
theorem sortedA : Go.Proofs.SlLaysZI.n6 Tryd.prog sortedA_ren where
  mixed := by kernel_rfl
  f6 := ⟨ "slices.Sorted[int]", by decide, Tryd.func74.trans (congrArg some (by kernel_rfl))⟩
  f8 := ⟨ "slices.Collect[int]", by decide, Tryd.func78.trans (congrArg some (by kernel_rfl))⟩
  f11 := ⟨ "slices.AppendSeq[[]int,int]", by decide, Tryd.func82.trans (congrArg some (by kernel_rfl))⟩
  t0 := Tryd.underlying0
  a0 := Tryd.isAgg0
  z0 := Tryd.sizeOf0
  v0 := Tryd.zeroValue0
  t24 := Tryd.underlying44
  a24 := Tryd.isAgg44
  z24 := Tryd.sizeOf44
  v24 := Tryd.zeroValue44
  t26 := Tryd.underlying3
  a26 := Tryd.isAgg3
  z26 := Tryd.sizeOf3
  v26 := Tryd.zeroValue3
  t28 := Tryd.underlying137
  a28 := Tryd.isAgg137
  z28 := Tryd.sizeOf137
  v28 := Tryd.zeroValue137
  i26 := by kernel_rfl
def sortA_ren : Go.Shelf.Ren := ⟨fun | 5 => 79 | 8 => 84 | 7 => 83 | 19 => 94 | 20 => 95 | 10 => 85 | 11 => 86 | 12 => 87 | 13 => 88 | 14 => 89 | 15 => 90 | 16 => 91 | 17 => 92 | 18 => 93 | 30 => 96 | 31 => 97 | 32 => 98 | 33 => 99 | 34 => 100 | 35 => 101 | 40 => 102 | n => n, fun | 23 => 44 | 25 => 3 | 3 => 3 | 32 => 85 | 22 => 44 | 0 => 0 | 44 => 109 | 46 => 112 | 4 => 4 | 36 => 149 | 35 => 148 | 41 => 154 | 5 => 5 | 9 => 9 | 53 => 158 | 57 => 162 | 63 => 164 | 64 => 165 | n => n, fun | n => n⟩
theorem sortA : Go.Proofs.SlLaysM.n5 Tryd.prog sortA_ren where
  mixed := by kernel_rfl
  f5 := ⟨ "slices.Sort[[]int,int]", by decide, Tryd.func79.trans (congrArg some (by kernel_rfl))⟩
  f7 := ⟨ "slices.pdqsortOrdered[int]", by decide, Tryd.func83.trans (congrArg some (by kernel_rfl))⟩
  f8 := Tryd.func84.trans (congrArg some (by kernel_rfl))
  f10 := ⟨ "slices.insertionSortOrdered[int]", by decide, Tryd.func85.trans (congrArg some (by kernel_rfl))⟩
  f11 := ⟨ "slices.heapSortOrdered[int]", by decide, Tryd.func86.trans (congrArg some (by kernel_rfl))⟩
  f12 := ⟨ "slices.breakPatternsOrdered[int]", by decide, Tryd.func87.trans (congrArg some (by kernel_rfl))⟩
  f13 := ⟨ "slices.choosePivotOrdered[int]", by decide, Tryd.func88.trans (congrArg some (by kernel_rfl))⟩
  f14 := ⟨ "slices.reverseRangeOrdered[int]", by decide, Tryd.func89.trans (congrArg some (by kernel_rfl))⟩
  f15 := ⟨ "slices.partialInsertionSortOrdered[int]", by decide, Tryd.func90.trans (congrArg some (by kernel_rfl))⟩
  f16 := ⟨ "cmp.Less[int]", by decide, Tryd.func91.trans (congrArg some (by kernel_rfl))⟩
  f17 := ⟨ "slices.partitionEqualOrdered[int]", by decide, Tryd.func92.trans (congrArg some (by kernel_rfl))⟩
  f18 := ⟨ "slices.partitionOrdered[int]", by decide, Tryd.func93.trans (congrArg some (by kernel_rfl))⟩
  f19 := Tryd.func94.trans (congrArg some (by kernel_rfl))
  f20 := Tryd.func95.trans (congrArg some (by kernel_rfl))
  f30 := ⟨ "slices.siftDownOrdered[int]", by decide, Tryd.func96.trans (congrArg some (by kernel_rfl))⟩
  f31 := Tryd.func97.trans (congrArg some (by kernel_rfl))
  f32 := Tryd.func98.trans (congrArg some (by kernel_rfl))
  f33 := ⟨ "slices.medianAdjacentOrdered[int]", by decide, Tryd.func99.trans (congrArg some (by kernel_rfl))⟩
  f34 := ⟨ "slices.medianOrdered[int]", by decide, Tryd.func100.trans (congrArg some (by kernel_rfl))⟩
  f35 := ⟨ "cmp.isNaN[int]", by decide, Tryd.func101.trans (congrArg some (by kernel_rfl))⟩
  f40 := ⟨ "slices.order2Ordered[int]", by decide, Tryd.func102.trans (congrArg some (by kernel_rfl))⟩
  t0 := Tryd.underlying0
  a0 := Tryd.isAgg0
  z0 := Tryd.sizeOf0
  v0 := Tryd.zeroValue0
  t3 := Tryd.underlying3
  a3 := Tryd.isAgg3
  z3 := Tryd.sizeOf3
  v3 := Tryd.zeroValue3
  t4 := Tryd.underlying4
  a4 := Tryd.isAgg4
  z4 := Tryd.sizeOf4
  v4 := Tryd.zeroValue4
  t5 := Tryd.underlying5
  a5 := Tryd.isAgg5
  z5 := Tryd.sizeOf5
  v5 := Tryd.zeroValue5
  t9 := Tryd.underlying9
  a9 := Tryd.isAgg9
  z9 := Tryd.sizeOf9
  v9 := Tryd.zeroValue9
  t22 := Tryd.underlying44
  a22 := Tryd.isAgg44
  z22 := Tryd.sizeOf44
  v22 := Tryd.zeroValue44
  t23 := Tryd.underlying44
  a23 := Tryd.isAgg44
  z23 := Tryd.sizeOf44
  v23 := Tryd.zeroValue44
  t25 := Tryd.underlying3
  a25 := Tryd.isAgg3
  z25 := Tryd.sizeOf3
  v25 := Tryd.zeroValue3
  t32 := Tryd.underlying85
  a32 := Tryd.isAgg85
  z32 := Tryd.sizeOf85
  v32 := Tryd.zeroValue85
  t35 := Tryd.underlying148
  a35 := Tryd.isAgg148
  z35 := Tryd.sizeOf148
  v35 := Tryd.zeroValue148
  t36 := Tryd.underlying149
  a36 := Tryd.isAgg149
  z36 := Tryd.sizeOf149
  v36 := Tryd.zeroValue149
  t41 := Tryd.underlying154
  a41 := Tryd.isAgg154
  z41 := Tryd.sizeOf154
  v41 := Tryd.zeroValue154
  t44 := Tryd.underlying109
  a44 := Tryd.isAgg109
  z44 := Tryd.sizeOf109
  v44 := Tryd.zeroValue109
  t46 := Tryd.underlying112
  a46 := Tryd.isAgg112
  z46 := Tryd.sizeOf112
  v46 := Tryd.zeroValue112
  t53 := Tryd.underlying158
  a53 := Tryd.isAgg158
  z53 := Tryd.sizeOf158
  v53 := Tryd.zeroValue158
  t57 := Tryd.underlying162
  a57 := Tryd.isAgg162
  z57 := Tryd.sizeOf162
  v57 := Tryd.zeroValue162
  t63 := Tryd.underlying164
  a63 := Tryd.isAgg164
  z63 := Tryd.sizeOf164
  v63 := Tryd.zeroValue164
  t64 := Tryd.underlying165
  a64 := Tryd.isAgg165
  z64 := Tryd.sizeOf165
  v64 := Tryd.zeroValue165
def repeatA_ren : Go.Shelf.Ren := ⟨fun | 105 => 23 | 212 => 39 | 99 => 40 | 165 => 41 | 166 => 42 | 170 => 43 | 169 => 44 | 263 => 55 | 264 => 56 | 206 => 57 | 240 => 58 | 241 => 59 | 276 => 70 | 277 => 71 | n => n, fun | 9 => 9 | 3 => 3 | 4 => 4 | 20 => 20 | 0 => 0 | 46 => 85 | 109 => 86 | 5 => 5 | 72 => 91 | 76 => 95 | 51 => 109 | 146 => 110 | 53 => 112 | 148 => 113 | 70 => 89 | 37 => 36 | 75 => 94 | 127 => 115 | 164 => 130 | 80 => 97 | n => n, fun | n => n⟩
theorem repeatA : Go.Proofs.Lays.n105 Tryd.prog repeatA_ren where
  mixed := by kernel_rfl
  f99 := Tryd.func40.trans (congrArg some (by kernel_rfl))
  f105 := Tryd.func23.trans (congrArg some (by kernel_rfl))
  f165 := Tryd.func41.trans (congrArg some (by kernel_rfl))
  f166 := Tryd.func42.trans (congrArg some (by kernel_rfl))
  f169 := Tryd.func44.trans (congrArg some (by kernel_rfl))
  f170 := Tryd.func43.trans (congrArg some (by kernel_rfl))
  f206 := Tryd.func57.trans (congrArg some (by kernel_rfl))
  f212 := Tryd.func39.trans (congrArg some (by kernel_rfl))
  f240 := Tryd.func58.trans (congrArg some (by kernel_rfl))
  f241 := Tryd.func59.trans (congrArg some (by kernel_rfl))
  f263 := Tryd.func55.trans (congrArg some (by kernel_rfl))
  f264 := Tryd.func56.trans (congrArg some (by kernel_rfl))
  f276 := Tryd.func70.trans (congrArg some (by kernel_rfl))
  f277 := Tryd.func71.trans (congrArg some (by kernel_rfl))
  t0 := Tryd.underlying0
  a0 := Tryd.isAgg0
  z0 := Tryd.sizeOf0
  v0 := Tryd.zeroValue0
  t3 := Tryd.underlying3
  a3 := Tryd.isAgg3
  z3 := Tryd.sizeOf3
  v3 := Tryd.zeroValue3
  t4 := Tryd.underlying4
  a4 := Tryd.isAgg4
  z4 := Tryd.sizeOf4
  v4 := Tryd.zeroValue4
  t5 := Tryd.underlying5
  a5 := Tryd.isAgg5
  z5 := Tryd.sizeOf5
  v5 := Tryd.zeroValue5
  t9 := Tryd.underlying9
  a9 := Tryd.isAgg9
  z9 := Tryd.sizeOf9
  v9 := Tryd.zeroValue9
  t20 := Tryd.underlying20
  a20 := Tryd.isAgg20
  z20 := Tryd.sizeOf20
  v20 := Tryd.zeroValue20
  t37 := Tryd.underlying36
  a37 := Tryd.isAgg36
  z37 := Tryd.sizeOf36
  v37 := Tryd.zeroValue36
  t46 := Tryd.underlying85
  a46 := Tryd.isAgg85
  z46 := Tryd.sizeOf85
  v46 := Tryd.zeroValue85
  t51 := Tryd.underlying109
  a51 := Tryd.isAgg109
  z51 := Tryd.sizeOf109
  v51 := Tryd.zeroValue109
  t53 := Tryd.underlying112
  a53 := Tryd.isAgg112
  z53 := Tryd.sizeOf112
  v53 := Tryd.zeroValue112
  t70 := Tryd.underlying89
  a70 := Tryd.isAgg89
  z70 := Tryd.sizeOf89
  v70 := Tryd.zeroValue89
  t72 := Tryd.underlying91
  a72 := Tryd.isAgg91
  z72 := Tryd.sizeOf91
  v72 := Tryd.zeroValue91
  t75 := Tryd.underlying94
  a75 := Tryd.isAgg94
  z75 := Tryd.sizeOf94
  v75 := Tryd.zeroValue94
  t76 := Tryd.underlying95
  a76 := Tryd.isAgg95
  z76 := Tryd.sizeOf95
  v76 := Tryd.zeroValue95
  t109 := Tryd.underlying86
  a109 := Tryd.isAgg86
  z109 := Tryd.sizeOf86
  v109 := Tryd.zeroValue86
  t127 := Tryd.underlying115
  a127 := Tryd.isAgg115
  z127 := Tryd.sizeOf115
  v127 := Tryd.zeroValue115
  t146 := Tryd.underlying110
  a146 := Tryd.isAgg110
  z146 := Tryd.sizeOf110
  v146 := Tryd.zeroValue110
  t148 := Tryd.underlying113
  a148 := Tryd.isAgg113
  z148 := Tryd.sizeOf113
  v148 := Tryd.zeroValue113
  t164 := Tryd.underlying130
  a164 := Tryd.isAgg130
  z164 := Tryd.sizeOf130
  v164 := Tryd.zeroValue130
end Go.Proofs.YtjofjgflcogklaaDoor

namespace Go.Abs
open Go.Shelf Go.Proofs Go.Maps Go.RowKit
variable {P : Program} {ρ : Ren}
theorem below_ext {w w' : World} {G : Ghost} {h : Heap} (H : HRel w G h) (hB : Below w.heap.size w w') :
    ∃ G', Ext w G h w' G' h ∧ HRel w' G' h ∧ ∀ b, w.heap.size ≤ b → G'.lim b = none := by
  have hX : Ext w G h w' { G with lim := fun b => if b < w.heap.size then G.lim b else none } h :=
    { os := hB.os, tape := hB.tape, out := hB.output, size := hB.size
      keep := fun b hb _ => ⟨hB.block b hb, by simp [hb]⟩
      stable := fun b k hb hs => ⟨by simp [World.cell?, hB.block b hb], by unfold stab; simp [hb]; exact hs⟩
      shape := fun b hb => by simp [World.shape?, hB.block b hb]
      n_le := Nat.le_refl _
      ids := fun id hid => ⟨rfl, rfl⟩
      fresh := fun b hb ho => ho
      env := rfl }
  refine ⟨_, hX, ⟨H.n_eq, fun id o ho => Nat.lt_of_lt_of_le (H.lt id o ho) hB.size, fun id o ho => ?_, H.inj, fun g cs hg => ⟨(H.glob g cs hg).1.mono hX, (H.glob g cs hg).2⟩⟩, fun b hb => by simp [Nat.not_lt.2 hb]⟩
  have hlt := H.lt id o ho
  exact OkObj.mono hX (by rw [H.n_eq]; exact Heap.get_lt ho) hlt (hB.block _ hlt) (by simp [hlt]) (H.obj id o ho)
def cloneMapS (args : List AVal) (h : Heap) : Option (AVal × Heap) :=
  match args with
  | [.nilmp] => some (.nilmp, h)
  | [.mp id] => match h.get id with
    | some (.map kd clock es) => some (.mp h.next, h.push (.map kd clock es))
    | _ => none
  | _ => none
theorem cloneMap_ok (L : SlLaysW.n5 P ρ) (e5 : ∀ args w, (callFunc (ρ.f 5) args).run P w = .ok (.enter (ρ.f 5) args) w) :
    HandOk P (ρ.f 5) cloneMapS := by
  refine ⟨fun args h r h' e w G cargs H hp => ?_, e5⟩
  have hlen := hp.len
  unfold cloneMapS at e
  split at e
  · simp only [Option.some.injEq, Prod.mk.injEq] at e
    obtain ⟨rfl, rfl⟩ := e
    obtain ⟨v0, hv0⟩ : ∃ v, cargs = #[v] := by
      obtain ⟨l⟩ := cargs
      match l, hlen with
      | [v], _ => exact ⟨v, rfl⟩
    subst hv0
    have rv := hp.rel 0 v0 .nilmp (by simp) (by simp)
    cases rv
    refine (AnyW.maps_Clone_nil L w).mono ?_
    rintro e w' ⟨rfl, rfl⟩
    exact ⟨_, G, rfl, Ext.refl _ _ _, H, .nilmp⟩
  · rename_i id
    split at e
    · rename_i kd clock es hg
      simp only [Option.some.injEq, Prod.mk.injEq] at e
      obtain ⟨rfl, rfl⟩ := e
      obtain ⟨v0, hv0⟩ : ∃ v, cargs = #[v] := by
        obtain ⟨l⟩ := cargs
        match l, hlen with
        | [v], _ => exact ⟨v, rfl⟩
      subst hv0
      have rv := hp.rel 0 v0 (.mp id) (by simp) (by simp)
      cases rv
      obtain ⟨entries, h1, h2, h3, h4, h5⟩ := obj_map H hg
      refine (AnyW.maps_Clone L (G.loc id) entries clock w h1).mono ?_
      rintro e w' ⟨rfl, rfl⟩
      obtain ⟨G', x1, x2, x3⟩ := new_map H kd entries clock es h2 h3 h4 h5
      exact ⟨_, G', rfl, x1, x2, x3⟩
    · simp at e
  · simp at e
theorem cloneMap_grow : ∀ args h r h', cloneMapS args h = some (r, h') → TokExt h h' := by
  intro args h r h' e
  unfold cloneMapS at e
  split at e
  · simp only [Option.some.injEq, Prod.mk.injEq] at e
    obtain ⟨rfl, rfl⟩ := e
    exact fun id o ho _ => ho
  · split at e
    · simp only [Option.some.injEq, Prod.mk.injEq] at e
      obtain ⟨rfl, rfl⟩ := e
      exact TokExt.push _ _
    · simp at e
  · simp at e
def keyZ : AVal → Option Int
  | .int .i64 n => if -9223372036854775808 ≤ n ∧ n ≤ 9223372036854775807 then some n else none
  | _ => none
def keysZ : List (Nat × AVal × AVal) → Option (List Int)
  | [] => some []
  | x :: es => match keyZ x.2.1, keysZ es with
    | some n, some ns => some (n :: ns)
    | _, _ => none
def zsl (ns : List Int) : AVal := .sl (ns.map (.int .i64)) (if ns = [] then .nil else .none)
def insZ (x : Int) : List Int → List Int
  | [] => [x]
  | y :: l => if x ≤ y then x :: y :: l else y :: insZ x l
def sortZ : List Int → List Int
  | [] => []
  | x :: l => insZ x (sortZ l)
theorem insZ_perm (x : Int) : ∀ l, (insZ x l).Perm (x :: l)
  | [] => .refl _
  | y :: l => by
    simp only [insZ]
    split
    · exact .refl _
    · exact ((insZ_perm x l).cons y).trans (.swap x y l)
theorem sortZ_perm : ∀ l, (sortZ l).Perm l
  | [] => .refl _
  | x :: l => (insZ_perm x _).trans ((sortZ_perm l).cons x)
theorem insZ_le {x : Int} : ∀ {l : List Int}, l.Pairwise (· ≤ ·) → (insZ x l).Pairwise (· ≤ ·)
  | [], _ => by simp [insZ]
  | y :: l, h => by
    obtain ⟨h1, h2⟩ := List.pairwise_cons.1 h
    simp only [insZ]
    split
    · rename_i hxy
      refine List.pairwise_cons.2 ⟨fun z hz => ?_, h⟩
      rcases List.mem_cons.1 hz with rfl | hz
      · exact hxy
      · exact Int.le_trans hxy (h1 z hz)
    · rename_i hxy
      refine List.pairwise_cons.2 ⟨fun z hz => ?_, insZ_le h2⟩
      rcases List.mem_cons.1 ((insZ_perm x l).mem_iff.1 hz) with rfl | hz
      · omega
      · exact h1 z hz
theorem sortZ_le : ∀ (l : List Int), (sortZ l).Pairwise (· ≤ ·)
  | [] => by simp [sortZ]
  | x :: l => insZ_le (sortZ_le l)
theorem rising_perm {l l' : List Int} (h : l.Perm l') (h1 : l.Pairwise (· ≤ ·)) (h2 : l'.Pairwise (· ≤ ·)) : l = l' :=
  List.Perm.eq_of_pairwise (le := (· ≤ ·)) (fun a b _ _ p q => Int.le_antisymm p q) h1 h2 h
theorem sortZ_eq (ns : List Int) : ns.mergeSort (fun x y => decide (x ≤ y)) = sortZ ns := by
  refine rising_perm ((List.mergeSort_perm ns _).trans (sortZ_perm ns).symm) ?_ (sortZ_le ns)
  have := List.pairwise_mergeSort (le := fun x y : Int => decide (x ≤ y)) (fun a b c h1 h2 => by simp only [decide_eq_true_eq] at *; omega) (fun a b => by simp; omega) ns
  exact this.imp (fun h => by simpa using h)
def sortedS (g1 g2 : Nat) (args : List AVal) (h : Heap) : Option (AVal × Heap) :=
  match args with
  | [.fn g [.ptr rid 0]] =>
    if g = g1 ∨ g = g2 then
      match h.get rid with
      | some (.row _ _ _ [.nilmp]) => some (zsl [], h)
      | some (.row _ _ _ [.mp id]) => match h.get id with
        | some (.map _ _ es) => if es.length ≤ 17592186044416 then (keysZ es).map fun ns => (zsl (sortZ ns), h) else none
        | _ => none
      | _ => none
    else none
  | _ => none
theorem keyZ_ok {x : AVal} {n : Int} (e : keyZ x = some n) : x = .int .i64 n ∧ (Lit.int .i64 n).wf = true := by
  unfold keyZ at e
  split at e
  · split at e
    · rename_i n' hn
      obtain rfl := Option.some.inj e
      refine ⟨rfl, ?_⟩
      simp only [Lit.wf, Bool.and_eq_true, decide_eq_true_eq]
      exact hn
    · simp at e
  · simp at e
theorem keysZ_ok {w : World} {G : Ghost} : ∀ {L : List MapEntry} {es : List (Nat × AVal × AVal)} {ns : List Int}, L.length = es.length →
    (∀ (k : Nat) e x, L[k]? = some e → es[k]? = some x → VRel w G e.key x.2.1) → keysZ es = some ns →
    L.map (·.key) = ns.map encZ ∧ (∀ n ∈ ns, (Lit.int .i64 n).wf = true) ∧ ns.length = es.length
  | [], [], ns, _, _, e => by simp [keysZ] at e; subst e; simp
  | [], _ :: _, ns, h, _, _ => by simp at h
  | _ :: _, [], ns, h, _, _ => by simp at h
  | e :: L, x :: es, ns, hl, hr, h => by
    simp only [keysZ] at h
    split at h
    · rename_i n ns' h1 h2
      simp only [Option.some.injEq] at h
      subst h
      obtain ⟨q1, q2⟩ := keyZ_ok h1
      have hr0 := hr 0 e x rfl rfl
      rw [q1] at hr0
      obtain ⟨r1, r2, r3⟩ := keysZ_ok (by simpa using hl) (fun k e' x' h1 h2 => hr (k + 1) e' x' (by simpa using h1) (by simpa using h2)) h2
      have hk : e.key = encZ n := by generalize e.key = u at hr0; cases hr0; rfl
      refine ⟨by simp [hk, r1], fun m hm => ?_, by simp [r3]⟩
      rcases List.mem_cons.1 hm with rfl | hm
      · exact q2
      · exact r2 m hm
    · simp at h
def Rc : Value → Option (DataW Unit × List MemPlace) := fun _ => some (.nil, [])
theorem rg_Rc {k : TypeId} (hk : P.underlying k = some (.int .i64)) {e : MapEntry} {n : Int} (hn : e.key = encZ n) (hw : (Lit.int .i64 n).wf = true) :
    WideElems.rd P k Rc e = some (.int .i64 n, .nil) := by
  obtain ⟨key, val, born⟩ := e
  simp only at hn
  subst hn
  exact WideElems.rd_mk (R := Rc) (yv := (.nil, [])) (keyOf_int_mk hk hw) rfl
theorem owns_keys {w : World} {k : TypeId} (hk : P.underlying k = some (.int .i64)) {b : Nat} {entries : Array MapEntry} {clock : Nat} {ns : List Int} (hb : w.heap[b]? = some (.map entries clock))
    (hst : MapKept.Stamped entries clock) (hkeys : entries.toList.map (·.key) = ns.map encZ) (hw : ∀ n ∈ ns, (Lit.int .i64 n).wf = true) (hlen : ns.length ≤ maxLen) :
    ∃ D0 : DataW Unit, w.ownsMap P k Rc b ns.length D0 ∧ (intKeys D0).Perm ns ∧ Maps.size D0 = ns.length := by
  have hsz : entries.size = ns.length := by simpa using congrArg List.length hkeys
  have hmem : ∀ e ∈ entries.toList, ∃ n ∈ ns, e.key = encZ n := fun e he => by
    have : e.key ∈ ns.map encZ := hkeys ▸ List.mem_map.2 ⟨e, he, rfl⟩
    obtain ⟨n, hn, hq⟩ := List.mem_map.1 this
    exact ⟨n, hn, hq.symm⟩
  refine ⟨_, ⟨entries, clock, hb, ⟨by omega, hst, fun e he => ?_⟩, by omega, rfl⟩, ?_, ?_⟩
  · obtain ⟨n, hn, hq⟩ := hmem e he
    exact ⟨_, rg_Rc hk hq (hw n hn)⟩
  · show ((List.foldr DataW.insert [] (entries.toList.map (WideElems.rg P k Rc))).map fun p => intOf p.1).Perm ns
    refine ((WideShapes.sorted_perm _).map _).trans ?_
    refine List.Perm.of_eq ?_
    rw [List.map_map]
    have : ns = (ns.map encZ).map (fun v => match v with | .int _ n => n | _ => 0) := by simp [encZ, List.map_map, Function.comp_def]
    rw [this, ← hkeys, List.map_map]
    refine List.map_congr_left fun e he => ?_
    obtain ⟨n, hn, hq⟩ := hmem e he
    simp [WideElems.rg, rg_Rc hk hq (hw n hn), hq, intOf]
  · simp [Maps.size, length_sorted, hsz]
theorem sorted_walk {ρA ρS : Ren} (LA : SlLaysZI.n7 P ρA) (LS : SlLaysZI.n6 P ρS) (hsort : ∀ m, AnyZI.SortsIn P ρS Fence.wide m) (hk : ρA.t 26 = ρS.t 26) (hu : P.underlying (ρS.t 26) = some (.int .i64))
    (e9 : ∀ args w, (callFunc (ρS.f 9) args).run P w = .ok (.enter (ρS.f 9) args) w) (eg : ∀ args w, (callFunc (ρA.f 10) args).run P w = .ok (.enter (ρA.f 10) args) w)
    {w : World} {b m clock : Nat} {entries : Array MapEntry} {ns : List Int} (hB : b < w.heap.size) (hc : w.cell? ⟨b, 0, none⟩ = some (.map (some m))) (hb : w.heap[m]? = some (.map entries clock))
    (hst : MapKept.Stamped entries clock) (hkeys : entries.toList.map (·.key) = ns.map encZ) (hw : ∀ n ∈ ns, (Lit.int .i64 n).wf = true) (hlen : ns.length ≤ 17592186044416) :
    Calls P (ρS.f 6) #[.func (.func (ρA.f 10)) #[] #[.pointer (some ⟨b, 0, none⟩)]] w fun e w' => ∃ (v : Value), e = .returned v ∧
      w'.ownsRow w.heap.size (ρS.t 26) 1 v ns.length ((ns.mergeSort (fun x y => decide (x ≤ y))).map encZ) ∧ (v = .slice none 0 0 ↔ ns = []) ∧ Below w.heap.size w w' := by
  obtain ⟨D0, d1, d2, d3⟩ := owns_keys hu hb hst hkeys hw (Nat.le_trans hlen (by decide))
  rw [← hk] at d1
  have hseq : SeqGives Fence.wide 2 P (ρA.f 10) #[.pointer (some ⟨b, 0, none⟩)] encZ (fun ss => ss.Perm (intKeys D0)) (Maps.size D0) w :=
    AnyZI.keys_gives (ρ := ρA) { LA with } Fence.wide _ trivial rfl (by omega) b m _ D0 _ hB hc d1
  have cS := AnyZI.sorted_in LS Fence.wide 5 trivial trivial trivial trivial rfl (by omega) (hsort _) e9 (ρA.f 10) #[.pointer (some ⟨b, 0, none⟩)] trivial eg _ _ (by rw [d3]; exact Nat.le_trans hlen (by decide)) (by rw [d3]; omega) _ hseq
  refine ((callsIn_wide (n := 5)).1 cS).mono ?_
  rintro e w' ⟨v, ss, rfl, hS, hrow, hnil, hb⟩
  have hp : ss.Perm ns := hS.trans d2
  have hsz : ss.length = ns.length := hp.length_eq
  have hsame : ss.mergeSort (fun x y => decide (x ≤ y)) = ns.mergeSort (fun x y => decide (x ≤ y)) := mergeSort_of_perm_i hp
  rw [hsame, hsz] at hrow
  refine ⟨v, rfl, hrow, hnil.trans ⟨fun q => ?_, fun q => ?_⟩, hb⟩
  · subst q; exact hp.nil_eq.symm ▸ rfl
  · subst q; exact hp.eq_nil
theorem sorted_nil_walk {ρA ρS : Ren} (LA : SlLaysZI.n7 P ρA) (LS : SlLaysZI.n6 P ρS) (hsort : ∀ m, AnyZI.SortsIn P ρS Fence.wide m)
    (e9 : ∀ args w, (callFunc (ρS.f 9) args).run P w = .ok (.enter (ρS.f 9) args) w) (eg : ∀ args w, (callFunc (ρA.f 10) args).run P w = .ok (.enter (ρA.f 10) args) w)
    {w : World} {b : Nat} (hB : b < w.heap.size) (hc : w.cell? ⟨b, 0, none⟩ = some (.map none)) :
    Calls P (ρS.f 6) #[.func (.func (ρA.f 10)) #[] #[.pointer (some ⟨b, 0, none⟩)]] w fun e w' => e = .returned (.slice none 0 0) ∧ Below w.heap.size w w' := by
  have hseq : SeqGives Fence.wide 2 P (ρA.f 10) #[.pointer (some ⟨b, 0, none⟩)] encZ (fun ss : List Int => ss = []) 0 w :=
    AnyZI.keys_gives_nil (ρ := ρA) { LA with } Fence.wide _ trivial rfl b _ hB hc
  have cS := AnyZI.sorted_in LS Fence.wide 5 trivial trivial trivial trivial rfl (by omega) (hsort _) e9 (ρA.f 10) #[.pointer (some ⟨b, 0, none⟩)] trivial eg _ 0 (Nat.zero_le _) (by omega) _ hseq
  refine ((callsIn_wide (n := 5)).1 cS).mono ?_
  rintro e w' ⟨v, ss, rfl, rfl, hrow, hnil, hb⟩
  obtain rfl : v = .slice none 0 0 := hnil.2 rfl
  exact ⟨rfl, hb⟩
theorem flat_zs (ns : List Int) : flat (ns.map (AVal.int .i64)) = ns.map (AVal.int .i64) := by
  induction ns with
  | nil => rfl
  | cons n ns ih => simp only [List.map_cons, flat, List.flatMap_cons] at ih ⊢; rw [ih]; rfl
theorem sorted_ok {ρA ρB ρS : Ren} (LA : SlLaysZI.n7 P ρA) (LB : SlLaysZI.n7 P ρB) (LS : SlLaysZI.n6 P ρS) (hsort : ∀ m, AnyZI.SortsIn P ρS Fence.wide m) (hkA : ρA.t 26 = ρS.t 26) (hkB : ρB.t 26 = ρS.t 26) (hu : P.underlying (ρS.t 26) = some (.int .i64))
    (e6 : ∀ args w, (callFunc (ρS.f 6) args).run P w = .ok (.enter (ρS.f 6) args) w)
    (e9 : ∀ args w, (callFunc (ρS.f 9) args).run P w = .ok (.enter (ρS.f 9) args) w) (eA : ∀ args w, (callFunc (ρA.f 10) args).run P w = .ok (.enter (ρA.f 10) args) w) (eB : ∀ args w, (callFunc (ρB.f 10) args).run P w = .ok (.enter (ρB.f 10) args) w) :
    HandOk P (ρS.f 6) (sortedS (ρA.f 10) (ρB.f 10)) := by
  refine ⟨fun args h r h' e w G cargs H hp => ?_, e6⟩
  have hlen := hp.len
  unfold sortedS at e
  split at e
  · rename_i g rid
    obtain ⟨v0, hv0⟩ : ∃ v, cargs = #[v] := by
      obtain ⟨l⟩ := cargs
      match l, hlen with
      | [v], _ => exact ⟨v, rfl⟩
    subst hv0
    have rv := hp.rel 0 v0 (.fn g [.ptr rid 0]) (by simp) (by simp)
    cases rv with
    | fn _ cs _ hl hrel =>
      obtain ⟨v1, hv1⟩ : ∃ v, cs = #[v] := by
        obtain ⟨l⟩ := cs
        match l, hl with
        | [v], _ => exact ⟨v, rfl⟩
      subst hv1
      have r1 := hrel 0 v1 (.ptr rid 0) (by simp) (by simp)
      cases r1
      split at e
      · rename_i hg12
        split at e
        · -- the nil map
          rename_i mu sz ag hg
          simp only [Option.some.injEq, Prod.mk.injEq] at e
          obtain ⟨rfl, rfl⟩ := e
          obtain ⟨o1, o2, o3, o4, o5⟩ := H.obj rid _ hg
          obtain ⟨u, hu', ru⟩ := o2 0 .nilmp (by simp)
          cases ru
          have hlt := H.lt rid _ hg
          have cC : Calls P (ρS.f 6) #[.func (.func g) #[] #[.pointer (some ⟨G.loc rid, 0, none⟩)]] w fun e w' => e = .returned (.slice none 0 0) ∧ Below w.heap.size w w' := by
            rcases hg12 with rfl | rfl
            · exact sorted_nil_walk LA LS hsort e9 eA hlt hu'
            · exact sorted_nil_walk LB LS hsort e9 eB hlt hu'
          refine cC.mono ?_
          rintro e w' ⟨rfl, hb⟩
          obtain ⟨G', x1, x2, x3⟩ := below_ext H hb
          exact ⟨_, G', rfl, x1, x2, .nilsl _ (.inl rfl)⟩
        · rename_i mu sz ag id hg
          split at e
          · rename_i kd clock es hm
            split at e
            · rename_i hes
              simp only [Option.map_eq_some_iff, Prod.mk.injEq] at e
              obtain ⟨ns, hns, rfl, rfl⟩ := e
              obtain ⟨o1, o2, o3, o4, o5⟩ := H.obj rid _ hg
              obtain ⟨u, hu', ru⟩ := o2 0 (.mp id) (by simp)
              cases ru
              have hlt := H.lt rid _ hg
              obtain ⟨entries, h1, h2, h3, h4, h5⟩ := obj_map H hm
              obtain ⟨k1, k2, k3⟩ := keysZ_ok (w := w) (G := G) (L := entries.toList) (by simpa using h2) (fun k e x q1 q2 => (h3 k e x (by simpa using q1) q2).2.1) hns
              have cC : Calls P (ρS.f 6) #[.func (.func g) #[] #[.pointer (some ⟨G.loc rid, 0, none⟩)]] w fun e w' => ∃ (v : Value), e = .returned v ∧
                  w'.ownsRow w.heap.size (ρS.t 26) 1 v ns.length ((ns.mergeSort (fun x y => decide (x ≤ y))).map encZ) ∧ (v = .slice none 0 0 ↔ ns = []) ∧ Below w.heap.size w w' := by
                rcases hg12 with rfl | rfl
                · exact sorted_walk LA LS hsort hkA hu e9 eA hlt hu' h1 h5 k1 k2 (by omega)
                · exact sorted_walk LB LS hsort hkB hu e9 eB hlt hu' h1 h5 k1 k2 (by omega)
              refine cC.mono ?_
              rintro e w' ⟨v, rfl, hrow, hnil, hb⟩
              obtain ⟨G', x1, x2, x3⟩ := below_ext H hb
              refine ⟨_, G', rfl, x1, x2, ?_⟩
              rw [sortZ_eq] at hrow
              have hsl : (sortZ ns).length = ns.length := (sortZ_perm ns).length_eq
              by_cases hne : ns = []
              · subst hne
                have hs0 : sortZ [] = [] := rfl
                rw [hnil.2 rfl, hs0]
                exact .nilsl _ (.inl rfl)
              · rcases hrow.2 with ⟨rfl, hz⟩ | ⟨gb, cap, cur, rfl, hbase, hgb, q1, q2, q3, q4⟩
                · exact absurd (List.eq_nil_of_length_eq_zero hz) hne
                · have hne' : sortZ ns ≠ [] := by
                    intro q; rw [q] at hsl; exact hne (List.eq_nil_of_length_eq_zero hsl.symm)
                  unfold zsl
                  rw [if_neg hne']
                  have hln : ((sortZ ns).map (AVal.int .i64)).length = ns.length := by simp [hsl]
                  rw [← hln]
                  refine .sl gb 0 cap 1 _ _ (fun k => encZ ((sortZ ns).getD k 0)) ?_ ?_ ?_ ?_ ?_ ?_ ?_ ?_ ?_
                  · intro x hx; obtain ⟨n, _, rfl⟩ := List.mem_map.1 hx; rfl
                  · intro k c hk
                    rw [flat_zs, List.getElem?_map, Option.map_eq_some_iff] at hk
                    obtain ⟨n, hn, rfl⟩ := hk
                    have hkl : k < ns.length := by rw [← hsl]; exact (List.getElem?_eq_some_iff.1 hn).1
                    have hcur : cur.toList[k]? = some (encZ n) := by
                      have : (cur.toList.take (ns.length * 1))[k]? = ((sortZ ns).map encZ)[k]? := by rw [q4]
                      rw [List.getElem?_take_of_lt (by omega), List.getElem?_map, hn] at this
                      exact this
                    simp only [World.cell?, hgb, Nat.zero_add, List.getD_eq_getElem?_getD, hn]
                    rw [← Array.getElem?_toList, hcur]
                    rfl
                  · intro k c hk
                    rw [flat_zs, List.getElem?_map, Option.map_eq_some_iff] at hk
                    obtain ⟨n, hn, rfl⟩ := hk
                    have hn' : (sortZ ns).getD k 0 = n := by simp [List.getD_eq_getElem?_getD, hn]
                    show VRel w' G' (encZ ((sortZ ns).getD k 0)) _
                    rw [hn']
                    exact .int _ _
                  · intro k _ m hm'
                    rw [x3 gb hbase] at hm'
                    simp at hm'
                  · intro c hc
                    rw [flat_zs] at hc
                    obtain ⟨n, _, rfl⟩ := List.mem_map.1 hc; rfl
                  · intro c hc
                    rw [flat_zs] at hc
                    obtain ⟨n, _, rfl⟩ := List.mem_map.1 hc; rfl
                  · rw [hln]; exact q1
                  · exact ⟨by simp, by simp⟩
                  · intro id s q; simp at q
            · simp at e
          · simp at e
        · simp at e
      · simp at e
  · simp at e
theorem sorted_grow (g1 g2 : Nat) : ∀ args h r h', sortedS g1 g2 args h = some (r, h') → h' = h := by
  intro args h r h' e
  unfold sortedS at e
  split at e
  · split at e
    · split at e
      · simp only [Option.some.injEq, Prod.mk.injEq] at e; exact e.2.symm
      · split at e
        · split at e
          · simp only [Option.map_eq_some_iff, Prod.mk.injEq] at e
            obtain ⟨_, _, _, q⟩ := e; exact q.symm
          · simp at e
        · simp at e
      · simp at e
    · simp at e
  · simp at e
end Go.Abs

namespace Go.Abs
open Go.Shelf Go.Proofs Go.Maps Go.RowKit
variable {P : Program} {ρ : Ren}
def repeatS (args : List AVal) (h : Heap) : Option (AVal × Heap) :=
  match args with
  | [.str s, .int .i64 n] => if 0 ≤ n ∧ n ≤ 1000000 ∧ s.length ≤ 1000000 then some (.str (Lib.repeatL s n.toNat), h) else none
  | _ => none
theorem repeat_ok (L : Lays.n105 P ρ) (X : Builder.Extra P ρ) (e105 : ∀ args w, (callFunc (ρ.f 105) args).run P w = .ok (.enter (ρ.f 105) args) w) : HandOk P (ρ.f 105) repeatS := by
  refine ⟨fun args h r h' e w G cargs H hp => ?_, e105⟩
  have hlen := hp.len
  unfold repeatS at e
  split at e
  · rename_i s n
    split at e
    · rename_i hn
      simp only [Option.some.injEq, Prod.mk.injEq] at e
      obtain ⟨rfl, rfl⟩ := e
      obtain ⟨l⟩ := cargs
      match l, hlen with
      | [v0, v1], _ =>
        have r0 := hp.rel 0 v0 (.str s) (by simp) (by simp)
        have r1 := hp.rel 1 v1 (.int .i64 n) (by simp) (by simp)
        cases r0 with
        | str bs =>
        cases r1
        obtain ⟨h0, h1, h2⟩ := hn
        obtain ⟨c, rfl⟩ : ∃ c : Nat, n = (c : Int) := ⟨n.toNat, by omega⟩
        have hsz : bs.size = bs.data.toList.length := rfl
        have hm : bs.data.toList.length * c ≤ 1000000 * 1000000 := Nat.mul_le_mul h2 (by omega)
        refine (Any.strings_Repeat L X bs c w (by omega) (by rw [hsz]; omega)).mono ?_
        rintro e w' ⟨rfl, hB⟩
        obtain ⟨G', q1, q2, q3⟩ := below_ext H hB
        exact ⟨_, G', rfl, q1, q2, .str _⟩
    · simp at e
  · simp at e
end Go.Abs

namespace Go.Abs
variable {F : Nat → Option AEnt} {ev : Opd → AVal} {h : Heap} {K : AVal → Heap → Prop}
theorem wrap_in64 {x : Int} (h1 : -9223372036854775808 ≤ x) (h2 : x < 9223372036854775808) : IntKind.i64.wrap x = x := IntWalk.i64_in x ⟨h1, by omega⟩
theorem x_mov {x : Opd} (q : K (ev x) h) : XW F (.mov x) ev h K := x_eval _ _ rfl q
theorem x_len {x : Opd} {xs : List AVal} {t : Tok} (hx : ev x = .sl xs t) (q : K (.int .i64 xs.length) h) : XW F (.len x) ev h K := x_eval _ _ (by simp only [evalA, hx]) q
theorem x_len_ref {x : Opd} {id off n sz : Nat} (hx : ev x = .ref id off n sz) (q : K (.int .i64 n) h) : XW F (.len x) ev h K := x_eval _ _ (by simp only [evalA, hx]) q
theorem x_slen {x : Opd} {s : List UInt8} (hx : ev x = .str s) (q : K (.int .i64 s.length) h) : XW F (.slen x) ev h K := x_eval _ _ (by simp only [evalA, hx]) q
theorem x_ext {x : Opd} {vs : List AVal} {i : Nat} {r : AVal} (hx : ev x = .tup vs) (hi : vs[i]? = some r) (q : K r h) : XW F (.ext x i) ev h K := x_eval _ _ (by simp only [evalA, hx, hi]; rfl) q
theorem x_add {x y : Opd} {a b : Int} (hx : ev x = .int .i64 a) (hy : ev y = .int .i64 b) (h1 : -9223372036854775808 ≤ a + b) (h2 : a + b < 9223372036854775808) (q : K (.int .i64 (a + b)) h) : XW F (.bin .add .arith x y) ev h K :=
  x_eval _ _ (by simp [evalA, hx, hy, binA, intBin, wrap_in64 h1 h2]) q
theorem x_sub {x y : Opd} {a b : Int} (hx : ev x = .int .i64 a) (hy : ev y = .int .i64 b) (h1 : -9223372036854775808 ≤ a - b) (h2 : a - b < 9223372036854775808) (q : K (.int .i64 (a - b)) h) : XW F (.bin .sub .arith x y) ev h K :=
  x_eval _ _ (by simp [evalA, hx, hy, binA, intBin, wrap_in64 h1 h2]) q
theorem x_mul {x y : Opd} {a b : Int} (hx : ev x = .int .i64 a) (hy : ev y = .int .i64 b) (h1 : -9223372036854775808 ≤ a * b) (h2 : a * b < 9223372036854775808) (q : K (.int .i64 (a * b)) h) : XW F (.bin .mul .arith x y) ev h K :=
  x_eval _ _ (by simp [evalA, hx, hy, binA, intBin, wrap_in64 h1 h2]) q
theorem x_quo {x y : Opd} {a b : Int} (hx : ev x = .int .i64 a) (hy : ev y = .int .i64 b) (h0 : b ≠ 0) (h1 : -9223372036854775808 ≤ a.tdiv b) (h2 : a.tdiv b < 9223372036854775808) (q : K (.int .i64 (a.tdiv b)) h) : XW F (.bin .quo .arith x y) ev h K :=
  x_eval _ _ (by simp [evalA, hx, hy, binA, intBin, wrap_in64 h1 h2, h0]) q
theorem x_rem {x y : Opd} {a b : Int} (hx : ev x = .int .i64 a) (hy : ev y = .int .i64 b) (h0 : b ≠ 0) (q : K (.int .i64 (a.tmod b)) h) : XW F (.bin .rem .arith x y) ev h K :=
  x_eval _ _ (by simp [evalA, hx, hy, binA, intBin, h0]) q
theorem x_neg {x : Opd} {a : Int} (hx : ev x = .int .i64 a) (h1 : -9223372036854775808 ≤ -a) (h2 : -a < 9223372036854775808) (q : K (.int .i64 (-a)) h) : XW F (.un .neg x) ev h K :=
  x_eval _ _ (by simp [evalA, hx, unA, wrap_in64 h1 h2]) q
theorem x_lss {x y : Opd} {k : IntKind} {a b : Int} (hx : ev x = .int k a) (hy : ev y = .int k b) (q : K (.bool (decide (a < b))) h) : XW F (.bin .lss .arith x y) ev h K := x_eval _ _ (by simp [evalA, hx, hy, binA, intBin]) q
theorem x_leq {x y : Opd} {k : IntKind} {a b : Int} (hx : ev x = .int k a) (hy : ev y = .int k b) (q : K (.bool (decide (a ≤ b))) h) : XW F (.bin .leq .arith x y) ev h K := x_eval _ _ (by simp [evalA, hx, hy, binA, intBin]) q
theorem x_gtr {x y : Opd} {k : IntKind} {a b : Int} (hx : ev x = .int k a) (hy : ev y = .int k b) (q : K (.bool (decide (b < a))) h) : XW F (.bin .gtr .arith x y) ev h K := x_eval _ _ (by simp [evalA, hx, hy, binA, intBin]) q
theorem x_geq {x y : Opd} {k : IntKind} {a b : Int} (hx : ev x = .int k a) (hy : ev y = .int k b) (q : K (.bool (decide (b ≤ a))) h) : XW F (.bin .geq .arith x y) ev h K := x_eval _ _ (by simp [evalA, hx, hy, binA, intBin]) q
theorem x_eql {x y : Opd} {k : IntKind} {a b : Int} (hx : ev x = .int k a) (hy : ev y = .int k b) (q : K (.bool (decide (a = b))) h) : XW F (.bin .eql .arith x y) ev h K := x_eval (.bool (decide (a = b))) h (by simp [evalA, hx, hy, binA, intBin]; by_cases e : a = b <;> simp [e]) q
theorem x_neq {x y : Opd} {k : IntKind} {a b : Int} (hx : ev x = .int k a) (hy : ev y = .int k b) (q : K (.bool (decide (a ≠ b))) h) : XW F (.bin .neq .arith x y) ev h K := x_eval (.bool (decide (a ≠ b))) h (by simp [evalA, hx, hy, binA, intBin]; by_cases e : a = b <;> simp [e]) q
theorem x_lss_t {x y : Opd} {k : IntKind} {a b : Int} (hx : ev x = .int k a) (hy : ev y = .int k b) (hc : a < b) (q : K (.bool true) h) : XW F (.bin .lss .arith x y) ev h K := x_lss hx hy (by rw [decide_eq_true hc]; exact q)
theorem x_lss_f {x y : Opd} {k : IntKind} {a b : Int} (hx : ev x = .int k a) (hy : ev y = .int k b) (hc : b ≤ a) (q : K (.bool false) h) : XW F (.bin .lss .arith x y) ev h K := x_lss hx hy (by rw [decide_eq_false (by omega)]; exact q)
theorem x_leq_t {x y : Opd} {k : IntKind} {a b : Int} (hx : ev x = .int k a) (hy : ev y = .int k b) (hc : a ≤ b) (q : K (.bool true) h) : XW F (.bin .leq .arith x y) ev h K := x_leq hx hy (by rw [decide_eq_true hc]; exact q)
theorem x_leq_f {x y : Opd} {k : IntKind} {a b : Int} (hx : ev x = .int k a) (hy : ev y = .int k b) (hc : b < a) (q : K (.bool false) h) : XW F (.bin .leq .arith x y) ev h K := x_leq hx hy (by rw [decide_eq_false (by omega)]; exact q)
theorem x_gtr_t {x y : Opd} {k : IntKind} {a b : Int} (hx : ev x = .int k a) (hy : ev y = .int k b) (hc : b < a) (q : K (.bool true) h) : XW F (.bin .gtr .arith x y) ev h K := x_gtr hx hy (by rw [decide_eq_true hc]; exact q)
theorem x_gtr_f {x y : Opd} {k : IntKind} {a b : Int} (hx : ev x = .int k a) (hy : ev y = .int k b) (hc : a ≤ b) (q : K (.bool false) h) : XW F (.bin .gtr .arith x y) ev h K := x_gtr hx hy (by rw [decide_eq_false (by omega)]; exact q)
theorem x_geq_t {x y : Opd} {k : IntKind} {a b : Int} (hx : ev x = .int k a) (hy : ev y = .int k b) (hc : b ≤ a) (q : K (.bool true) h) : XW F (.bin .geq .arith x y) ev h K := x_geq hx hy (by rw [decide_eq_true hc]; exact q)
theorem x_geq_f {x y : Opd} {k : IntKind} {a b : Int} (hx : ev x = .int k a) (hy : ev y = .int k b) (hc : a < b) (q : K (.bool false) h) : XW F (.bin .geq .arith x y) ev h K := x_geq hx hy (by rw [decide_eq_false (by omega)]; exact q)
theorem x_eql_t {x y : Opd} {k : IntKind} {a b : Int} (hx : ev x = .int k a) (hy : ev y = .int k b) (hc : a = b) (q : K (.bool true) h) : XW F (.bin .eql .arith x y) ev h K := x_eql hx hy (by rw [decide_eq_true hc]; exact q)
theorem x_eql_f {x y : Opd} {k : IntKind} {a b : Int} (hx : ev x = .int k a) (hy : ev y = .int k b) (hc : a ≠ b) (q : K (.bool false) h) : XW F (.bin .eql .arith x y) ev h K := x_eql hx hy (by rw [decide_eq_false (by omega)]; exact q)
theorem x_neq_t {x y : Opd} {k : IntKind} {a b : Int} (hx : ev x = .int k a) (hy : ev y = .int k b) (hc : a ≠ b) (q : K (.bool true) h) : XW F (.bin .neq .arith x y) ev h K := x_neq hx hy (by rw [decide_eq_true hc]; exact q)
theorem x_neq_f {x y : Opd} {k : IntKind} {a b : Int} (hx : ev x = .int k a) (hy : ev y = .int k b) (hc : a = b) (q : K (.bool false) h) : XW F (.bin .neq .arith x y) ev h K := x_neq hx hy (by rw [decide_eq_false (by omega)]; exact q)
theorem x_eql_s {x y : Opd} {a b : List UInt8} (hx : ev x = .str a) (hy : ev y = .str b) (q : K (.bool (decide (a = b))) h) : XW F (.bin .eql .arith x y) ev h K := x_eval (.bool (decide (a = b))) h (by simp [evalA, hx, hy, binA, strBin]; by_cases e : a = b <;> simp [e]) q
theorem x_neq_s {x y : Opd} {a b : List UInt8} (hx : ev x = .str a) (hy : ev y = .str b) (q : K (.bool (decide (a ≠ b))) h) : XW F (.bin .neq .arith x y) ev h K := x_eval (.bool (decide (a ≠ b))) h (by simp [evalA, hx, hy, binA, strBin]; by_cases e : a = b <;> simp [e]) q
theorem x_add_s {x y : Opd} {a b : List UInt8} (hx : ev x = .str a) (hy : ev y = .str b) (hl : a.length + b.length ≤ 9223372036854775807) (q : K (.str (a ++ b)) h) : XW F (.bin .add .arith x y) ev h K := x_eval _ _ (by simp [evalA, hx, hy, binA, strBin, hl]) q
theorem x_not {x : Opd} {a : Bool} (hx : ev x = .bool a) (q : K (.bool (!a)) h) : XW F (.un .not x) ev h K := x_eval _ _ (by simp [evalA, hx, unA]) q
theorem x_pick_t {c a b : Opd} (hc : ev c = .bool true) (q : K (ev a) h) : XW F (.pick c a b) ev h K := x_eval _ _ (by simp [evalA, hc]) q
theorem x_pick_f {c a b : Opd} (hc : ev c = .bool false) (q : K (ev b) h) : XW F (.pick c a b) ev h K := x_eval _ _ (by simp [evalA, hc]) q
theorem x_iaddr {sz : Nat} {x i : Opd} {xs : List AVal} {t : Tok} {k : IntKind} {n : Int} {y : AVal} (hx : ev x = .sl xs t) (hi : ev i = .int k n) (h0 : 0 ≤ n) (hy : xs[n.toNat]? = some y) (hs : y.cells.length = sz) (q : K (.rp y.cells) h) : XW F (.iaddr sz x i) ev h K := by
  have hlt := (List.getElem?_eq_some_iff.1 hy).1
  exact x_eval _ _ (by simp only [evalA, hx, hi]; rw [if_pos ⟨h0, by omega⟩]; simp only [hy, hs, if_true]) q
theorem x_iaddr_ref {sz : Nat} {x i : Opd} {id off len : Nat} {k : IntKind} {n : Int} (hx : ev x = .ref id off len sz) (hi : ev i = .int k n) (h0 : 0 ≤ n) (h1 : n < len) (q : K (.ptr id (off + n.toNat * sz)) h) : XW F (.iaddr sz x i) ev h K :=
  x_eval _ _ (by simp only [evalA, hx, hi, and_true]; rw [if_pos ⟨h0, h1⟩]) q
theorem x_faddr_rp {off : Nat} {x : Opd} {cs : List AVal} (hx : ev x = .rp cs) (q : K (.rp (cs.drop off)) h) : XW F (.faddr off x) ev h K := x_eval _ _ (by simp [evalA, hx]) q
theorem x_faddr_ptr {off : Nat} {x : Opd} {id o : Nat} (hx : ev x = .ptr id o) (q : K (.ptr id (o + off)) h) : XW F (.faddr off x) ev h K := x_eval _ _ (by simp [evalA, hx]) q
theorem x_load_rp {n : Nat} {ag : Bool} {x : Opd} {cs : List AVal} {r : AVal} (hx : ev x = .rp cs) (hn : n ≤ cs.length) (hr : mk ag (cs.take n) = some r) (q : K r h) : XW F (.load n ag x) ev h K :=
  x_eval _ _ (by simp [evalA, hx, loadA, hn, hr]) q
theorem x_load_ptr {n : Nat} {ag : Bool} {x : Opd} {id off : Nat} {mu : Bool} {s : Nat} {a : Bool} {cs : List AVal} {r : AVal} (hx : ev x = .ptr id off) (hg : h.get id = some (.row mu s a cs)) (hn : off + n ≤ cs.length) (hr : mk ag ((cs.drop off).take n) = some r) (q : K r h) : XW F (.load n ag x) ev h K :=
  x_eval _ _ (by simp [evalA, hx, loadA, hg, hn, hr]) q
theorem x_store {n : Nat} {a x : Opd} {id off : Nat} {s : Nat} {ag : Bool} {cs : List AVal} (ha : ev a = .ptr id off) (hg : h.get id = some (.row true s ag cs)) (hl : (ev x).cells.length = n) (ho : (ev x).cells.all AVal.one = true) (hn : off + n ≤ cs.length)
    (q : K (.tup []) (h.put id (some (.row true s ag (setCells cs off (ev x).cells))))) : XW F (.store n a x) ev h K :=
  x_eval _ _ (by simp [evalA, ha, storeA, hg, hl, hn, ho]) q
theorem x_nilc_ptr {x : Opd} {id o : Nat} (hx : ev x = .ptr id o) (q : K (.ptr id o) h) : XW F (.nilc x) ev h K := x_eval _ _ (by simp [evalA, hx]) q
theorem x_nilc_fn {x : Opd} {f : Nat} {c : List AVal} (hx : ev x = .fn f c) (q : K (.fn f c) h) : XW F (.nilc x) ev h K := x_eval _ _ (by simp [evalA, hx]) q
theorem x_field {off n : Nat} {ag : Bool} {x : Opd} {cs : List AVal} {r : AVal} (hx : ev x = .agg cs) (hn : off + n ≤ cs.length) (hr : mk ag ((cs.drop off).take n) = some r) (q : K r h) : XW F (.field off n ag x) ev h K :=
  x_eval _ _ (by simp [evalA, hx, hn, hr]) q
theorem x_sidx {x i : Opd} {s : List UInt8} {k : IntKind} {n : Int} {b : UInt8} (hx : ev x = .str s) (hi : ev i = .int k n) (h0 : 0 ≤ n) (hb : s[n.toNat]? = some b) (q : K (.int .u8 b.toNat) h) : XW F (.sidx x i) ev h K :=
  x_eval _ _ (by simp [evalA, hx, hi, h0, hb]) q
def Elem (ag : Bool) (sz : Nat) (y : AVal) : Prop := mk ag y.cells = some y ∧ y.cells.length = sz ∧ stripL y.cells = some y.cells
theorem stripL_append : ∀ {a b a' b' : List AVal}, stripL a = some a' → stripL b = some b' → stripL (a ++ b) = some (a' ++ b')
  | [], b, a', b', h1, h2 => by simp [stripL] at h1; subst h1; simpa using h2
  | x :: a, b, a', b', h1, h2 => by
    simp only [stripL] at h1
    split at h1
    · rename_i y ys e1 e2
      simp at h1; subst h1
      simp only [List.cons_append, stripL, e1, stripL_append e2 h2]
    · simp at h1
theorem strip_flat {ag : Bool} {sz : Nat} : ∀ {ys : List AVal}, (∀ y ∈ ys, Elem ag sz y) → stripL (flat ys) = some (flat ys)
  | [], _ => rfl
  | y :: ys, hy => by
    simp only [flat, List.flatMap_cons]
    exact stripL_append (hy y (by simp)).2.2 (strip_flat (fun z hz => hy z (by simp [hz])))
theorem flat_length {ag : Bool} {sz : Nat} : ∀ {ys : List AVal}, (∀ y ∈ ys, Elem ag sz y) → (flat ys).length = ys.length * sz
  | [], _ => by simp [flat]
  | y :: ys, hy => by
    have := flat_length (ys := ys) (fun z hz => hy z (by simp [hz]))
    simp only [flat, List.flatMap_cons, List.length_append, List.length_cons] at this ⊢
    rw [this, (hy y (by simp)).2.1, Nat.add_mul]; omega
theorem chunk_flat {ag : Bool} {sz : Nat} : ∀ {ys : List AVal}, (∀ y ∈ ys, Elem ag sz y) → chunk sz ag ys.length (flat ys) = some ys
  | [], _ => rfl
  | y :: ys, hy => by
    have h1 := hy y (by simp)
    have ht : (flat (y :: ys)).take sz = y.cells := by
      simp only [flat, List.flatMap_cons]
      rw [← h1.2.1, List.take_left']; rfl
    have hd : (flat (y :: ys)).drop sz = flat ys := by
      simp only [flat, List.flatMap_cons]
      rw [← h1.2.1, List.drop_left']; rfl
    have hc := chunk_flat (ys := ys) (fun z hz => hy z (by simp [hz]))
    simp only [List.length_cons, chunk, ht, hd, h1.1, hc, h1.2.1, if_true]
def Lst (h : Heap) (ty sz : Nat) (xs : List AVal) (v : AVal) : Prop := (xs = [] ∧ v = .sl [] .nil) ∨ ∃ id, v = .sl xs (.own id sz) ∧ h.get id = some (.tok ty) ∧ id < h.next
def Pt (t : Tok) : Prop := t = .none ∨ t = .nil
theorem strip_pt {t : Tok} (ht : Pt t) {xs : List AVal} : strip (.sl xs t) = some (.sl xs t) := by
  rcases ht with rfl | rfl <;> rfl
theorem purify_pt {t : Tok} (ht : Pt t) {xs : List AVal} {h : Heap} : purify h (.sl xs t) = some (.sl xs t) := by
  rcases ht with rfl | rfl <;> rfl
theorem roomOk_of {n bytes : Nat} (h1 : n ≤ 1000000) (h2 : bytes ≤ 10000) : roomOk n bytes = true := by
  simp only [roomOk, Bool.and_eq_true, decide_eq_true_eq]
  refine ⟨by omega, ?_⟩
  calc (4 * n + 1024) * bytes ≤ (4 * 1000000 + 1024) * 10000 := Nat.mul_le_mul (by omega) h2
    _ ≤ 281474976710656 := by decide
theorem x_append {ty bytes sz : Nat} {ag : Bool} {x y : Opd} {xs ys : List AVal} {t2 : Tok} (hL : Lst h ty sz xs (ev x)) (hy : ev y = .sl ys t2) (he : ∀ e ∈ ys, Elem ag sz e) (room : roomOk (xs.length + ys.length) bytes = true) (hsz : 0 < sz) (hsm : small sz = true)
    (q : ∀ v' h', Lst h' ty sz (xs ++ ys) v' → h.next ≤ h'.next → (∀ j o, h.get j = some o → (∀ xs', ev x ≠ .sl xs' (.own j sz)) → h'.get j = some o) → K v' h') : XW F (.append false ty bytes sz ag x y) ev h K := by
  have hel : elemsA h sz (.sl ys t2) = some (flat ys) := by
    simp only [elemsA]
    rw [if_pos]
    intro e he'
    exact (he e (List.mem_of_head? he')).2.1
  have hst := strip_flat he
  have hch := chunk_flat he
  by_cases hm : ys.length = 0
  · have hys : ys = [] := List.eq_nil_of_length_eq_zero hm
    subst hys
    refine x_eval (ev x) h ?_ (q _ _ (by simpa using hL) (Nat.le_refl _) (fun j o hj _ => hj))
    simp only [evalA, appendA, hy, lenA, hel, List.length_nil]
    rcases hL with ⟨rfl, e⟩ | ⟨id, e, _, _⟩ <;> rw [e] <;> rfl
  · rcases hL with ⟨rfl, e⟩ | ⟨id, e, hg, hid⟩
    · refine x_eval (.sl ys (.own h.next sz)) (h.push (.tok ty)) ?_ (q _ _ (.inr ⟨h.next, rfl, ?_, ?_⟩) ?_ ?_)
      · simp only [evalA, appendA, hy, lenA, hel, e]
        rw [if_neg hm]
        rw [List.length_nil, Nat.zero_add] at room
        simp [room, hsz, hsm, hst, hch]
      · simp [Heap.get, Heap.push]
      · simp [Heap.push]
      · simp [Heap.push]
      · intro j o hj _
        have hlt : j < h.next := by
          unfold Heap.get at hj; split at hj
          · assumption
          · simp at hj
        have e1 : h.next + 1 - 1 - j = (h.next - 1 - j) + 1 := by omega
        simp only [Heap.get, Heap.push, e1, List.getElem?_cons_succ] at hj ⊢
        rw [if_pos hlt] at hj
        rw [if_pos (by omega)]; exact hj
    · refine x_eval (.sl (xs ++ ys) (.own h.next sz)) ((h.put id none).push (.tok ty)) ?_ (q _ _ (.inr ⟨h.next, rfl, ?_, ?_⟩) ?_ ?_)
      · simp only [evalA, appendA, hy, lenA, hel, e]
        rw [if_neg hm]
        simp [room, hsz, hsm, hst, hch, hg]
      · simp [Heap.get, Heap.push, Heap.put, hid]
      · simp [Heap.push, Heap.put, hid]
      · simp only [Heap.push, Heap.put, hid, if_true]; omega
      · intro j o hj hne
        have hji : j ≠ id := fun e' => by subst e'; exact hne xs e
        have hlt : j < h.next := by
          unfold Heap.get at hj; split at hj
          · assumption
          · simp at hj
        have e1 : h.next + 1 - 1 - j = (h.next - 1 - j) + 1 := by omega
        simp only [Heap.get, Heap.push, Heap.put, hid, if_true, e1, List.getElem?_cons_succ] at hj ⊢
        rw [if_pos hlt] at hj
        rw [if_pos (by omega), List.getElem?_set_ne (by omega)]; exact hj
def PF (F : Nat → Option AEnt) (f : Nat) (asx : List AVal) (r : AVal) : Prop := ∃ r0 h', Gives F f asx Heap.empty r0 h' ∧ purify h' r0 = some r
theorem pf_of {f : Nat} {asx : List AVal} {r : AVal} {h' : Heap} (c : Gives F f asx Heap.empty r h') {r' : AVal} (hp : purify h' r = some r') : PF F f asx r' := ⟨r, h', c, hp⟩
theorem x_pf {f : Nat} {args : List Opd} {asx : List AVal} {r : AVal} (hs : stripL (args.map ev) = some asx) (c : PF F f asx r) (q : K r h) : XW F (.pcall f args) ev h K := by
  obtain ⟨r0, h', c1, c2⟩ := c
  exact x_pcall asx hs r0 r h' c1 c2 q
theorem x_pf0 {f : Nat} {r : AVal} (c : PF F f [] r) (q : K r h) : XW F (.pcall f []) ev h K := x_pf rfl c q
theorem x_pf1 {f : Nat} {x1 : Opd} {a1 r : AVal} (h1 : strip (ev x1) = some a1) (c : PF F f [a1] r) (q : K r h) : XW F (.pcall f [x1]) ev h K := x_pf (by simp only [List.map, stripL, h1]) c q
theorem x_pf2 {f : Nat} {x1 x2 : Opd} {a1 a2 r : AVal} (h1 : strip (ev x1) = some a1) (h2 : strip (ev x2) = some a2) (c : PF F f [a1, a2] r) (q : K r h) : XW F (.pcall f [x1, x2]) ev h K := x_pf (by simp only [List.map, stripL, h1, h2]) c q
theorem x_pf3 {f : Nat} {x1 x2 x3 : Opd} {a1 a2 a3 r : AVal} (h1 : strip (ev x1) = some a1) (h2 : strip (ev x2) = some a2) (h3 : strip (ev x3) = some a3) (c : PF F f [a1, a2, a3] r) (q : K r h) : XW F (.pcall f [x1, x2, x3]) ev h K :=
  x_pf (by simp only [List.map, stripL, h1, h2, h3]) c q
theorem x_pf4 {f : Nat} {x1 x2 x3 x4 : Opd} {a1 a2 a3 a4 r : AVal} (h1 : strip (ev x1) = some a1) (h2 : strip (ev x2) = some a2) (h3 : strip (ev x3) = some a3) (h4 : strip (ev x4) = some a4) (c : PF F f [a1, a2, a3, a4] r) (q : K r h) : XW F (.pcall f [x1, x2, x3, x4]) ev h K :=
  x_pf (by simp only [List.map, stripL, h1, h2, h3, h4]) c q
theorem pf_wp {g : Nat} {fn : AFunc} (hf : F g = some (.comp fn)) {args : List AVal} {r : AVal}
    (w : WP F fn.body (fn.slots.map fun s => (args[s]?).getD (.tup [])) Heap.empty (fun e vs h1 => (e = .normal ∨ e = .ret) ∧ resK fn.results vs h1 (fun v h2 => purify h2 v = some r))) : PF F g args r := by
  obtain ⟨r0, h', c, hp⟩ := gives_wp (p := fun v h1 => purify h1 v = some r) hf w
  exact ⟨r0, h', c, hp⟩
theorem get_push (h : Heap) (o : Obj) : (h.push o).get h.next = some o := by simp [Heap.get, Heap.push]
theorem get_push_old {h : Heap} {o o' : Obj} {j : Nat} (hj : h.get j = some o') : (h.push o).get j = some o' := by
  have hlt : j < h.next := by
    unfold Heap.get at hj; split at hj
    · assumption
    · simp at hj
  have e1 : h.next + 1 - 1 - j = (h.next - 1 - j) + 1 := by omega
  simp only [Heap.get, Heap.push, e1, List.getElem?_cons_succ] at hj ⊢
  rw [if_pos hlt] at hj
  rw [if_pos (by omega)]; exact hj
theorem get_lt {h : Heap} {j : Nat} {o : Obj} (hj : h.get j = some o) : j < h.next := by
  unfold Heap.get at hj; split at hj
  · assumption
  · simp at hj
theorem put_push (h : Heap) (o o' : Obj) : (h.push o).put h.next (some o') = h.push o' := by
  simp [Heap.put, Heap.push]
theorem put_push_old {h : Heap} {o : Obj} {j : Nat} (o' : Option Obj) (hj : j < h.next) : (h.push o).put j o' = (h.put j o').push o := by
  have e1 : h.next + 1 - 1 - j = (h.next - 1 - j) + 1 := by omega
  simp only [Heap.put, Heap.push, hj, if_true, e1, List.set_cons_succ]
  rw [if_pos (by omega)]
theorem x_alloc {ty sz : Nat} {ag : Bool} {z : List AVal} (hz : z.length = sz) (ho : z.all AVal.one = true) (q : K (.ptr h.next 0) (h.push (.row true (typed ty) ag z))) : XW F (.alloc ty sz ag z) ev h K :=
  x_eval _ _ (by simp only [evalA]; rw [if_pos ⟨hz, ho⟩]) q
theorem x_box {sz : Nat} {ag : Bool} {x : Opd} (hz : (ev x).cells.length = sz) (ho : (ev x).cells.all AVal.one = true) (q : K (.ptr h.next 0) (h.push (.row true 0 ag (ev x).cells))) : XW F (.box sz ag x) ev h K :=
  x_eval _ _ (by simp only [evalA]; rw [if_pos ⟨hz, ho⟩]) q
theorem x_load_top {n : Nat} {ag : Bool} {x : Opd} {off : Nat} {mu : Bool} {s : Nat} {a : Bool} {cs : List AVal} {r : AVal} (hx : ev x = .ptr h.next off) (hn : off + n ≤ cs.length) (hr : mk ag ((cs.drop off).take n) = some r) (q : K r (h.push (.row mu s a cs))) : XW F (.load n ag x) ev (h.push (.row mu s a cs)) K :=
  x_load_ptr hx (get_push _ _) hn hr q
theorem x_store_top {n : Nat} {a x : Opd} {off : Nat} {s : Nat} {ag : Bool} {cs : List AVal} (ha : ev a = .ptr h.next off) (hl : (ev x).cells.length = n) (ho : (ev x).cells.all AVal.one = true) (hn : off + n ≤ cs.length)
    (q : K (.tup []) (h.push (.row true s ag (setCells cs off (ev x).cells)))) : XW F (.store n a x) ev (h.push (.row true s ag cs)) K :=
  x_store ha (get_push _ _) hl ho hn (by rw [put_push]; exact q)
end Go.Abs

namespace Go.Abs
variable {F : Nat → Option AEnt} {ev : Opd → AVal} {h : Heap} {K : AVal → Heap → Prop}
theorem ev_v (vs ts : List AVal) (i : Nat) : evOpd vs ts (.v i) = (vs[i]?).getD .bad := _root_.id rfl
theorem ev_t (vs ts : List AVal) (i : Nat) : evOpd vs ts (.t i) = (ts[i]?).getD .bad := _root_.id rfl
theorem ev_c (vs ts : List AVal) (x : AVal) : evOpd vs ts (.c x) = x := _root_.id rfl
theorem putV_tmp (vs : List AVal) (r : AVal) : putV .tmp vs r = vs := _root_.id rfl
theorem putV_no (vs : List AVal) (r : AVal) : putV .no vs r = vs := _root_.id rfl
theorem putV_var (vs : List AVal) (r : AVal) (i : Nat) : putV (.var i) vs r = vs.set i r := _root_.id rfl
theorem putT_tmp (r : AVal) : putT .tmp r = r := _root_.id rfl
theorem putT_no (r : AVal) : putT .no r = .bad := _root_.id rfl
theorem putT_var (r : AVal) (i : Nat) : putT (.var i) r = .bad := _root_.id rfl
theorem want_bool (vs ts : List AVal) (x : Opd) (b c : Bool) (hx : evOpd vs ts x = .bool c) : wantA (evOpd vs ts) (some (x, b)) = some (c == b) := by simp [wantA, hx]
def wantV : AVal → Bool → Option Bool
  | .bool c, b => some (c == b)
  | .tup [], _ => some false
  | _, _ => none
theorem want_V (vs ts : List AVal) (x : Opd) (b : Bool) : wantA (evOpd vs ts) (some (x, b)) = wantV (evOpd vs ts x) b := by
  simp only [wantA, wantV]
  cases evOpd vs ts x <;> first | rfl | skip
  rename_i l; cases l <;> rfl
theorem wantV_tt : wantV (.bool true) true = some true := rfl
theorem wantV_tf : wantV (.bool true) false = some false := rfl
theorem wantV_ft : wantV (.bool false) true = some false := rfl
theorem wantV_ff : wantV (.bool false) false = some true := rfl
theorem wantV_tup (b : Bool) : wantV (.tup []) b = some false := rfl
theorem XW_val {op : AOp} (hop : ∀ cf, execA cf op ev h = evalA op ev h) {f : Option AVal} (e : evalA op ev h = f.map (·, h)) : XW F op ev h K ↔ bindK f K h := by
  rw [XW_eval hop, e]
  simp only [Option.map_eq_some_iff, Prod.mk.injEq]
  constructor
  · rintro ⟨r, h', ⟨a, h1, rfl, rfl⟩, h2⟩; exact ⟨a, h1, h2⟩
  · rintro ⟨r, h1, h2⟩; exact ⟨r, h, ⟨r, h1, rfl, rfl⟩, h2⟩
theorem XW_heap {op : AOp} (hop : ∀ cf, execA cf op ev h = evalA op ev h) {p : Prop} [Decidable p] {v : AVal} {h1 : Heap} (e : evalA op ev h = if p then some (v, h1) else none) : XW F op ev h K ↔ p ∧ K v h1 := by
  rw [XW_eval hop, e]
  constructor
  · rintro ⟨r, h', he, q⟩
    split at he
    · rename_i hp
      simp only [Option.some.injEq, Prod.mk.injEq] at he
      obtain ⟨rfl, rfl⟩ := he
      exact ⟨hp, q⟩
    · simp at he
  · rintro ⟨hp, q⟩
    exact ⟨v, h1, if_pos hp, q⟩
theorem XW_mov {x : Opd} : XW F (.mov x) ev h K ↔ bindK (some (ev x)) K h := XW_val (fun _ => rfl) rfl
theorem XW_bin {op : BinOp} {bk : BK} {x y : Opd} : XW F (.bin op bk x y) ev h K ↔ bindK (binA op bk (ev x) (ev y)) K h := by
  exact XW_val (fun _ => rfl) rfl
theorem XW_un {op : UnOp} {x : Opd} : XW F (.un op x) ev h K ↔ bindK (unA op (ev x)) K h := by
  exact XW_val (fun _ => rfl) rfl
theorem XW_load {n : Nat} {ag : Bool} {x : Opd} : XW F (.load n ag x) ev h K ↔ bindK (loadA n ag (ev x) h) K h := by
  exact XW_val (fun _ => rfl) rfl
theorem XW_store {n : Nat} {a x : Opd} : XW F (.store n a x) ev h K ↔ bindH ((storeA n (ev a) (ev x) h).map fun h' => (.tup [], h')) K := by
  rw [XW_eval (fun _ => rfl)]
  rfl
def valA (op : AOp) (a b : AVal) (h : Heap) : Option AVal :=
  match op with
  | .len _ => (match a with
    | .sl xs _ => some (.int .i64 xs.length)
    | .ref _ _ n _ => some (.int .i64 n)
    | _ => none)
  | .slen _ => (match a with
    | .str s => some (.int .i64 s.length)
    | _ => none)
  | .faddr off _ => (match a with
    | .ptr i o => some (.ptr i (o + off))
    | .rp cs => some (.rp (cs.drop off))
    | _ => none)
  | .nilc _ => (match a with
    | .ptr i o => some (.ptr i o)
    | .rp cs => some (.rp cs)
    | .fn f c => some (.fn f c)
    | _ => none)
  | .iaddr sz _ _ => (match a, b with
    | .sl xs _, .int _ n => if 0 ≤ n ∧ n < xs.length then (match xs[n.toNat]? with
      | some y => if y.cells.length = sz then some (.rp y.cells) else none
      | none => none) else none
    | .ref id off len s, .int _ n => if 0 ≤ n ∧ n < len ∧ s = sz then some (.ptr id (off + n.toNat * sz)) else none
    | _, _ => none)
  | .ext _ i => (match a with
    | .tup vs => vs[i]?
    | _ => none)
  | _ => none
theorem XW_len {x : Opd} : XW F (.len x) ev h K ↔ bindK (valA (.len x) (ev x) .bad h) K h := by
  refine XW_val (fun _ => rfl) ?_
  simp only [evalA, valA]
  cases ev x <;> rfl
theorem XW_slen {x : Opd} : XW F (.slen x) ev h K ↔ bindK (valA (.slen x) (ev x) .bad h) K h := by
  refine XW_val (fun _ => rfl) ?_
  simp only [evalA, valA]
  cases ev x <;> rfl
theorem XW_faddr {x : Opd} {off : Nat} : XW F (.faddr off x) ev h K ↔ bindK (valA (.faddr off x) (ev x) .bad h) K h := by
  refine XW_val (fun _ => rfl) ?_
  simp only [evalA, valA]
  cases ev x <;> rfl
theorem XW_nilc {x : Opd} : XW F (.nilc x) ev h K ↔ bindK (valA (.nilc x) (ev x) .bad h) K h := by
  refine XW_val (fun _ => rfl) ?_
  simp only [evalA, valA]
  cases ev x <;> rfl
theorem XW_ext {x : Opd} {i : Nat} : XW F (.ext x i) ev h K ↔ bindK (valA (.ext x i) (ev x) .bad h) K h := by
  refine XW_val (fun _ => rfl) ?_
  simp only [evalA, valA]
  cases ev x <;> rfl
theorem XW_pick {c a b : Opd} : XW F (.pick c a b) ev h K ↔ condB (ev c) (fun t => K (if t then ev a else ev b) h) := by
  rw [XW_eval (fun _ => rfl)]; simp only [evalA]
  constructor
  · rintro ⟨r, h', e, q⟩
    split at e
    · rename_i t ht
      simp only [Option.some.injEq, Prod.mk.injEq] at e
      obtain ⟨rfl, rfl⟩ := e
      exact ⟨t, ht, q⟩
    · simp at e
  · rintro ⟨t, ht, q⟩
    exact ⟨_, _, by rw [ht], q⟩
theorem XW_alloc {ty sz : Nat} {ag : Bool} {z : List AVal} : XW F (.alloc ty sz ag z) ev h K ↔ (z.length = sz ∧ z.all AVal.one = true) ∧ K (.ptr h.next 0) (h.push (.row true (typed ty) ag z)) := by
  exact XW_heap (fun _ => rfl) rfl
theorem XW_box {sz : Nat} {ag : Bool} {x : Opd} : XW F (.box sz ag x) ev h K ↔ ((ev x).cells.length = sz ∧ (ev x).cells.all AVal.one = true) ∧ K (.ptr h.next 0) (h.push (.row true 0 ag (ev x).cells)) := by
  exact XW_heap (fun _ => rfl) rfl
theorem bin_lss (k : IntKind) (a b : Int) : binA .lss .arith (.int k a) (.int k b) = some (.bool (decide (a < b))) := by simp [binA, intBin]
theorem bin_leq (k : IntKind) (a b : Int) : binA .leq .arith (.int k a) (.int k b) = some (.bool (decide (a ≤ b))) := by simp [binA, intBin]
theorem bin_gtr (k : IntKind) (a b : Int) : binA .gtr .arith (.int k a) (.int k b) = some (.bool (decide (b < a))) := by simp [binA, intBin]
theorem bin_geq (k : IntKind) (a b : Int) : binA .geq .arith (.int k a) (.int k b) = some (.bool (decide (b ≤ a))) := by simp [binA, intBin]
theorem bin_eql (k : IntKind) (a b : Int) : binA .eql .arith (.int k a) (.int k b) = some (.bool (decide (a = b))) := by simp [binA, intBin]; by_cases e : a = b <;> simp [e]
theorem bin_neq (k : IntKind) (a b : Int) : binA .neq .arith (.int k a) (.int k b) = some (.bool (decide (a ≠ b))) := by simp [binA, intBin]; by_cases e : a = b <;> simp [e]
theorem bin_add (a b : Int) : binA .add .arith (.int .i64 a) (.int .i64 b) = some (.int .i64 (IntKind.i64.wrap (a + b))) := by simp [binA, intBin]
theorem bin_sub (a b : Int) : binA .sub .arith (.int .i64 a) (.int .i64 b) = some (.int .i64 (IntKind.i64.wrap (a - b))) := by simp [binA, intBin]
theorem bin_mul (a b : Int) : binA .mul .arith (.int .i64 a) (.int .i64 b) = some (.int .i64 (IntKind.i64.wrap (a * b))) := by simp [binA, intBin]
theorem bin_eql_s (a b : List UInt8) : binA .eql .arith (.str a) (.str b) = some (.bool (decide (a = b))) := by simp [binA, strBin]; by_cases e : a = b <;> simp [e]
theorem bin_neq_s (a b : List UInt8) : binA .neq .arith (.str a) (.str b) = some (.bool (decide (a ≠ b))) := by simp [binA, strBin]; by_cases e : a = b <;> simp [e]
theorem bin_rem (a b : Int) (hb : b ≠ 0) : binA .rem .arith (.int .i64 a) (.int .i64 b) = some (.int .i64 (a.tmod b)) := by simp [binA, intBin, hb]
theorem bin_quo (a b : Int) (hb : b ≠ 0) : binA .quo .arith (.int .i64 a) (.int .i64 b) = some (.int .i64 (IntKind.i64.wrap (a.tdiv b))) := by simp [binA, intBin, hb]
theorem un_neg (a : Int) : unA .neg (.int .i64 a) = some (.int .i64 (IntKind.i64.wrap (-a))) := by simp [unA]
theorem un_not (a : Bool) : unA .not (.bool a) = some (.bool (!a)) := _root_.id rfl
theorem load_rp (n : Nat) (ag : Bool) (cs : List AVal) (h : Heap) : loadA n ag (.rp cs) h = if n ≤ cs.length then mk ag (cs.take n) else none := _root_.id rfl
theorem load_top (n off s : Nat) (ag mu a : Bool) (cs : List AVal) (h : Heap) : loadA n ag (.ptr h.next off) (h.push (.row mu s a cs)) = if off + n ≤ cs.length then mk ag ((cs.drop off).take n) else none := by simp [loadA, get_push]
theorem store_top (n off s : Nat) (a : Bool) (cs : List AVal) (x : AVal) (h : Heap) : storeA n (.ptr h.next off) x (h.push (.row true s a cs)) = if x.cells.length = n ∧ off + n ≤ cs.length ∧ x.cells.all AVal.one then some (h.push (.row true s a (setCells cs off x.cells))) else none := by
  simp only [storeA, get_push, put_push]
theorem mk_f (c : AVal) : mk false [c] = some c := _root_.id rfl
theorem mk_t (cs : List AVal) : mk true cs = some (.agg cs) := _root_.id rfl
theorem len_sl (x : Opd) (xs : List AVal) (t : Tok) (h : Heap) (b : AVal) : valA (.len x) (.sl xs t) b h = some (.int .i64 xs.length) := _root_.id rfl
theorem len_ref (x : Opd) (id off n sz : Nat) (h : Heap) (b : AVal) : valA (.len x) (.ref id off n sz) b h = some (.int .i64 n) := _root_.id rfl
theorem slen_str (x : Opd) (s : List UInt8) (h : Heap) (b : AVal) : valA (.slen x) (.str s) b h = some (.int .i64 s.length) := _root_.id rfl
theorem faddr_rp (x : Opd) (off : Nat) (cs : List AVal) (h : Heap) (b : AVal) : valA (.faddr off x) (.rp cs) b h = some (.rp (cs.drop off)) := _root_.id rfl
theorem faddr_ptr (x : Opd) (off i o : Nat) (h : Heap) (b : AVal) : valA (.faddr off x) (.ptr i o) b h = some (.ptr i (o + off)) := _root_.id rfl
theorem nilc_ptr (x : Opd) (i o : Nat) (h : Heap) (b : AVal) : valA (.nilc x) (.ptr i o) b h = some (.ptr i o) := _root_.id rfl
theorem nilc_fn (x : Opd) (f : Nat) (c : List AVal) (h : Heap) (b : AVal) : valA (.nilc x) (.fn f c) b h = some (.fn f c) := _root_.id rfl
theorem ext_tup (x : Opd) (i : Nat) (vs : List AVal) (h : Heap) (b : AVal) : valA (.ext x i) (.tup vs) b h = vs[i]? := _root_.id rfl
theorem XW_iaddr {sz : Nat} {x i : Opd} : XW F (.iaddr sz x i) ev h K ↔ bindK (valA (.iaddr sz x i) (ev x) (ev i) h) K h := by
  refine XW_val (fun _ => rfl) ?_
  simp only [evalA, valA]
  cases ev x <;> cases ev i <;> first | rfl | skip
  · rename_i xs tk k n
    by_cases h0 : 0 ≤ n ∧ n < xs.length
    · simp only [h0, and_self, if_true]
      cases xs[n.toNat]? with
      | none => rfl
      | some y => by_cases h1 : y.cells.length = sz <;> simp [h1]
    · simp only [h0, if_false]; rfl
  · rename_i id off len s k n
    by_cases h0 : 0 ≤ n ∧ n < len ∧ s = sz
    · simp only [h0, and_self, if_true]; rfl
    · simp only [h0, if_false]; rfl
theorem iaddr_sl (x i : Opd) {sz : Nat} {xs : List AVal} {t : Tok} {k : IntKind} {n : Int} {y : AVal} (h : Heap) (h0 : 0 ≤ n) (hy : xs[n.toNat]? = some y) : valA (.iaddr sz x i) (.sl xs t) (.int k n) h = if y.cells.length = sz then some (.rp y.cells) else none := by
  have hlt := (List.getElem?_eq_some_iff.1 hy).1
  simp only [valA]; rw [if_pos ⟨h0, by omega⟩]; simp only [hy]
theorem iaddr_ref (x i : Opd) {sz id off len s : Nat} {k : IntKind} {n : Int} (h : Heap) (h0 : 0 ≤ n) (hy : n < len) : valA (.iaddr sz x i) (.ref id off len s) (.int k n) h = if s = sz then some (.ptr id (off + n.toNat * sz)) else none := by
  simp only [valA, h0, hy, true_and]
theorem stripL_nil : stripL [] = some [] := rfl
theorem stripL_cons (x : AVal) (xs : List AVal) {y : AVal} {ys : List AVal} (h1 : strip x = some y) (h2 : stripL xs = some ys) : stripL (x :: xs) = some (y :: ys) := by simp only [stripL, h1, h2]
def sc (o : Option AVal) (p : Option (List AVal)) : Option (List AVal) := match o, p with
  | some y, some ys => some (y :: ys)
  | _, _ => none
theorem stripL_sc (x : AVal) (xs : List AVal) : stripL (x :: xs) = sc (strip x) (stripL xs) := by
  rfl
theorem sc_some (y : AVal) (ys : List AVal) : sc (some y) (some ys) = some (y :: ys) := rfl
theorem sc_none (p : Option (List AVal)) : sc none p = none := rfl
theorem sc_none' (y : AVal) : sc (some y) none = none := rfl
theorem st_int (k : IntKind) (n : Int) : strip (.int k n) = some (.int k n) := rfl
theorem st_bool (b : Bool) : strip (.bool b) = some (.bool b) := rfl
theorem st_str (s : List UInt8) : strip (.str s) = some (.str s) := rfl
theorem st_none (xs : List AVal) : strip (.sl xs .none) = some (.sl xs .none) := rfl
theorem st_nil (xs : List AVal) : strip (.sl xs .nil) = some (.sl xs .nil) := rfl
theorem st_own (xs : List AVal) (id sz : Nat) : strip (.sl xs (.own id sz)) = some (.sl xs .none) := rfl
theorem st_ref (a b c d : Nat) : strip (.ref a b c d) = none := rfl
theorem st_agg (cs : List AVal) : strip (.agg cs) = (stripL cs).map .agg := by simp only [strip]
theorem map_some' (cs : List AVal) : (some cs).map AVal.agg = some (.agg cs) := rfl
theorem pu_int (h : Heap) (k : IntKind) (n : Int) : purify h (.int k n) = some (.int k n) := rfl
theorem pu_bool (h : Heap) (b : Bool) : purify h (.bool b) = some (.bool b) := rfl
theorem pu_str (h : Heap) (s : List UInt8) : purify h (.str s) = some (.str s) := rfl
theorem pu_none (h : Heap) (xs : List AVal) : purify h (.sl xs .none) = some (.sl xs .none) := rfl
theorem pu_nil (h : Heap) (xs : List AVal) : purify h (.sl xs .nil) = some (.sl xs .nil) := rfl
theorem pu_own (h : Heap) (xs : List AVal) (id sz : Nat) : purify h (.sl xs (.own id sz)) = some (.sl xs .none) := rfl
end Go.Abs
