/-
  Merged from JsTab_Tryz JsLays_Tryz DkHand JsHand AbsRules AbsSim: The functions that the statements reach, translated for the abstract machine, and that this is what the translation gives.
-/
import Derived.Test.YtjofjgflcogklaaGreatDoorM02
import Derived.Test.YtjofjgflcogklaaGreatDoorProg
import Derived.KernelRfl
import Derived.Shelf.SlIterI.Nil
import Derived.Shelf.SortM.Plain
import Derived.Shelf.SortM.SortNone
import Derived.Shelf.Strings.Repeat
import Derived.Test.YtjofjgflcogklaaGreatDoorM01
import Derived.Shelf.SlMaps.Clone
import Derived.IntWalk
set_option linter.unusedSimpArgs false
set_option linter.unusedVariables false
set_option linter.defProp false
set_option linter.constructorNameAsVariable false
/-
  The functions that the statements reach, translated for the abstract machine, and that this is what the translation gives.
-/
set_option maxRecDepth 100000
namespace Go.Proofs.YtjofjgflcogklaaGreatDoor
open Go Go.Abs
def oT (o : AOp) : AOper := ⟨.tmp, o, .none⟩
def oN (o : AOp) : AOper := ⟨.no, o, .none⟩
def oV (i : Nat) (o : AOp) : AOper := ⟨.var i, o, .none⟩
def oG (k : Nat) (b : Bool) (o : AOp) : AOper := ⟨.tmp, o, some (.t k, b)⟩
def oW (i k : Nat) (b : Bool) (o : AOp) : AOper := ⟨.var i, o, some (.t k, b)⟩
def shaK : List AVal := [.int .u32 1116352408, .int .u32 1899447441, .int .u32 3049323471, .int .u32 3921009573, .int .u32 961987163, .int .u32 1508970993, .int .u32 2453635748, .int .u32 2870763221, .int .u32 3624381080, .int .u32 310598401, .int .u32 607225278, .int .u32 1426881987, .int .u32 1925078388, .int .u32 2162078206, .int .u32 2614888103, .int .u32 3248222580, .int .u32 3835390401, .int .u32 4022224774, .int .u32 264347078, .int .u32 604807628, .int .u32 770255983, .int .u32 1249150122, .int .u32 1555081692, .int .u32 1996064986, .int .u32 2554220882, .int .u32 2821834349, .int .u32 2952996808, .int .u32 3210313671, .int .u32 3336571891, .int .u32 3584528711, .int .u32 113926993, .int .u32 338241895, .int .u32 666307205, .int .u32 773529912, .int .u32 1294757372, .int .u32 1396182291, .int .u32 1695183700, .int .u32 1986661051, .int .u32 2177026350, .int .u32 2456956037, .int .u32 2730485921, .int .u32 2820302411, .int .u32 3259730800, .int .u32 3345764771, .int .u32 3516065817, .int .u32 3600352804, .int .u32 4094571909, .int .u32 275423344, .int .u32 430227734, .int .u32 506948616, .int .u32 659060556, .int .u32 883997877, .int .u32 958139571, .int .u32 1322822218, .int .u32 1537002063, .int .u32 1747873779, .int .u32 1955562222, .int .u32 2024104815, .int .u32 2227730452, .int .u32 2361852424, .int .u32 2428436474, .int .u32 2756734187, .int .u32 3204031479, .int .u32 3329325298]
def hints : Hints := ⟨fun f s => (f == 9 && s == 28) || (f == 33 && s == 28), fun f s => (f == 61 && s == 7) || (f == 62 && s == 7) || (f == 94 && s == 11), fun _ _ => false, fun f => [16, 18, 20, 23, 27, 29, 39, 40, 41, 49, 50, 51, 54, 55, 56, 57, 60, 75, 76, 77, 78, 79, 80, 92, 93, 94, 96, 102, 104, 105, 106, 110, 111, 123].contains f, fun _ => false, fun f r => if f == 5 && r == 12 then [0, 2, 3, 5, 1, 4, 6, 7, 8, 9, 10] else if f == 14 && r == 3 then [0, 2, 3, 4, 5, 1, 6, 7, 8, 10, 11, 12, 13, 9, 14, 15, 16, 17, 18, 19, 20, 21, 22, 23, 24, 26, 27, 28, 29, 25, 30, 31, 32, 33, 35, 36, 37, 38, 34, 39, 40, 41, 42, 43, 44, 45, 46, 47, 48] else if f == 38 && r == 1 then [0, 1, 2, 3, 5, 6, 7, 8, 4, 9, 10] else if f == 59 && r == 1 then [0, 1, 2, 3, 5, 6, 7, 8, 4, 9, 10] else [], fun f => [19, 21, 22, 24, 36, 37, 38, 42, 47, 52, 58, 59, 64].contains f, fun g => if g = 2 then some shaK else if g = 0 then some shaK else none, fun f r => if f == 6 && r == 32 then some ([(5, 8), (5, 10)], [[0, 1, 2, 3, 4, 5, 6, 7, 8, 9, 10, 11, 12], [0, 1, 2, 3, 4, 6, 7, 9, 10, 5, 8, 11, 12], [0, 1, 2, 3, 4, 6, 7, 8, 5, 9, 10, 11, 12], [0, 1, 2, 3, 4, 6, 7, 8, 9, 10, 5, 11, 12]]) else if f == 6 && r == 35 then some ([(3, 6)], [[0, 1, 2, 3, 4, 5, 6, 7, 8], [0, 1, 2, 4, 5, 6, 3, 7, 8]]) else none⟩
def c6 : AFunc := ⟨[0, 1, 4, 5, 6, 7, 8, 9, 10, 11, 12, 14, 15, 16, 17, 18, 25, 43, 68, 69, 70, 71, 72, 76, 77, 84, 106, 107, 117, 139, 140, 154, 155, 165, 180], (.seq (.ops [oV 2 (.mov (.c (.bool false)))]) (.seq (.seq (.ops [oT (.mov (.v 0)), oT (.bin .gtr .arith (.t 0) (.c (.int .i64 200))), oT (.mov (.t 1)), oG 2 false (.mov (.v 1)), oG 2 false (.pcall 29 [(.t 3)]), oG 2 false (.un .not (.t 4)), oV 16 (.pick (.t 2) (.c (.bool true)) (.t 5))]) (.cond (.v 16) (.seq (.ops [oT (.call (.c (.fn 7 [])) []), oV 2 (.mov (.t 0))]) .ret) .skip)) (.seq (.ops [oT (.mov (.v 0)), oT (.call (.c (.fn 8 [])) [(.t 0)]), oT (.mov (.t 1)), oT (.ext (.t 2) 0), oT (.ext (.t 2) 1), oV 3 (.mov (.t 3)), oV 4 (.mov (.t 4))]) (.seq (.ops [oT (.mov (.v 0)), oT (.call (.c (.fn 9 [])) [(.t 0)]), oT (.mov (.t 1)), oT (.ext (.t 2) 0), oT (.ext (.t 2) 1), oV 5 (.mov (.t 3)), oV 6 (.mov (.t 4))]) (.seq (.seq (.ops [oT (.mov (.v 4)), oT (.mov (.v 6)), oT (.bin .neq .arith (.t 0) (.t 1)), oT (.mov (.t 2)), oG 3 false (.mov (.v 4)), oG 3 false (.bin .neq .arith (.t 4) (.c (.int .i64 0))), oV 17 (.pick (.t 3) (.c (.bool true)) (.t 5))]) (.cond (.v 17) (.seq (.ops [oT (.call (.c (.fn 7 [])) []), oT (.mov (.t 0)), oG 1 true (.mov (.v 4)), oG 1 true (.mov (.v 6)), oG 1 true (.bin .eql .arith (.t 2) (.t 3)), oT (.pick (.t 1) (.t 4) (.c (.bool false))), oV 2 (.mov (.t 5))]) .ret) .skip)) (.seq (.ops [oT (.mov (.v 3)), oT (.call (.c (.fn 12 [])) [(.t 0)]), oT (.mov (.t 1)), oT (.ext (.t 2) 0), oT (.ext (.t 2) 1), oV 7 (.mov (.t 3)), oV 8 (.mov (.t 4))]) (.seq (.ops [oT (.mov (.v 5)), oT (.call (.c (.fn 13 [])) [(.t 0)]), oT (.mov (.t 1)), oT (.ext (.t 2) 0), oT (.ext (.t 2) 1), oV 9 (.mov (.t 3)), oV 10 (.mov (.t 4))]) (.seq (.seq (.ops [oT (.mov (.v 8)), oT (.mov (.v 10)), oT (.bin .neq .arith (.t 0) (.t 1)), oT (.mov (.t 2)), oG 3 false (.mov (.v 7)), oG 3 false (.mov (.v 9)), oG 3 false (.call (.c (.fn 14 [])) [(.t 4), (.t 5)]), oG 3 false (.un .not (.t 6)), oV 18 (.pick (.t 3) (.c (.bool true)) (.t 7))]) (.cond (.v 18) (.seq (.ops [oV 2 (.mov (.c (.bool false)))]) .ret) .skip)) (.seq (.seq (.ops [oV 19 (.mov (.v 1)), oV 20 (.len (.v 19)), oV 21 (.mov (.c (.int .i64 0)))]) (.block 0 (.loop (.seq (.ops [oV 22 (.bin .lss .arith (.v 21) (.v 20))]) (.seq (.cond (.v 22) .skip (.exit 0)) (.seq (.block 1 (.seq (.ops [oT (.iaddr 6 (.v 19) (.v 21)), oT (.load 6 true (.t 0)), oV 11 (.alloc 56 6 true [(.int .i64 0), (.int .i64 0), (.int .i64 0), (.int .i64 0), (.int .u8 0), (.sl [] .nil)]), oN (.store 6 (.v 11) (.t 1))]) (.seq (.seq (.ops [oT (.faddr 0 (.v 11)), oV 23 (.load 1 false (.t 0))]) (.block 2 (.seq (.ops [oT (.bin .eql .arith (.v 23) (.c (.int .i64 1))), oV 24 (.mov (.t 0))]) (.cond (.v 24) (.seq (.seq (.ops [oT (.mov (.v 7)), oT (.bin .eql .ptr (.t 0) (.c .nilptr)), oT (.mov (.t 1)), oG 2 false (.mov (.v 9)), oG 2 false (.bin .eql .ptr (.t 3) (.c .nilptr)), oV 25 (.pick (.t 2) (.c (.bool true)) (.t 4))]) (.cond (.v 25) (.exit 1) .skip)) (.seq (.ops [oT (.mov (.v 7)), oT (.load 6 true (.v 11)), oT (.pcall 27 [(.t 1)]), oT (.call (.c (.fn 26 [])) [(.t 0), (.t 2)]), oT (.mov (.t 3)), oT (.ext (.t 4) 0), oT (.ext (.t 4) 1), oV 12 (.mov (.t 5)), oV 13 (.mov (.t 6))]) (.seq (.ops [oT (.mov (.v 9)), oT (.load 6 true (.v 11)), oT (.pcall 27 [(.t 1)]), oT (.call (.c (.fn 30 [])) [(.t 0), (.t 2)]), oT (.mov (.t 3)), oT (.ext (.t 4) 0), oT (.ext (.t 4) 1), oV 14 (.mov (.t 5)), oV 15 (.mov (.t 6))]) (.seq (.ops [oT (.mov (.v 12)), oT (.mov (.v 14)), oT (.bin .neq .arith (.t 0) (.t 1)), oT (.mov (.t 2)), oG 3 false (.mov (.v 13)), oG 3 false (.mov (.v 15)), oG 3 false (.bin .neq .arith (.t 4) (.t 5)), oV 26 (.pick (.t 3) (.c (.bool true)) (.t 6))]) (.cond (.v 26) (.seq (.ops [oV 2 (.mov (.c (.bool false)))]) .ret) .skip))))) (.seq (.ops [oT (.bin .eql .arith (.v 23) (.c (.int .i64 2))), oV 27 (.mov (.t 0))]) (.cond (.v 27) (.seq (.ops [oT (.mov (.v 3)), oT (.faddr 1 (.v 11)), oT (.load 1 false (.t 1)), oT (.call (.c (.fn 25 [])) [(.t 0), (.t 2)])]) (.ops [oT (.mov (.v 5)), oT (.faddr 1 (.v 11)), oT (.load 1 false (.t 1)), oT (.call (.c (.fn 31 [])) [(.t 0), (.t 2)])])) (.seq (.ops [oT (.bin .eql .arith (.v 23) (.c (.int .i64 3))), oV 28 (.mov (.t 0))]) (.cond (.v 28) (.seq (.ops [oT (.mov (.v 3)), oT (.faddr 5 (.v 11)), oT (.load 1 false (.t 1)), oT (.call (.c (.fn 28 [])) [(.t 0), (.t 2)])]) (.seq (.ops [oT (.mov (.v 5)), oT (.faddr 5 (.v 11)), oT (.load 1 false (.t 1)), oT (.call (.c (.fn 32 [])) [(.t 0), (.t 2)])]) (.seq (.ops [oT (.mov (.v 3)), oT (.call (.c (.fn 12 [])) [(.t 0)]), oT (.mov (.t 1)), oT (.ext (.t 2) 0), oT (.ext (.t 2) 1), oV 7 (.mov (.t 3)), oV 8 (.mov (.t 4))]) (.seq (.ops [oT (.mov (.v 5)), oT (.call (.c (.fn 13 [])) [(.t 0)]), oT (.mov (.t 1)), oT (.ext (.t 2) 0), oT (.ext (.t 2) 1), oV 9 (.mov (.t 3)), oV 10 (.mov (.t 4))]) (.seq (.ops [oT (.mov (.v 8)), oT (.mov (.v 10)), oV 29 (.bin .neq .arith (.t 0) (.t 1))]) (.cond (.v 29) (.seq (.ops [oV 2 (.mov (.c (.bool false)))]) .ret) .skip)))))) (.seq (.ops [oT (.bin .eql .arith (.v 23) (.c (.int .i64 4))), oV 30 (.mov (.t 0))]) (.cond (.v 30) (.seq (.alts [[oT (.mov (.v 3)), oT (.faddr 1 (.v 11)), oT (.load 1 false (.t 1)), oT (.faddr 2 (.v 11)), oT (.load 1 false (.t 3)), oT (.call (.c (.fn 17 [])) [(.t 0), (.t 2), (.t 4)]), oT (.mov (.v 5)), oT (.faddr 1 (.v 11)), oT (.load 1 false (.t 7)), oT (.faddr 2 (.v 11)), oT (.load 1 false (.t 9)), oT (.call (.c (.fn 33 [])) [(.t 6), (.t 8), (.t 10)]), oV 31 (.bin .neq .arith (.t 5) (.t 11))], [oT (.mov (.v 3)), oT (.faddr 1 (.v 11)), oT (.load 1 false (.t 1)), oT (.faddr 2 (.v 11)), oT (.load 1 false (.t 3)), oT (.mov (.v 5)), oT (.faddr 1 (.v 11)), oT (.faddr 2 (.v 11)), oT (.load 1 false (.t 7)), oT (.call (.c (.fn 17 [])) [(.t 0), (.t 2), (.t 4)]), oT (.load 1 false (.t 6)), oT (.call (.c (.fn 33 [])) [(.t 5), (.t 10), (.t 8)]), oV 31 (.bin .neq .arith (.t 9) (.t 11))], [oT (.mov (.v 3)), oT (.faddr 1 (.v 11)), oT (.load 1 false (.t 1)), oT (.faddr 2 (.v 11)), oT (.load 1 false (.t 3)), oT (.mov (.v 5)), oT (.faddr 1 (.v 11)), oT (.load 1 false (.t 6)), oT (.call (.c (.fn 17 [])) [(.t 0), (.t 2), (.t 4)]), oT (.faddr 2 (.v 11)), oT (.load 1 false (.t 9)), oT (.call (.c (.fn 33 [])) [(.t 5), (.t 7), (.t 10)]), oV 31 (.bin .neq .arith (.t 8) (.t 11))], [oT (.mov (.v 3)), oT (.faddr 1 (.v 11)), oT (.load 1 false (.t 1)), oT (.faddr 2 (.v 11)), oT (.load 1 false (.t 3)), oT (.mov (.v 5)), oT (.faddr 1 (.v 11)), oT (.load 1 false (.t 6)), oT (.faddr 2 (.v 11)), oT (.load 1 false (.t 8)), oT (.call (.c (.fn 17 [])) [(.t 0), (.t 2), (.t 4)]), oT (.call (.c (.fn 33 [])) [(.t 5), (.t 7), (.t 9)]), oV 31 (.bin .neq .arith (.t 10) (.t 11))]]) (.cond (.v 31) (.seq (.ops [oV 2 (.mov (.c (.bool false)))]) .ret) .skip)) (.seq (.ops [oT (.bin .eql .arith (.v 23) (.c (.int .i64 5))), oV 32 (.mov (.t 0))]) (.cond (.v 32) (.seq (.alts [[oT (.mov (.v 3)), oT (.faddr 1 (.v 11)), oT (.load 1 false (.t 1)), oT (.call (.c (.fn 34 [])) [(.t 0), (.t 2)]), oT (.mov (.v 5)), oT (.faddr 1 (.v 11)), oT (.load 1 false (.t 5)), oT (.call (.c (.fn 35 [])) [(.t 4), (.t 6)]), oV 33 (.bin .neq .arith (.t 3) (.t 7))], [oT (.mov (.v 3)), oT (.faddr 1 (.v 11)), oT (.load 1 false (.t 1)), oT (.mov (.v 5)), oT (.faddr 1 (.v 11)), oT (.load 1 false (.t 4)), oT (.call (.c (.fn 34 [])) [(.t 0), (.t 2)]), oT (.call (.c (.fn 35 [])) [(.t 3), (.t 5)]), oV 33 (.bin .neq .arith (.t 6) (.t 7))]]) (.cond (.v 33) (.seq (.ops [oV 2 (.mov (.c (.bool false)))]) .ret) .skip)) .skip)))))))))))) (.seq (.ops [oT (.mov (.v 9)), oT (.bin .neq .ptr (.t 0) (.c .nilptr)), oT (.mov (.t 1)), oG 2 true (.mov (.v 9)), oG 2 true (.nilc (.t 3)), oG 2 true (.faddr 6 (.t 4)), oG 2 true (.load 1 false (.t 5)), oG 2 true (.un .not (.t 6)), oT (.pick (.t 2) (.t 7) (.c (.bool false))), oT (.mov (.t 8)), oG 9 true (.mov (.v 7)), oG 9 true (.mov (.v 9)), oG 9 true (.call (.c (.fn 14 [])) [(.t 10), (.t 11)]), oG 9 true (.un .not (.t 12)), oV 34 (.pick (.t 9) (.t 13) (.c (.bool false)))]) (.cond (.v 34) (.seq (.ops [oV 2 (.mov (.c (.bool false)))]) .ret) .skip))))) (.ops [oT (.bin .add .arith (.v 21) (.c (.int .i64 1))), oV 21 (.mov (.t 0))]))))))) (.seq (.ops [oT (.call (.c (.fn 7 [])) []), oT (.mov (.t 0)), oG 1 true (.mov (.v 3)), oG 1 true (.gcall 19 [(.t 2)]), oG 1 true (.mov (.v 5)), oG 1 true (.gcall 36 [(.t 4)]), oG 1 true (.pcall 20 [(.t 3), (.t 5)]), oT (.pick (.t 1) (.t 6) (.c (.bool false))), oV 2 (.mov (.t 7))]) .ret)))))))))), [.v 2], []⟩
def c7 : AFunc := ⟨[0, 1, 2, 3, 4, 5, 6, 7, 8, 9, 10, 11, 12, 13, 14, 16, 17, 18, 19, 20, 21, 22, 23, 33, 54, 104, 137], (.seq (.ops [oV 0 (.mov (.c (.bool false)))]) (.seq (.ops [oT (.call (.c (.fn 8 [])) [(.c (.int .i64 4))]), oT (.mov (.t 0)), oT (.ext (.t 1) 0), oT (.ext (.t 1) 1), oV 1 (.mov (.t 2)), oV 2 (.mov (.t 3))]) (.seq (.seq (.ops [oT (.mov (.v 2)), oT (.bin .neq .arith (.t 0) (.c (.int .i64 0))), oT (.mov (.t 1)), oG 2 false (.mov (.v 1)), oG 2 false (.bin .eql .ptr (.t 3) (.c .nilptr)), oV 23 (.pick (.t 2) (.c (.bool true)) (.t 4))]) (.cond (.v 23) (.seq (.ops [oV 0 (.mov (.c (.bool false)))]) .ret) .skip)) (.seq (.ops [oT (.mov (.v 1)), oT (.call (.c (.fn 12 [])) [(.t 0)]), oT (.mov (.t 1)), oT (.ext (.t 2) 0), oT (.ext (.t 2) 1), oV 3 (.mov (.t 3)), oV 4 (.mov (.t 4))]) (.seq (.seq (.ops [oT (.mov (.v 4)), oT (.bin .neq .arith (.t 0) (.c (.int .i64 0))), oT (.mov (.t 1)), oG 2 false (.mov (.v 3)), oG 2 false (.bin .eql .ptr (.t 3) (.c .nilptr)), oT (.pick (.t 2) (.c (.bool true)) (.t 4)), oT (.mov (.t 5)), oG 6 false (.mov (.v 3)), oG 6 false (.gcall 37 [(.t 7)]), oG 6 false (.bin .neq .arith (.t 8) (.c (.int .i64 1))), oT (.pick (.t 6) (.c (.bool true)) (.t 9)), oT (.mov (.t 10)), oG 11 false (.mov (.v 3)), oG 11 false (.gcall 38 [(.t 12)]), oG 11 false (.bin .neq .arith (.t 13) (.c (.int .i64 4))), oV 24 (.pick (.t 11) (.c (.bool true)) (.t 14))]) (.cond (.v 24) (.seq (.ops [oV 0 (.mov (.c (.bool false)))]) .ret) .skip)) (.seq (.ops [oT (.mov (.v 3)), oT (.call (.c (.fn 26 [])) [(.t 0), (.c (.str [97]))]), oT (.mov (.t 1)), oT (.ext (.t 2) 0), oT (.ext (.t 2) 1), oV 5 (.mov (.t 3)), oV 6 (.mov (.t 4))]) (.seq (.ops [oT (.mov (.v 3)), oT (.pcall 39 [(.c (.str [120])), (.c (.int .i64 50))]), oT (.call (.c (.fn 26 [])) [(.t 0), (.t 1)]), oT (.mov (.t 2)), oT (.ext (.t 3) 0), oT (.ext (.t 3) 1), oV 7 (.mov (.t 4)), oV 8 (.mov (.t 5))]) (.seq (.ops [oT (.mov (.v 3)), oT (.gcall 38 [(.t 0)]), oV 9 (.mov (.t 1))]) (.seq (.ops [oT (.mov (.v 1)), oT (.call (.c (.fn 17 [])) [(.t 0), (.c (.int .i64 1)), (.c (.int .i64 70))]), oV 10 (.mov (.t 1))]) (.seq (.ops [oT (.mov (.v 1)), oT (.call (.c (.fn 12 [])) [(.t 0)]), oT (.mov (.t 1)), oT (.ext (.t 2) 0), oT (.ext (.t 2) 1), oV 11 (.mov (.t 3)), oV 12 (.mov (.t 4))]) (.seq (.seq (.ops [oT (.mov (.v 5)), oT (.bin .neq .arith (.t 0) (.c (.int .i64 1))), oT (.mov (.t 1)), oG 2 false (.mov (.v 6)), oG 2 false (.bin .neq .arith (.t 3) (.c (.int .i64 0))), oT (.pick (.t 2) (.c (.bool true)) (.t 4)), oT (.mov (.t 5)), oG 6 false (.mov (.v 7)), oG 6 false (.bin .neq .arith (.t 7) (.c (.int .i64 2))), oT (.pick (.t 6) (.c (.bool true)) (.t 8)), oT (.mov (.t 9)), oG 10 false (.mov (.v 8)), oG 10 false (.bin .neq .arith (.t 11) (.c (.int .i64 0))), oT (.pick (.t 10) (.c (.bool true)) (.t 12)), oT (.mov (.t 13)), oG 14 false (.mov (.v 9)), oG 14 false (.bin .neq .arith (.t 15) (.c (.int .i64 1))), oT (.pick (.t 14) (.c (.bool true)) (.t 16)), oT (.mov (.t 17)), oG 18 false (.mov (.v 10)), oG 18 false (.bin .neq .arith (.t 19) (.c (.int .i64 0))), oT (.pick (.t 18) (.c (.bool true)) (.t 20)), oT (.mov (.t 21)), oG 22 false (.mov (.v 12)), oG 22 false (.bin .neq .arith (.t 23) (.c (.int .i64 0))), oT (.pick (.t 22) (.c (.bool true)) (.t 24)), oT (.mov (.t 25)), oG 26 false (.mov (.v 11)), oG 26 false (.bin .eql .ptr (.t 27) (.c .nilptr)), oV 25 (.pick (.t 26) (.c (.bool true)) (.t 28))]) (.cond (.v 25) (.seq (.ops [oV 0 (.mov (.c (.bool false)))]) .ret) .skip)) (.seq (.ops [oT (.mov (.v 11)), oT (.call (.c (.fn 26 [])) [(.t 0), (.c (.str [98]))]), oT (.mov (.t 1)), oT (.ext (.t 2) 0), oT (.ext (.t 2) 1), oV 13 (.mov (.t 3)), oV 14 (.mov (.t 4))]) (.seq (.ops [oT (.mov (.v 11)), oT (.call (.c (.fn 26 [])) [(.t 0), (.c (.str [99]))]), oT (.mov (.t 1)), oT (.ext (.t 2) 0), oT (.ext (.t 2) 1), oT (.mov (.t 3)), oV 15 (.mov (.t 4))]) (.seq (.ops [oT (.pcall 40 [(.c (.int .i64 1)), (.c (.str [97]))]), oT (.mov (.t 0)), oT (.ext (.t 1) 0), oT (.ext (.t 1) 1), oV 16 (.mov (.t 2)), oV 17 (.mov (.t 3))]) (.seq (.seq (.ops [oT (.mov (.v 13)), oT (.bin .neq .arith (.t 0) (.c (.int .i64 3))), oT (.mov (.t 1)), oG 2 false (.mov (.v 14)), oG 2 false (.bin .neq .arith (.t 3) (.c (.int .i64 0))), oT (.pick (.t 2) (.c (.bool true)) (.t 4)), oT (.mov (.t 5)), oG 6 false (.mov (.v 15)), oG 6 false (.bin .neq .arith (.t 7) (.c (.int .i64 20))), oT (.pick (.t 6) (.c (.bool true)) (.t 8)), oT (.mov (.t 9)), oG 10 false (.mov (.v 16)), oG 10 false (.len (.t 11)), oG 10 false (.bin .neq .arith (.t 12) (.c (.int .i64 1))), oT (.pick (.t 10) (.c (.bool true)) (.t 13)), oT (.mov (.t 14)), oG 15 false (.mov (.v 17)), oG 15 false (.bin .neq .arith (.t 16) (.c (.int .i64 0))), oV 26 (.pick (.t 15) (.c (.bool true)) (.t 17))]) (.cond (.v 26) (.seq (.ops [oV 0 (.mov (.c (.bool false)))]) .ret) .skip)) (.seq (.ops [oT (.mov (.v 16)), oT (.iaddr 1 (.t 0) (.c (.int .i64 0))), oT (.load 1 false (.t 1)), oT (.pcall 41 [(.t 2)]), oT (.mov (.t 3)), oT (.ext (.t 4) 0), oT (.ext (.t 4) 1), oT (.ext (.t 4) 2), oT (.ext (.t 4) 3), oT (.ext (.t 4) 4), oV 18 (.mov (.t 5)), oV 19 (.mov (.t 6)), oV 20 (.mov (.t 7)), oV 21 (.mov (.t 8)), oV 22 (.mov (.t 9))]) (.seq (.ops [oT (.mov (.v 11)), oT (.gcall 42 [(.t 0)]), oT (.lit 0 3 2 1 false [(.int .i64 0)] [(0, (.c (.int .i64 1))), (1, (.c (.int .i64 3)))]), oT (.pcall 23 [(.t 1), (.t 2)]), oT (.mov (.t 3)), oG 4 true (.mov (.v 11)), oG 4 true (.gcall 21 [(.t 5)]), oG 4 true (.lit 0 9 2 1 false [(.str [])] [(0, (.c (.str [97]))), (1, (.c (.str [98])))]), oG 4 true (.pcall 20 [(.t 6), (.t 7)]), oT (.pick (.t 4) (.t 8) (.c (.bool false))), oT (.mov (.t 9)), oG 10 true (.mov (.v 11)), oG 10 true (.gcall 24 [(.t 11)]), oG 10 true (.lit 0 3 1 1 false [(.int .i64 0)] [(0, (.c (.int .i64 2)))]), oG 10 true (.pcall 23 [(.t 12), (.t 13)]), oT (.pick (.t 10) (.t 14) (.c (.bool false))), oT (.mov (.t 15)), oG 16 true (.mov (.v 11)), oG 16 true (.gcall 22 [(.t 17)]), oG 16 true (.lit 0 3 1 1 false [(.int .i64 0)] [(0, (.c (.int .i64 1)))]), oG 16 true (.pcall 23 [(.t 18), (.t 19)]), oT (.pick (.t 16) (.t 20) (.c (.bool false))), oT (.mov (.t 21)), oG 22 true (.pcall 16 [(.c (.int .i64 49))]), oG 22 true (.bin .eql .arith (.t 23) (.c (.int .i64 2))), oT (.pick (.t 22) (.t 24) (.c (.bool false))), oT (.mov (.t 25)), oG 26 true (.mov (.v 18)), oG 26 true (.bin .eql .arith (.t 27) (.c (.int .i64 1))), oT (.pick (.t 26) (.t 28) (.c (.bool false))), oT (.mov (.t 29)), oG 30 true (.mov (.v 19)), oG 30 true (.bin .eql .arith (.t 31) (.c (.int .i64 0))), oT (.pick (.t 30) (.t 32) (.c (.bool false))), oT (.mov (.t 33)), oG 34 true (.mov (.v 20)), oG 34 true (.bin .eql .arith (.t 35) (.c (.int .i64 1))), oT (.pick (.t 34) (.t 36) (.c (.bool false))), oT (.mov (.t 37)), oG 38 true (.mov (.v 21)), oG 38 true (.bin .eql .arith (.t 39) (.c (.str [97]))), oT (.pick (.t 38) (.t 40) (.c (.bool false))), oT (.mov (.t 41)), oG 42 true (.mov (.v 22)), oT (.pick (.t 42) (.t 43) (.c (.bool false))), oV 0 (.mov (.t 44))]) .ret))))))))))))))))), [.v 0], []⟩
def c8 : AFunc := ⟨[0, 2, 3, 9], (.seq (.ops [oV 1 (.mov (.c .nilptr)), oV 2 (.mov (.c (.int .i64 0)))]) (.seq (.seq (.ops [oT (.mov (.v 0)), oT (.bin .lss .arith (.t 0) (.c (.int .i64 1))), oT (.mov (.t 1)), oG 2 false (.mov (.v 0)), oG 2 false (.bin .gtr .arith (.t 3) (.c (.int .i64 4096))), oV 3 (.pick (.t 2) (.c (.bool true)) (.t 4))]) (.cond (.v 3) (.seq (.ops [oV 1 (.mov (.c .nilptr)), oV 2 (.mov (.c (.int .i64 1)))]) .ret) .skip)) (.seq (.ops [oT (.mov (.v 0)), oT (.mksl 64 64 true (List.replicate 64 (.int .u8 0)) (.t 0) (.t 0)), oT (.x (.mkmap (.int .i64)) []), oT (.x (.mkmap (.int .i64)) []), oT (.build [(.sl [] .nil), .nilmp, .nilmp, (.bool false), (.int .i64 0)] [(0, 1, (.t 1)), (1, 1, (.t 2)), (2, 1, (.t 3)), (4, 1, (.c (.int .i64 (-1))))]), oT (.box 5 true (.t 4)), oV 1 (.mov (.t 5)), oV 2 (.mov (.c (.int .i64 0)))]) .ret))), [.v 1, .v 2], []⟩
def c9 : AFunc := ⟨[0, 2, 3, 4, 5, 11, 16], (.seq (.ops [oV 1 (.mov (.c .nilptr)), oV 2 (.mov (.c (.int .i64 0)))]) (.seq (.seq (.ops [oT (.mov (.v 0)), oT (.bin .lss .arith (.t 0) (.c (.int .i64 1))), oT (.mov (.t 1)), oG 2 false (.mov (.v 0)), oG 2 false (.bin .gtr .arith (.t 3) (.c (.int .i64 4096))), oV 5 (.pick (.t 2) (.c (.bool true)) (.t 4))]) (.cond (.v 5) (.seq (.ops [oV 1 (.mov (.c .nilptr)), oV 2 (.mov (.c (.int .i64 1)))]) .ret) .skip)) (.seq (.ops [oT (.build [(.sl [] .nil), (.bool false), (.int .i64 0)] [(2, 1, (.c (.int .i64 (-1))))]), oT (.box 3 true (.t 0)), oV 3 (.mov (.t 1))]) (.seq (.seq (.ops [oV 4 (.mov (.c (.int .i64 0)))]) (.block 0 (.loop (.seq (.seq (.ops [oT (.mov (.v 4)), oT (.mov (.v 0)), oV 6 (.bin .lss .arith (.t 0) (.t 1))]) (.cond (.v 6) .skip (.exit 0))) (.seq (.block 1 (.ops [oT (.mov (.v 3)), oT (.mov (.v 3)), oT (.nilc (.t 1)), oT (.faddr 0 (.t 2)), oT (.load 1 false (.t 3)), oT (.mksl 1 1 false [(.int .u8 0)] (.c (.int .i64 64)) (.c (.int .i64 64))), oT (.x .b2s [(.t 5)]), oT (.build [(.str []), (.str []), (.bool false), (.bool false)] [(0, 1, (.t 6))]), oT (.lit 0 83 1 4 true [(.str []), (.str []), (.bool false), (.bool false)] [(0, (.t 7))]), oT (.append true 83 40 4 true (.t 4) (.t 8)), oT (.nilc (.t 0)), oT (.faddr 0 (.t 10)), oN (.store 1 (.t 11) (.t 9))])) (.ops [oT (.mov (.v 4)), oT (.bin .add .arith (.t 0) (.c (.int .i64 1))), oV 4 (.mov (.t 1))])))))) (.seq (.ops [oT (.mov (.v 3)), oV 1 (.mov (.t 0)), oV 2 (.mov (.c (.int .i64 0)))]) .ret))))), [.v 1, .v 2], []⟩
def c10 : AFunc := ⟨[0, 1, 2, 6, 7, 8, 13, 17, 21], (.seq (.ops [oV 3 (.mov (.c (.int .i64 0)))]) (.seq (.seq (.ops [oT (.mov (.v 0)), oT (.mov (.v 1)), oT (.call (.c (.fn 43 [])) [(.t 0), (.t 1)]), oV 4 (.mov (.t 2))]) (.seq (.ops [oT (.mov (.v 4)), oV 6 (.bin .neq .arith (.t 0) (.c (.int .i64 0)))]) (.cond (.v 6) (.seq (.ops [oT (.mov (.v 4)), oV 3 (.mov (.t 0))]) .ret) .skip))) (.seq (.seq (.ops [oT (.mov (.v 2)), oT (.slen (.t 0)), oV 7 (.bin .neq .arith (.t 1) (.c (.int .i64 64)))]) (.cond (.v 7) (.seq (.ops [oV 3 (.mov (.c (.int .i64 1)))]) .ret) .skip)) (.seq (.seq (.ops [oT (.mov (.v 0)), oT (.call (.c (.fn 44 [])) [(.t 0)]), oV 5 (.mov (.t 1))]) (.seq (.ops [oT (.mov (.v 5)), oV 8 (.bin .neq .arith (.t 0) (.c (.int .i64 0)))]) (.cond (.v 8) (.seq (.ops [oT (.mov (.v 5)), oV 3 (.mov (.t 0))]) .ret) .skip))) (.seq (.ops [oT (.mov (.v 0)), oT (.nilc (.t 0)), oT (.faddr 1 (.t 1)), oT (.load 1 false (.t 2)), oT (.mov (.v 1)), oT (.mov (.v 2)), oT (.x (.s2b false) [(.t 5)]), oT (.x (.s2ap 64 1) [(.t 6)]), oT (.load 64 true (.t 7)), oN (.x (.mput (.int .i64)) [(.t 3), (.t 4), (.t 8)])]) (.seq (.ops [oV 3 (.mov (.c (.int .i64 0)))]) .ret)))))), [.v 3], []⟩
def c11 : AFunc := ⟨[0, 1, 2, 6, 7, 11, 20, 24], (.seq (.ops [oV 3 (.mov (.c (.int .i64 0)))]) (.seq (.seq (.ops [oT (.mov (.v 0)), oT (.nilc (.t 0)), oT (.faddr 1 (.t 1)), oV 5 (.load 1 false (.t 2))]) (.cond (.v 5) (.seq (.ops [oV 3 (.mov (.c (.int .i64 21)))]) .ret) .skip)) (.seq (.seq (.ops [oT (.mov (.v 0)), oT (.mov (.v 1)), oT (.call (.c (.fn 45 [])) [(.t 0), (.t 1)]), oT (.un .not (.t 2)), oT (.mov (.t 3)), oG 4 false (.mov (.v 2)), oG 4 false (.slen (.t 5)), oG 4 false (.bin .neq .arith (.t 6) (.c (.int .i64 64))), oV 6 (.pick (.t 4) (.c (.bool true)) (.t 7))]) (.cond (.v 6) (.seq (.ops [oV 3 (.mov (.c (.int .i64 1)))]) .ret) .skip)) (.seq (.ops [oT (.mov (.v 0)), oT (.call (.c (.fn 46 [])) [(.t 0)]), oV 4 (.mov (.t 1))]) (.seq (.seq (.ops [oT (.mov (.v 4)), oV 7 (.bin .neq .arith (.t 0) (.c (.int .i64 0)))]) (.cond (.v 7) (.seq (.ops [oT (.mov (.v 4)), oV 3 (.mov (.t 0))]) .ret) .skip)) (.seq (.ops [oT (.mov (.v 0)), oT (.nilc (.t 0)), oT (.faddr 0 (.t 1)), oT (.load 1 false (.t 2)), oT (.mov (.v 1)), oT (.mov (.v 2)), oT (.iaddr 4 (.t 3) (.t 4)), oT (.faddr 1 (.t 6)), oN (.store 1 (.t 7) (.t 5))]) (.seq (.ops [oT (.mov (.v 0)), oT (.nilc (.t 0)), oT (.faddr 0 (.t 1)), oT (.load 1 false (.t 2)), oT (.mov (.v 1)), oT (.iaddr 4 (.t 3) (.t 4)), oT (.faddr 2 (.t 5)), oN (.store 1 (.t 6) (.c (.bool true)))]) (.seq (.ops [oV 3 (.mov (.c (.int .i64 0)))]) .ret)))))))), [.v 3], []⟩
def c12 : AFunc := ⟨[0, 2, 3, 4, 5, 6, 7, 8, 9, 10, 11, 12, 13, 14, 19, 20, 21, 30, 50, 62, 88, 98, 111], (.seq (.ops [oV 1 (.mov (.c .nilptr)), oV 2 (.mov (.c (.int .i64 0)))]) (.seq (.ops [oT (.mov (.v 0)), oT (.build [.nilptr, (.sl [] .nil), (.sl [] .nil), (.sl [] .nil), (.int .i64 0), (.int .i64 0), (.bool false)] [(0, 1, (.t 0)), (4, 1, (.c (.int .i64 1)))]), oT (.box 7 true (.t 1)), oV 3 (.mov (.t 2))]) (.seq (.ops [oV 4 (.mov (.c (.sl [] .nil)))]) (.seq (.seq (.ops [oT (.mov (.v 0)), oV 14 (.gcall 47 [(.t 0)]), oV 15 (.mov (.c (.int .i64 0)))]) (.block 0 (.loop (.seq (.ops [oV 16 (.bin .lss .arith (.v 15) (.v 14))]) (.seq (.cond (.v 16) .skip (.exit 0)) (.seq (.block 1 (.seq (.ops [oT (.mov (.v 15)), oV 5 (.mov (.t 0))]) (.seq (.ops [oT (.mov (.v 0)), oT (.mov (.v 5)), oT (.call (.c (.fn 48 [])) [(.t 0), (.t 1)]), oT (.mov (.t 2)), oT (.ext (.t 3) 0), oT (.ext (.t 3) 1), oV 6 (.mov (.t 4)), oV 7 (.mov (.t 5))]) (.seq (.seq (.ops [oT (.mov (.v 7)), oV 17 (.bin .neq .arith (.t 0) (.c (.int .i64 0)))]) (.cond (.v 17) (.seq (.ops [oT (.mov (.v 7)), oV 1 (.mov (.c .nilptr)), oV 2 (.mov (.t 0))]) .ret) .skip)) (.seq (.ops [oT (.mov (.v 6)), oT (.pcall 49 [(.t 0)]), oV 8 (.alloc 94 5 true [(.int .i64 0), (.int .i64 0), (.int .i64 0), (.str []), (.bool false)]), oN (.store 5 (.v 8) (.t 1))]) (.seq (.ops [oT (.mov (.v 4)), oT (.load 5 true (.v 8)), oT (.lit 0 94 1 5 true [(.int .i64 0), (.int .i64 0), (.int .i64 0), (.str []), (.bool false)] [(0, (.t 1))]), oT (.append false 94 48 5 true (.t 0) (.t 2)), oV 4 (.mov (.t 3))]) (.seq (.ops [oT (.mov (.v 6)), oT (.slen (.t 0)), oT (.bin .eql .arith (.t 1) (.c (.int .i64 64))), oT (.mov (.t 2)), oG 3 true (.mov (.v 6)), oG 3 true (.x (.s2b false) [(.t 4)]), oG 3 true (.x (.s2ap 64 1) [(.t 5)]), oG 3 true (.load 64 true (.t 6)), oG 3 true (.build (List.replicate 64 (.int .u8 0)) []), oG 3 true (.bin .eql (.struct (List.replicate 64 .int)) (.t 7) (.t 8)), oT (.pick (.t 3) (.t 9) (.c (.bool false))), oV 9 (.mov (.t 10))]) (.seq (.seq (.ops [oT (.mov (.v 9)), oV 18 (.un .not (.t 0))]) (.cond (.v 18) (.ops [oT (.mov (.v 3)), oT (.mov (.v 5)), oT (.bin .add .arith (.t 1) (.c (.int .i64 1))), oT (.nilc (.t 0)), oT (.faddr 5 (.t 3)), oN (.store 1 (.t 4) (.t 2))]) .skip)) (.seq (.seq (.ops [oT (.faddr 4 (.v 8)), oT (.load 1 false (.t 0)), oT (.un .not (.t 1)), oT (.mov (.t 2)), oG 3 true (.mov (.v 9)), oG 3 true (.un .not (.t 4)), oV 19 (.pick (.t 3) (.t 5) (.c (.bool false)))]) (.cond (.v 19) (.ops [oT (.mov (.v 3)), oT (.mov (.v 3)), oT (.nilc (.t 1)), oT (.faddr 2 (.t 2)), oT (.load 1 false (.t 3)), oT (.mov (.v 5)), oT (.lit 0 3 1 1 false [(.int .i64 0)] [(0, (.t 5))]), oT (.append false 3 8 1 false (.t 4) (.t 6)), oT (.nilc (.t 0)), oT (.faddr 2 (.t 8)), oN (.store 1 (.t 9) (.t 7))]) .skip)) (.ops [oT (.mov (.v 3)), oT (.mov (.v 3)), oT (.nilc (.t 1)), oT (.faddr 4 (.t 2)), oT (.load 1 false (.t 3)), oT (.faddr 0 (.v 8)), oT (.load 1 false (.t 5)), oT (.bin .add .arith (.t 6) (.c (.int .i64 1))), oT (.mnx true (.t 4) (.t 7)), oT (.nilc (.t 0)), oT (.faddr 4 (.t 9)), oN (.store 1 (.t 10) (.t 8))])))))))))) (.ops [oT (.bin .add .arith (.v 15) (.c (.int .i64 1))), oV 15 (.mov (.t 0))]))))))) (.seq (.seq (.ops [oV 10 (.mov (.c (.int .i64 0)))]) (.block 2 (.loop (.seq (.seq (.ops [oT (.mov (.v 10)), oT (.mov (.v 4)), oT (.len (.t 1)), oV 20 (.bin .lss .arith (.t 0) (.t 2))]) (.cond (.v 20) .skip (.exit 2))) (.block 3 (.seq (.ops [oT (.mov (.v 4)), oT (.mov (.v 10)), oT (.slice 5 (.t 0) (some (.t 1)) .none), oT (.pcall 50 [(.t 2)]), oT (.mov (.t 3)), oT (.ext (.t 4) 0), oT (.ext (.t 4) 1), oT (.ext (.t 4) 2), oV 11 (.mov (.t 5)), oV 12 (.mov (.t 6)), oV 13 (.mov (.t 7))]) (.seq (.seq (.ops [oT (.mov (.v 13)), oV 21 (.un .not (.t 0))]) (.cond (.v 21) (.seq (.ops [oT (.mov (.v 10)), oT (.bin .add .arith (.t 0) (.c (.int .i64 1))), oV 10 (.mov (.t 1))]) (.exit 3)) .skip)) (.seq (.seq (.ops [oT (.mov (.v 3)), oT (.nilc (.t 0)), oT (.faddr 1 (.t 1)), oT (.load 1 false (.t 2)), oT (.mov (.v 4)), oT (.mov (.v 10)), oT (.iaddr 5 (.t 4) (.t 5)), oT (.faddr 0 (.t 6)), oT (.load 1 false (.t 7)), oT (.pcall 51 [(.t 3), (.t 8)]), oV 22 (.un .not (.t 9))]) (.cond (.v 22) (.ops [oT (.mov (.v 3)), oT (.mov (.v 3)), oT (.mov (.v 3)), oT (.nilc (.t 2)), oT (.faddr 1 (.t 3)), oT (.load 1 false (.t 4)), oT (.mov (.v 4)), oT (.mov (.v 10)), oT (.iaddr 5 (.t 6) (.t 7)), oT (.faddr 0 (.t 8)), oT (.load 1 false (.t 9)), oT (.lit 0 3 1 1 false [(.int .i64 0)] [(0, (.t 10))]), oT (.append false 3 8 1 false (.t 5) (.t 11)), oT (.mov (.v 3)), oT (.nilc (.t 13)), oT (.faddr 3 (.t 14)), oT (.load 1 false (.t 15)), oT (.mov (.v 11)), oT (.lit 0 9 1 1 false [(.str [])] [(0, (.t 17))]), oT (.append false 9 16 1 false (.t 16) (.t 18)), oT (.nilc (.t 0)), oT (.faddr 1 (.t 20)), oN (.store 1 (.t 21) (.t 12)), oT (.nilc (.t 1)), oT (.faddr 3 (.t 23)), oN (.store 1 (.t 24) (.t 19))]) .skip)) (.ops [oT (.mov (.v 10)), oT (.mov (.v 12)), oT (.bin .add .arith (.t 0) (.t 1)), oV 10 (.mov (.t 2))]))))))))) (.seq (.ops [oT (.mov (.v 3)), oV 1 (.mov (.t 0)), oV 2 (.mov (.c (.int .i64 0)))]) .ret)))))), [.v 1, .v 2], []⟩
def c13 : AFunc := ⟨[0, 2, 3, 4, 5, 6, 7, 8, 9, 10, 11, 12, 13, 14, 15, 16, 17, 18, 25, 35, 46, 58, 75, 85, 113, 152, 163], (.seq (.ops [oV 1 (.mov (.c .nilptr)), oV 2 (.mov (.c (.int .i64 0)))]) (.seq (.ops [oT (.mov (.v 0)), oT (.build [.nilptr, (.sl [] .nil), (.sl [] .nil), (.sl [] .nil), (.int .i64 0), (.int .i64 0), (.bool false)] [(0, 1, (.t 0)), (4, 1, (.c (.int .i64 1)))]), oT (.box 7 true (.t 1)), oV 3 (.mov (.t 2))]) (.seq (.ops [oV 4 (.mov (.c (.sl [] .nil)))]) (.seq (.seq (.ops [oV 5 (.mov (.c (.int .i64 0)))]) (.block 0 (.loop (.seq (.seq (.ops [oT (.mov (.v 5)), oT (.mov (.v 0)), oT (.gcall 52 [(.t 1)]), oV 18 (.bin .lss .arith (.t 0) (.t 2))]) (.cond (.v 18) .skip (.exit 0))) (.seq (.block 1 (.seq (.ops [oT (.mov (.v 0)), oT (.mov (.v 5)), oT (.call (.c (.fn 53 [])) [(.t 0), (.t 1)]), oT (.mov (.t 2)), oT (.ext (.t 3) 0), oT (.ext (.t 3) 1), oV 6 (.mov (.t 4)), oV 7 (.mov (.t 5))]) (.seq (.seq (.ops [oT (.mov (.v 7)), oV 19 (.bin .neq .arith (.t 0) (.c (.int .i64 0)))]) (.cond (.v 19) (.seq (.ops [oT (.mov (.v 7)), oV 1 (.mov (.c .nilptr)), oV 2 (.mov (.t 0))]) .ret) .skip)) (.seq (.ops [oT (.mov (.v 6)), oT (.pcall 54 [(.t 0)]), oV 8 (.alloc 102 5 true [(.int .i64 0), (.int .i64 0), (.int .i64 0), (.str []), (.bool false)]), oN (.store 5 (.v 8) (.t 1))]) (.seq (.ops [oT (.mov (.v 4)), oT (.load 5 true (.v 8)), oT (.lit 0 102 1 5 true [(.int .i64 0), (.int .i64 0), (.int .i64 0), (.str []), (.bool false)] [(0, (.t 1))]), oT (.append false 102 48 5 true (.t 0) (.t 2)), oV 4 (.mov (.t 3))]) (.seq (.ops [oT (.mov (.v 6)), oT (.pcall 55 [(.t 0)]), oV 9 (.mov (.t 1))]) (.seq (.seq (.ops [oT (.mov (.v 9)), oV 20 (.un .not (.t 0))]) (.cond (.v 20) (.ops [oT (.mov (.v 3)), oT (.mov (.v 5)), oT (.bin .add .arith (.t 1) (.c (.int .i64 1))), oT (.nilc (.t 0)), oT (.faddr 5 (.t 3)), oN (.store 1 (.t 4) (.t 2))]) .skip)) (.seq (.seq (.ops [oT (.faddr 4 (.v 8)), oT (.load 1 false (.t 0)), oT (.un .not (.t 1)), oT (.mov (.t 2)), oG 3 true (.mov (.v 9)), oG 3 true (.un .not (.t 4)), oV 21 (.pick (.t 3) (.t 5) (.c (.bool false)))]) (.cond (.v 21) (.ops [oT (.mov (.v 3)), oT (.mov (.v 3)), oT (.nilc (.t 1)), oT (.faddr 3 (.t 2)), oT (.load 1 false (.t 3)), oT (.mov (.v 5)), oT (.lit 0 3 1 1 false [(.int .i64 0)] [(0, (.t 5))]), oT (.append false 3 8 1 false (.t 4) (.t 6)), oT (.nilc (.t 0)), oT (.faddr 3 (.t 8)), oN (.store 1 (.t 9) (.t 7))]) .skip)) (.seq (.ops [oT (.faddr 0 (.v 8)), oT (.load 1 false (.t 0)), oT (.mov (.v 3)), oT (.nilc (.t 2)), oT (.faddr 4 (.t 3)), oT (.load 1 false (.t 4)), oV 22 (.bin .geq .arith (.t 1) (.t 5))]) (.cond (.v 22) (.ops [oT (.mov (.v 3)), oT (.faddr 0 (.v 8)), oT (.load 1 false (.t 1)), oT (.bin .add .arith (.t 2) (.c (.int .i64 1))), oT (.nilc (.t 0)), oT (.faddr 4 (.t 4)), oN (.store 1 (.t 5) (.t 3))]) .skip)))))))))) (.ops [oT (.mov (.v 5)), oT (.bin .add .arith (.t 0) (.c (.int .i64 1))), oV 5 (.mov (.t 1))])))))) (.seq (.ops [oV 10 (.mov (.c (.int .i64 0)))]) (.seq (.block 2 (.loop (.seq (.seq (.ops [oT (.mov (.v 10)), oT (.mov (.v 4)), oT (.len (.t 1)), oV 23 (.bin .lss .arith (.t 0) (.t 2))]) (.cond (.v 23) .skip (.exit 2))) (.block 3 (.seq (.ops [oT (.mov (.v 4)), oT (.mov (.v 10)), oT (.iaddr 5 (.t 0) (.t 1)), oT (.load 5 true (.t 2)), oV 11 (.alloc 102 5 true [(.int .i64 0), (.int .i64 0), (.int .i64 0), (.str []), (.bool false)]), oN (.store 5 (.v 11) (.t 3))]) (.seq (.ops [oT (.faddr 2 (.v 11)), oT (.load 1 false (.t 0)), oT (.pcall 56 [(.t 1)]), oV 12 (.mov (.t 2))]) (.seq (.ops [oV 13 (.mov (.c (.str [])))]) (.seq (.ops [oT (.faddr 4 (.v 11)), oT (.load 1 false (.t 0)), oT (.mov (.t 1)), oG 2 true (.faddr 1 (.v 11)), oG 2 true (.load 1 false (.t 3)), oG 2 true (.bin .eql .arith (.t 4) (.c (.int .i64 0))), oT (.pick (.t 2) (.t 5) (.c (.bool false))), oT (.mov (.t 6)), oG 7 true (.mov (.v 10)), oG 7 true (.mov (.v 12)), oG 7 true (.bin .add .arith (.t 8) (.t 9)), oG 7 true (.mov (.v 4)), oG 7 true (.len (.t 11)), oG 7 true (.bin .leq .arith (.t 10) (.t 12)), oT (.pick (.t 7) (.t 13) (.c (.bool false))), oV 14 (.mov (.t 14))]) (.seq (.seq (.ops [oV 15 (.mov (.c (.int .i64 0)))]) (.block 4 (.loop (.seq (.seq (.ops [oT (.mov (.v 14)), oT (.mov (.t 0)), oG 1 true (.mov (.v 15)), oG 1 true (.mov (.v 12)), oG 1 true (.bin .lss .arith (.t 2) (.t 3)), oV 24 (.pick (.t 1) (.t 4) (.c (.bool false)))]) (.cond (.v 24) .skip (.exit 4))) (.seq (.block 5 (.seq (.ops [oT (.mov (.v 4)), oT (.mov (.v 10)), oT (.mov (.v 15)), oT (.bin .add .arith (.t 1) (.t 2)), oT (.iaddr 5 (.t 0) (.t 3)), oT (.load 5 true (.t 4)), oV 16 (.alloc 102 5 true [(.int .i64 0), (.int .i64 0), (.int .i64 0), (.str []), (.bool false)]), oN (.store 5 (.v 16) (.t 5))]) (.seq (.ops [oT (.faddr 4 (.v 16)), oT (.load 1 false (.t 0)), oT (.mov (.t 1)), oG 2 true (.faddr 0 (.v 16)), oG 2 true (.load 1 false (.t 3)), oG 2 true (.faddr 0 (.v 11)), oG 2 true (.load 1 false (.t 5)), oG 2 true (.bin .eql .arith (.t 4) (.t 6)), oT (.pick (.t 2) (.t 7) (.c (.bool false))), oT (.mov (.t 8)), oG 9 true (.faddr 1 (.v 16)), oG 9 true (.load 1 false (.t 10)), oG 9 true (.mov (.v 15)), oG 9 true (.bin .eql .arith (.t 11) (.t 12)), oT (.pick (.t 9) (.t 13) (.c (.bool false))), oT (.mov (.t 14)), oG 15 true (.faddr 2 (.v 16)), oG 15 true (.load 1 false (.t 16)), oG 15 true (.faddr 2 (.v 11)), oG 15 true (.load 1 false (.t 18)), oG 15 true (.mov (.v 15)), oG 15 true (.bin .mul .arith (.c (.int .i64 48)) (.t 20)), oG 15 true (.bin .sub .arith (.t 19) (.t 21)), oG 15 true (.bin .eql .arith (.t 17) (.t 22)), oT (.pick (.t 15) (.t 23) (.c (.bool false))), oV 14 (.mov (.t 24))]) (.ops [oT (.mov (.v 13)), oT (.faddr 3 (.v 16)), oT (.load 1 false (.t 1)), oT (.bin .add .arith (.t 0) (.t 2)), oV 13 (.mov (.t 3))])))) (.ops [oT (.mov (.v 15)), oT (.bin .add .arith (.t 0) (.c (.int .i64 1))), oV 15 (.mov (.t 1))])))))) (.seq (.seq (.ops [oT (.mov (.v 14)), oV 25 (.un .not (.t 0))]) (.cond (.v 25) (.seq (.ops [oT (.mov (.v 10)), oT (.bin .add .arith (.t 0) (.c (.int .i64 1))), oV 10 (.mov (.t 1))]) (.exit 3)) .skip)) (.seq (.ops [oT (.mov (.v 3)), oT (.nilc (.t 0)), oT (.faddr 1 (.t 1)), oT (.load 1 false (.t 2)), oT (.faddr 0 (.v 11)), oT (.load 1 false (.t 4)), oT (.pcall 57 [(.t 3), (.t 5)]), oV 17 (.mov (.t 6))]) (.seq (.seq (.ops [oT (.mov (.v 17)), oV 26 (.un .not (.t 0))]) (.cond (.v 26) (.seq (.ops [oT (.mov (.v 3)), oT (.mov (.v 3)), oT (.nilc (.t 1)), oT (.faddr 1 (.t 2)), oT (.load 1 false (.t 3)), oT (.faddr 0 (.v 11)), oT (.load 1 false (.t 5)), oT (.lit 0 3 1 1 false [(.int .i64 0)] [(0, (.t 6))]), oT (.append false 3 8 1 false (.t 4) (.t 7)), oT (.nilc (.t 0)), oT (.faddr 1 (.t 9)), oN (.store 1 (.t 10) (.t 8))]) (.ops [oT (.mov (.v 3)), oT (.mov (.v 3)), oT (.nilc (.t 1)), oT (.faddr 2 (.t 2)), oT (.load 1 false (.t 3)), oT (.mov (.v 13)), oT (.lit 0 9 1 1 false [(.str [])] [(0, (.t 5))]), oT (.append false 9 16 1 false (.t 4) (.t 6)), oT (.nilc (.t 0)), oT (.faddr 2 (.t 8)), oN (.store 1 (.t 9) (.t 7))])) .skip)) (.ops [oT (.mov (.v 10)), oT (.mov (.v 12)), oT (.bin .add .arith (.t 0) (.t 1)), oV 10 (.mov (.t 2))]))))))))))))) (.seq (.ops [oT (.mov (.v 3)), oV 1 (.mov (.t 0)), oV 2 (.mov (.c (.int .i64 0)))]) .ret))))))), [.v 1, .v 2], []⟩
def c14 : AFunc := ⟨[0, 1, 4, 10], (.seq (.ops [oV 2 (.mov (.c (.bool false)))]) (.seq (.seq (.ops [oT (.mov (.v 0)), oT (.bin .eql .ptr (.t 0) (.c .nilptr)), oT (.mov (.t 1)), oG 2 false (.mov (.v 1)), oG 2 false (.bin .eql .ptr (.t 3) (.c .nilptr)), oV 3 (.pick (.t 2) (.c (.bool true)) (.t 4))]) (.cond (.v 3) (.seq (.ops [oT (.mov (.v 0)), oT (.bin .eql .ptr (.t 0) (.c .nilptr)), oT (.mov (.t 1)), oG 2 true (.mov (.v 1)), oG 2 true (.bin .eql .ptr (.t 3) (.c .nilptr)), oT (.pick (.t 2) (.t 4) (.c (.bool false))), oV 2 (.mov (.t 5))]) .ret) .skip)) (.seq (.ops [oT (.mov (.v 0)), oT (.mov (.v 1)), oT (.nilc (.t 1)), oT (.faddr 1 (.t 2)), oT (.load 1 false (.t 3)), oT (.gcall 42 [(.t 0)]), oT (.pcall 23 [(.t 5), (.t 4)]), oT (.mov (.t 6)), oG 7 true (.mov (.v 0)), oG 7 true (.mov (.v 1)), oG 7 true (.nilc (.t 9)), oG 7 true (.faddr 2 (.t 10)), oG 7 true (.load 1 false (.t 11)), oG 7 true (.gcall 21 [(.t 8)]), oG 7 true (.pcall 20 [(.t 13), (.t 12)]), oT (.pick (.t 7) (.t 14) (.c (.bool false))), oT (.mov (.t 15)), oG 16 true (.mov (.v 0)), oG 16 true (.gcall 24 [(.t 17)]), oG 16 true (.mov (.v 1)), oG 16 true (.gcall 58 [(.t 19)]), oG 16 true (.pcall 23 [(.t 18), (.t 20)]), oT (.pick (.t 16) (.t 21) (.c (.bool false))), oT (.mov (.t 22)), oG 23 true (.mov (.v 0)), oG 23 true (.mov (.v 1)), oG 23 true (.nilc (.t 25)), oG 23 true (.faddr 3 (.t 26)), oG 23 true (.load 1 false (.t 27)), oG 23 true (.gcall 22 [(.t 24)]), oG 23 true (.pcall 23 [(.t 29), (.t 28)]), oT (.pick (.t 23) (.t 30) (.c (.bool false))), oT (.mov (.t 31)), oG 32 true (.mov (.v 0)), oG 32 true (.mov (.v 1)), oG 32 true (.nilc (.t 34)), oG 32 true (.faddr 4 (.t 35)), oG 32 true (.load 1 false (.t 36)), oG 32 true (.gcall 37 [(.t 33)]), oG 32 true (.bin .eql .arith (.t 38) (.t 37)), oT (.pick (.t 32) (.t 39) (.c (.bool false))), oT (.mov (.t 40)), oG 41 true (.mov (.v 0)), oG 41 true (.gcall 38 [(.t 42)]), oG 41 true (.mov (.v 1)), oG 41 true (.gcall 59 [(.t 44)]), oG 41 true (.bin .eql .arith (.t 43) (.t 45)), oT (.pick (.t 41) (.t 46) (.c (.bool false))), oV 2 (.mov (.t 47))]) .ret))), [.v 2], []⟩
def c16 : AFunc := ⟨[0, 2, 8], (.seq (.ops [oV 1 (.mov (.c (.int .i64 0)))]) (.seq (.seq (.ops [oT (.mov (.v 0)), oT (.bin .lss .arith (.t 0) (.c (.int .i64 0))), oT (.mov (.t 1)), oG 2 false (.mov (.v 0)), oG 2 false (.bin .gtr .arith (.t 3) (.c (.int .i64 8000))), oV 2 (.pick (.t 2) (.c (.bool true)) (.t 4))]) (.cond (.v 2) (.seq (.ops [oV 1 (.mov (.c (.int .i64 0)))]) .ret) .skip)) (.seq (.ops [oT (.mov (.v 0)), oT (.bin .add .arith (.t 0) (.c (.int .i64 48))), oT (.bin .sub .arith (.t 1) (.c (.int .i64 1))), oT (.bin .quo .arith (.t 2) (.c (.int .i64 48))), oT (.mnx true (.c (.int .i64 1)) (.t 3)), oV 1 (.mov (.t 4))]) .ret))), [.v 1], []⟩
def c17 : AFunc := ⟨[0, 1, 2, 6, 25], (.seq (.ops [oV 3 (.mov (.c (.int .i64 0)))]) (.seq (.seq (.ops [oT (.mov (.v 1)), oT (.bin .lss .arith (.t 0) (.c (.int .i64 0))), oT (.mov (.t 1)), oG 2 false (.mov (.v 1)), oG 2 false (.mov (.v 0)), oG 2 false (.nilc (.t 4)), oG 2 false (.faddr 0 (.t 5)), oG 2 false (.load 1 false (.t 6)), oG 2 false (.len (.t 7)), oG 2 false (.bin .geq .arith (.t 3) (.t 8)), oT (.pick (.t 2) (.c (.bool true)) (.t 9)), oT (.mov (.t 10)), oG 11 false (.mov (.v 2)), oG 11 false (.bin .lss .arith (.t 12) (.c (.int .i64 0))), oT (.pick (.t 11) (.c (.bool true)) (.t 13)), oT (.mov (.t 14)), oG 15 false (.mov (.v 2)), oG 15 false (.bin .geq .arith (.t 16) (.c (.int .i64 512))), oV 4 (.pick (.t 15) (.c (.bool true)) (.t 17))]) (.cond (.v 4) (.seq (.ops [oV 3 (.mov (.c (.int .i64 1)))]) .ret) .skip)) (.seq (.ops [oT (.mov (.v 0)), oT (.nilc (.t 0)), oT (.faddr 0 (.t 1)), oT (.load 1 false (.t 2)), oT (.mov (.v 1)), oT (.mov (.v 2)), oT (.bin .quo .arith (.t 5) (.c (.int .i64 8))), oT (.iaddr 64 (.t 3) (.t 4)), oT (.aaddr 64 1 (.t 7) (.t 6)), oT (.load 1 false (.t 8)), oT (.mov (.v 2)), oT (.bin .rem .arith (.t 10) (.c (.int .i64 8))), oT (.bin .shl .arith (.c (.int .u8 1)) (.t 11)), oT (.bin .xor .arith (.t 9) (.t 12)), oT (.iaddr 64 (.t 3) (.t 4)), oT (.aaddr 64 1 (.t 14) (.t 6)), oN (.store 1 (.t 15) (.t 13))]) (.seq (.ops [oV 3 (.mov (.c (.int .i64 0)))]) .ret)))), [.v 3], []⟩
def c19 : AFunc := ⟨[0, 2, 3, 4, 15, 16, 17], (.seq (.ops [oV 1 (.mov (.c (.sl [] .nil)))]) (.seq (.ops [oT (.mov (.v 0)), oT (.nilc (.t 0)), oT (.faddr 0 (.t 1)), oT (.load 1 false (.t 2)), oT (.len (.t 3)), oT (.mksl 16 1 false [(.str [])] (.t 4) (.t 4)), oV 2 (.mov (.t 5))]) (.seq (.seq (.ops [oT (.mov (.v 0)), oT (.nilc (.t 0)), oT (.faddr 0 (.t 1)), oT (.load 1 false (.t 2)), oV 4 (.len (.t 3)), oV 5 (.mov (.c (.int .i64 0)))]) (.block 0 (.loop (.seq (.ops [oV 6 (.bin .lss .arith (.v 5) (.v 4))]) (.seq (.cond (.v 6) .skip (.exit 0)) (.seq (.block 1 (.seq (.ops [oT (.mov (.v 5)), oV 3 (.mov (.t 0))]) (.ops [oT (.mov (.v 2)), oT (.mov (.v 3)), oT (.mov (.v 0)), oT (.nilc (.t 2)), oT (.faddr 0 (.t 3)), oT (.load 1 false (.t 4)), oT (.mov (.v 3)), oT (.iaddr 64 (.t 5) (.t 6)), oT (.x (.aslice 64 1 false false false) [(.t 7)]), oT (.x .b2s [(.t 8)]), oT (.iaddr 1 (.t 0) (.t 1)), oN (.store 1 (.t 10) (.t 9))]))) (.ops [oT (.bin .add .arith (.v 5) (.c (.int .i64 1))), oV 5 (.mov (.t 0))]))))))) (.seq (.ops [oT (.mov (.v 2)), oV 1 (.mov (.t 0))]) .ret)))), [.v 1], []⟩
def c20 : AFunc := ⟨[0, 1, 4, 5, 10, 14, 25], (.seq (.ops [oV 2 (.mov (.c (.bool false)))]) (.seq (.seq (.ops [oT (.mov (.v 0)), oT (.len (.t 0)), oT (.mov (.v 1)), oT (.len (.t 2)), oV 4 (.bin .neq .arith (.t 1) (.t 3))]) (.cond (.v 4) (.seq (.ops [oV 2 (.mov (.c (.bool false)))]) .ret) .skip)) (.seq (.seq (.ops [oV 3 (.mov (.c (.int .i64 0)))]) (.block 0 (.loop (.seq (.seq (.ops [oT (.mov (.v 3)), oT (.mov (.v 0)), oT (.len (.t 1)), oV 5 (.bin .lss .arith (.t 0) (.t 2))]) (.cond (.v 5) .skip (.exit 0))) (.seq (.block 1 (.seq (.ops [oT (.mov (.v 0)), oT (.mov (.v 3)), oT (.iaddr 1 (.t 0) (.t 1)), oT (.load 1 false (.t 2)), oT (.mov (.v 1)), oT (.mov (.v 3)), oT (.iaddr 1 (.t 4) (.t 5)), oT (.load 1 false (.t 6)), oV 6 (.bin .neq .arith (.t 3) (.t 7))]) (.cond (.v 6) (.seq (.ops [oV 2 (.mov (.c (.bool false)))]) .ret) .skip))) (.ops [oT (.mov (.v 3)), oT (.bin .add .arith (.t 0) (.c (.int .i64 1))), oV 3 (.mov (.t 1))])))))) (.seq (.ops [oV 2 (.mov (.c (.bool true)))]) .ret)))), [.v 2], []⟩
def c21 : AFunc := ⟨[0, 2], (.seq (.ops [oV 1 (.mov (.c (.sl [] .nil)))]) (.seq (.ops [oT (.mov (.v 0)), oT (.nilc (.t 0)), oT (.faddr 3 (.t 1)), oT (.load 1 false (.t 2)), oT (.call (.c (.fn 61 [])) [(.t 3)]), oV 1 (.mov (.t 4))]) .ret)), [.v 1], []⟩
def c22 : AFunc := ⟨[0, 2], (.seq (.ops [oV 1 (.mov (.c (.sl [] .nil)))]) (.seq (.ops [oT (.mov (.v 0)), oT (.nilc (.t 0)), oT (.faddr 2 (.t 1)), oT (.load 1 false (.t 2)), oT (.call (.c (.fn 62 [])) [(.t 3)]), oV 1 (.mov (.t 4))]) .ret)), [.v 1], []⟩
def c23 : AFunc := ⟨[0, 1, 4, 5, 10, 14, 25], (.seq (.ops [oV 2 (.mov (.c (.bool false)))]) (.seq (.seq (.ops [oT (.mov (.v 0)), oT (.len (.t 0)), oT (.mov (.v 1)), oT (.len (.t 2)), oV 4 (.bin .neq .arith (.t 1) (.t 3))]) (.cond (.v 4) (.seq (.ops [oV 2 (.mov (.c (.bool false)))]) .ret) .skip)) (.seq (.seq (.ops [oV 3 (.mov (.c (.int .i64 0)))]) (.block 0 (.loop (.seq (.seq (.ops [oT (.mov (.v 3)), oT (.mov (.v 0)), oT (.len (.t 1)), oV 5 (.bin .lss .arith (.t 0) (.t 2))]) (.cond (.v 5) .skip (.exit 0))) (.seq (.block 1 (.seq (.ops [oT (.mov (.v 0)), oT (.mov (.v 3)), oT (.iaddr 1 (.t 0) (.t 1)), oT (.load 1 false (.t 2)), oT (.mov (.v 1)), oT (.mov (.v 3)), oT (.iaddr 1 (.t 4) (.t 5)), oT (.load 1 false (.t 6)), oV 6 (.bin .neq .arith (.t 3) (.t 7))]) (.cond (.v 6) (.seq (.ops [oV 2 (.mov (.c (.bool false)))]) .ret) .skip))) (.ops [oT (.mov (.v 3)), oT (.bin .add .arith (.t 0) (.c (.int .i64 1))), oV 3 (.mov (.t 1))])))))) (.seq (.ops [oV 2 (.mov (.c (.bool true)))]) .ret)))), [.v 2], []⟩
def c24 : AFunc := ⟨[0, 2, 3, 5, 6, 7, 12, 13, 14, 15, 26, 32], (.seq (.ops [oV 1 (.mov (.c (.sl [] .nil)))]) (.seq (.ops [oT (.x (.mkmap (.int .i64)) []), oV 2 (.mov (.t 0))]) (.seq (.seq (.ops [oT (.mov (.v 0)), oT (.nilc (.t 0)), oT (.faddr 1 (.t 1)), oV 6 (.load 1 false (.t 2)), oV 7 (.len (.v 6)), oV 8 (.mov (.c (.int .i64 0)))]) (.block 0 (.loop (.seq (.ops [oV 9 (.bin .lss .arith (.v 8) (.v 7))]) (.seq (.cond (.v 9) .skip (.exit 0)) (.seq (.block 1 (.seq (.ops [oT (.iaddr 1 (.v 6) (.v 8)), oT (.load 1 false (.t 0)), oV 3 (.mov (.t 1))]) (.ops [oT (.mov (.v 2)), oT (.mov (.v 3)), oN (.x (.mput (.int .i64)) [(.t 0), (.t 1), (.c (.bool true))])]))) (.ops [oT (.bin .add .arith (.v 8) (.c (.int .i64 1))), oV 8 (.mov (.t 0))]))))))) (.seq (.ops [oV 4 (.mov (.c (.sl [] .nil)))]) (.seq (.seq (.ops [oV 5 (.mov (.c (.int .i64 1)))]) (.block 2 (.loop (.seq (.seq (.ops [oT (.mov (.v 5)), oT (.mov (.v 0)), oT (.nilc (.t 1)), oT (.faddr 4 (.t 2)), oT (.load 1 false (.t 3)), oV 10 (.bin .lss .arith (.t 0) (.t 4))]) (.cond (.v 10) .skip (.exit 2))) (.seq (.block 3 (.seq (.ops [oT (.mov (.v 2)), oT (.mov (.v 5)), oT (.x (.mlook (.int .i64) (.bool false) false) [(.t 0), (.t 1)]), oV 11 (.un .not (.t 2))]) (.cond (.v 11) (.ops [oT (.mov (.v 4)), oT (.mov (.v 5)), oT (.lit 0 3 1 1 false [(.int .i64 0)] [(0, (.t 1))]), oT (.append false 3 8 1 false (.t 0) (.t 2)), oV 4 (.mov (.t 3))]) .skip))) (.ops [oT (.mov (.v 5)), oT (.bin .add .arith (.t 0) (.c (.int .i64 1))), oV 5 (.mov (.t 1))])))))) (.seq (.ops [oT (.mov (.v 4)), oV 1 (.mov (.t 0))]) .ret)))))), [.v 1], []⟩
def c25 : AFunc := ⟨[0, 1], (.ops [oT (.mov (.v 0)), oT (.mov (.v 1)), oT (.nilc (.t 0)), oT (.faddr 4 (.t 2)), oN (.store 1 (.t 3) (.t 1))]), [], []⟩
def c26 : AFunc := ⟨[0, 1, 4, 5, 6, 7, 8, 10, 11, 12, 17, 28, 68, 75], (.seq (.ops [oV 2 (.mov (.c (.int .i64 0))), oV 3 (.mov (.c (.int .i64 0)))]) (.seq (.block 0 (.seq (.ops [oT (.mov (.v 0)), oT (.nilc (.t 0)), oT (.faddr 6 (.t 1)), oT (.load 1 false (.t 2)), oV 9 (.mov (.t 3))]) (.cond (.v 9) (.seq (.ops [oV 2 (.mov (.c (.int .i64 0))), oV 3 (.mov (.c (.int .i64 21)))]) .ret) (.seq (.ops [oT (.mov (.v 1)), oT (.slen (.t 0)), oT (.bin .gtr .arith (.t 1) (.c (.int .i64 8000))), oT (.mov (.t 2)), oG 3 false (.mov (.v 0)), oG 3 false (.nilc (.t 4)), oG 3 false (.faddr 4 (.t 5)), oG 3 false (.load 1 false (.t 6)), oG 3 false (.bin .gtr .arith (.t 7) (.c (.int .i64 4096))), oT (.pick (.t 3) (.c (.bool true)) (.t 8)), oV 10 (.mov (.t 9))]) (.cond (.v 10) (.seq (.ops [oV 2 (.mov (.c (.int .i64 0))), oV 3 (.mov (.c (.int .i64 4)))]) .ret) (.seq (.ops [oT (.mov (.v 1)), oT (.slen (.t 0)), oT (.pcall 16 [(.t 1)]), oT (.mov (.v 0)), oT (.gcall 38 [(.t 3)]), oT (.bin .gtr .arith (.t 2) (.t 4)), oV 11 (.mov (.t 5))]) (.cond (.v 11) (.seq (.ops [oV 2 (.mov (.c (.int .i64 0))), oV 3 (.mov (.c (.int .i64 20)))]) .ret) .skip))))))) (.seq (.ops [oT (.mov (.v 0)), oT (.nilc (.t 0)), oT (.faddr 4 (.t 1)), oT (.load 1 false (.t 2)), oT (.mov (.v 0)), oT (.nilc (.t 4)), oT (.faddr 5 (.t 5)), oT (.load 1 false (.t 6)), oV 4 (.mov (.t 3)), oV 5 (.mov (.t 7))]) (.seq (.ops [oT (.mov (.v 4)), oT (.mov (.v 1)), oT (.pcall 40 [(.t 0), (.t 1)]), oT (.mov (.t 2)), oT (.ext (.t 3) 0), oT (.ext (.t 3) 1), oV 6 (.mov (.t 4)), oT (.mov (.t 5))]) (.seq (.ops [oT (.mov (.v 0)), oT (.mov (.v 0)), oT (.mov (.v 4)), oT (.bin .add .arith (.t 2) (.c (.int .i64 1))), oT (.mov (.v 5)), oT (.mov (.v 6)), oT (.len (.t 5)), oT (.bin .add .arith (.t 4) (.t 6)), oT (.nilc (.t 0)), oT (.faddr 4 (.t 8)), oN (.store 1 (.t 9) (.t 3)), oT (.nilc (.t 1)), oT (.faddr 5 (.t 11)), oN (.store 1 (.t 12) (.t 7))]) (.seq (.seq (.ops [oT (.mov (.v 0)), oT (.mov (.v 5)), oT (.mov (.v 6)), oT (.call (.c (.fn 63 [])) [(.t 0), (.t 1), (.t 2)]), oT (.mov (.t 3)), oT (.ext (.t 4) 0), oT (.ext (.t 4) 1), oV 7 (.mov (.t 5)), oV 8 (.mov (.t 6))]) (.block 1 (.seq (.ops [oT (.mov (.v 7)), oT (.bin .neq .arith (.t 0) (.c (.int .i64 0))), oV 12 (.mov (.t 1))]) (.cond (.v 12) (.seq (.ops [oT (.mov (.v 0)), oT (.nilc (.t 0)), oT (.faddr 6 (.t 1)), oN (.store 1 (.t 2) (.c (.bool true)))]) (.seq (.ops [oT (.mov (.v 7)), oV 2 (.mov (.c (.int .i64 0))), oV 3 (.mov (.t 0))]) .ret)) (.seq (.ops [oT (.mov (.v 8)), oT (.un .not (.t 0)), oV 13 (.mov (.t 1))]) (.cond (.v 13) (.seq (.ops [oV 2 (.mov (.c (.int .i64 0))), oV 3 (.mov (.c (.int .i64 22)))]) .ret) .skip)))))) (.seq (.ops [oT (.mov (.v 0)), oT (.mov (.v 0)), oT (.mov (.v 0)), oT (.nilc (.t 2)), oT (.faddr 1 (.t 3)), oT (.load 1 false (.t 4)), oT (.mov (.v 4)), oT (.lit 0 3 1 1 false [(.int .i64 0)] [(0, (.t 6))]), oT (.append false 3 8 1 false (.t 5) (.t 7)), oT (.mov (.v 0)), oT (.nilc (.t 9)), oT (.faddr 3 (.t 10)), oT (.load 1 false (.t 11)), oT (.mov (.v 1)), oT (.lit 0 9 1 1 false [(.str [])] [(0, (.t 13))]), oT (.append false 9 16 1 false (.t 12) (.t 14)), oT (.nilc (.t 0)), oT (.faddr 1 (.t 16)), oN (.store 1 (.t 17) (.t 8)), oT (.nilc (.t 1)), oT (.faddr 3 (.t 19)), oN (.store 1 (.t 20) (.t 15))]) (.seq (.ops [oT (.mov (.v 4)), oV 2 (.mov (.t 0)), oV 3 (.mov (.c (.int .i64 0)))]) .ret)))))))), [.v 2, .v 3], []⟩
def c27 : AFunc := ⟨[0, 1, 2, 3, 4, 5, 12], (.seq (.ops [oV 1 (.box 6 true (.v 0)), oV 2 (.mov (.c (.str [])))]) (.seq (.ops [oT (.faddr 3 (.v 1)), oT (.load 1 false (.t 0)), oT (.mnx true (.t 1) (.c (.int .i64 0))), oT (.mnx false (.t 2) (.c (.int .i64 8100))), oV 3 (.mov (.t 3))]) (.seq (.ops [oV 4 (.mov (.c (.sl [] .nil)))]) (.seq (.seq (.ops [oV 5 (.mov (.c (.int .i64 0)))]) (.block 0 (.loop (.seq (.seq (.ops [oT (.mov (.v 5)), oT (.mov (.v 3)), oV 6 (.bin .lss .arith (.t 0) (.t 1))]) (.cond (.v 6) .skip (.exit 0))) (.seq (.block 1 (.ops [oT (.mov (.v 4)), oT (.faddr 4 (.v 1)), oT (.load 1 false (.t 1)), oT (.mov (.v 5)), oT (.toInt .u8 (.t 3)), oT (.bin .add .arith (.t 2) (.t 4)), oT (.lit 0 5 1 1 false [(.int .u8 0)] [(0, (.t 5))]), oT (.append false 5 1 1 false (.t 0) (.t 6)), oV 4 (.mov (.t 7))])) (.ops [oT (.mov (.v 5)), oT (.bin .add .arith (.t 0) (.c (.int .i64 1))), oV 5 (.mov (.t 1))])))))) (.seq (.ops [oT (.mov (.v 4)), oT (.x .b2s [(.t 0)]), oV 2 (.mov (.t 1))]) .ret))))), [.v 2], []⟩
def c28 : AFunc := ⟨[0, 1, 4, 5, 6, 8, 9, 10, 11, 18], (.seq (.seq (.ops [oT (.mov (.v 0)), oV 5 (.gcall 64 [(.t 0)]), oV 6 (.len (.v 5)), oV 7 (.mov (.c (.int .i64 0)))]) (.block 0 (.loop (.seq (.ops [oV 8 (.bin .lss .arith (.v 7) (.v 6))]) (.seq (.cond (.v 8) .skip (.exit 0)) (.seq (.block 1 (.seq (.ops [oT (.mov (.v 7)), oT (.iaddr 1 (.v 5) (.v 7)), oT (.load 1 false (.t 1)), oV 2 (.mov (.t 0)), oV 3 (.mov (.t 2))]) (.seq (.ops [oV 4 (.mov (.c (.int .i64 64)))]) (.seq (.seq (.ops [oT (.mov (.v 2)), oT (.mov (.v 1)), oT (.len (.t 1)), oV 9 (.bin .lss .arith (.t 0) (.t 2))]) (.cond (.v 9) (.ops [oT (.mov (.v 1)), oT (.mov (.v 2)), oT (.iaddr 1 (.t 0) (.t 1)), oT (.load 1 false (.t 2)), oV 4 (.mov (.t 3))]) .skip)) (.ops [oT (.mov (.v 0)), oT (.mov (.v 3)), oT (.mov (.v 4)), oT (.call (.c (.fn 65 [])) [(.t 0), (.t 1), (.t 2)])]))))) (.ops [oT (.bin .add .arith (.v 7) (.c (.int .i64 1))), oV 7 (.mov (.t 0))]))))))) (.ops [oT (.mov (.v 0)), oT (.mov (.v 0)), oT (.nilc (.t 0)), oT (.faddr 3 (.t 2)), oN (.store 1 (.t 3) (.c (.bool false))), oT (.nilc (.t 1)), oT (.faddr 4 (.t 5)), oN (.store 1 (.t 6) (.c (.int .i64 (-1))))])), [], []⟩
def c29 : AFunc := ⟨[0, 2, 4, 5, 6, 7, 8, 14], (.seq (.ops [oV 1 (.mov (.c (.bool false)))]) (.seq (.seq (.ops [oV 3 (.mov (.v 0)), oV 4 (.len (.v 3)), oV 5 (.mov (.c (.int .i64 0)))]) (.block 0 (.loop (.seq (.ops [oV 6 (.bin .lss .arith (.v 5) (.v 4))]) (.seq (.cond (.v 6) .skip (.exit 0)) (.seq (.block 1 (.seq (.ops [oT (.iaddr 6 (.v 3) (.v 5)), oT (.load 6 true (.t 0)), oV 2 (.alloc 56 6 true [(.int .i64 0), (.int .i64 0), (.int .i64 0), (.int .i64 0), (.int .u8 0), (.sl [] .nil)]), oN (.store 6 (.v 2) (.t 1))]) (.seq (.ops [oT (.faddr 5 (.v 2)), oT (.load 1 false (.t 0)), oT (.len (.t 1)), oV 7 (.bin .gtr .arith (.t 2) (.c (.int .i64 200)))]) (.cond (.v 7) (.seq (.ops [oV 1 (.mov (.c (.bool false)))]) .ret) .skip)))) (.ops [oT (.bin .add .arith (.v 5) (.c (.int .i64 1))), oV 5 (.mov (.t 0))]))))))) (.seq (.ops [oT (.mov (.v 0)), oT (.len (.t 0)), oT (.bin .leq .arith (.t 1) (.c (.int .i64 30))), oV 1 (.mov (.t 2))]) .ret))), [.v 1], []⟩
def c30 : AFunc := ⟨[0, 1, 4, 5, 6, 7, 8, 10, 11, 12, 13, 14, 15, 16, 20, 30, 36, 66, 82, 93, 101, 116, 131], (.seq (.ops [oV 2 (.mov (.c (.int .i64 0))), oV 3 (.mov (.c (.int .i64 0)))]) (.seq (.seq (.ops [oT (.mov (.v 0)), oT (.nilc (.t 0)), oT (.faddr 6 (.t 1)), oV 14 (.load 1 false (.t 2))]) (.cond (.v 14) (.seq (.ops [oV 2 (.mov (.c (.int .i64 0))), oV 3 (.mov (.c (.int .i64 21)))]) .ret) .skip)) (.seq (.seq (.ops [oT (.mov (.v 1)), oT (.slen (.t 0)), oT (.bin .gtr .arith (.t 1) (.c (.int .i64 8000))), oT (.mov (.t 2)), oG 3 false (.mov (.v 0)), oG 3 false (.nilc (.t 4)), oG 3 false (.faddr 4 (.t 5)), oG 3 false (.load 1 false (.t 6)), oG 3 false (.bin .gtr .arith (.t 7) (.c (.int .i64 4096))), oV 15 (.pick (.t 3) (.c (.bool true)) (.t 8))]) (.cond (.v 15) (.seq (.ops [oV 2 (.mov (.c (.int .i64 0))), oV 3 (.mov (.c (.int .i64 4)))]) .ret) .skip)) (.seq (.seq (.ops [oT (.mov (.v 1)), oT (.slen (.t 0)), oT (.pcall 56 [(.t 1)]), oT (.mov (.v 0)), oT (.gcall 59 [(.t 3)]), oV 16 (.bin .gtr .arith (.t 2) (.t 4))]) (.cond (.v 16) (.seq (.ops [oV 2 (.mov (.c (.int .i64 0))), oV 3 (.mov (.c (.int .i64 20)))]) .ret) .skip)) (.seq (.ops [oT (.mov (.v 0)), oT (.nilc (.t 0)), oT (.faddr 4 (.t 1)), oT (.load 1 false (.t 2)), oV 4 (.mov (.t 3))]) (.seq (.ops [oT (.mov (.v 0)), oT (.nilc (.t 0)), oT (.faddr 5 (.t 1)), oT (.load 1 false (.t 2)), oV 5 (.mov (.t 3))]) (.seq (.ops [oT (.mov (.v 4)), oT (.mov (.v 1)), oT (.pcall 60 [(.t 0), (.t 1)]), oT (.mov (.t 2)), oT (.ext (.t 3) 0), oT (.ext (.t 3) 1), oV 6 (.mov (.t 4)), oT (.mov (.t 5))]) (.seq (.ops [oT (.mov (.v 0)), oT (.mov (.v 4)), oT (.bin .add .arith (.t 1) (.c (.int .i64 1))), oT (.nilc (.t 0)), oT (.faddr 4 (.t 3)), oN (.store 1 (.t 4) (.t 2))]) (.seq (.ops [oT (.mov (.v 0)), oT (.mov (.v 5)), oT (.mov (.v 6)), oT (.len (.t 2)), oT (.bin .add .arith (.t 1) (.t 3)), oT (.nilc (.t 0)), oT (.faddr 5 (.t 5)), oN (.store 1 (.t 6) (.t 4))]) (.seq (.seq (.ops [oV 7 (.mov (.c (.int .i64 0)))]) (.block 0 (.loop (.seq (.seq (.ops [oT (.mov (.v 7)), oT (.mov (.v 6)), oT (.len (.t 1)), oV 17 (.bin .lss .arith (.t 0) (.t 2))]) (.cond (.v 17) .skip (.exit 0))) (.seq (.block 1 (.seq (.ops [oT (.mov (.v 0)), oT (.nilc (.t 0)), oT (.faddr 0 (.t 1)), oT (.load 1 false (.t 2)), oT (.mov (.v 5)), oT (.mov (.v 7)), oT (.bin .add .arith (.t 4) (.t 5)), oT (.mov (.v 6)), oT (.mov (.v 7)), oT (.iaddr 1 (.t 7) (.t 8)), oT (.load 1 false (.t 9)), oT (.call (.c (.fn 11 [])) [(.t 3), (.t 6), (.t 10)]), oV 8 (.mov (.t 11))]) (.seq (.ops [oT (.mov (.v 8)), oV 18 (.bin .neq .arith (.t 0) (.c (.int .i64 0)))]) (.cond (.v 18) (.seq (.ops [oT (.mov (.v 0)), oT (.nilc (.t 0)), oT (.faddr 6 (.t 1)), oN (.store 1 (.t 2) (.c (.bool true)))]) (.seq (.ops [oT (.mov (.v 8)), oV 2 (.mov (.c (.int .i64 0))), oV 3 (.mov (.t 0))]) .ret)) .skip)))) (.ops [oT (.mov (.v 7)), oT (.bin .add .arith (.t 0) (.c (.int .i64 1))), oV 7 (.mov (.t 1))])))))) (.seq (.ops [oT (.mov (.v 0)), oT (.nilc (.t 0)), oT (.faddr 0 (.t 1)), oT (.load 1 false (.t 2)), oT (.call (.c (.fn 66 [])) [(.t 3)]), oV 9 (.mov (.t 4))]) (.seq (.seq (.ops [oT (.mov (.v 9)), oV 19 (.bin .neq .arith (.t 0) (.c (.int .i64 0)))]) (.cond (.v 19) (.seq (.ops [oT (.mov (.v 0)), oT (.nilc (.t 0)), oT (.faddr 6 (.t 1)), oN (.store 1 (.t 2) (.c (.bool true)))]) (.seq (.ops [oT (.mov (.v 9)), oV 2 (.mov (.c (.int .i64 0))), oV 3 (.mov (.t 0))]) .ret)) .skip)) (.seq (.ops [oV 10 (.mov (.c (.bool true)))]) (.seq (.seq (.ops [oV 11 (.mov (.c (.int .i64 0)))]) (.block 2 (.loop (.seq (.seq (.ops [oT (.mov (.v 11)), oT (.mov (.v 6)), oT (.len (.t 1)), oV 20 (.bin .lss .arith (.t 0) (.t 2))]) (.cond (.v 20) .skip (.exit 2))) (.seq (.block 3 (.seq (.ops [oT (.mov (.v 0)), oT (.nilc (.t 0)), oT (.faddr 0 (.t 1)), oT (.load 1 false (.t 2)), oT (.mov (.v 5)), oT (.mov (.v 11)), oT (.bin .add .arith (.t 4) (.t 5)), oT (.call (.c (.fn 53 [])) [(.t 3), (.t 6)]), oT (.mov (.t 7)), oT (.ext (.t 8) 0), oT (.ext (.t 8) 1), oV 12 (.mov (.t 9)), oV 13 (.mov (.t 10))]) (.seq (.seq (.ops [oT (.mov (.v 13)), oV 21 (.bin .neq .arith (.t 0) (.c (.int .i64 0)))]) (.cond (.v 21) (.seq (.ops [oT (.mov (.v 0)), oT (.nilc (.t 0)), oT (.faddr 6 (.t 1)), oN (.store 1 (.t 2) (.c (.bool true)))]) (.seq (.ops [oT (.mov (.v 13)), oV 2 (.mov (.c (.int .i64 0))), oV 3 (.mov (.t 0))]) .ret)) .skip)) (.ops [oT (.mov (.v 10)), oT (.mov (.t 0)), oG 1 true (.mov (.v 12)), oG 1 true (.mov (.v 6)), oG 1 true (.mov (.v 11)), oG 1 true (.iaddr 1 (.t 3) (.t 4)), oG 1 true (.load 1 false (.t 5)), oG 1 true (.bin .eql .arith (.t 2) (.t 6)), oT (.pick (.t 1) (.t 7) (.c (.bool false))), oV 10 (.mov (.t 8))])))) (.ops [oT (.mov (.v 11)), oT (.bin .add .arith (.t 0) (.c (.int .i64 1))), oV 11 (.mov (.t 1))])))))) (.seq (.seq (.ops [oT (.mov (.v 10)), oV 22 (.un .not (.t 0))]) (.cond (.v 22) (.seq (.ops [oV 2 (.mov (.c (.int .i64 0))), oV 3 (.mov (.c (.int .i64 22)))]) .ret) .skip)) (.seq (.ops [oT (.mov (.v 0)), oT (.mov (.v 0)), oT (.nilc (.t 1)), oT (.faddr 1 (.t 2)), oT (.load 1 false (.t 3)), oT (.mov (.v 4)), oT (.lit 0 3 1 1 false [(.int .i64 0)] [(0, (.t 5))]), oT (.append false 3 8 1 false (.t 4) (.t 6)), oT (.nilc (.t 0)), oT (.faddr 1 (.t 8)), oN (.store 1 (.t 9) (.t 7))]) (.seq (.ops [oT (.mov (.v 0)), oT (.mov (.v 0)), oT (.nilc (.t 1)), oT (.faddr 2 (.t 2)), oT (.load 1 false (.t 3)), oT (.mov (.v 1)), oT (.lit 0 9 1 1 false [(.str [])] [(0, (.t 5))]), oT (.append false 9 16 1 false (.t 4) (.t 6)), oT (.nilc (.t 0)), oT (.faddr 2 (.t 8)), oN (.store 1 (.t 9) (.t 7))]) (.seq (.ops [oT (.mov (.v 4)), oV 2 (.mov (.t 0)), oV 3 (.mov (.c (.int .i64 0)))]) .ret)))))))))))))))))), [.v 2, .v 3], []⟩
def c31 : AFunc := ⟨[0, 1], (.ops [oT (.mov (.v 0)), oT (.mov (.v 1)), oT (.mnx true (.c (.int .i64 (-1))) (.t 1)), oT (.nilc (.t 0)), oT (.faddr 2 (.t 3)), oN (.store 1 (.t 4) (.t 2))]), [], []⟩
def c32 : AFunc := ⟨[0, 1, 4, 5, 6, 13, 24, 28], (.seq (.ops [oV 2 (.mov (.c (.int .i64 0)))]) (.seq (.seq (.ops [oV 3 (.mov (.c (.int .i64 0)))]) (.block 0 (.loop (.seq (.seq (.ops [oT (.mov (.v 3)), oT (.mov (.v 0)), oT (.nilc (.t 1)), oT (.faddr 0 (.t 2)), oT (.load 1 false (.t 3)), oT (.len (.t 4)), oV 5 (.bin .lss .arith (.t 0) (.t 5))]) (.cond (.v 5) .skip (.exit 0))) (.seq (.block 1 (.seq (.seq (.ops [oT (.mov (.v 0)), oT (.nilc (.t 0)), oT (.faddr 0 (.t 1)), oT (.load 1 false (.t 2)), oT (.mov (.v 3)), oT (.iaddr 4 (.t 3) (.t 4)), oT (.faddr 2 (.t 5)), oT (.load 1 false (.t 6)), oV 6 (.un .not (.t 7))]) (.cond (.v 6) (.exit 1) .skip)) (.seq (.ops [oV 4 (.mov (.c (.int .i64 64)))]) (.seq (.seq (.ops [oT (.mov (.v 2)), oT (.mov (.v 1)), oT (.len (.t 1)), oV 7 (.bin .lss .arith (.t 0) (.t 2))]) (.cond (.v 7) (.ops [oT (.mov (.v 1)), oT (.mov (.v 2)), oT (.iaddr 1 (.t 0) (.t 1)), oT (.load 1 false (.t 2)), oV 4 (.mov (.t 3))]) .skip)) (.seq (.ops [oT (.mov (.v 0)), oT (.mov (.v 3)), oT (.mov (.v 4)), oT (.call (.c (.fn 67 [])) [(.t 0), (.t 1), (.t 2)])]) (.ops [oT (.mov (.v 2)), oT (.bin .add .arith (.t 0) (.c (.int .i64 1))), oV 2 (.mov (.t 1))])))))) (.ops [oT (.mov (.v 3)), oT (.bin .add .arith (.t 0) (.c (.int .i64 1))), oV 3 (.mov (.t 1))])))))) (.seq (.ops [oT (.mov (.v 0)), oT (.nilc (.t 0)), oT (.faddr 1 (.t 1)), oN (.store 1 (.t 2) (.c (.bool false)))]) (.ops [oT (.mov (.v 0)), oT (.nilc (.t 0)), oT (.faddr 2 (.t 1)), oN (.store 1 (.t 2) (.c (.int .i64 (-1))))])))), [], []⟩
def c33 : AFunc := ⟨[0, 1, 2, 6, 7, 19], (.seq (.ops [oV 3 (.mov (.c (.int .i64 0)))]) (.seq (.seq (.ops [oT (.mov (.v 0)), oT (.mov (.v 1)), oT (.call (.c (.fn 45 [])) [(.t 0), (.t 1)]), oT (.un .not (.t 2)), oT (.mov (.t 3)), oG 4 false (.mov (.v 2)), oG 4 false (.bin .lss .arith (.t 5) (.c (.int .i64 0))), oT (.pick (.t 4) (.c (.bool true)) (.t 6)), oT (.mov (.t 7)), oG 8 false (.mov (.v 2)), oG 8 false (.bin .gtr .arith (.t 9) (.c (.int .i64 511))), oV 5 (.pick (.t 8) (.c (.bool true)) (.t 10))]) (.cond (.v 5) (.seq (.ops [oV 3 (.mov (.c (.int .i64 1)))]) .ret) .skip)) (.seq (.ops [oT (.mov (.v 0)), oT (.nilc (.t 0)), oT (.faddr 0 (.t 1)), oT (.load 1 false (.t 2)), oT (.mov (.v 1)), oT (.iaddr 4 (.t 3) (.t 4)), oT (.faddr 0 (.t 5)), oT (.load 1 false (.t 6)), oT (.x (.s2b true) [(.t 7)]), oV 4 (.mov (.t 8))]) (.seq (.ops [oT (.mov (.v 4)), oT (.mov (.v 2)), oT (.bin .quo .arith (.t 1) (.c (.int .i64 8))), oT (.mov (.v 4)), oT (.mov (.v 2)), oT (.bin .quo .arith (.t 4) (.c (.int .i64 8))), oT (.iaddr 1 (.t 3) (.t 5)), oT (.load 1 false (.t 6)), oT (.mov (.v 2)), oT (.bin .rem .arith (.t 8) (.c (.int .i64 8))), oT (.bin .shl .arith (.c (.int .u8 1)) (.t 9)), oT (.bin .xor .arith (.t 7) (.t 10)), oT (.iaddr 1 (.t 0) (.t 2)), oN (.store 1 (.t 12) (.t 11))]) (.seq (.ops [oT (.mov (.v 0)), oT (.nilc (.t 0)), oT (.faddr 0 (.t 1)), oT (.load 1 false (.t 2)), oT (.mov (.v 1)), oT (.mov (.v 4)), oT (.x .b2s [(.t 5)]), oT (.iaddr 4 (.t 3) (.t 4)), oT (.faddr 0 (.t 7)), oN (.store 1 (.t 8) (.t 6))]) (.seq (.ops [oV 3 (.mov (.c (.int .i64 0)))]) .ret)))))), [.v 3], []⟩
def c34 : AFunc := ⟨[0, 1, 4, 15], (.seq (.ops [oV 2 (.mov (.c (.int .i64 0)))]) (.seq (.seq (.ops [oT (.mov (.v 1)), oT (.bin .lss .arith (.t 0) (.c (.int .i64 0))), oT (.mov (.t 1)), oG 2 false (.mov (.v 1)), oG 2 false (.mov (.v 0)), oG 2 false (.nilc (.t 4)), oG 2 false (.faddr 0 (.t 5)), oG 2 false (.load 1 false (.t 6)), oG 2 false (.len (.t 7)), oG 2 false (.bin .geq .arith (.t 3) (.t 8)), oV 3 (.pick (.t 2) (.c (.bool true)) (.t 9))]) (.cond (.v 3) (.seq (.ops [oV 2 (.mov (.c (.int .i64 1)))]) .ret) .skip)) (.seq (.ops [oT (.mov (.v 0)), oT (.nilc (.t 0)), oT (.faddr 2 (.t 1)), oT (.load 1 false (.t 2)), oT (.mov (.v 1)), oN (.x (.mput (.int .i64)) [(.t 3), (.t 4), (.c (.bool true))])]) (.seq (.ops [oV 2 (.mov (.c (.int .i64 0)))]) .ret)))), [.v 2], []⟩
def c35 : AFunc := ⟨[0, 1, 4, 8], (.seq (.ops [oV 2 (.mov (.c (.int .i64 0)))]) (.seq (.seq (.ops [oT (.mov (.v 0)), oT (.mov (.v 1)), oT (.call (.c (.fn 45 [])) [(.t 0), (.t 1)]), oV 3 (.un .not (.t 2))]) (.cond (.v 3) (.seq (.ops [oV 2 (.mov (.c (.int .i64 1)))]) .ret) .skip)) (.seq (.ops [oT (.mov (.v 0)), oT (.nilc (.t 0)), oT (.faddr 0 (.t 1)), oT (.load 1 false (.t 2)), oT (.mov (.v 1)), oT (.iaddr 4 (.t 3) (.t 4)), oT (.faddr 3 (.t 5)), oN (.store 1 (.t 6) (.c (.bool true)))]) (.seq (.ops [oV 2 (.mov (.c (.int .i64 0)))]) .ret)))), [.v 2], []⟩
def c36 : AFunc := ⟨[0, 2, 3, 4, 11], (.seq (.ops [oV 1 (.mov (.c (.sl [] .nil)))]) (.seq (.ops [oV 2 (.mov (.c (.sl [] .nil)))]) (.seq (.seq (.ops [oV 3 (.mov (.c (.int .i64 0)))]) (.block 0 (.loop (.seq (.seq (.ops [oT (.mov (.v 3)), oT (.mov (.v 0)), oT (.nilc (.t 1)), oT (.faddr 0 (.t 2)), oT (.load 1 false (.t 3)), oT (.len (.t 4)), oV 4 (.bin .lss .arith (.t 0) (.t 5))]) (.cond (.v 4) .skip (.exit 0))) (.seq (.block 1 (.ops [oT (.mov (.v 2)), oT (.mov (.v 0)), oT (.nilc (.t 1)), oT (.faddr 0 (.t 2)), oT (.load 1 false (.t 3)), oT (.mov (.v 3)), oT (.iaddr 4 (.t 4) (.t 5)), oT (.faddr 0 (.t 6)), oT (.load 1 false (.t 7)), oT (.lit 0 9 1 1 false [(.str [])] [(0, (.t 8))]), oT (.append false 9 16 1 false (.t 0) (.t 9)), oV 2 (.mov (.t 10))])) (.ops [oT (.mov (.v 3)), oT (.bin .add .arith (.t 0) (.c (.int .i64 1))), oV 3 (.mov (.t 1))])))))) (.seq (.ops [oT (.mov (.v 2)), oV 1 (.mov (.t 0))]) .ret)))), [.v 1], []⟩
def c37 : AFunc := ⟨[0, 2], (.seq (.ops [oV 1 (.mov (.c (.int .i64 0)))]) (.seq (.ops [oT (.mov (.v 0)), oT (.nilc (.t 0)), oT (.faddr 4 (.t 1)), oT (.load 1 false (.t 2)), oV 1 (.mov (.t 3))]) .ret)), [.v 1], []⟩
def c38 : AFunc := ⟨[0, 2], (.seq (.ops [oV 1 (.mov (.c (.int .i64 0)))]) (.seq (.ops [oT (.mov (.v 0)), oT (.nilc (.t 0)), oT (.faddr 0 (.t 1)), oT (.load 1 false (.t 2)), oT (.mov (.v 0)), oT (.nilc (.t 4)), oT (.faddr 5 (.t 5)), oT (.load 1 false (.t 6)), oT (.gcall 47 [(.t 3)]), oT (.bin .sub .arith (.t 8) (.t 7)), oV 1 (.mov (.t 9))]) .ret)), [.v 1], []⟩
def c40L0 : ALoop := ⟨[(some 9)], (.ops [oV 5 (.alloc 96 64 true (List.replicate 64 (.int .u8 0))), oN (.store 64 (.v 5) (.v 9))]), (.block 2 (.ops [oT (.load 1 false (.v 4)), oT (.x (.aslice 64 1 false false false) [(.v 5)]), oT (.x .b2s [(.t 1)]), oT (.lit 0 9 1 1 false [(.str [])] [(0, (.t 2))]), oT (.append false 9 16 1 false (.t 0) (.t 3)), oN (.store 1 (.v 4) (.t 4))]))⟩
def c40 : AFunc := ⟨[0, 1, 4, 5, 6, 7, 8, 15, 21, 22], (.seq (.ops [oV 2 (.mov (.c (.sl [] .nil))), oV 3 (.mov (.c (.int .i64 0)))]) (.seq (.block 0 (.seq (.ops [oT (.mov (.v 0)), oT (.bin .lss .arith (.t 0) (.c (.int .i64 1))), oT (.mov (.t 1)), oG 2 false (.mov (.v 0)), oG 2 false (.bin .gtr .arith (.t 3) (.c (.int .i64 4096))), oT (.pick (.t 2) (.c (.bool true)) (.t 4)), oV 6 (.mov (.t 5))]) (.cond (.v 6) (.seq (.ops [oV 2 (.mov (.c (.sl [] .nil))), oV 3 (.mov (.c (.int .i64 1)))]) .ret) (.seq (.ops [oT (.mov (.v 1)), oT (.slen (.t 0)), oT (.bin .gtr .arith (.t 1) (.c (.int .i64 8000))), oV 7 (.mov (.t 2))]) (.cond (.v 7) (.seq (.ops [oV 2 (.mov (.c (.sl [] .nil))), oV 3 (.mov (.c (.int .i64 4)))]) .ret) .skip))))) (.seq (.ops [oV 4 (.alloc 22 1 false [(.sl [] .nil)])]) (.seq (.seq (.ops [oT (.mov (.v 0)), oT (.mov (.v 1)), oV 8 (.call (.c (.fn 74 [])) [(.t 0), (.t 1)])]) (.block 1 (.rfunc 40 0 [0, 1, 4, 5, 6, 7, 8, 15, 21, 22] (.v 8)))) (.seq (.ops [oT (.load 1 false (.v 4)), oV 2 (.mov (.t 0)), oV 3 (.mov (.c (.int .i64 0)))]) .ret))))), [.v 2, .v 3], [c40L0]⟩
def c41 : AFunc := ⟨[0, 2, 3, 4, 5, 6, 7], (.seq (.ops [oV 1 (.mov (.c (.int .i64 0))), oV 2 (.mov (.c (.int .i64 0))), oV 3 (.mov (.c (.int .i64 0))), oV 4 (.mov (.c (.str []))), oV 5 (.mov (.c (.bool false)))]) (.seq (.ops [oT (.mov (.v 0)), oT (.pcall 49 [(.t 0)]), oV 6 (.alloc 94 5 true [(.int .i64 0), (.int .i64 0), (.int .i64 0), (.str []), (.bool false)]), oN (.store 5 (.v 6) (.t 1))]) (.seq (.ops [oT (.faddr 0 (.v 6)), oT (.load 1 false (.t 0)), oT (.faddr 1 (.v 6)), oT (.load 1 false (.t 2)), oT (.faddr 2 (.v 6)), oT (.load 1 false (.t 4)), oT (.faddr 3 (.v 6)), oT (.load 1 false (.t 6)), oT (.faddr 4 (.v 6)), oT (.load 1 false (.t 8)), oV 1 (.mov (.t 1)), oV 2 (.mov (.t 3)), oV 3 (.mov (.t 5)), oV 4 (.mov (.t 7)), oV 5 (.mov (.t 9))]) .ret))), [.v 1, .v 2, .v 3, .v 4, .v 5], []⟩
def c42 : AFunc := ⟨[0, 2], (.seq (.ops [oV 1 (.mov (.c (.sl [] .nil)))]) (.seq (.ops [oT (.mov (.v 0)), oT (.nilc (.t 0)), oT (.faddr 1 (.t 1)), oT (.load 1 false (.t 2)), oT (.call (.c (.fn 62 [])) [(.t 3)]), oV 1 (.mov (.t 4))]) .ret)), [.v 1], []⟩
def c43 : AFunc := ⟨[0, 1, 4, 5, 10], (.seq (.ops [oV 2 (.mov (.c (.int .i64 0)))]) (.seq (.block 0 (.seq (.ops [oT (.mov (.v 0)), oT (.nilc (.t 0)), oT (.faddr 3 (.t 1)), oT (.load 1 false (.t 2)), oV 3 (.mov (.t 3))]) (.cond (.v 3) (.seq (.ops [oV 2 (.mov (.c (.int .i64 21)))]) .ret) (.seq (.ops [oT (.mov (.v 1)), oT (.bin .lss .arith (.t 0) (.c (.int .i64 0))), oT (.mov (.t 1)), oG 2 false (.mov (.v 1)), oG 2 false (.mov (.v 0)), oG 2 false (.nilc (.t 4)), oG 2 false (.faddr 0 (.t 5)), oG 2 false (.load 1 false (.t 6)), oG 2 false (.len (.t 7)), oG 2 false (.bin .geq .arith (.t 3) (.t 8)), oT (.pick (.t 2) (.c (.bool true)) (.t 9)), oV 4 (.mov (.t 10))]) (.cond (.v 4) (.seq (.ops [oV 2 (.mov (.c (.int .i64 1)))]) .ret) .skip))))) (.seq (.ops [oV 2 (.mov (.c (.int .i64 0)))]) .ret))), [.v 2], []⟩
def c44 : AFunc := ⟨[0, 2, 3, 12], (.seq (.ops [oV 1 (.mov (.c (.int .i64 0)))]) (.seq (.block 0 (.seq (.ops [oT (.mov (.v 0)), oT (.nilc (.t 0)), oT (.faddr 4 (.t 1)), oT (.load 1 false (.t 2)), oT (.bin .eql .arith (.t 3) (.c (.int .i64 0))), oV 2 (.mov (.t 4))]) (.cond (.v 2) (.seq (.ops [oT (.mov (.v 0)), oT (.nilc (.t 0)), oT (.faddr 3 (.t 1)), oN (.store 1 (.t 2) (.c (.bool true)))]) (.seq (.ops [oV 1 (.mov (.c (.int .i64 21)))]) .ret)) (.seq (.ops [oT (.mov (.v 0)), oT (.nilc (.t 0)), oT (.faddr 4 (.t 1)), oT (.load 1 false (.t 2)), oT (.bin .gtr .arith (.t 3) (.c (.int .i64 0))), oV 3 (.mov (.t 4))]) (.cond (.v 3) (.ops [oT (.mov (.v 0)), oT (.nilc (.t 0)), oT (.faddr 4 (.t 1)), oT (.load 1 false (.t 2)), oT (.bin .sub .arith (.t 3) (.c (.int .i64 1))), oT (.nilc (.t 0)), oT (.faddr 4 (.t 5)), oN (.store 1 (.t 6) (.t 4))]) .skip))))) (.seq (.ops [oV 1 (.mov (.c (.int .i64 0)))]) .ret))), [.v 1], []⟩
def c45 : AFunc := ⟨[0, 1, 4], (.seq (.ops [oV 2 (.mov (.c (.bool false)))]) (.seq (.ops [oT (.mov (.v 1)), oT (.bin .geq .arith (.t 0) (.c (.int .i64 0))), oT (.mov (.t 1)), oG 2 true (.mov (.v 1)), oG 2 true (.mov (.v 0)), oG 2 true (.nilc (.t 4)), oG 2 true (.faddr 0 (.t 5)), oG 2 true (.load 1 false (.t 6)), oG 2 true (.len (.t 7)), oG 2 true (.bin .lss .arith (.t 3) (.t 8)), oT (.pick (.t 2) (.t 9) (.c (.bool false))), oV 2 (.mov (.t 10))]) .ret)), [.v 2], []⟩
def c46 : AFunc := ⟨[0, 2, 7, 15], (.seq (.ops [oV 1 (.mov (.c (.int .i64 0)))]) (.seq (.seq (.ops [oT (.mov (.v 0)), oT (.nilc (.t 0)), oT (.faddr 2 (.t 1)), oT (.load 1 false (.t 2)), oV 2 (.bin .eql .arith (.t 3) (.c (.int .i64 0)))]) (.cond (.v 2) (.seq (.ops [oT (.mov (.v 0)), oT (.nilc (.t 0)), oT (.faddr 1 (.t 1)), oN (.store 1 (.t 2) (.c (.bool true)))]) (.seq (.ops [oV 1 (.mov (.c (.int .i64 21)))]) .ret)) .skip)) (.seq (.seq (.ops [oT (.mov (.v 0)), oT (.nilc (.t 0)), oT (.faddr 2 (.t 1)), oT (.load 1 false (.t 2)), oV 3 (.bin .gtr .arith (.t 3) (.c (.int .i64 0)))]) (.cond (.v 3) (.ops [oT (.mov (.v 0)), oT (.nilc (.t 0)), oT (.faddr 2 (.t 1)), oT (.load 1 false (.t 2)), oT (.bin .sub .arith (.t 3) (.c (.int .i64 1))), oT (.nilc (.t 0)), oT (.faddr 2 (.t 5)), oN (.store 1 (.t 6) (.t 4))]) .skip)) (.seq (.ops [oV 1 (.mov (.c (.int .i64 0)))]) .ret)))), [.v 1], []⟩
def c47 : AFunc := ⟨[0, 2], (.seq (.ops [oV 1 (.mov (.c (.int .i64 0)))]) (.seq (.ops [oT (.mov (.v 0)), oT (.nilc (.t 0)), oT (.faddr 0 (.t 1)), oT (.load 1 false (.t 2)), oT (.len (.t 3)), oV 1 (.mov (.t 4))]) .ret)), [.v 1], []⟩
def c48 : AFunc := ⟨[0, 1, 4, 5, 6, 7, 8, 13, 24], (.seq (.ops [oV 2 (.mov (.c (.str []))), oV 3 (.mov (.c (.int .i64 0)))]) (.seq (.seq (.ops [oT (.mov (.v 0)), oT (.mov (.v 1)), oT (.call (.c (.fn 43 [])) [(.t 0), (.t 1)]), oV 4 (.mov (.t 2))]) (.seq (.ops [oT (.mov (.v 4)), oV 7 (.bin .neq .arith (.t 0) (.c (.int .i64 0)))]) (.cond (.v 7) (.seq (.ops [oT (.mov (.v 4)), oV 2 (.mov (.c (.str []))), oV 3 (.mov (.t 0))]) .ret) .skip))) (.seq (.seq (.ops [oT (.mov (.v 0)), oT (.nilc (.t 0)), oT (.faddr 1 (.t 1)), oT (.load 1 false (.t 2)), oT (.mov (.v 1)), oT (.x (.mlook (.int .i64) (.agg (List.replicate 64 (.int .u8 0))) true) [(.t 3), (.t 4)]), oT (.mov (.t 5)), oT (.ext (.t 6) 0), oT (.ext (.t 6) 1), oV 5 (.alloc 86 64 true (List.replicate 64 (.int .u8 0))), oN (.store 64 (.v 5) (.t 7)), oV 6 (.mov (.t 8))]) (.seq (.ops [oV 8 (.mov (.v 6))]) (.cond (.v 8) (.seq (.ops [oT (.x (.aslice 64 1 false false false) [(.v 5)]), oT (.x .b2s [(.t 0)]), oV 2 (.mov (.t 1)), oV 3 (.mov (.c (.int .i64 0)))]) .ret) .skip))) (.seq (.ops [oT (.mov (.v 0)), oT (.nilc (.t 0)), oT (.faddr 0 (.t 1)), oT (.load 1 false (.t 2)), oT (.mov (.v 1)), oT (.iaddr 64 (.t 3) (.t 4)), oT (.x (.aslice 64 1 false false false) [(.t 5)]), oT (.x .b2s [(.t 6)]), oV 2 (.mov (.t 7)), oV 3 (.mov (.c (.int .i64 0)))]) .ret)))), [.v 2, .v 3], []⟩
def c49 : AFunc := ⟨[0, 2, 3, 4, 5, 6, 7, 10, 71], (.seq (.ops [oV 1 (.alloc 94 5 true [(.int .i64 0), (.int .i64 0), (.int .i64 0), (.str []), (.bool false)])]) (.seq (.seq (.ops [oT (.mov (.v 0)), oT (.slen (.t 0)), oV 7 (.bin .neq .arith (.t 1) (.c (.int .i64 64)))]) (.cond (.v 7) (.seq (.ops [oT (.build [(.int .i64 0), (.int .i64 0), (.int .i64 0), (.str []), (.bool false)] []), oN (.store 5 (.v 1) (.t 0))]) .ret) .skip)) (.seq (.ops [oT (.mov (.v 0)), oT (.x (.s2b false) [(.t 0)]), oT (.x (.s2ap 64 1) [(.t 1)]), oT (.load 64 true (.t 2)), oV 2 (.alloc 96 64 true (List.replicate 64 (.int .u8 0))), oN (.store 64 (.v 2) (.t 3))]) (.seq (.ops [oT (.x (.aslice 64 1 false false true) [(.v 2), (.c (.int .i64 56))]), oT (.pcall 75 [(.t 0)]), oV 3 (.alloc 125 32 true (List.replicate 32 (.int .u8 0))), oN (.store 32 (.v 3) (.t 1))]) (.seq (.ops [oT (.x (.aslice 64 1 false false true) [(.v 2), (.c (.int .i64 4))]), oT (.pcall 76 [(.t 0)]), oT (.x (.aslice 64 1 false true true) [(.v 2), (.c (.int .i64 4)), (.c (.int .i64 6))]), oT (.pcall 76 [(.t 2)]), oT (.x (.aslice 64 1 false true true) [(.v 2), (.c (.int .i64 6)), (.c (.int .i64 8))]), oT (.pcall 76 [(.t 4)]), oT (.build [(.int .i64 0), (.int .i64 0), (.int .i64 0), (.str []), (.bool false)] [(0, 1, (.t 1)), (1, 1, (.t 3)), (2, 1, (.t 5)), (4, 1, (.c (.bool true)))]), oV 4 (.alloc 94 5 true [(.int .i64 0), (.int .i64 0), (.int .i64 0), (.str []), (.bool false)]), oN (.store 5 (.v 4) (.t 6))]) (.seq (.ops [oT (.faddr 2 (.v 4)), oT (.load 1 false (.t 0)), oT (.mnx false (.t 1) (.c (.int .i64 48))), oV 5 (.mov (.t 2))]) (.seq (.ops [oT (.mov (.v 5)), oT (.bin .sub .arith (.c (.int .i64 48)) (.t 0)), oT (.mksl 1 1 false [(.int .u8 0)] (.t 1) (.t 1)), oV 6 (.mov (.t 2))]) (.seq (.seq (.ops [oT (.x (.aslice 32 1 false false true) [(.v 3), (.c (.int .i64 8))]), oT (.x (.aslice 64 1 false true false) [(.v 2), (.c (.int .i64 56))]), oT (.pcall 77 [(.t 0), (.t 1)]), oT (.un .not (.t 2)), oT (.mov (.t 3)), oG 4 false (.faddr 0 (.v 4)), oG 4 false (.load 1 false (.t 5)), oG 4 false (.bin .eql .arith (.t 6) (.c (.int .i64 0))), oT (.pick (.t 4) (.c (.bool true)) (.t 7)), oT (.mov (.t 8)), oG 9 false (.faddr 0 (.v 4)), oG 9 false (.load 1 false (.t 10)), oG 9 false (.bin .gtr .arith (.t 11) (.c (.int .i64 4096))), oT (.pick (.t 9) (.c (.bool true)) (.t 12)), oT (.mov (.t 13)), oG 14 false (.faddr 1 (.v 4)), oG 14 false (.load 1 false (.t 15)), oG 14 false (.bin .mul .arith (.c (.int .i64 48)) (.t 16)), oG 14 false (.faddr 2 (.v 4)), oG 14 false (.load 1 false (.t 18)), oG 14 false (.bin .add .arith (.t 17) (.t 19)), oG 14 false (.bin .gtr .arith (.t 20) (.c (.int .i64 8000))), oT (.pick (.t 14) (.c (.bool true)) (.t 21)), oT (.mov (.t 22)), oG 23 false (.faddr 2 (.v 4)), oG 23 false (.load 1 false (.t 24)), oG 23 false (.bin .eql .arith (.t 25) (.c (.int .i64 0))), oG 23 false (.mov (.t 26)), oG 27 true (.faddr 1 (.v 4)), oG 27 true (.load 1 false (.t 28)), oG 27 true (.bin .gtr .arith (.t 29) (.c (.int .i64 0))), oG 23 false (.pick (.t 27) (.t 30) (.c (.bool false))), oT (.pick (.t 23) (.c (.bool true)) (.t 31)), oT (.mov (.t 32)), oG 33 false (.mov (.v 5)), oG 33 false (.bin .add .arith (.c (.int .i64 8)) (.t 34)), oG 33 false (.x (.aslice 64 1 false true true) [(.v 2), (.t 35), (.c (.int .i64 56))]), oG 33 false (.mov (.v 6)), oG 33 false (.pcall 77 [(.t 36), (.t 37)]), oG 33 false (.un .not (.t 38)), oV 8 (.pick (.t 33) (.c (.bool true)) (.t 39))]) (.cond (.v 8) (.seq (.ops [oT (.build [(.int .i64 0), (.int .i64 0), (.int .i64 0), (.str []), (.bool false)] []), oN (.store 5 (.v 1) (.t 0))]) .ret) .skip)) (.seq (.ops [oT (.mov (.v 0)), oT (.mov (.v 5)), oT (.bin .add .arith (.c (.int .i64 8)) (.t 1)), oT (.sslice (.t 0) (some (.c (.int .i64 8))) (some (.t 2))), oT (.faddr 3 (.v 4)), oN (.store 1 (.t 4) (.t 3))]) (.seq (.ops [oT (.load 5 true (.v 4)), oN (.store 5 (.v 1) (.t 0))]) .ret)))))))))), [.c 1 5 true], []⟩
def c50 : AFunc := ⟨[0, 2, 3, 4, 5, 6, 7, 8, 9, 29, 32, 33, 34, 35, 64], (.seq (.ops [oV 1 (.mov (.c (.str []))), oV 2 (.mov (.c (.int .i64 0))), oV 3 (.mov (.c (.bool false)))]) (.seq (.ops [oT (.mov (.v 0)), oT (.iaddr 5 (.t 0) (.c (.int .i64 0))), oT (.load 5 true (.t 1)), oV 4 (.alloc 94 5 true [(.int .i64 0), (.int .i64 0), (.int .i64 0), (.str []), (.bool false)]), oN (.store 5 (.v 4) (.t 2))]) (.seq (.ops [oT (.faddr 2 (.v 4)), oT (.load 1 false (.t 0)), oT (.pcall 16 [(.t 1)]), oV 5 (.mov (.t 2))]) (.seq (.seq (.ops [oT (.faddr 4 (.v 4)), oT (.load 1 false (.t 0)), oT (.un .not (.t 1)), oT (.mov (.t 2)), oG 3 false (.faddr 1 (.v 4)), oG 3 false (.load 1 false (.t 4)), oG 3 false (.bin .neq .arith (.t 5) (.c (.int .i64 0))), oT (.pick (.t 3) (.c (.bool true)) (.t 6)), oT (.mov (.t 7)), oG 8 false (.mov (.v 5)), oG 8 false (.mov (.v 0)), oG 8 false (.len (.t 10)), oG 8 false (.bin .gtr .arith (.t 9) (.t 11)), oV 9 (.pick (.t 8) (.c (.bool true)) (.t 12))]) (.cond (.v 9) (.seq (.ops [oV 1 (.mov (.c (.str []))), oV 2 (.mov (.c (.int .i64 0))), oV 3 (.mov (.c (.bool false)))]) .ret) .skip)) (.seq (.ops [oV 6 (.mov (.c (.str [])))]) (.seq (.seq (.ops [oT (.mov (.v 0)), oT (.mov (.v 5)), oV 10 (.slice 5 (.t 0) .none (some (.t 1))), oV 11 (.len (.v 10)), oV 12 (.mov (.c (.int .i64 0)))]) (.block 0 (.loop (.seq (.ops [oV 13 (.bin .lss .arith (.v 12) (.v 11))]) (.seq (.cond (.v 13) .skip (.exit 0)) (.seq (.block 1 (.seq (.ops [oT (.mov (.v 12)), oT (.iaddr 5 (.v 10) (.v 12)), oT (.load 5 true (.t 1)), oV 8 (.alloc 94 5 true [(.int .i64 0), (.int .i64 0), (.int .i64 0), (.str []), (.bool false)]), oV 7 (.mov (.t 0)), oN (.store 5 (.v 8) (.t 2))]) (.seq (.seq (.ops [oT (.faddr 4 (.v 8)), oT (.load 1 false (.t 0)), oT (.un .not (.t 1)), oT (.mov (.t 2)), oG 3 false (.faddr 0 (.v 8)), oG 3 false (.load 1 false (.t 4)), oG 3 false (.faddr 0 (.v 4)), oG 3 false (.load 1 false (.t 6)), oG 3 false (.bin .neq .arith (.t 5) (.t 7)), oT (.pick (.t 3) (.c (.bool true)) (.t 8)), oT (.mov (.t 9)), oG 10 false (.faddr 1 (.v 8)), oG 10 false (.load 1 false (.t 11)), oG 10 false (.mov (.v 7)), oG 10 false (.bin .neq .arith (.t 12) (.t 13)), oT (.pick (.t 10) (.c (.bool true)) (.t 14)), oT (.mov (.t 15)), oG 16 false (.faddr 2 (.v 8)), oG 16 false (.load 1 false (.t 17)), oG 16 false (.faddr 2 (.v 4)), oG 16 false (.load 1 false (.t 19)), oG 16 false (.mov (.v 7)), oG 16 false (.bin .mul .arith (.c (.int .i64 48)) (.t 21)), oG 16 false (.bin .sub .arith (.t 20) (.t 22)), oG 16 false (.bin .neq .arith (.t 18) (.t 23)), oV 14 (.pick (.t 16) (.c (.bool true)) (.t 24))]) (.cond (.v 14) (.seq (.ops [oV 1 (.mov (.c (.str []))), oV 2 (.mov (.c (.int .i64 0))), oV 3 (.mov (.c (.bool false)))]) .ret) .skip)) (.ops [oT (.mov (.v 6)), oT (.faddr 3 (.v 8)), oT (.load 1 false (.t 1)), oT (.bin .add .arith (.t 0) (.t 2)), oV 6 (.mov (.t 3))])))) (.ops [oT (.bin .add .arith (.v 12) (.c (.int .i64 1))), oV 12 (.mov (.t 0))]))))))) (.seq (.ops [oT (.mov (.v 6)), oT (.mov (.v 5)), oV 1 (.mov (.t 0)), oV 2 (.mov (.t 1)), oV 3 (.mov (.c (.bool true)))]) .ret))))))), [.v 1, .v 2, .v 3], []⟩
def c51 : AFunc := ⟨[0, 1, 4], (.seq (.ops [oV 2 (.mov (.c (.bool false)))]) (.seq (.ops [oT (.mov (.v 0)), oT (.mov (.v 1)), oT (.pcall 78 [(.t 0), (.t 1)]), oT (.bin .geq .arith (.t 2) (.c (.int .i64 0))), oV 2 (.mov (.t 3))]) .ret)), [.v 2], []⟩
def c52 : AFunc := ⟨[0, 2], (.seq (.ops [oV 1 (.mov (.c (.int .i64 0)))]) (.seq (.ops [oT (.mov (.v 0)), oT (.nilc (.t 0)), oT (.faddr 0 (.t 1)), oT (.load 1 false (.t 2)), oT (.len (.t 3)), oV 1 (.mov (.t 4))]) .ret)), [.v 1], []⟩
def c53 : AFunc := ⟨[0, 1, 4, 5, 9, 13, 21], (.seq (.ops [oV 2 (.mov (.c (.str []))), oV 3 (.mov (.c (.int .i64 0)))]) (.seq (.seq (.ops [oT (.mov (.v 0)), oT (.nilc (.t 0)), oT (.faddr 1 (.t 1)), oV 4 (.load 1 false (.t 2))]) (.cond (.v 4) (.seq (.ops [oV 2 (.mov (.c (.str []))), oV 3 (.mov (.c (.int .i64 21)))]) .ret) .skip)) (.seq (.seq (.ops [oT (.mov (.v 0)), oT (.mov (.v 1)), oT (.call (.c (.fn 45 [])) [(.t 0), (.t 1)]), oV 5 (.un .not (.t 2))]) (.cond (.v 5) (.seq (.ops [oV 2 (.mov (.c (.str []))), oV 3 (.mov (.c (.int .i64 1)))]) .ret) .skip)) (.seq (.seq (.ops [oT (.mov (.v 0)), oT (.nilc (.t 0)), oT (.faddr 0 (.t 1)), oT (.load 1 false (.t 2)), oT (.mov (.v 1)), oT (.iaddr 4 (.t 3) (.t 4)), oT (.faddr 2 (.t 5)), oV 6 (.load 1 false (.t 6))]) (.cond (.v 6) (.seq (.ops [oT (.mov (.v 0)), oT (.nilc (.t 0)), oT (.faddr 0 (.t 1)), oT (.load 1 false (.t 2)), oT (.mov (.v 1)), oT (.iaddr 4 (.t 3) (.t 4)), oT (.faddr 1 (.t 5)), oT (.load 1 false (.t 6)), oV 2 (.mov (.t 7)), oV 3 (.mov (.c (.int .i64 0)))]) .ret) .skip)) (.seq (.ops [oT (.mov (.v 0)), oT (.nilc (.t 0)), oT (.faddr 0 (.t 1)), oT (.load 1 false (.t 2)), oT (.mov (.v 1)), oT (.iaddr 4 (.t 3) (.t 4)), oT (.faddr 0 (.t 5)), oT (.load 1 false (.t 6)), oV 2 (.mov (.t 7)), oV 3 (.mov (.c (.int .i64 0)))]) .ret))))), [.v 2, .v 3], []⟩
def c54 : AFunc := ⟨[0, 2, 3, 4, 5, 8, 54, 59, 63, 69], (.seq (.ops [oV 1 (.alloc 102 5 true [(.int .i64 0), (.int .i64 0), (.int .i64 0), (.str []), (.bool false)])]) (.seq (.seq (.ops [oT (.mov (.v 0)), oT (.slen (.t 0)), oV 5 (.bin .neq .arith (.t 1) (.c (.int .i64 64)))]) (.cond (.v 5) (.seq (.ops [oT (.build [(.int .i64 0), (.int .i64 0), (.int .i64 0), (.str []), (.bool false)] []), oN (.store 5 (.v 1) (.t 0))]) .ret) .skip)) (.seq (.ops [oT (.mov (.v 0)), oT (.sslice (.t 0) .none (some (.c (.int .i64 4)))), oT (.pcall 79 [(.t 1)]), oT (.mov (.v 0)), oT (.sslice (.t 3) (some (.c (.int .i64 4))) (some (.c (.int .i64 6)))), oT (.pcall 79 [(.t 4)]), oT (.mov (.v 0)), oT (.sslice (.t 6) (some (.c (.int .i64 6))) (some (.c (.int .i64 8)))), oT (.pcall 79 [(.t 7)]), oT (.build [(.int .i64 0), (.int .i64 0), (.int .i64 0), (.str []), (.bool false)] [(0, 1, (.t 2)), (1, 1, (.t 5)), (2, 1, (.t 8)), (4, 1, (.c (.bool true)))]), oV 2 (.alloc 102 5 true [(.int .i64 0), (.int .i64 0), (.int .i64 0), (.str []), (.bool false)]), oN (.store 5 (.v 2) (.t 9))]) (.seq (.seq (.ops [oT (.mov (.v 0)), oT (.sslice (.t 0) .none (some (.c (.int .i64 56)))), oT (.x (.s2b false) [(.t 1)]), oT (.pcall 80 [(.t 2)]), oT (.mov (.v 0)), oT (.bin .neq .arith (.t 3) (.t 4)), oT (.mov (.t 5)), oG 6 false (.faddr 0 (.v 2)), oG 6 false (.load 1 false (.t 7)), oG 6 false (.bin .lss .arith (.t 8) (.c (.int .i64 1))), oT (.pick (.t 6) (.c (.bool true)) (.t 9)), oT (.mov (.t 10)), oG 11 false (.faddr 0 (.v 2)), oG 11 false (.load 1 false (.t 12)), oG 11 false (.bin .gtr .arith (.t 13) (.c (.int .i64 4096))), oT (.pick (.t 11) (.c (.bool true)) (.t 14)), oT (.mov (.t 15)), oG 16 false (.faddr 1 (.v 2)), oG 16 false (.load 1 false (.t 17)), oG 16 false (.bin .mul .arith (.c (.int .i64 48)) (.t 18)), oG 16 false (.faddr 2 (.v 2)), oG 16 false (.load 1 false (.t 20)), oG 16 false (.bin .add .arith (.t 19) (.t 21)), oG 16 false (.bin .gtr .arith (.t 22) (.c (.int .i64 8000))), oT (.pick (.t 16) (.c (.bool true)) (.t 23)), oT (.mov (.t 24)), oG 25 false (.faddr 2 (.v 2)), oG 25 false (.load 1 false (.t 26)), oG 25 false (.bin .lss .arith (.t 27) (.c (.int .i64 1))), oG 25 false (.mov (.t 28)), oG 29 true (.faddr 1 (.v 2)), oG 29 true (.load 1 false (.t 30)), oG 29 true (.bin .gtr .arith (.t 31) (.c (.int .i64 0))), oG 25 false (.pick (.t 29) (.t 32) (.c (.bool false))), oV 6 (.pick (.t 25) (.c (.bool true)) (.t 33))]) (.cond (.v 6) (.seq (.ops [oT (.build [(.int .i64 0), (.int .i64 0), (.int .i64 0), (.str []), (.bool false)] []), oN (.store 5 (.v 1) (.t 0))]) .ret) .skip)) (.seq (.ops [oT (.faddr 2 (.v 2)), oT (.load 1 false (.t 0)), oV 3 (.mov (.t 1))]) (.seq (.seq (.ops [oT (.mov (.v 3)), oV 7 (.bin .gtr .arith (.t 0) (.c (.int .i64 48)))]) (.cond (.v 7) (.ops [oV 3 (.mov (.c (.int .i64 48)))]) .skip)) (.seq (.seq (.ops [oT (.mov (.v 3)), oT (.bin .add .arith (.c (.int .i64 8)) (.t 0)), oV 4 (.mov (.t 1))]) (.block 0 (.loop (.seq (.seq (.ops [oT (.mov (.v 4)), oV 8 (.bin .lss .arith (.t 0) (.c (.int .i64 56)))]) (.cond (.v 8) .skip (.exit 0))) (.seq (.block 1 (.seq (.ops [oT (.mov (.v 0)), oT (.mov (.v 4)), oT (.sidx (.t 0) (.t 1)), oV 9 (.bin .neq .arith (.t 2) (.c (.int .u8 0)))]) (.cond (.v 9) (.seq (.ops [oT (.build [(.int .i64 0), (.int .i64 0), (.int .i64 0), (.str []), (.bool false)] []), oN (.store 5 (.v 1) (.t 0))]) .ret) .skip))) (.ops [oT (.mov (.v 4)), oT (.bin .add .arith (.t 0) (.c (.int .i64 1))), oV 4 (.mov (.t 1))])))))) (.seq (.ops [oT (.mov (.v 0)), oT (.mov (.v 3)), oT (.bin .add .arith (.c (.int .i64 8)) (.t 1)), oT (.sslice (.t 0) (some (.c (.int .i64 8))) (some (.t 2))), oT (.faddr 3 (.v 2)), oN (.store 1 (.t 4) (.t 3))]) (.seq (.ops [oT (.load 5 true (.v 2)), oN (.store 5 (.v 1) (.t 0))]) .ret))))))))), [.c 1 5 true], []⟩
def c55 : AFunc := ⟨[0, 2, 3, 7, 13], (.seq (.ops [oV 1 (.mov (.c (.bool false)))]) (.seq (.seq (.ops [oV 2 (.mov (.c (.int .i64 0)))]) (.block 0 (.loop (.seq (.seq (.ops [oT (.mov (.v 2)), oT (.mov (.v 0)), oT (.slen (.t 1)), oV 3 (.bin .lss .arith (.t 0) (.t 2))]) (.cond (.v 3) .skip (.exit 0))) (.seq (.block 1 (.seq (.ops [oT (.mov (.v 0)), oT (.mov (.v 2)), oT (.sidx (.t 0) (.t 1)), oV 4 (.bin .neq .arith (.t 2) (.c (.int .u8 0)))]) (.cond (.v 4) (.seq (.ops [oV 1 (.mov (.c (.bool false)))]) .ret) .skip))) (.ops [oT (.mov (.v 2)), oT (.bin .add .arith (.t 0) (.c (.int .i64 1))), oV 2 (.mov (.t 1))])))))) (.seq (.ops [oV 1 (.mov (.c (.bool true)))]) .ret))), [.v 1], []⟩
def c56 : AFunc := ⟨[0, 2, 8, 10], (.seq (.ops [oV 1 (.mov (.c (.int .i64 0)))]) (.seq (.seq (.ops [oT (.mov (.v 0)), oT (.bin .lss .arith (.t 0) (.c (.int .i64 0))), oT (.mov (.t 1)), oG 2 false (.mov (.v 0)), oG 2 false (.bin .gtr .arith (.t 3) (.c (.int .i64 8000))), oV 2 (.pick (.t 2) (.c (.bool true)) (.t 4))]) (.cond (.v 2) (.seq (.ops [oV 1 (.mov (.c (.int .i64 0)))]) .ret) .skip)) (.seq (.seq (.ops [oT (.mov (.v 0)), oV 3 (.bin .eql .arith (.t 0) (.c (.int .i64 0)))]) (.cond (.v 3) (.seq (.ops [oV 1 (.mov (.c (.int .i64 1)))]) .ret) .skip)) (.seq (.ops [oT (.mov (.v 0)), oT (.bin .add .arith (.t 0) (.c (.int .i64 47))), oT (.bin .quo .arith (.t 1) (.c (.int .i64 48))), oV 1 (.mov (.t 2))]) .ret)))), [.v 1], []⟩
def c57 : AFunc := ⟨[0, 1, 4, 5, 9, 17], (.seq (.ops [oV 2 (.mov (.c (.bool false)))]) (.seq (.seq (.ops [oV 3 (.mov (.c (.int .i64 0)))]) (.block 0 (.loop (.seq (.seq (.ops [oT (.mov (.v 3)), oT (.mov (.v 0)), oT (.len (.t 1)), oV 4 (.bin .lss .arith (.t 0) (.t 2))]) (.cond (.v 4) .skip (.exit 0))) (.seq (.block 1 (.seq (.ops [oT (.mov (.v 0)), oT (.mov (.v 3)), oT (.iaddr 1 (.t 0) (.t 1)), oT (.load 1 false (.t 2)), oT (.mov (.v 1)), oV 5 (.bin .eql .arith (.t 3) (.t 4))]) (.cond (.v 5) (.seq (.ops [oV 2 (.mov (.c (.bool true)))]) .ret) .skip))) (.ops [oT (.mov (.v 3)), oT (.bin .add .arith (.t 0) (.c (.int .i64 1))), oV 3 (.mov (.t 1))])))))) (.seq (.ops [oV 2 (.mov (.c (.bool false)))]) .ret))), [.v 2], []⟩
def c58 : AFunc := ⟨[0, 2, 3, 4, 5, 11, 21], (.seq (.ops [oV 1 (.mov (.c (.sl [] .nil)))]) (.seq (.ops [oV 2 (.mov (.c (.sl [] .nil)))]) (.seq (.seq (.ops [oV 3 (.mov (.c (.int .i64 1)))]) (.block 0 (.loop (.seq (.seq (.ops [oT (.mov (.v 3)), oT (.mov (.v 0)), oT (.nilc (.t 1)), oT (.faddr 4 (.t 2)), oT (.load 1 false (.t 3)), oV 5 (.bin .lss .arith (.t 0) (.t 4))]) (.cond (.v 5) .skip (.exit 0))) (.seq (.block 1 (.seq (.ops [oT (.mov (.v 0)), oT (.nilc (.t 0)), oT (.faddr 1 (.t 1)), oT (.load 1 false (.t 2)), oT (.mov (.v 3)), oT (.pcall 57 [(.t 3), (.t 4)]), oV 4 (.mov (.t 5))]) (.seq (.ops [oT (.mov (.v 4)), oV 6 (.un .not (.t 0))]) (.cond (.v 6) (.ops [oT (.mov (.v 2)), oT (.mov (.v 3)), oT (.lit 0 3 1 1 false [(.int .i64 0)] [(0, (.t 1))]), oT (.append false 3 8 1 false (.t 0) (.t 2)), oV 2 (.mov (.t 3))]) .skip)))) (.ops [oT (.mov (.v 3)), oT (.bin .add .arith (.t 0) (.c (.int .i64 1))), oV 3 (.mov (.t 1))])))))) (.seq (.ops [oT (.mov (.v 2)), oV 1 (.mov (.t 0))]) .ret)))), [.v 1], []⟩
def c59 : AFunc := ⟨[0, 2], (.seq (.ops [oV 1 (.mov (.c (.int .i64 0)))]) (.seq (.ops [oT (.mov (.v 0)), oT (.nilc (.t 0)), oT (.faddr 0 (.t 1)), oT (.load 1 false (.t 2)), oT (.mov (.v 0)), oT (.nilc (.t 4)), oT (.faddr 5 (.t 5)), oT (.load 1 false (.t 6)), oT (.gcall 52 [(.t 3)]), oT (.bin .sub .arith (.t 8) (.t 7)), oV 1 (.mov (.t 9))]) .ret)), [.v 1], []⟩
def c60 : AFunc := ⟨[0, 1, 4, 5, 6, 7, 8, 9, 10, 11, 17, 20, 25, 44, 50], (.seq (.ops [oV 2 (.mov (.c (.sl [] .nil))), oV 3 (.mov (.c (.int .i64 0)))]) (.seq (.seq (.ops [oT (.mov (.v 0)), oT (.bin .lss .arith (.t 0) (.c (.int .i64 1))), oT (.mov (.t 1)), oG 2 false (.mov (.v 0)), oG 2 false (.bin .gtr .arith (.t 3) (.c (.int .i64 4096))), oV 10 (.pick (.t 2) (.c (.bool true)) (.t 4))]) (.cond (.v 10) (.seq (.ops [oV 2 (.mov (.c (.sl [] .nil))), oV 3 (.mov (.c (.int .i64 1)))]) .ret) .skip)) (.seq (.seq (.ops [oT (.mov (.v 1)), oT (.slen (.t 0)), oV 11 (.bin .gtr .arith (.t 1) (.c (.int .i64 8000)))]) (.cond (.v 11) (.seq (.ops [oV 2 (.mov (.c (.sl [] .nil))), oV 3 (.mov (.c (.int .i64 4)))]) .ret) .skip)) (.seq (.ops [oV 4 (.mov (.c (.sl [] .nil)))]) (.seq (.seq (.ops [oV 5 (.mov (.c (.int .i64 0)))]) (.block 0 (.loop (.seq (.seq (.ops [oT (.mov (.v 5)), oT (.mov (.v 1)), oT (.slen (.t 1)), oT (.pcall 56 [(.t 2)]), oV 12 (.bin .lss .arith (.t 0) (.t 3))]) (.cond (.v 12) .skip (.exit 0))) (.seq (.block 1 (.seq (.ops [oT (.mov (.v 1)), oT (.mov (.v 5)), oT (.bin .mul .arith (.c (.int .i64 48)) (.t 1)), oT (.sslice (.t 0) (some (.t 2)) .none), oV 6 (.mov (.t 3))]) (.seq (.ops [oT (.mov (.v 0)), oT (.call (.c (.fn 81 [])) [(.t 0), (.c (.int .i64 4))]), oV 7 (.mov (.t 1))]) (.seq (.ops [oT (.mov (.v 7)), oT (.mov (.v 5)), oT (.call (.c (.fn 81 [])) [(.t 1), (.c (.int .i64 2))]), oT (.append false 5 1 1 false (.t 0) (.t 2)), oV 7 (.mov (.t 3))]) (.seq (.ops [oT (.mov (.v 7)), oT (.mov (.v 6)), oT (.slen (.t 1)), oT (.call (.c (.fn 81 [])) [(.t 2), (.c (.int .i64 2))]), oT (.append false 5 1 1 false (.t 0) (.t 3)), oV 7 (.mov (.t 4))]) (.seq (.seq (.ops [oV 8 (.mov (.c (.int .i64 0)))]) (.block 2 (.loop (.seq (.seq (.ops [oT (.mov (.v 8)), oV 13 (.bin .lss .arith (.t 0) (.c (.int .i64 48)))]) (.cond (.v 13) .skip (.exit 2))) (.seq (.block 3 (.seq (.ops [oV 9 (.mov (.c (.int .u8 0)))]) (.seq (.seq (.ops [oT (.mov (.v 8)), oT (.mov (.v 6)), oT (.slen (.t 1)), oV 14 (.bin .lss .arith (.t 0) (.t 2))]) (.cond (.v 14) (.ops [oT (.mov (.v 6)), oT (.mov (.v 8)), oT (.sidx (.t 0) (.t 1)), oV 9 (.mov (.t 2))]) .skip)) (.ops [oT (.mov (.v 7)), oT (.mov (.v 9)), oT (.lit 0 5 1 1 false [(.int .u8 0)] [(0, (.t 1))]), oT (.append false 5 1 1 false (.t 0) (.t 2)), oV 7 (.mov (.t 3))])))) (.ops [oT (.mov (.v 8)), oT (.bin .add .arith (.t 0) (.c (.int .i64 1))), oV 8 (.mov (.t 1))])))))) (.ops [oT (.mov (.v 4)), oT (.mov (.v 7)), oT (.pcall 80 [(.t 1)]), oT (.lit 0 9 1 1 false [(.str [])] [(0, (.t 2))]), oT (.append false 9 16 1 false (.t 0) (.t 3)), oV 4 (.mov (.t 4))]))))))) (.ops [oT (.mov (.v 5)), oT (.bin .add .arith (.t 0) (.c (.int .i64 1))), oV 5 (.mov (.t 1))])))))) (.seq (.ops [oT (.mov (.v 4)), oV 2 (.mov (.t 0)), oV 3 (.mov (.c (.int .i64 0)))]) .ret)))))), [.v 2, .v 3], []⟩
def c61 : AFunc := ⟨[0, 2, 4], (.seq (.ops [oV 1 (.mov (.c (.sl [] .nil)))]) (.seq (.seq (.ops [oT (.mov (.v 0)), oV 2 (.bin .eql .sl (.t 0) (.c (.sl [] .nil)))]) (.cond (.v 2) (.seq (.ops [oV 1 (.mov (.c (.sl [] .nil)))]) .ret) .skip)) (.seq (.ops [oT (.x .elit []), oT (.mov (.v 0)), oT (.x (.afresh 9 16 1 false) [(.t 0), (.t 1)]), oV 1 (.mov (.t 2))]) .ret))), [.v 1], []⟩
def c62 : AFunc := ⟨[0, 2, 4], (.seq (.ops [oV 1 (.mov (.c (.sl [] .nil)))]) (.seq (.seq (.ops [oT (.mov (.v 0)), oV 2 (.bin .eql .sl (.t 0) (.c (.sl [] .nil)))]) (.cond (.v 2) (.seq (.ops [oV 1 (.mov (.c (.sl [] .nil)))]) .ret) .skip)) (.seq (.ops [oT (.x .elit []), oT (.mov (.v 0)), oT (.x (.afresh 3 8 1 false) [(.t 0), (.t 1)]), oV 1 (.mov (.t 2))]) .ret))), [.v 1], []⟩
def c63 : AFunc := ⟨[0, 1, 2, 6, 7, 8, 9, 10, 11, 12, 13, 14, 15, 16, 17, 18, 19, 20, 34, 43, 45, 46, 47, 48, 64], (.seq (.ops [oV 3 (.mov (.c (.int .i64 0))), oV 4 (.mov (.c (.bool false)))]) (.seq (.seq (.ops [oV 14 (.mov (.v 2)), oV 15 (.len (.v 14)), oV 16 (.mov (.c (.int .i64 0)))]) (.block 0 (.loop (.seq (.ops [oV 17 (.bin .lss .arith (.v 16) (.v 15))]) (.seq (.cond (.v 17) .skip (.exit 0)) (.seq (.block 1 (.seq (.ops [oT (.mov (.v 16)), oT (.iaddr 1 (.v 14) (.v 16)), oT (.load 1 false (.t 1)), oV 5 (.mov (.t 0)), oV 6 (.mov (.t 2))]) (.seq (.ops [oT (.mov (.v 0)), oT (.nilc (.t 0)), oT (.faddr 0 (.t 1)), oT (.load 1 false (.t 2)), oT (.mov (.v 1)), oT (.mov (.v 5)), oT (.bin .add .arith (.t 4) (.t 5)), oT (.mov (.v 6)), oT (.call (.c (.fn 10 [])) [(.t 3), (.t 6), (.t 7)]), oV 7 (.mov (.t 8))]) (.seq (.ops [oT (.mov (.v 7)), oV 18 (.bin .neq .arith (.t 0) (.c (.int .i64 0)))]) (.cond (.v 18) (.seq (.ops [oT (.mov (.v 7)), oV 3 (.mov (.t 0)), oV 4 (.mov (.c (.bool false)))]) .ret) .skip))))) (.ops [oT (.bin .add .arith (.v 16) (.c (.int .i64 1))), oV 16 (.mov (.t 0))]))))))) (.seq (.seq (.ops [oT (.mov (.v 0)), oT (.nilc (.t 0)), oT (.faddr 0 (.t 1)), oT (.load 1 false (.t 2)), oT (.call (.c (.fn 82 [])) [(.t 3)]), oV 8 (.mov (.t 4))]) (.seq (.ops [oT (.mov (.v 8)), oV 19 (.bin .neq .arith (.t 0) (.c (.int .i64 0)))]) (.cond (.v 19) (.seq (.ops [oT (.mov (.v 8)), oV 3 (.mov (.t 0)), oV 4 (.mov (.c (.bool false)))]) .ret) .skip))) (.seq (.ops [oV 9 (.mov (.c (.bool true)))]) (.seq (.seq (.ops [oV 20 (.mov (.v 2)), oV 21 (.len (.v 20)), oV 22 (.mov (.c (.int .i64 0)))]) (.block 2 (.loop (.seq (.ops [oV 23 (.bin .lss .arith (.v 22) (.v 21))]) (.seq (.cond (.v 23) .skip (.exit 2)) (.seq (.block 3 (.seq (.ops [oT (.mov (.v 22)), oT (.iaddr 1 (.v 20) (.v 22)), oT (.load 1 false (.t 1)), oV 10 (.mov (.t 0)), oV 11 (.mov (.t 2))]) (.seq (.ops [oT (.mov (.v 0)), oT (.nilc (.t 0)), oT (.faddr 0 (.t 1)), oT (.load 1 false (.t 2)), oT (.mov (.v 1)), oT (.mov (.v 10)), oT (.bin .add .arith (.t 4) (.t 5)), oT (.call (.c (.fn 48 [])) [(.t 3), (.t 6)]), oT (.mov (.t 7)), oT (.ext (.t 8) 0), oT (.ext (.t 8) 1), oV 12 (.mov (.t 9)), oV 13 (.mov (.t 10))]) (.seq (.seq (.ops [oT (.mov (.v 13)), oV 24 (.bin .neq .arith (.t 0) (.c (.int .i64 0)))]) (.cond (.v 24) (.seq (.ops [oT (.mov (.v 13)), oV 3 (.mov (.t 0)), oV 4 (.mov (.c (.bool false)))]) .ret) .skip)) (.ops [oT (.mov (.v 9)), oT (.mov (.t 0)), oG 1 true (.mov (.v 11)), oG 1 true (.mov (.v 12)), oG 1 true (.bin .eql .arith (.t 2) (.t 3)), oT (.pick (.t 1) (.t 4) (.c (.bool false))), oV 9 (.mov (.t 5))]))))) (.ops [oT (.bin .add .arith (.v 22) (.c (.int .i64 1))), oV 22 (.mov (.t 0))]))))))) (.seq (.ops [oT (.mov (.v 9)), oV 3 (.mov (.c (.int .i64 0))), oV 4 (.mov (.t 0))]) .ret)))))), [.v 3, .v 4], []⟩
def c64 : AFunc := ⟨[0, 2], (.seq (.ops [oV 1 (.mov (.c (.sl [] .nil)))]) (.seq (.ops [oT (.mov (.v 0)), oT (.nilc (.t 0)), oT (.faddr 1 (.t 1)), oT (.load 1 false (.t 2)), oT (.call (.c (.fn 84 [])) [(.t 3)]), oT (.call (.c (.fn 83 [])) [(.t 4)]), oV 1 (.mov (.t 5))]) .ret)), [.v 1], []⟩
def c65 : AFunc := ⟨[0, 1, 2, 6, 35], (.seq (.ops [oT (.mov (.v 0)), oT (.nilc (.t 0)), oT (.faddr 1 (.t 1)), oT (.load 1 false (.t 2)), oT (.mov (.v 1)), oT (.x (.mlook (.int .i64) (.agg (List.replicate 64 (.int .u8 0))) false) [(.t 3), (.t 4)]), oV 3 (.alloc 86 64 true (List.replicate 64 (.int .u8 0))), oN (.store 64 (.v 3) (.t 5))]) (.seq (.ops [oT (.mov (.v 0)), oT (.nilc (.t 0)), oT (.faddr 1 (.t 1)), oT (.load 1 false (.t 2)), oT (.mov (.v 1)), oN (.x (.mdel (.int .i64)) [(.t 3), (.t 4)])]) (.seq (.ops [oT (.mov (.v 0)), oT (.nilc (.t 0)), oT (.faddr 2 (.t 1)), oT (.load 1 false (.t 2)), oT (.mov (.v 1)), oT (.x (.mlook (.int .i64) (.bool false) false) [(.t 3), (.t 4)]), oT (.un .not (.t 5)), oT (.mov (.t 6)), oG 7 true (.load 64 true (.v 3)), oG 7 true (.mov (.v 0)), oG 7 true (.nilc (.t 9)), oG 7 true (.faddr 0 (.t 10)), oG 7 true (.load 1 false (.t 11)), oG 7 true (.mov (.v 1)), oG 7 true (.iaddr 64 (.t 12) (.t 13)), oG 7 true (.load 64 true (.t 14)), oG 7 true (.bin .neq (.struct (List.replicate 64 .int)) (.t 8) (.t 15)), oV 4 (.pick (.t 7) (.t 16) (.c (.bool false)))]) (.cond (.v 4) (.ops [oT (.mov (.v 0)), oT (.nilc (.t 0)), oT (.faddr 0 (.t 1)), oT (.load 1 false (.t 2)), oT (.mov (.v 1)), oT (.iaddr 64 (.t 3) (.t 4)), oT (.mov (.v 2)), oT (.mnx false (.t 6) (.c (.int .i64 64))), oT (.mnx true (.c (.int .i64 0)) (.t 7)), oT (.x (.aslice 64 1 false false true) [(.t 5), (.t 8)]), oT (.x (.aslice 64 1 false false false) [(.v 3)]), oT (.copy 1 (.t 9) (.t 10))]) .skip)))), [], []⟩
def c66 : AFunc := ⟨[0, 2, 3, 4, 8, 12, 20, 30], (.seq (.ops [oV 1 (.mov (.c (.int .i64 0)))]) (.seq (.seq (.ops [oT (.mov (.v 0)), oT (.nilc (.t 0)), oT (.faddr 1 (.t 1)), oV 4 (.load 1 false (.t 2))]) (.cond (.v 4) (.seq (.ops [oV 1 (.mov (.c (.int .i64 21)))]) .ret) .skip)) (.seq (.ops [oT (.mov (.v 0)), oT (.call (.c (.fn 46 [])) [(.t 0)]), oV 2 (.mov (.t 1))]) (.seq (.seq (.ops [oT (.mov (.v 2)), oV 5 (.bin .neq .arith (.t 0) (.c (.int .i64 0)))]) (.cond (.v 5) (.seq (.ops [oT (.mov (.v 2)), oV 1 (.mov (.t 0))]) .ret) .skip)) (.seq (.seq (.ops [oV 3 (.mov (.c (.int .i64 0)))]) (.block 0 (.loop (.seq (.seq (.ops [oT (.mov (.v 3)), oT (.mov (.v 0)), oT (.nilc (.t 1)), oT (.faddr 0 (.t 2)), oT (.load 1 false (.t 3)), oT (.len (.t 4)), oV 6 (.bin .lss .arith (.t 0) (.t 5))]) (.cond (.v 6) .skip (.exit 0))) (.seq (.block 1 (.seq (.ops [oT (.mov (.v 0)), oT (.nilc (.t 0)), oT (.faddr 0 (.t 1)), oT (.load 1 false (.t 2)), oT (.mov (.v 3)), oT (.iaddr 4 (.t 3) (.t 4)), oT (.faddr 2 (.t 5)), oV 7 (.load 1 false (.t 6))]) (.cond (.v 7) (.ops [oT (.mov (.v 0)), oT (.mov (.v 3)), oT (.call (.c (.fn 67 [])) [(.t 0), (.t 1), (.c (.int .i64 64))])]) .skip))) (.ops [oT (.mov (.v 3)), oT (.bin .add .arith (.t 0) (.c (.int .i64 1))), oV 3 (.mov (.t 1))])))))) (.seq (.ops [oV 1 (.mov (.c (.int .i64 0)))]) .ret)))))), [.v 1], []⟩
def c67 : AFunc := ⟨[0, 1, 2, 6, 19], (.seq (.ops [oT (.mov (.v 0)), oT (.nilc (.t 0)), oT (.faddr 0 (.t 1)), oT (.load 1 false (.t 2)), oT (.mov (.v 1)), oT (.iaddr 4 (.t 3) (.t 4)), oT (.load 4 true (.t 5)), oV 3 (.alloc 83 4 true [(.str []), (.str []), (.bool false), (.bool false)]), oN (.store 4 (.v 3) (.t 6))]) (.seq (.ops [oT (.mov (.v 2)), oT (.mnx false (.t 0) (.c (.int .i64 64))), oT (.mnx true (.c (.int .i64 0)) (.t 1)), oV 2 (.mov (.t 2))]) (.seq (.seq (.ops [oT (.faddr 3 (.v 3)), oT (.load 1 false (.t 0)), oV 4 (.un .not (.t 1))]) (.cond (.v 4) (.ops [oT (.faddr 1 (.v 3)), oT (.load 1 false (.t 0)), oT (.mov (.v 2)), oT (.sslice (.t 1) .none (some (.t 2))), oT (.faddr 0 (.v 3)), oT (.load 1 false (.t 4)), oT (.mov (.v 2)), oT (.sslice (.t 5) (some (.t 6)) .none), oT (.bin .add .arith (.t 3) (.t 7)), oT (.faddr 0 (.v 3)), oN (.store 1 (.t 9) (.t 8))]) .skip)) (.seq (.ops [oT (.faddr 1 (.v 3)), oN (.store 1 (.t 0) (.c (.str [])))]) (.seq (.ops [oT (.faddr 2 (.v 3)), oN (.store 1 (.t 0) (.c (.bool false)))]) (.ops [oT (.mov (.v 0)), oT (.nilc (.t 0)), oT (.faddr 0 (.t 1)), oT (.load 1 false (.t 2)), oT (.mov (.v 1)), oT (.load 4 true (.v 3)), oT (.iaddr 4 (.t 3) (.t 4)), oN (.store 4 (.t 6) (.t 5))])))))), [], []⟩
def c74 : AFunc := ⟨[0, 1, 2, 3, 4], (.seq (.ops [oV 2 (.box 1 false (.v 0)), oV 3 (.box 1 false (.v 1)), oV 4 (.mov (.c .nilfn))]) (.seq (.ops [oT (.clo 90 [(.v 3), (.v 2)]), oV 4 (.mov (.t 0))]) .ret)), [.v 4], []⟩
def c75 : AFunc := ⟨[0, 2], (.seq (.ops [oV 1 (.alloc 125 32 true (List.replicate 32 (.int .u8 0)))]) (.seq (.ops [oT (.pcall 92 []), oT (.mov (.v 0)), oT (.x .b2s [(.t 1)]), oT (.pcall 93 [(.t 0), (.t 2)]), oT (.pcall 94 [(.t 3)]), oN (.store 32 (.v 1) (.t 4))]) .ret)), [.c 1 32 true], []⟩
def c76L0 : ALoop := ⟨[.none, (some 5)], (.ops [oV 3 (.mov (.v 5))]), (.block 1 (.ops [oT (.load 1 false (.v 2)), oT (.bin .shl .arith (.t 0) (.c (.int .u64 8))), oT (.mov (.v 3)), oT (.toInt .i64 (.t 2)), oT (.bin .or .arith (.t 1) (.t 3)), oN (.store 1 (.v 2) (.t 4))]))⟩
def c76 : AFunc := ⟨[0, 2, 3, 5, 7, 9], (.seq (.ops [oV 1 (.mov (.c (.int .i64 0)))]) (.seq (.ops [oV 2 (.alloc 3 1 false [(.int .i64 0)]), oN (.store 1 (.v 2) (.c (.int .i64 0)))]) (.seq (.seq (.ops [oT (.mov (.v 0)), oV 4 (.call (.c (.fn 95 [])) [(.t 0)])]) (.block 0 (.rfunc 76 0 [0, 2, 3, 5, 7, 9] (.v 4)))) (.seq (.ops [oT (.load 1 false (.v 2)), oV 1 (.mov (.t 0))]) .ret)))), [.v 1], [c76L0]⟩
def c77 : AFunc := ⟨[0, 1, 4], (.seq (.ops [oV 2 (.mov (.c (.bool false)))]) (.seq (.ops [oT (.mov (.v 0)), oT (.x .b2s [(.t 0)]), oT (.mov (.v 1)), oT (.x .b2s [(.t 2)]), oT (.bin .eql .arith (.t 1) (.t 3)), oV 2 (.mov (.t 4))]) .ret)), [.v 2], []⟩
def c78 : AFunc := ⟨[0, 1, 4, 5, 7, 8, 9, 16], (.seq (.ops [oV 2 (.mov (.c (.int .i64 0)))]) (.seq (.seq (.ops [oT (.mov (.v 0)), oV 4 (.len (.t 0)), oV 5 (.mov (.c (.int .i64 0)))]) (.block 0 (.loop (.seq (.ops [oV 6 (.bin .lss .arith (.v 5) (.v 4))]) (.seq (.cond (.v 6) .skip (.exit 0)) (.seq (.block 1 (.seq (.ops [oT (.mov (.v 5)), oV 3 (.mov (.t 0))]) (.seq (.ops [oT (.mov (.v 1)), oT (.mov (.v 0)), oT (.mov (.v 3)), oT (.iaddr 1 (.t 1) (.t 2)), oT (.load 1 false (.t 3)), oV 7 (.bin .eql .arith (.t 0) (.t 4))]) (.cond (.v 7) (.seq (.ops [oT (.mov (.v 3)), oV 2 (.mov (.t 0))]) .ret) .skip)))) (.ops [oT (.bin .add .arith (.v 5) (.c (.int .i64 1))), oV 5 (.mov (.t 0))]))))))) (.seq (.ops [oV 2 (.mov (.c (.int .i64 (-1))))]) .ret))), [.v 2], []⟩
def c79 : AFunc := ⟨[0, 2, 3, 4, 9], (.seq (.ops [oV 1 (.mov (.c (.int .i64 0)))]) (.seq (.ops [oV 2 (.mov (.c (.int .i64 0)))]) (.seq (.seq (.ops [oT (.mov (.v 0)), oT (.slen (.t 0)), oT (.bin .sub .arith (.t 1) (.c (.int .i64 1))), oV 3 (.mov (.t 2))]) (.block 0 (.loop (.seq (.seq (.ops [oT (.mov (.v 3)), oV 4 (.bin .geq .arith (.t 0) (.c (.int .i64 0)))]) (.cond (.v 4) .skip (.exit 0))) (.seq (.block 1 (.ops [oT (.mov (.v 2)), oT (.bin .mul .arith (.c (.int .i64 256)) (.t 0)), oT (.mov (.v 0)), oT (.mov (.v 3)), oT (.sidx (.t 2) (.t 3)), oT (.toInt .i64 (.t 4)), oT (.bin .add .arith (.t 1) (.t 5)), oV 2 (.mov (.t 6))])) (.ops [oT (.mov (.v 3)), oT (.bin .sub .arith (.t 0) (.c (.int .i64 1))), oV 3 (.mov (.t 1))])))))) (.seq (.ops [oT (.mov (.v 2)), oV 1 (.mov (.t 0))]) .ret)))), [.v 1], []⟩
def c80 : AFunc := ⟨[0, 2, 3], (.seq (.ops [oV 1 (.mov (.c (.str [])))]) (.seq (.ops [oT (.mov (.v 0)), oT (.pcall 96 [(.t 0)]), oV 2 (.alloc 125 32 true (List.replicate 32 (.int .u8 0))), oN (.store 32 (.v 2) (.t 1))]) (.seq (.ops [oT (.mov (.v 0)), oT (.x .b2s [(.t 0)]), oT (.x (.aslice 32 1 false false true) [(.v 2), (.c (.int .i64 8))]), oT (.x .b2s [(.t 2)]), oT (.bin .add .arith (.t 1) (.t 3)), oV 1 (.mov (.t 4))]) .ret))), [.v 1], []⟩
def c81 : AFunc := ⟨[0, 1, 4, 5, 6, 9], (.seq (.ops [oV 2 (.mov (.c (.sl [] .nil)))]) (.seq (.ops [oV 3 (.mov (.c (.sl [] .nil)))]) (.seq (.seq (.ops [oV 4 (.mov (.c (.int .i64 0)))]) (.block 0 (.loop (.seq (.seq (.ops [oT (.mov (.v 4)), oT (.mov (.v 1)), oV 5 (.bin .lss .arith (.t 0) (.t 1))]) (.cond (.v 5) .skip (.exit 0))) (.seq (.block 1 (.seq (.ops [oT (.mov (.v 3)), oT (.mov (.v 0)), oT (.bin .rem .arith (.t 1) (.c (.int .i64 256))), oT (.toInt .u8 (.t 2)), oT (.lit 0 5 1 1 false [(.int .u8 0)] [(0, (.t 3))]), oT (.append false 5 1 1 false (.t 0) (.t 4)), oV 3 (.mov (.t 5))]) (.ops [oT (.mov (.v 0)), oT (.bin .quo .arith (.t 0) (.c (.int .i64 256))), oV 0 (.mov (.t 1))]))) (.ops [oT (.mov (.v 4)), oT (.bin .add .arith (.t 0) (.c (.int .i64 1))), oV 4 (.mov (.t 1))])))))) (.seq (.ops [oT (.mov (.v 3)), oV 2 (.mov (.t 0))]) .ret)))), [.v 2], []⟩
def c82 : AFunc := ⟨[0, 2, 3, 4, 6, 10, 15, 18, 19, 20, 21], (.seq (.ops [oV 1 (.mov (.c (.int .i64 0)))]) (.seq (.seq (.ops [oT (.mov (.v 0)), oT (.call (.c (.fn 43 [])) [(.t 0), (.c (.int .i64 0))]), oV 2 (.mov (.t 1))]) (.seq (.ops [oT (.mov (.v 2)), oV 5 (.bin .neq .arith (.t 0) (.c (.int .i64 0)))]) (.cond (.v 5) (.seq (.ops [oT (.mov (.v 2)), oV 1 (.mov (.t 0))]) .ret) .skip))) (.seq (.seq (.ops [oT (.mov (.v 0)), oT (.call (.c (.fn 44 [])) [(.t 0)]), oV 3 (.mov (.t 1))]) (.seq (.ops [oT (.mov (.v 3)), oV 6 (.bin .neq .arith (.t 0) (.c (.int .i64 0)))]) (.cond (.v 6) (.seq (.ops [oT (.mov (.v 3)), oV 1 (.mov (.t 0))]) .ret) .skip))) (.seq (.seq (.ops [oT (.mov (.v 0)), oV 7 (.gcall 64 [(.t 0)]), oV 8 (.len (.v 7)), oV 9 (.mov (.c (.int .i64 0)))]) (.block 0 (.loop (.seq (.ops [oV 10 (.bin .lss .arith (.v 9) (.v 8))]) (.seq (.cond (.v 10) .skip (.exit 0)) (.seq (.block 1 (.seq (.ops [oT (.iaddr 1 (.v 7) (.v 9)), oT (.load 1 false (.t 0)), oV 4 (.mov (.t 1))]) (.ops [oT (.mov (.v 0)), oT (.mov (.v 4)), oT (.call (.c (.fn 65 [])) [(.t 0), (.t 1), (.c (.int .i64 64))])]))) (.ops [oT (.bin .add .arith (.v 9) (.c (.int .i64 1))), oV 9 (.mov (.t 0))]))))))) (.seq (.ops [oV 1 (.mov (.c (.int .i64 0)))]) .ret))))), [.v 1], []⟩
def c84 : AFunc := ⟨[0, 1, 2], (.seq (.ops [oV 1 (.box 1 false (.v 0)), oV 2 (.mov (.c .nilfn))]) (.seq (.ops [oT (.clo 99 [(.v 1)]), oV 2 (.mov (.t 0))]) .ret)), [.v 2], []⟩
def c90 : AFunc := ⟨[0, 1, 2, 4, 5, 6, 7, 10, 11, 12, 39], (.seq (.ops [oT (.load 1 false (.v 1)), oT (.slen (.t 0)), oV 7 (.pcall 16 [(.t 1)]), oV 8 (.mov (.c (.int .i64 0)))]) (.block 0 (.loop (.seq (.ops [oV 9 (.bin .lss .arith (.v 8) (.v 7))]) (.seq (.cond (.v 9) .skip (.exit 0)) (.seq (.block 1 (.seq (.ops [oT (.mov (.v 8)), oV 3 (.mov (.t 0))]) (.seq (.ops [oV 4 (.alloc 96 64 true (List.replicate 64 (.int .u8 0)))]) (.seq (.ops [oT (.load 1 false (.v 1)), oT (.mov (.v 3)), oT (.bin .mul .arith (.c (.int .i64 48)) (.t 1)), oT (.sslice (.t 0) (some (.t 2)) .none), oV 5 (.mov (.t 3))]) (.seq (.ops [oT (.x (.aslice 64 1 false false true) [(.v 4), (.c (.int .i64 4))]), oT (.load 1 false (.v 2)), oT (.call (.c (.fn 91 [])) [(.t 0), (.t 1)])]) (.seq (.ops [oT (.x (.aslice 64 1 false true true) [(.v 4), (.c (.int .i64 4)), (.c (.int .i64 6))]), oT (.mov (.v 3)), oT (.call (.c (.fn 91 [])) [(.t 0), (.t 1)])]) (.seq (.ops [oT (.x (.aslice 64 1 false true true) [(.v 4), (.c (.int .i64 6)), (.c (.int .i64 8))]), oT (.mov (.v 5)), oT (.slen (.t 1)), oT (.call (.c (.fn 91 [])) [(.t 0), (.t 2)])]) (.seq (.ops [oT (.x (.aslice 64 1 false true true) [(.v 4), (.c (.int .i64 8)), (.c (.int .i64 56))]), oT (.mov (.v 5)), oT (.copy 1 (.t 0) (.t 1))]) (.seq (.ops [oT (.x (.aslice 64 1 false false true) [(.v 4), (.c (.int .i64 56))]), oT (.pcall 75 [(.t 0)]), oV 6 (.alloc 125 32 true (List.replicate 32 (.int .u8 0))), oN (.store 32 (.v 6) (.t 1))]) (.seq (.ops [oT (.x (.aslice 64 1 false true false) [(.v 4), (.c (.int .i64 56))]), oT (.x (.aslice 32 1 false false false) [(.v 6)]), oT (.copy 1 (.t 0) (.t 1))]) (.seq (.ops [oT (.mov (.v 0)), oT (.load 64 true (.v 4)), oT (.call (.t 0) [(.t 1)]), oV 10 (.un .not (.t 2))]) (.cond (.v 10) .ret .skip)))))))))))) (.ops [oT (.bin .add .arith (.v 8) (.c (.int .i64 1))), oV 8 (.mov (.t 0))]))))))), [], []⟩
def c91 : AFunc := ⟨[0, 1, 4, 6, 7, 8], (.seq (.ops [oT (.mov (.v 0)), oV 3 (.len (.t 0)), oV 4 (.mov (.c (.int .i64 0)))]) (.block 0 (.loop (.seq (.ops [oV 5 (.bin .lss .arith (.v 4) (.v 3))]) (.seq (.cond (.v 5) .skip (.exit 0)) (.seq (.block 1 (.seq (.ops [oT (.mov (.v 4)), oV 2 (.mov (.t 0))]) (.seq (.ops [oT (.mov (.v 0)), oT (.mov (.v 2)), oT (.mov (.v 1)), oT (.toInt .u8 (.t 2)), oT (.iaddr 1 (.t 0) (.t 1)), oN (.store 1 (.t 4) (.t 3))]) (.ops [oT (.mov (.v 1)), oT (.bin .shr .arith (.t 0) (.c (.int .u64 8))), oV 1 (.mov (.t 1))])))) (.ops [oT (.bin .add .arith (.v 4) (.c (.int .i64 1))), oV 4 (.mov (.t 0))]))))))), [], []⟩
def c92 : AFunc := ⟨[0], (.seq (.ops [oV 0 (.alloc 148 73 true (List.replicate 8 (.int .u32 0) ++ List.replicate 64 (.int .u8 0) ++ [(.int .u64 0)]))]) (.seq (.ops [oT (.build [(.int .u32 0), (.int .u32 0), (.int .u32 0), (.int .u32 0), (.int .u32 0), (.int .u32 0), (.int .u32 0), (.int .u32 0)] [(0, 1, (.c (.int .u32 1779033703))), (1, 1, (.c (.int .u32 3144134277))), (2, 1, (.c (.int .u32 1013904242))), (3, 1, (.c (.int .u32 2773480762))), (4, 1, (.c (.int .u32 1359893119))), (5, 1, (.c (.int .u32 2600822924))), (6, 1, (.c (.int .u32 528734635))), (7, 1, (.c (.int .u32 1541459225)))]), oT (.build (List.replicate 8 (.int .u32 0) ++ List.replicate 64 (.int .u8 0) ++ [(.int .u64 0)]) [(0, 8, (.t 0))]), oN (.store 73 (.v 0) (.t 1))]) .ret)), [.c 0 73 true], []⟩
def c93 : AFunc := ⟨[0, 1, 2, 4, 5, 6, 8, 30], (.seq (.ops [oV 2 (.box 73 true (.v 0)), oV 3 (.alloc 148 73 true (List.replicate 8 (.int .u32 0) ++ List.replicate 64 (.int .u8 0) ++ [(.int .u64 0)]))]) (.seq (.block 0 (.loop (.seq (.seq (.ops [oT (.mov (.v 1)), oV 6 (.bin .neq .arith (.t 0) (.c (.str [])))]) (.cond (.v 6) .skip (.exit 0))) (.block 1 (.seq (.ops [oT (.faddr 72 (.v 2)), oT (.load 1 false (.t 0)), oT (.bin .rem .arith (.t 1) (.c (.int .u64 64))), oT (.toInt .i64 (.t 2)), oV 4 (.mov (.t 3))]) (.seq (.ops [oT (.faddr 8 (.v 2)), oT (.mov (.v 4)), oT (.x (.aslice 64 1 false true false) [(.t 0), (.t 1)]), oT (.mov (.v 1)), oT (.copy 1 (.t 2) (.t 3)), oV 5 (.mov (.t 4))]) (.seq (.ops [oT (.mov (.v 1)), oT (.mov (.v 5)), oT (.sslice (.t 0) (some (.t 1)) .none), oV 1 (.mov (.t 2))]) (.seq (.ops [oT (.faddr 72 (.v 2)), oT (.load 1 false (.t 0)), oT (.mov (.v 5)), oT (.toInt .u64 (.t 2)), oT (.bin .add .arith (.t 1) (.t 3)), oT (.faddr 72 (.v 2)), oN (.store 1 (.t 5) (.t 4))]) (.seq (.ops [oT (.mov (.v 4)), oT (.mov (.v 5)), oT (.bin .add .arith (.t 0) (.t 1)), oV 7 (.bin .eql .arith (.t 2) (.c (.int .i64 64)))]) (.cond (.v 7) (.ops [oT (.faddr 0 (.v 2)), oT (.load 8 true (.t 0)), oT (.faddr 8 (.v 2)), oT (.x (.aslice 64 1 false false false) [(.t 2)]), oT (.pcall 102 [(.t 1), (.t 3)]), oT (.faddr 0 (.v 2)), oN (.store 8 (.t 5) (.t 4))]) .skip)))))))))) (.seq (.ops [oT (.load 73 true (.v 2)), oN (.store 73 (.v 3) (.t 0))]) .ret))), [.c 3 73 true], []⟩
def c94 : AFunc := ⟨[0, 1, 2, 3, 4, 5, 6, 7, 19, 23, 24, 40, 41], (.seq (.ops [oV 1 (.box 73 true (.v 0)), oV 2 (.alloc 125 32 true (List.replicate 32 (.int .u8 0)))]) (.seq (.ops [oT (.faddr 72 (.v 1)), oT (.load 1 false (.t 0)), oT (.bin .mul .arith (.c (.int .u64 8)) (.t 1)), oV 3 (.mov (.t 2))]) (.seq (.ops [oT (.lit 1 5 1 1 false [(.int .u8 0)] [(0, (.c (.int .u8 128)))]), oV 4 (.mov (.t 0))]) (.seq (.block 0 (.loop (.seq (.seq (.ops [oT (.faddr 72 (.v 1)), oT (.load 1 false (.t 0)), oT (.toInt .i64 (.t 1)), oT (.mov (.v 4)), oT (.len (.t 3)), oT (.bin .add .arith (.t 2) (.t 4)), oT (.bin .rem .arith (.t 5) (.c (.int .i64 64))), oV 8 (.bin .neq .arith (.t 6) (.c (.int .i64 56)))]) (.cond (.v 8) .skip (.exit 0))) (.block 1 (.ops [oT (.mov (.v 4)), oT (.lit 0 5 1 1 false [(.int .u8 0)] [(0, (.c (.int .u8 0)))]), oT (.append false 5 1 1 false (.t 0) (.t 1)), oV 4 (.mov (.t 2))]))))) (.seq (.seq (.ops [oV 9 (.mov (.c (.int .i64 0)))]) (.block 2 (.loop (.seq (.ops [oV 10 (.bin .lss .arith (.v 9) (.c (.int .i64 8)))]) (.seq (.cond (.v 10) .skip (.exit 2)) (.seq (.block 3 (.seq (.ops [oT (.mov (.v 9)), oV 5 (.mov (.t 0))]) (.ops [oT (.mov (.v 4)), oT (.mov (.v 3)), oT (.mov (.v 5)), oT (.bin .mul .arith (.c (.int .i64 8)) (.t 2)), oT (.bin .sub .arith (.c (.int .i64 56)) (.t 3)), oT (.bin .shr .arith (.t 1) (.t 4)), oT (.toInt .u8 (.t 5)), oT (.lit 0 5 1 1 false [(.int .u8 0)] [(0, (.t 6))]), oT (.append false 5 1 1 false (.t 0) (.t 7)), oV 4 (.mov (.t 8))]))) (.ops [oT (.bin .add .arith (.v 9) (.c (.int .i64 1))), oV 9 (.mov (.t 0))]))))))) (.seq (.ops [oT (.load 73 true (.v 1)), oT (.mov (.v 4)), oT (.x .b2s [(.t 1)]), oT (.pcall 93 [(.t 0), (.t 2)]), oN (.store 73 (.v 1) (.t 3))]) (.seq (.ops [oV 6 (.alloc 125 32 true (List.replicate 32 (.int .u8 0)))]) (.seq (.seq (.ops [oV 11 (.mov (.c (.int .i64 0)))]) (.block 4 (.loop (.seq (.ops [oV 12 (.bin .lss .arith (.v 11) (.c (.int .i64 32)))]) (.seq (.cond (.v 12) .skip (.exit 4)) (.seq (.block 5 (.seq (.ops [oT (.mov (.v 11)), oV 7 (.mov (.t 0))]) (.ops [oT (.mov (.v 7)), oT (.mov (.v 7)), oT (.bin .quo .arith (.t 1) (.c (.int .i64 4))), oT (.faddr 0 (.v 1)), oT (.aaddr 8 1 (.t 3) (.t 2)), oT (.load 1 false (.t 4)), oT (.mov (.v 7)), oT (.bin .rem .arith (.t 6) (.c (.int .i64 4))), oT (.bin .mul .arith (.c (.int .i64 8)) (.t 7)), oT (.bin .sub .arith (.c (.int .i64 24)) (.t 8)), oT (.bin .shr .arith (.t 5) (.t 9)), oT (.toInt .u8 (.t 10)), oT (.aaddr 32 1 (.v 6) (.t 0)), oN (.store 1 (.t 12) (.t 11))]))) (.ops [oT (.bin .add .arith (.v 11) (.c (.int .i64 1))), oV 11 (.mov (.t 0))]))))))) (.seq (.ops [oT (.load 32 true (.v 6)), oN (.store 32 (.v 2) (.t 0))]) .ret))))))))), [.c 2 32 true], []⟩
def c95 : AFunc := ⟨[0, 1, 2], (.seq (.ops [oV 1 (.box 1 false (.v 0)), oV 2 (.mov (.c .nilfn))]) (.seq (.ops [oT (.clo 103 [(.v 1)]), oV 2 (.mov (.t 0))]) .ret)), [.v 2], []⟩
def c96 : AFunc := ⟨[0, 2, 3, 4, 5, 6, 7, 8, 9, 10, 11, 12, 13, 14, 15, 16, 17, 18, 19, 26, 52, 148], (.seq (.ops [oV 1 (.alloc 125 32 true (List.replicate 32 (.int .u8 0)))]) (.seq (.ops [oT (.build [(.int .u32 0), (.int .u32 0), (.int .u32 0), (.int .u32 0), (.int .u32 0), (.int .u32 0), (.int .u32 0), (.int .u32 0)] [(0, 1, (.c (.int .u32 1779033703))), (1, 1, (.c (.int .u32 3144134277))), (2, 1, (.c (.int .u32 1013904242))), (3, 1, (.c (.int .u32 2773480762))), (4, 1, (.c (.int .u32 1359893119))), (5, 1, (.c (.int .u32 2600822924))), (6, 1, (.c (.int .u32 528734635))), (7, 1, (.c (.int .u32 1541459225)))]), oV 2 (.alloc 146 8 true [(.int .u32 0), (.int .u32 0), (.int .u32 0), (.int .u32 0), (.int .u32 0), (.int .u32 0), (.int .u32 0), (.int .u32 0)]), oN (.store 8 (.v 2) (.t 0))]) (.seq (.ops [oT (.mov (.v 0)), oT (.pcall 104 [(.t 0)]), oV 3 (.mov (.t 1))]) (.seq (.seq (.ops [oV 4 (.mov (.c (.int .i64 0)))]) (.block 0 (.loop (.seq (.seq (.ops [oT (.mov (.v 4)), oT (.mov (.v 3)), oT (.len (.t 1)), oV 19 (.bin .lss .arith (.t 0) (.t 2))]) (.cond (.v 19) .skip (.exit 0))) (.seq (.block 1 (.seq (.ops [oT (.mov (.v 3)), oT (.mov (.v 4)), oT (.mov (.v 4)), oT (.bin .add .arith (.t 2) (.c (.int .i64 64))), oT (.slice 1 (.t 0) (some (.t 1)) (some (.t 3))), oT (.pcall 105 [(.t 4)]), oV 5 (.alloc 161 64 true (List.replicate 64 (.int .u32 0))), oN (.store 64 (.v 5) (.t 5))]) (.seq (.ops [oT (.aaddr 8 1 (.v 2) (.c (.int .i64 0))), oT (.load 1 false (.t 0)), oT (.aaddr 8 1 (.v 2) (.c (.int .i64 1))), oT (.load 1 false (.t 2)), oT (.aaddr 8 1 (.v 2) (.c (.int .i64 2))), oT (.load 1 false (.t 4)), oT (.aaddr 8 1 (.v 2) (.c (.int .i64 3))), oT (.load 1 false (.t 6)), oT (.aaddr 8 1 (.v 2) (.c (.int .i64 4))), oT (.load 1 false (.t 8)), oT (.aaddr 8 1 (.v 2) (.c (.int .i64 5))), oT (.load 1 false (.t 10)), oT (.aaddr 8 1 (.v 2) (.c (.int .i64 6))), oT (.load 1 false (.t 12)), oT (.aaddr 8 1 (.v 2) (.c (.int .i64 7))), oT (.load 1 false (.t 14)), oV 6 (.mov (.t 1)), oV 7 (.mov (.t 3)), oV 8 (.mov (.t 5)), oV 9 (.mov (.t 7)), oV 10 (.mov (.t 9)), oV 11 (.mov (.t 11)), oV 12 (.mov (.t 13)), oV 13 (.mov (.t 15))]) (.seq (.seq (.ops [oV 14 (.mov (.c (.int .i64 0)))]) (.block 2 (.loop (.seq (.seq (.ops [oT (.mov (.v 14)), oV 20 (.bin .lss .arith (.t 0) (.c (.int .i64 64)))]) (.cond (.v 20) .skip (.exit 2))) (.seq (.block 3 (.seq (.ops [oT (.mov (.v 13)), oT (.mov (.v 10)), oT (.pcall 106 [(.t 1), (.c (.int .i64 6))]), oT (.mov (.v 10)), oT (.pcall 106 [(.t 3), (.c (.int .i64 11))]), oT (.bin .xor .arith (.t 2) (.t 4)), oT (.mov (.v 10)), oT (.pcall 106 [(.t 6), (.c (.int .i64 25))]), oT (.bin .xor .arith (.t 5) (.t 7)), oT (.bin .add .arith (.t 0) (.t 8)), oT (.mov (.v 10)), oT (.mov (.v 11)), oT (.bin .and .arith (.t 10) (.t 11)), oT (.mov (.v 10)), oT (.bin .xor .arith (.t 13) (.c (.int .u32 4294967295))), oT (.mov (.v 12)), oT (.bin .and .arith (.t 14) (.t 15)), oT (.bin .xor .arith (.t 12) (.t 16)), oT (.bin .add .arith (.t 9) (.t 17)), oT (.mov (.v 14)), oT (.aaddr 64 1 (.c (.rp shaK)) (.t 19)), oT (.load 1 false (.t 20)), oT (.bin .add .arith (.t 18) (.t 21)), oT (.mov (.v 14)), oT (.aaddr 64 1 (.v 5) (.t 23)), oT (.load 1 false (.t 24)), oT (.bin .add .arith (.t 22) (.t 25)), oV 15 (.mov (.t 26))]) (.seq (.ops [oT (.mov (.v 6)), oT (.pcall 106 [(.t 0), (.c (.int .i64 2))]), oT (.mov (.v 6)), oT (.pcall 106 [(.t 2), (.c (.int .i64 13))]), oT (.bin .xor .arith (.t 1) (.t 3)), oT (.mov (.v 6)), oT (.pcall 106 [(.t 5), (.c (.int .i64 22))]), oT (.bin .xor .arith (.t 4) (.t 6)), oT (.mov (.v 6)), oT (.mov (.v 7)), oT (.bin .and .arith (.t 8) (.t 9)), oT (.mov (.v 6)), oT (.mov (.v 8)), oT (.bin .and .arith (.t 11) (.t 12)), oT (.bin .xor .arith (.t 10) (.t 13)), oT (.mov (.v 7)), oT (.mov (.v 8)), oT (.bin .and .arith (.t 15) (.t 16)), oT (.bin .xor .arith (.t 14) (.t 17)), oT (.bin .add .arith (.t 7) (.t 18)), oV 16 (.mov (.t 19))]) (.seq (.ops [oT (.mov (.v 12)), oV 13 (.mov (.t 0))]) (.seq (.ops [oT (.mov (.v 11)), oV 12 (.mov (.t 0))]) (.seq (.ops [oT (.mov (.v 10)), oV 11 (.mov (.t 0))]) (.seq (.ops [oT (.mov (.v 9)), oT (.mov (.v 15)), oT (.bin .add .arith (.t 0) (.t 1)), oV 10 (.mov (.t 2))]) (.seq (.ops [oT (.mov (.v 8)), oV 9 (.mov (.t 0))]) (.seq (.ops [oT (.mov (.v 7)), oV 8 (.mov (.t 0))]) (.seq (.ops [oT (.mov (.v 6)), oV 7 (.mov (.t 0))]) (.ops [oT (.mov (.v 15)), oT (.mov (.v 16)), oT (.bin .add .arith (.t 0) (.t 1)), oV 6 (.mov (.t 2))]))))))))))) (.ops [oT (.mov (.v 14)), oT (.bin .add .arith (.t 0) (.c (.int .i64 1))), oV 14 (.mov (.t 1))])))))) (.ops [oT (.aaddr 8 1 (.v 2) (.c (.int .i64 0))), oT (.load 1 false (.t 0)), oT (.mov (.v 6)), oT (.bin .add .arith (.t 1) (.t 2)), oT (.aaddr 8 1 (.v 2) (.c (.int .i64 1))), oT (.load 1 false (.t 4)), oT (.mov (.v 7)), oT (.bin .add .arith (.t 5) (.t 6)), oT (.aaddr 8 1 (.v 2) (.c (.int .i64 2))), oT (.load 1 false (.t 8)), oT (.mov (.v 8)), oT (.bin .add .arith (.t 9) (.t 10)), oT (.aaddr 8 1 (.v 2) (.c (.int .i64 3))), oT (.load 1 false (.t 12)), oT (.mov (.v 9)), oT (.bin .add .arith (.t 13) (.t 14)), oT (.aaddr 8 1 (.v 2) (.c (.int .i64 4))), oT (.load 1 false (.t 16)), oT (.mov (.v 10)), oT (.bin .add .arith (.t 17) (.t 18)), oT (.aaddr 8 1 (.v 2) (.c (.int .i64 5))), oT (.load 1 false (.t 20)), oT (.mov (.v 11)), oT (.bin .add .arith (.t 21) (.t 22)), oT (.aaddr 8 1 (.v 2) (.c (.int .i64 6))), oT (.load 1 false (.t 24)), oT (.mov (.v 12)), oT (.bin .add .arith (.t 25) (.t 26)), oT (.aaddr 8 1 (.v 2) (.c (.int .i64 7))), oT (.load 1 false (.t 28)), oT (.mov (.v 13)), oT (.bin .add .arith (.t 29) (.t 30)), oT (.build [(.int .u32 0), (.int .u32 0), (.int .u32 0), (.int .u32 0), (.int .u32 0), (.int .u32 0), (.int .u32 0), (.int .u32 0)] [(0, 1, (.t 3)), (1, 1, (.t 7)), (2, 1, (.t 11)), (3, 1, (.t 15)), (4, 1, (.t 19)), (5, 1, (.t 23)), (6, 1, (.t 27)), (7, 1, (.t 31))]), oN (.store 8 (.v 2) (.t 32))]))))) (.ops [oT (.mov (.v 4)), oT (.bin .add .arith (.t 0) (.c (.int .i64 64))), oV 4 (.mov (.t 1))])))))) (.seq (.ops [oV 17 (.alloc 125 32 true (List.replicate 32 (.int .u8 0)))]) (.seq (.seq (.ops [oV 18 (.mov (.c (.int .i64 0)))]) (.block 4 (.loop (.seq (.seq (.ops [oT (.mov (.v 18)), oV 21 (.bin .lss .arith (.t 0) (.c (.int .i64 32)))]) (.cond (.v 21) .skip (.exit 4))) (.seq (.block 5 (.ops [oT (.mov (.v 18)), oT (.mov (.v 18)), oT (.bin .quo .arith (.t 1) (.c (.int .i64 4))), oT (.aaddr 8 1 (.v 2) (.t 2)), oT (.load 1 false (.t 3)), oT (.mov (.v 18)), oT (.bin .rem .arith (.t 5) (.c (.int .i64 4))), oT (.bin .mul .arith (.c (.int .i64 8)) (.t 6)), oT (.bin .sub .arith (.c (.int .i64 24)) (.t 7)), oT (.bin .shr .arith (.t 4) (.t 8)), oT (.toInt .u8 (.t 9)), oT (.aaddr 32 1 (.v 17) (.t 0)), oN (.store 1 (.t 11) (.t 10))])) (.ops [oT (.mov (.v 18)), oT (.bin .add .arith (.t 0) (.c (.int .i64 1))), oV 18 (.mov (.t 1))])))))) (.seq (.ops [oT (.load 32 true (.v 17)), oN (.store 32 (.v 1) (.t 0))]) .ret))))))), [.c 1 32 true], []⟩
def c103 : AFunc := ⟨[0, 1, 3, 8, 18], (.seq (.ops [oT (.load 1 false (.v 1)), oT (.len (.t 0)), oT (.bin .sub .arith (.t 1) (.c (.int .i64 1))), oV 2 (.mov (.t 2))]) (.block 0 (.loop (.seq (.seq (.ops [oT (.mov (.v 2)), oV 3 (.bin .geq .arith (.t 0) (.c (.int .i64 0)))]) (.cond (.v 3) .skip (.exit 0))) (.seq (.block 1 (.seq (.ops [oT (.mov (.v 0)), oT (.mov (.v 2)), oT (.load 1 false (.v 1)), oT (.mov (.v 2)), oT (.iaddr 1 (.t 2) (.t 3)), oT (.load 1 false (.t 4)), oT (.call (.t 0) [(.t 1), (.t 5)]), oV 4 (.un .not (.t 6))]) (.cond (.v 4) .ret .skip))) (.ops [oT (.mov (.v 2)), oT (.bin .sub .arith (.t 0) (.c (.int .i64 1))), oV 2 (.mov (.t 1))])))))), [], []⟩
def c104 : AFunc := ⟨[0, 2, 3, 4, 5, 15, 24], (.seq (.ops [oV 1 (.mov (.c (.sl [] .nil)))]) (.seq (.ops [oT (.x .elit []), oT (.mov (.v 0)), oT (.append false 5 1 1 false (.t 0) (.t 1)), oV 2 (.mov (.t 2))]) (.seq (.ops [oT (.mov (.v 2)), oT (.lit 0 5 1 1 false [(.int .u8 0)] [(0, (.c (.int .u8 128)))]), oT (.append false 5 1 1 false (.t 0) (.t 1)), oV 2 (.mov (.t 2))]) (.seq (.block 0 (.loop (.seq (.seq (.ops [oT (.mov (.v 2)), oT (.len (.t 0)), oT (.bin .rem .arith (.t 1) (.c (.int .i64 64))), oV 5 (.bin .neq .arith (.t 2) (.c (.int .i64 56)))]) (.cond (.v 5) .skip (.exit 0))) (.block 1 (.ops [oT (.mov (.v 2)), oT (.lit 0 5 1 1 false [(.int .u8 0)] [(0, (.c (.int .u8 0)))]), oT (.append false 5 1 1 false (.t 0) (.t 1)), oV 2 (.mov (.t 2))]))))) (.seq (.ops [oT (.mov (.v 0)), oT (.len (.t 0)), oT (.toInt .u64 (.t 1)), oT (.bin .mul .arith (.c (.int .u64 8)) (.t 2)), oV 3 (.mov (.t 3))]) (.seq (.seq (.ops [oV 4 (.mov (.c (.int .i64 0)))]) (.block 2 (.loop (.seq (.seq (.ops [oT (.mov (.v 4)), oV 6 (.bin .lss .arith (.t 0) (.c (.int .i64 8)))]) (.cond (.v 6) .skip (.exit 2))) (.seq (.block 3 (.ops [oT (.mov (.v 2)), oT (.mov (.v 3)), oT (.mov (.v 4)), oT (.bin .mul .arith (.c (.int .i64 8)) (.t 2)), oT (.bin .sub .arith (.c (.int .i64 56)) (.t 3)), oT (.bin .shr .arith (.t 1) (.t 4)), oT (.toInt .u8 (.t 5)), oT (.lit 0 5 1 1 false [(.int .u8 0)] [(0, (.t 6))]), oT (.append false 5 1 1 false (.t 0) (.t 7)), oV 2 (.mov (.t 8))])) (.ops [oT (.mov (.v 4)), oT (.bin .add .arith (.t 0) (.c (.int .i64 1))), oV 4 (.mov (.t 1))])))))) (.seq (.ops [oT (.mov (.v 2)), oV 1 (.mov (.t 0))]) .ret))))))), [.v 1], []⟩
def c105 : AFunc := ⟨[0, 2, 3, 4, 5, 6, 7, 9, 48], (.seq (.ops [oV 1 (.alloc 161 64 true (List.replicate 64 (.int .u32 0)))]) (.seq (.ops [oV 2 (.alloc 161 64 true (List.replicate 64 (.int .u32 0)))]) (.seq (.seq (.ops [oV 3 (.mov (.c (.int .i64 0)))]) (.block 0 (.loop (.seq (.seq (.ops [oT (.mov (.v 3)), oV 7 (.bin .lss .arith (.t 0) (.c (.int .i64 16)))]) (.cond (.v 7) .skip (.exit 0))) (.seq (.block 1 (.ops [oT (.mov (.v 3)), oT (.mov (.v 0)), oT (.mov (.v 3)), oT (.bin .mul .arith (.c (.int .i64 4)) (.t 2)), oT (.iaddr 1 (.t 1) (.t 3)), oT (.load 1 false (.t 4)), oT (.toInt .u32 (.t 5)), oT (.bin .shl .arith (.t 6) (.c (.int .u64 24))), oT (.mov (.v 0)), oT (.mov (.v 3)), oT (.bin .mul .arith (.c (.int .i64 4)) (.t 9)), oT (.bin .add .arith (.t 10) (.c (.int .i64 1))), oT (.iaddr 1 (.t 8) (.t 11)), oT (.load 1 false (.t 12)), oT (.toInt .u32 (.t 13)), oT (.bin .shl .arith (.t 14) (.c (.int .u64 16))), oT (.bin .or .arith (.t 7) (.t 15)), oT (.mov (.v 0)), oT (.mov (.v 3)), oT (.bin .mul .arith (.c (.int .i64 4)) (.t 18)), oT (.bin .add .arith (.t 19) (.c (.int .i64 2))), oT (.iaddr 1 (.t 17) (.t 20)), oT (.load 1 false (.t 21)), oT (.toInt .u32 (.t 22)), oT (.bin .shl .arith (.t 23) (.c (.int .u64 8))), oT (.bin .or .arith (.t 16) (.t 24)), oT (.mov (.v 0)), oT (.mov (.v 3)), oT (.bin .mul .arith (.c (.int .i64 4)) (.t 27)), oT (.bin .add .arith (.t 28) (.c (.int .i64 3))), oT (.iaddr 1 (.t 26) (.t 29)), oT (.load 1 false (.t 30)), oT (.toInt .u32 (.t 31)), oT (.bin .or .arith (.t 25) (.t 32)), oT (.aaddr 64 1 (.v 2) (.t 0)), oN (.store 1 (.t 34) (.t 33))])) (.ops [oT (.mov (.v 3)), oT (.bin .add .arith (.t 0) (.c (.int .i64 1))), oV 3 (.mov (.t 1))])))))) (.seq (.seq (.ops [oV 4 (.mov (.c (.int .i64 16)))]) (.block 2 (.loop (.seq (.seq (.ops [oT (.mov (.v 4)), oV 8 (.bin .lss .arith (.t 0) (.c (.int .i64 64)))]) (.cond (.v 8) .skip (.exit 2))) (.seq (.block 3 (.seq (.ops [oT (.mov (.v 4)), oT (.bin .sub .arith (.t 0) (.c (.int .i64 15))), oT (.aaddr 64 1 (.v 2) (.t 1)), oT (.load 1 false (.t 2)), oT (.pcall 106 [(.t 3), (.c (.int .i64 7))]), oT (.mov (.v 4)), oT (.bin .sub .arith (.t 5) (.c (.int .i64 15))), oT (.aaddr 64 1 (.v 2) (.t 6)), oT (.load 1 false (.t 7)), oT (.pcall 106 [(.t 8), (.c (.int .i64 18))]), oT (.bin .xor .arith (.t 4) (.t 9)), oT (.mov (.v 4)), oT (.bin .sub .arith (.t 11) (.c (.int .i64 15))), oT (.aaddr 64 1 (.v 2) (.t 12)), oT (.load 1 false (.t 13)), oT (.bin .shr .arith (.t 14) (.c (.int .u64 3))), oT (.bin .xor .arith (.t 10) (.t 15)), oV 5 (.mov (.t 16))]) (.seq (.ops [oT (.mov (.v 4)), oT (.bin .sub .arith (.t 0) (.c (.int .i64 2))), oT (.aaddr 64 1 (.v 2) (.t 1)), oT (.load 1 false (.t 2)), oT (.pcall 106 [(.t 3), (.c (.int .i64 17))]), oT (.mov (.v 4)), oT (.bin .sub .arith (.t 5) (.c (.int .i64 2))), oT (.aaddr 64 1 (.v 2) (.t 6)), oT (.load 1 false (.t 7)), oT (.pcall 106 [(.t 8), (.c (.int .i64 19))]), oT (.bin .xor .arith (.t 4) (.t 9)), oT (.mov (.v 4)), oT (.bin .sub .arith (.t 11) (.c (.int .i64 2))), oT (.aaddr 64 1 (.v 2) (.t 12)), oT (.load 1 false (.t 13)), oT (.bin .shr .arith (.t 14) (.c (.int .u64 10))), oT (.bin .xor .arith (.t 10) (.t 15)), oV 6 (.mov (.t 16))]) (.ops [oT (.mov (.v 4)), oT (.mov (.v 4)), oT (.bin .sub .arith (.t 1) (.c (.int .i64 16))), oT (.aaddr 64 1 (.v 2) (.t 2)), oT (.load 1 false (.t 3)), oT (.mov (.v 5)), oT (.bin .add .arith (.t 4) (.t 5)), oT (.mov (.v 4)), oT (.bin .sub .arith (.t 7) (.c (.int .i64 7))), oT (.aaddr 64 1 (.v 2) (.t 8)), oT (.load 1 false (.t 9)), oT (.bin .add .arith (.t 6) (.t 10)), oT (.mov (.v 6)), oT (.bin .add .arith (.t 11) (.t 12)), oT (.aaddr 64 1 (.v 2) (.t 0)), oN (.store 1 (.t 14) (.t 13))])))) (.ops [oT (.mov (.v 4)), oT (.bin .add .arith (.t 0) (.c (.int .i64 1))), oV 4 (.mov (.t 1))])))))) (.seq (.ops [oT (.load 64 true (.v 2)), oN (.store 64 (.v 1) (.t 0))]) .ret))))), [.c 1 64 true], []⟩
def c106 : AFunc := ⟨[0, 1, 4], (.seq (.ops [oV 2 (.mov (.c (.int .u32 0)))]) (.seq (.ops [oT (.mov (.v 0)), oT (.mov (.v 1)), oT (.bin .shr .arith (.t 0) (.t 1)), oT (.mov (.v 0)), oT (.mov (.v 1)), oT (.bin .sub .arith (.c (.int .i64 32)) (.t 4)), oT (.bin .shl .arith (.t 3) (.t 5)), oT (.bin .or .arith (.t 2) (.t 6)), oV 2 (.mov (.t 7))]) .ret)), [.v 2], []⟩
def c110 : AFunc := ⟨[0, 2, 3, 4, 6, 7, 8, 9, 10, 11, 12, 15, 22, 23, 24, 25], (.seq (.ops [oV 1 (.alloc 161 64 true (List.replicate 64 (.int .u32 0)))]) (.seq (.ops [oV 2 (.alloc 161 64 true (List.replicate 64 (.int .u32 0)))]) (.seq (.seq (.ops [oV 9 (.mov (.c (.int .i64 0)))]) (.block 0 (.loop (.seq (.ops [oV 10 (.bin .lss .arith (.v 9) (.c (.int .i64 64)))]) (.seq (.cond (.v 10) .skip (.exit 0)) (.seq (.block 1 (.seq (.ops [oT (.mov (.v 9)), oV 3 (.mov (.t 0))]) (.seq (.seq (.ops [oT (.mov (.v 3)), oV 11 (.bin .lss .arith (.t 0) (.c (.int .i64 16)))]) (.cond (.v 11) (.seq (.seq (.ops [oT (.mov (.v 0)), oT (.mov (.v 3)), oT (.bin .mul .arith (.c (.int .i64 4)) (.t 1)), oT (.mov (.v 3)), oT (.bin .mul .arith (.c (.int .i64 4)) (.t 3)), oT (.bin .add .arith (.t 4) (.c (.int .i64 4))), oV 12 (.slice 1 (.t 0) (some (.t 2)) (some (.t 5))), oV 13 (.len (.v 12)), oV 14 (.mov (.c (.int .i64 0)))]) (.block 2 (.loop (.seq (.ops [oV 15 (.bin .lss .arith (.v 14) (.v 13))]) (.seq (.cond (.v 15) .skip (.exit 2)) (.seq (.block 3 (.seq (.ops [oT (.iaddr 1 (.v 12) (.v 14)), oT (.load 1 false (.t 0)), oV 4 (.mov (.t 1))]) (.ops [oT (.mov (.v 3)), oT (.mov (.v 3)), oT (.aaddr 64 1 (.v 2) (.t 1)), oT (.load 1 false (.t 2)), oT (.bin .shl .arith (.t 3) (.c (.int .u64 8))), oT (.mov (.v 4)), oT (.toInt .u32 (.t 5)), oT (.bin .or .arith (.t 4) (.t 6)), oT (.aaddr 64 1 (.v 2) (.t 0)), oN (.store 1 (.t 8) (.t 7))]))) (.ops [oT (.bin .add .arith (.v 14) (.c (.int .i64 1))), oV 14 (.mov (.t 0))]))))))) (.exit 1)) .skip)) (.seq (.ops [oT (.mov (.v 3)), oT (.bin .sub .arith (.t 0) (.c (.int .i64 15))), oT (.aaddr 64 1 (.v 2) (.t 1)), oT (.load 1 false (.t 2)), oT (.mov (.v 3)), oT (.bin .sub .arith (.t 4) (.c (.int .i64 2))), oT (.aaddr 64 1 (.v 2) (.t 5)), oT (.load 1 false (.t 6)), oV 5 (.mov (.t 3)), oV 6 (.mov (.t 7))]) (.seq (.ops [oT (.mov (.v 5)), oT (.pcall 123 [(.t 0), (.c (.int .i64 (-7)))]), oT (.mov (.v 5)), oT (.pcall 123 [(.t 2), (.c (.int .i64 (-18)))]), oT (.bin .xor .arith (.t 1) (.t 3)), oT (.mov (.v 5)), oT (.bin .shr .arith (.t 5) (.c (.int .u64 3))), oT (.bin .xor .arith (.t 4) (.t 6)), oV 7 (.mov (.t 7))]) (.seq (.ops [oT (.mov (.v 6)), oT (.pcall 123 [(.t 0), (.c (.int .i64 (-17)))]), oT (.mov (.v 6)), oT (.pcall 123 [(.t 2), (.c (.int .i64 (-19)))]), oT (.bin .xor .arith (.t 1) (.t 3)), oT (.mov (.v 6)), oT (.bin .shr .arith (.t 5) (.c (.int .u64 10))), oT (.bin .xor .arith (.t 4) (.t 6)), oV 8 (.mov (.t 7))]) (.ops [oT (.mov (.v 3)), oT (.mov (.v 3)), oT (.bin .sub .arith (.t 1) (.c (.int .i64 16))), oT (.aaddr 64 1 (.v 2) (.t 2)), oT (.load 1 false (.t 3)), oT (.mov (.v 7)), oT (.bin .add .arith (.t 4) (.t 5)), oT (.mov (.v 3)), oT (.bin .sub .arith (.t 7) (.c (.int .i64 7))), oT (.aaddr 64 1 (.v 2) (.t 8)), oT (.load 1 false (.t 9)), oT (.bin .add .arith (.t 6) (.t 10)), oT (.mov (.v 8)), oT (.bin .add .arith (.t 11) (.t 12)), oT (.aaddr 64 1 (.v 2) (.t 0)), oN (.store 1 (.t 14) (.t 13))]))))))) (.ops [oT (.bin .add .arith (.v 9) (.c (.int .i64 1))), oV 9 (.mov (.t 0))]))))))) (.seq (.ops [oT (.load 64 true (.v 2)), oN (.store 64 (.v 1) (.t 0))]) .ret)))), [.c 1 64 true], []⟩
def c111 : AFunc := ⟨[0, 1, 2, 3, 8], (.seq (.ops [oV 4 (.mov (.c (.int .u32 0)))]) (.seq (.ops [oT (.mov (.v 0)), oT (.mov (.v 1)), oT (.un .neg (.t 1)), oT (.pcall 123 [(.t 0), (.t 2)]), oT (.mov (.v 0)), oT (.mov (.v 2)), oT (.un .neg (.t 5)), oT (.pcall 123 [(.t 4), (.t 6)]), oT (.bin .xor .arith (.t 3) (.t 7)), oT (.mov (.v 0)), oT (.mov (.v 3)), oT (.un .neg (.t 10)), oT (.pcall 123 [(.t 9), (.t 11)]), oT (.bin .xor .arith (.t 8) (.t 12)), oV 4 (.mov (.t 13))]) .ret)), [.v 4], []⟩
def c123 : AFunc := ⟨[0, 1, 4, 5], (.seq (.ops [oV 2 (.mov (.c (.int .u32 0)))]) (.seq (.ops [oT (.mov (.v 1)), oT (.toInt .u64 (.t 0)), oT (.bin .and .arith (.t 1) (.c (.int .u64 31))), oV 3 (.mov (.t 2))]) (.seq (.ops [oT (.mov (.v 0)), oT (.mov (.v 3)), oT (.bin .shl .arith (.t 0) (.t 1)), oT (.mov (.v 0)), oT (.mov (.v 3)), oT (.bin .sub .arith (.c (.int .u64 32)) (.t 4)), oT (.bin .shr .arith (.t 3) (.t 5)), oT (.bin .or .arith (.t 2) (.t 6)), oV 2 (.mov (.t 7))]) .ret))), [.v 2], []⟩
def c102_0 : ACode :=
 (.ops [oV 2 (.box 8 true (.v 0)),
   oV 3 (.alloc 146 8 true [(.int .u32 0), (.int .u32 0), (.int .u32 0), (.int .u32 0), (.int .u32 0), (.int .u32 0), (.int .u32 0), (.int .u32 0)])])
def c102_1 : ACode :=
 (.ops [oT (.mov (.v 1)),
   oT (.pcall 110 [(.t 0)]),
   oV 4 (.alloc 161 64 true (List.replicate 64 (.int .u32 0))),
   oN (.store 64 (.v 4) (.t 1))])
def c102_3 : ACode :=
 (.seq (.ops [oV 12 (.load 64 true (.c (.rp shaK))),
   oV 13 (.mov (.c (.int .i64 0)))])
 (.block 0 (.loop (.seq (.ops [oV 14 (.bin .lss .arith (.v 13) (.c (.int .i64 64)))])
   (.seq (.cond (.v 14)
    .skip
    (.exit 0))
   (.seq (.block 1 (.seq (.ops [oT (.mov (.v 13)),
      oT (.aidx 64 1 false (.v 12) (.v 13)),
      oV 7 (.mov (.t 0)),
      oV 8 (.mov (.t 1))])
    (.seq (.ops [oT (.aaddr 4 1 (.v 6) (.c (.int .i64 3))),
      oT (.load 1 false (.t 0)),
      oT (.aaddr 4 1 (.v 6) (.c (.int .i64 0))),
      oT (.load 1 false (.t 2)),
      oT (.pcall 111 [(.t 3), (.c (.int .i64 6)), (.c (.int .i64 11)), (.c (.int .i64 25))]),
      oT (.bin .add .arith (.t 1) (.t 4)),
      oT (.aaddr 4 1 (.v 6) (.c (.int .i64 0))),
      oT (.load 1 false (.t 6)),
      oT (.aaddr 4 1 (.v 6) (.c (.int .i64 1))),
      oT (.load 1 false (.t 8)),
      oT (.bin .and .arith (.t 7) (.t 9)),
      oT (.aaddr 4 1 (.v 6) (.c (.int .i64 0))),
      oT (.load 1 false (.t 11)),
      oT (.un .xor (.t 12)),
      oT (.aaddr 4 1 (.v 6) (.c (.int .i64 2))),
      oT (.load 1 false (.t 14)),
      oT (.bin .and .arith (.t 13) (.t 15)),
      oT (.bin .xor .arith (.t 10) (.t 16)),
      oT (.bin .add .arith (.t 5) (.t 17)),
      oT (.mov (.v 8)),
      oT (.bin .add .arith (.t 18) (.t 19)),
      oT (.mov (.v 7)),
      oT (.aaddr 64 1 (.v 4) (.t 21)),
      oT (.load 1 false (.t 22)),
      oT (.bin .add .arith (.t 20) (.t 23)),
      oV 9 (.mov (.t 24))])
    (.seq (.ops [oT (.aaddr 4 1 (.v 5) (.c (.int .i64 0))),
      oT (.load 1 false (.t 0)),
      oT (.pcall 111 [(.t 1), (.c (.int .i64 2)), (.c (.int .i64 13)), (.c (.int .i64 22))]),
      oT (.aaddr 4 1 (.v 5) (.c (.int .i64 0))),
      oT (.load 1 false (.t 3)),
      oT (.aaddr 4 1 (.v 5) (.c (.int .i64 1))),
      oT (.load 1 false (.t 5)),
      oT (.bin .and .arith (.t 4) (.t 6)),
      oT (.aaddr 4 1 (.v 5) (.c (.int .i64 0))),
      oT (.load 1 false (.t 8)),
      oT (.aaddr 4 1 (.v 5) (.c (.int .i64 2))),
      oT (.load 1 false (.t 10)),
      oT (.bin .and .arith (.t 9) (.t 11)),
      oT (.bin .xor .arith (.t 7) (.t 12)),
      oT (.aaddr 4 1 (.v 5) (.c (.int .i64 1))),
      oT (.load 1 false (.t 14)),
      oT (.aaddr 4 1 (.v 5) (.c (.int .i64 2))),
      oT (.load 1 false (.t 16)),
      oT (.bin .and .arith (.t 15) (.t 17)),
      oT (.bin .xor .arith (.t 13) (.t 18)),
      oT (.bin .add .arith (.t 2) (.t 19)),
      oV 10 (.mov (.t 20))])
    (.seq (.ops [oT (.aaddr 4 1 (.v 5) (.c (.int .i64 3))),
      oT (.load 1 false (.t 0)),
      oT (.mov (.v 9)),
      oT (.bin .add .arith (.t 1) (.t 2)),
      oT (.aaddr 4 1 (.v 6) (.c (.int .i64 0))),
      oT (.load 1 false (.t 4)),
      oT (.aaddr 4 1 (.v 6) (.c (.int .i64 1))),
      oT (.load 1 false (.t 6)),
      oT (.aaddr 4 1 (.v 6) (.c (.int .i64 2))),
      oT (.load 1 false (.t 8)),
      oT (.build [(.int .u32 0), (.int .u32 0), (.int .u32 0), (.int .u32 0)] [(0, 1, (.t 3)), (1, 1, (.t 5)), (2, 1, (.t 7)), (3, 1, (.t 9))]),
      oN (.store 4 (.v 6) (.t 10))])
    (.ops [oT (.mov (.v 9)),
      oT (.mov (.v 10)),
      oT (.bin .add .arith (.t 0) (.t 1)),
      oT (.aaddr 4 1 (.v 5) (.c (.int .i64 0))),
      oT (.load 1 false (.t 3)),
      oT (.aaddr 4 1 (.v 5) (.c (.int .i64 1))),
      oT (.load 1 false (.t 5)),
      oT (.aaddr 4 1 (.v 5) (.c (.int .i64 2))),
      oT (.load 1 false (.t 7)),
      oT (.build [(.int .u32 0), (.int .u32 0), (.int .u32 0), (.int .u32 0)] [(0, 1, (.t 2)), (1, 1, (.t 4)), (2, 1, (.t 6)), (3, 1, (.t 8))]),
      oN (.store 4 (.v 5) (.t 9))]))))))
   (.ops [oT (.bin .add .arith (.v 13) (.c (.int .i64 1))),
     oV 13 (.mov (.t 0))])))))))
def c102_4 : ACode :=
 (.seq (.seq (.ops [oV 15 (.mov (.c (.int .i64 0)))])
 (.block 2 (.loop (.seq (.ops [oV 16 (.bin .lss .arith (.v 15) (.c (.int .i64 4)))])
   (.seq (.cond (.v 16)
    .skip
    (.exit 2))
   (.seq (.block 3 (.seq (.ops [oT (.mov (.v 15)),
      oV 11 (.mov (.t 0))])
    (.seq (.ops [oT (.mov (.v 11)),
      oT (.aaddr 8 1 (.v 2) (.t 0)),
      oT (.load 1 false (.t 1)),
      oT (.mov (.v 11)),
      oT (.aaddr 4 1 (.v 5) (.t 3)),
      oT (.load 1 false (.t 4)),
      oT (.bin .add .arith (.t 2) (.t 5)),
      oT (.aaddr 8 1 (.v 2) (.t 0)),
      oN (.store 1 (.t 7) (.t 6))])
    (.ops [oT (.mov (.v 11)),
      oT (.bin .add .arith (.t 0) (.c (.int .i64 4))),
      oT (.aaddr 8 1 (.v 2) (.t 1)),
      oT (.load 1 false (.t 2)),
      oT (.mov (.v 11)),
      oT (.aaddr 4 1 (.v 6) (.t 4)),
      oT (.load 1 false (.t 5)),
      oT (.bin .add .arith (.t 3) (.t 6)),
      oT (.aaddr 8 1 (.v 2) (.t 1)),
      oN (.store 1 (.t 8) (.t 7))]))))
   (.ops [oT (.bin .add .arith (.v 15) (.c (.int .i64 1))),
     oV 15 (.mov (.t 0))])))))))
 (.seq (.ops [oT (.load 8 true (.v 2)),
   oN (.store 8 (.v 3) (.t 0))])
 .ret))
def c102_nt : Nat := 116
def c102_slots : List Nat := [0, 1, 2, 4, 5, 6, 7, 8, 9, 10, 11, 12, 21, 22, 23, 94, 95]
def c102_res : List ResV := [.c 3 8 true]
def c102_r2 : List AOper := [oT (.x (.aslice 8 1 false false true) [(.v 2), (.c (.int .i64 4))]),
 oT (.x (.s2ap 4 1) [(.t 0)]),
 oT (.load 4 true (.t 1)),
 oT (.x (.aslice 8 1 false true false) [(.v 2), (.c (.int .i64 4))]),
 oT (.x (.s2ap 4 1) [(.t 3)]),
 oT (.load 4 true (.t 4)),
 oV 5 (.alloc 167 4 true [(.int .u32 0), (.int .u32 0), (.int .u32 0), (.int .u32 0)]),
 oV 6 (.alloc 167 4 true [(.int .u32 0), (.int .u32 0), (.int .u32 0), (.int .u32 0)]),
 oN (.store 4 (.v 5) (.t 2)),
 oN (.store 4 (.v 6) (.t 5))]
def c102_r2_0 : List AOper := [oT (.x (.aslice 8 1 false false true) [(.v 2), (.c (.int .i64 4))]),
 oT (.x (.s2ap 4 1) [(.t 0)]),
 oT (.load 4 true (.t 1)),
 oT (.x (.aslice 8 1 false true false) [(.v 2), (.c (.int .i64 4))]),
 oT (.x (.s2ap 4 1) [(.t 3)]),
 oT (.load 4 true (.t 4)),
 oV 5 (.alloc 167 4 true [(.int .u32 0), (.int .u32 0), (.int .u32 0), (.int .u32 0)]),
 oV 6 (.alloc 167 4 true [(.int .u32 0), (.int .u32 0), (.int .u32 0), (.int .u32 0)]),
 oN (.store 4 (.v 5) (.t 2)),
 oN (.store 4 (.v 6) (.t 5))]
def c102_r2_1 : List AOper := [oT (.x (.aslice 8 1 false false true) [(.v 2), (.c (.int .i64 4))]),
 oT (.x (.s2ap 4 1) [(.t 0)]),
 oT (.load 4 true (.t 1)),
 oT (.x (.aslice 8 1 false true false) [(.v 2), (.c (.int .i64 4))]),
 oT (.x (.s2ap 4 1) [(.t 3)]),
 oT (.load 4 true (.t 4)),
 oV 6 (.alloc 167 4 true [(.int .u32 0), (.int .u32 0), (.int .u32 0), (.int .u32 0)]),
 oV 5 (.alloc 167 4 true [(.int .u32 0), (.int .u32 0), (.int .u32 0), (.int .u32 0)]),
 oN (.store 4 (.v 5) (.t 2)),
 oN (.store 4 (.v 6) (.t 5))]
def c102_r2_2 : List AOper := [oT (.x (.aslice 8 1 false false true) [(.v 2), (.c (.int .i64 4))]),
 oT (.x (.s2ap 4 1) [(.t 0)]),
 oT (.load 4 true (.t 1)),
 oV 5 (.alloc 167 4 true [(.int .u32 0), (.int .u32 0), (.int .u32 0), (.int .u32 0)]),
 oV 6 (.alloc 167 4 true [(.int .u32 0), (.int .u32 0), (.int .u32 0), (.int .u32 0)]),
 oN (.store 4 (.v 5) (.t 2)),
 oT (.x (.aslice 8 1 false true false) [(.v 2), (.c (.int .i64 4))]),
 oT (.x (.s2ap 4 1) [(.t 6)]),
 oT (.load 4 true (.t 7)),
 oN (.store 4 (.v 6) (.t 8))]
def c102_r2_3 : List AOper := [oT (.x (.aslice 8 1 false false true) [(.v 2), (.c (.int .i64 4))]),
 oT (.x (.s2ap 4 1) [(.t 0)]),
 oT (.load 4 true (.t 1)),
 oV 6 (.alloc 167 4 true [(.int .u32 0), (.int .u32 0), (.int .u32 0), (.int .u32 0)]),
 oV 5 (.alloc 167 4 true [(.int .u32 0), (.int .u32 0), (.int .u32 0), (.int .u32 0)]),
 oN (.store 4 (.v 5) (.t 2)),
 oT (.x (.aslice 8 1 false true false) [(.v 2), (.c (.int .i64 4))]),
 oT (.x (.s2ap 4 1) [(.t 6)]),
 oT (.load 4 true (.t 7)),
 oN (.store 4 (.v 6) (.t 8))]
def c102_r2_4 : List AOper := [oT (.x (.aslice 8 1 false false true) [(.v 2), (.c (.int .i64 4))]),
 oT (.x (.s2ap 4 1) [(.t 0)]),
 oT (.load 4 true (.t 1)),
 oT (.x (.aslice 8 1 false true false) [(.v 2), (.c (.int .i64 4))]),
 oV 5 (.alloc 167 4 true [(.int .u32 0), (.int .u32 0), (.int .u32 0), (.int .u32 0)]),
 oV 6 (.alloc 167 4 true [(.int .u32 0), (.int .u32 0), (.int .u32 0), (.int .u32 0)]),
 oN (.store 4 (.v 5) (.t 2)),
 oT (.x (.s2ap 4 1) [(.t 3)]),
 oT (.load 4 true (.t 7)),
 oN (.store 4 (.v 6) (.t 8))]
def c102_r2_5 : List AOper := [oT (.x (.aslice 8 1 false false true) [(.v 2), (.c (.int .i64 4))]),
 oT (.x (.s2ap 4 1) [(.t 0)]),
 oT (.load 4 true (.t 1)),
 oT (.x (.aslice 8 1 false true false) [(.v 2), (.c (.int .i64 4))]),
 oV 6 (.alloc 167 4 true [(.int .u32 0), (.int .u32 0), (.int .u32 0), (.int .u32 0)]),
 oV 5 (.alloc 167 4 true [(.int .u32 0), (.int .u32 0), (.int .u32 0), (.int .u32 0)]),
 oN (.store 4 (.v 5) (.t 2)),
 oT (.x (.s2ap 4 1) [(.t 3)]),
 oT (.load 4 true (.t 7)),
 oN (.store 4 (.v 6) (.t 8))]
theorem c6_ok : compFunc Tryz.prog hints 6 = some c6 := by kernel_rfl
theorem c7_ok : compFunc Tryz.prog hints 7 = some c7 := by kernel_rfl
theorem c8_ok : compFunc Tryz.prog hints 8 = some c8 := by kernel_rfl
theorem c9_ok : compFunc Tryz.prog hints 9 = some c9 := by kernel_rfl
theorem c10_ok : compFunc Tryz.prog hints 10 = some c10 := by kernel_rfl
theorem c11_ok : compFunc Tryz.prog hints 11 = some c11 := by kernel_rfl
theorem c12_ok : compFunc Tryz.prog hints 12 = some c12 := by kernel_rfl
theorem c13_ok : compFunc Tryz.prog hints 13 = some c13 := by kernel_rfl
theorem c14_ok : compFunc Tryz.prog hints 14 = some c14 := by kernel_rfl
theorem c16_ok : compFunc Tryz.prog hints 16 = some c16 := by kernel_rfl
theorem c17_ok : compFunc Tryz.prog hints 17 = some c17 := by kernel_rfl
theorem c19_ok : compFunc Tryz.prog hints 19 = some c19 := by kernel_rfl
theorem c20_ok : compFunc Tryz.prog hints 20 = some c20 := by kernel_rfl
theorem c21_ok : compFunc Tryz.prog hints 21 = some c21 := by kernel_rfl
theorem c22_ok : compFunc Tryz.prog hints 22 = some c22 := by kernel_rfl
theorem c23_ok : compFunc Tryz.prog hints 23 = some c23 := by kernel_rfl
theorem c24_ok : compFunc Tryz.prog hints 24 = some c24 := by kernel_rfl
theorem c25_ok : compFunc Tryz.prog hints 25 = some c25 := by kernel_rfl
theorem c26_ok : compFunc Tryz.prog hints 26 = some c26 := by kernel_rfl
theorem c27_ok : compFunc Tryz.prog hints 27 = some c27 := by kernel_rfl
theorem c28_ok : compFunc Tryz.prog hints 28 = some c28 := by kernel_rfl
theorem c29_ok : compFunc Tryz.prog hints 29 = some c29 := by kernel_rfl
theorem c30_ok : compFunc Tryz.prog hints 30 = some c30 := by kernel_rfl
theorem c31_ok : compFunc Tryz.prog hints 31 = some c31 := by kernel_rfl
theorem c32_ok : compFunc Tryz.prog hints 32 = some c32 := by kernel_rfl
theorem c33_ok : compFunc Tryz.prog hints 33 = some c33 := by kernel_rfl
theorem c34_ok : compFunc Tryz.prog hints 34 = some c34 := by kernel_rfl
theorem c35_ok : compFunc Tryz.prog hints 35 = some c35 := by kernel_rfl
theorem c36_ok : compFunc Tryz.prog hints 36 = some c36 := by kernel_rfl
theorem c37_ok : compFunc Tryz.prog hints 37 = some c37 := by kernel_rfl
theorem c38_ok : compFunc Tryz.prog hints 38 = some c38 := by kernel_rfl
theorem c40_ok : compFunc Tryz.prog hints 40 = some c40 := by kernel_rfl
theorem c41_ok : compFunc Tryz.prog hints 41 = some c41 := by kernel_rfl
theorem c42_ok : compFunc Tryz.prog hints 42 = some c42 := by kernel_rfl
theorem c43_ok : compFunc Tryz.prog hints 43 = some c43 := by kernel_rfl
theorem c44_ok : compFunc Tryz.prog hints 44 = some c44 := by kernel_rfl
theorem c45_ok : compFunc Tryz.prog hints 45 = some c45 := by kernel_rfl
theorem c46_ok : compFunc Tryz.prog hints 46 = some c46 := by kernel_rfl
theorem c47_ok : compFunc Tryz.prog hints 47 = some c47 := by kernel_rfl
theorem c48_ok : compFunc Tryz.prog hints 48 = some c48 := by kernel_rfl
theorem c49_ok : compFunc Tryz.prog hints 49 = some c49 := by kernel_rfl
theorem c50_ok : compFunc Tryz.prog hints 50 = some c50 := by kernel_rfl
theorem c51_ok : compFunc Tryz.prog hints 51 = some c51 := by kernel_rfl
theorem c52_ok : compFunc Tryz.prog hints 52 = some c52 := by kernel_rfl
theorem c53_ok : compFunc Tryz.prog hints 53 = some c53 := by kernel_rfl
theorem c54_ok : compFunc Tryz.prog hints 54 = some c54 := by kernel_rfl
theorem c55_ok : compFunc Tryz.prog hints 55 = some c55 := by kernel_rfl
theorem c56_ok : compFunc Tryz.prog hints 56 = some c56 := by kernel_rfl
theorem c57_ok : compFunc Tryz.prog hints 57 = some c57 := by kernel_rfl
theorem c58_ok : compFunc Tryz.prog hints 58 = some c58 := by kernel_rfl
theorem c59_ok : compFunc Tryz.prog hints 59 = some c59 := by kernel_rfl
theorem c60_ok : compFunc Tryz.prog hints 60 = some c60 := by kernel_rfl
theorem c61_ok : compFunc Tryz.prog hints 61 = some c61 := by kernel_rfl
theorem c62_ok : compFunc Tryz.prog hints 62 = some c62 := by kernel_rfl
theorem c63_ok : compFunc Tryz.prog hints 63 = some c63 := by kernel_rfl
theorem c64_ok : compFunc Tryz.prog hints 64 = some c64 := by kernel_rfl
theorem c65_ok : compFunc Tryz.prog hints 65 = some c65 := by kernel_rfl
theorem c66_ok : compFunc Tryz.prog hints 66 = some c66 := by kernel_rfl
theorem c67_ok : compFunc Tryz.prog hints 67 = some c67 := by kernel_rfl
theorem c74_ok : compFunc Tryz.prog hints 74 = some c74 := by kernel_rfl
theorem c75_ok : compFunc Tryz.prog hints 75 = some c75 := by kernel_rfl
theorem c76_ok : compFunc Tryz.prog hints 76 = some c76 := by kernel_rfl
theorem c77_ok : compFunc Tryz.prog hints 77 = some c77 := by kernel_rfl
theorem c78_ok : compFunc Tryz.prog hints 78 = some c78 := by kernel_rfl
theorem c79_ok : compFunc Tryz.prog hints 79 = some c79 := by kernel_rfl
theorem c80_ok : compFunc Tryz.prog hints 80 = some c80 := by kernel_rfl
theorem c81_ok : compFunc Tryz.prog hints 81 = some c81 := by kernel_rfl
theorem c82_ok : compFunc Tryz.prog hints 82 = some c82 := by kernel_rfl
theorem c84_ok : compFunc Tryz.prog hints 84 = some c84 := by kernel_rfl
theorem c90_ok : compFunc Tryz.prog hints 90 = some c90 := by kernel_rfl
theorem c91_ok : compFunc Tryz.prog hints 91 = some c91 := by kernel_rfl
theorem c92_ok : compFunc Tryz.prog hints 92 = some c92 := by kernel_rfl
theorem c93_ok : compFunc Tryz.prog hints 93 = some c93 := by kernel_rfl
theorem c94_ok : compFunc Tryz.prog hints 94 = some c94 := by kernel_rfl
theorem c95_ok : compFunc Tryz.prog hints 95 = some c95 := by kernel_rfl
theorem c96_ok : compFunc Tryz.prog hints 96 = some c96 := by kernel_rfl
theorem c103_ok : compFunc Tryz.prog hints 103 = some c103 := by kernel_rfl
theorem c104_ok : compFunc Tryz.prog hints 104 = some c104 := by kernel_rfl
theorem c105_ok : compFunc Tryz.prog hints 105 = some c105 := by kernel_rfl
theorem c106_ok : compFunc Tryz.prog hints 106 = some c106 := by kernel_rfl
theorem c110_ok : compFunc Tryz.prog hints 110 = some c110 := by kernel_rfl
theorem c111_ok : compFunc Tryz.prog hints 111 = some c111 := by kernel_rfl
theorem c123_ok : compFunc Tryz.prog hints 123 = some c123 := by kernel_rfl
theorem c102_0_ok : compCode Tryz.prog hints 102 c102_nt c102_slots false 0 (seqL (bodyOf Tryz.prog 102)) = c102_0 := by kernel_rfl
theorem c102_1_ok : compCode Tryz.prog hints 102 c102_nt c102_slots false 0 (seqL (seqR (bodyOf Tryz.prog 102))) = c102_1 := by kernel_rfl
theorem c102_r2_ok : compOpers Tryz.prog hints 102 c102_slots (regOps (seqL (seqR (seqR (bodyOf Tryz.prog 102))))).toList (regOps (seqL (seqR (seqR (bodyOf Tryz.prog 102))))).toList 0 = some c102_r2 := by kernel_rfl
theorem c102_r2_0_ok : renOpers [0, 1, 2, 3, 4, 5, 6, 7, 8, 9] c102_r2 [0, 1, 2, 3, 4, 5, 6, 7, 8, 9] = some c102_r2_0 := by kernel_rfl
theorem c102_r2_1_ok : renOpers [0, 1, 2, 3, 4, 5, 7, 6, 8, 9] c102_r2 [0, 1, 2, 3, 4, 5, 7, 6, 8, 9] = some c102_r2_1 := by kernel_rfl
theorem c102_r2_2_ok : renOpers [0, 1, 2, 6, 7, 8, 3, 4, 5, 9] c102_r2 [0, 1, 2, 6, 7, 8, 3, 4, 5, 9] = some c102_r2_2 := by kernel_rfl
theorem c102_r2_3_ok : renOpers [0, 1, 2, 7, 6, 8, 3, 4, 5, 9] c102_r2 [0, 1, 2, 7, 6, 8, 3, 4, 5, 9] = some c102_r2_3 := by kernel_rfl
theorem c102_r2_4_ok : renOpers [0, 1, 2, 3, 6, 7, 8, 4, 5, 9] c102_r2 [0, 1, 2, 3, 6, 7, 8, 4, 5, 9] = some c102_r2_4 := by kernel_rfl
theorem c102_r2_5_ok : renOpers [0, 1, 2, 3, 7, 6, 8, 4, 5, 9] c102_r2 [0, 1, 2, 3, 7, 6, 8, 4, 5, 9] = some c102_r2_5 := by kernel_rfl
theorem c102_3_ok : compCode Tryz.prog hints 102 c102_nt c102_slots false 0 (seqL (seqR (seqR (seqR (bodyOf Tryz.prog 102))))) = c102_3 := by kernel_rfl
theorem c102_4_ok : compCode Tryz.prog hints 102 c102_nt c102_slots false 0 (seqR (seqR (seqR (seqR (bodyOf Tryz.prog 102))))) = c102_4 := by kernel_rfl
end Go.Proofs.YtjofjgflcogklaaGreatDoor

namespace Go.Proofs.YtjofjgflcogklaaGreatDoor
open Go Go.Shelf Go.Proofs
set_option maxHeartbeats 4000000
set_option maxRecDepth 100000
def keysA_ren : Go.Shelf.Ren := ⟨fun | 7 => 84 | 10 => 99 | n => n, fun | 23 => 75 | 26 => 3 | 3 => 86 | 28 => 135 | 0 => 0 | 27 => 134 | 33 => 87 | 4 => 4 | n => n, fun | n => n⟩
theorem keysA : Go.Proofs.SlLaysZI.n7 Tryz.prog keysA_ren where
  mixed := by kernel_rfl
  f7 := ⟨ "maps.Keys[map[int]wordbook/disk.block,int,wordbook/disk.block]", by decide, Tryz.func84.trans (congrArg some (by kernel_rfl))⟩
  f10 := ⟨ "maps.Keys[map[int]wordbook/disk.block,int,wordbook/disk.block]$1", by decide, Tryz.func99.trans (congrArg some (by kernel_rfl))⟩
  t0 := Tryz.underlying0
  a0 := Tryz.isAgg0
  z0 := Tryz.sizeOf0
  v0 := Tryz.zeroValue0
  t4 := Tryz.underlying4
  a4 := Tryz.isAgg4
  z4 := Tryz.sizeOf4
  v4 := Tryz.zeroValue4
  t23 := Tryz.underlying75
  a23 := Tryz.isAgg75
  z23 := Tryz.sizeOf75
  v23 := Tryz.zeroValue75
  t26 := Tryz.underlying3
  a26 := Tryz.isAgg3
  z26 := Tryz.sizeOf3
  v26 := Tryz.zeroValue3
  t27 := Tryz.underlying134
  a27 := Tryz.isAgg134
  z27 := Tryz.sizeOf134
  v27 := Tryz.zeroValue134
  t28 := Tryz.underlying135
  a28 := Tryz.isAgg135
  z28 := Tryz.sizeOf135
  v28 := Tryz.zeroValue135
  t33 := Tryz.underlying87
  a33 := Tryz.isAgg87
  z33 := Tryz.sizeOf87
  v33 := Tryz.zeroValue87
def sortedA_ren : Go.Shelf.Ren := ⟨fun | 6 => 83 | 8 => 97 | 9 => 98 | 11 => 107 | 13 => 109 | 12 => 108 | 23 => 121 | 24 => 122 | 14 => 112 | 15 => 113 | 16 => 114 | 17 => 115 | 18 => 116 | 19 => 117 | 20 => 118 | 21 => 119 | 22 => 120 | 25 => 124 | 26 => 125 | 27 => 126 | 28 => 127 | 29 => 128 | 30 => 129 | 31 => 130 | n => n, fun | 26 => 3 | 28 => 135 | 24 => 51 | 0 => 0 | 3 => 3 | 37 => 47 | 48 => 137 | 50 => 140 | 4 => 4 | 40 => 172 | 39 => 171 | 45 => 177 | 5 => 5 | 9 => 9 | 51 => 181 | 55 => 185 | 57 => 187 | 58 => 188 | 33 => 87 | n => n, fun | n => n⟩
theorem sortedA : Go.Proofs.SlLaysZI.n6 Tryz.prog sortedA_ren where
  mixed := by kernel_rfl
  f6 := ⟨ "slices.Sorted[int]", by decide, Tryz.func83.trans (congrArg some (by kernel_rfl))⟩
  f8 := ⟨ "slices.Collect[int]", by decide, Tryz.func97.trans (congrArg some (by kernel_rfl))⟩
  f11 := ⟨ "slices.AppendSeq[[]int,int]", by decide, Tryz.func107.trans (congrArg some (by kernel_rfl))⟩
  t0 := Tryz.underlying0
  a0 := Tryz.isAgg0
  z0 := Tryz.sizeOf0
  v0 := Tryz.zeroValue0
  t24 := Tryz.underlying51
  a24 := Tryz.isAgg51
  z24 := Tryz.sizeOf51
  v24 := Tryz.zeroValue51
  t26 := Tryz.underlying3
  a26 := Tryz.isAgg3
  z26 := Tryz.sizeOf3
  v26 := Tryz.zeroValue3
  t28 := Tryz.underlying135
  a28 := Tryz.isAgg135
  z28 := Tryz.sizeOf135
  v28 := Tryz.zeroValue135
  i26 := by kernel_rfl
def sortA_ren : Go.Shelf.Ren := ⟨fun | 5 => 98 | 8 => 109 | 7 => 108 | 19 => 121 | 20 => 122 | 10 => 112 | 11 => 113 | 12 => 114 | 13 => 115 | 14 => 116 | 15 => 117 | 16 => 118 | 17 => 119 | 18 => 120 | 30 => 124 | 31 => 125 | 32 => 126 | 33 => 127 | 34 => 128 | 35 => 129 | 40 => 130 | n => n, fun | 23 => 51 | 25 => 3 | 3 => 3 | 32 => 47 | 22 => 51 | 0 => 0 | 44 => 137 | 46 => 140 | 4 => 4 | 36 => 172 | 35 => 171 | 41 => 177 | 5 => 5 | 9 => 9 | 53 => 181 | 57 => 185 | 63 => 187 | 64 => 188 | n => n, fun | n => n⟩
theorem sortA : Go.Proofs.SlLaysM.n5 Tryz.prog sortA_ren where
  mixed := by kernel_rfl
  f5 := ⟨ "slices.Sort[[]int,int]", by decide, Tryz.func98.trans (congrArg some (by kernel_rfl))⟩
  f7 := ⟨ "slices.pdqsortOrdered[int]", by decide, Tryz.func108.trans (congrArg some (by kernel_rfl))⟩
  f8 := Tryz.func109.trans (congrArg some (by kernel_rfl))
  f10 := ⟨ "slices.insertionSortOrdered[int]", by decide, Tryz.func112.trans (congrArg some (by kernel_rfl))⟩
  f11 := ⟨ "slices.heapSortOrdered[int]", by decide, Tryz.func113.trans (congrArg some (by kernel_rfl))⟩
  f12 := ⟨ "slices.breakPatternsOrdered[int]", by decide, Tryz.func114.trans (congrArg some (by kernel_rfl))⟩
  f13 := ⟨ "slices.choosePivotOrdered[int]", by decide, Tryz.func115.trans (congrArg some (by kernel_rfl))⟩
  f14 := ⟨ "slices.reverseRangeOrdered[int]", by decide, Tryz.func116.trans (congrArg some (by kernel_rfl))⟩
  f15 := ⟨ "slices.partialInsertionSortOrdered[int]", by decide, Tryz.func117.trans (congrArg some (by kernel_rfl))⟩
  f16 := ⟨ "cmp.Less[int]", by decide, Tryz.func118.trans (congrArg some (by kernel_rfl))⟩
  f17 := ⟨ "slices.partitionEqualOrdered[int]", by decide, Tryz.func119.trans (congrArg some (by kernel_rfl))⟩
  f18 := ⟨ "slices.partitionOrdered[int]", by decide, Tryz.func120.trans (congrArg some (by kernel_rfl))⟩
  f19 := Tryz.func121.trans (congrArg some (by kernel_rfl))
  f20 := Tryz.func122.trans (congrArg some (by kernel_rfl))
  f30 := ⟨ "slices.siftDownOrdered[int]", by decide, Tryz.func124.trans (congrArg some (by kernel_rfl))⟩
  f31 := Tryz.func125.trans (congrArg some (by kernel_rfl))
  f32 := Tryz.func126.trans (congrArg some (by kernel_rfl))
  f33 := ⟨ "slices.medianAdjacentOrdered[int]", by decide, Tryz.func127.trans (congrArg some (by kernel_rfl))⟩
  f34 := ⟨ "slices.medianOrdered[int]", by decide, Tryz.func128.trans (congrArg some (by kernel_rfl))⟩
  f35 := ⟨ "cmp.isNaN[int]", by decide, Tryz.func129.trans (congrArg some (by kernel_rfl))⟩
  f40 := ⟨ "slices.order2Ordered[int]", by decide, Tryz.func130.trans (congrArg some (by kernel_rfl))⟩
  t0 := Tryz.underlying0
  a0 := Tryz.isAgg0
  z0 := Tryz.sizeOf0
  v0 := Tryz.zeroValue0
  t3 := Tryz.underlying3
  a3 := Tryz.isAgg3
  z3 := Tryz.sizeOf3
  v3 := Tryz.zeroValue3
  t4 := Tryz.underlying4
  a4 := Tryz.isAgg4
  z4 := Tryz.sizeOf4
  v4 := Tryz.zeroValue4
  t5 := Tryz.underlying5
  a5 := Tryz.isAgg5
  z5 := Tryz.sizeOf5
  v5 := Tryz.zeroValue5
  t9 := Tryz.underlying9
  a9 := Tryz.isAgg9
  z9 := Tryz.sizeOf9
  v9 := Tryz.zeroValue9
  t22 := Tryz.underlying51
  a22 := Tryz.isAgg51
  z22 := Tryz.sizeOf51
  v22 := Tryz.zeroValue51
  t23 := Tryz.underlying51
  a23 := Tryz.isAgg51
  z23 := Tryz.sizeOf51
  v23 := Tryz.zeroValue51
  t25 := Tryz.underlying3
  a25 := Tryz.isAgg3
  z25 := Tryz.sizeOf3
  v25 := Tryz.zeroValue3
  t32 := Tryz.underlying47
  a32 := Tryz.isAgg47
  z32 := Tryz.sizeOf47
  v32 := Tryz.zeroValue47
  t35 := Tryz.underlying171
  a35 := Tryz.isAgg171
  z35 := Tryz.sizeOf171
  v35 := Tryz.zeroValue171
  t36 := Tryz.underlying172
  a36 := Tryz.isAgg172
  z36 := Tryz.sizeOf172
  v36 := Tryz.zeroValue172
  t41 := Tryz.underlying177
  a41 := Tryz.isAgg177
  z41 := Tryz.sizeOf177
  v41 := Tryz.zeroValue177
  t44 := Tryz.underlying137
  a44 := Tryz.isAgg137
  z44 := Tryz.sizeOf137
  v44 := Tryz.zeroValue137
  t46 := Tryz.underlying140
  a46 := Tryz.isAgg140
  z46 := Tryz.sizeOf140
  v46 := Tryz.zeroValue140
  t53 := Tryz.underlying181
  a53 := Tryz.isAgg181
  z53 := Tryz.sizeOf181
  v53 := Tryz.zeroValue181
  t57 := Tryz.underlying185
  a57 := Tryz.isAgg185
  z57 := Tryz.sizeOf185
  v57 := Tryz.zeroValue185
  t63 := Tryz.underlying187
  a63 := Tryz.isAgg187
  z63 := Tryz.sizeOf187
  v63 := Tryz.zeroValue187
  t64 := Tryz.underlying188
  a64 := Tryz.isAgg188
  z64 := Tryz.sizeOf188
  v64 := Tryz.zeroValue188
def repeatA_ren : Go.Shelf.Ren := ⟨fun | 105 => 39 | 212 => 68 | 99 => 69 | 165 => 70 | 166 => 71 | 170 => 72 | 169 => 73 | 263 => 85 | 264 => 86 | 206 => 87 | 240 => 88 | 241 => 89 | 276 => 100 | 277 => 101 | n => n, fun | 9 => 9 | 3 => 3 | 4 => 4 | 20 => 20 | 0 => 0 | 46 => 47 | 109 => 110 | 5 => 5 | 72 => 115 | 76 => 118 | 51 => 137 | 146 => 138 | 53 => 140 | 148 => 141 | 70 => 113 | 37 => 81 | 75 => 117 | 127 => 143 | 164 => 155 | 80 => 120 | n => n, fun | n => n⟩
theorem repeatA : Go.Proofs.Lays.n105 Tryz.prog repeatA_ren where
  mixed := by kernel_rfl
  f99 := Tryz.func69.trans (congrArg some (by kernel_rfl))
  f105 := Tryz.func39.trans (congrArg some (by kernel_rfl))
  f165 := Tryz.func70.trans (congrArg some (by kernel_rfl))
  f166 := Tryz.func71.trans (congrArg some (by kernel_rfl))
  f169 := Tryz.func73.trans (congrArg some (by kernel_rfl))
  f170 := Tryz.func72.trans (congrArg some (by kernel_rfl))
  f206 := Tryz.func87.trans (congrArg some (by kernel_rfl))
  f212 := Tryz.func68.trans (congrArg some (by kernel_rfl))
  f240 := Tryz.func88.trans (congrArg some (by kernel_rfl))
  f241 := Tryz.func89.trans (congrArg some (by kernel_rfl))
  f263 := Tryz.func85.trans (congrArg some (by kernel_rfl))
  f264 := Tryz.func86.trans (congrArg some (by kernel_rfl))
  f276 := Tryz.func100.trans (congrArg some (by kernel_rfl))
  f277 := Tryz.func101.trans (congrArg some (by kernel_rfl))
  t0 := Tryz.underlying0
  a0 := Tryz.isAgg0
  z0 := Tryz.sizeOf0
  v0 := Tryz.zeroValue0
  t3 := Tryz.underlying3
  a3 := Tryz.isAgg3
  z3 := Tryz.sizeOf3
  v3 := Tryz.zeroValue3
  t4 := Tryz.underlying4
  a4 := Tryz.isAgg4
  z4 := Tryz.sizeOf4
  v4 := Tryz.zeroValue4
  t5 := Tryz.underlying5
  a5 := Tryz.isAgg5
  z5 := Tryz.sizeOf5
  v5 := Tryz.zeroValue5
  t9 := Tryz.underlying9
  a9 := Tryz.isAgg9
  z9 := Tryz.sizeOf9
  v9 := Tryz.zeroValue9
  t20 := Tryz.underlying20
  a20 := Tryz.isAgg20
  z20 := Tryz.sizeOf20
  v20 := Tryz.zeroValue20
  t37 := Tryz.underlying81
  a37 := Tryz.isAgg81
  z37 := Tryz.sizeOf81
  v37 := Tryz.zeroValue81
  t46 := Tryz.underlying47
  a46 := Tryz.isAgg47
  z46 := Tryz.sizeOf47
  v46 := Tryz.zeroValue47
  t51 := Tryz.underlying137
  a51 := Tryz.isAgg137
  z51 := Tryz.sizeOf137
  v51 := Tryz.zeroValue137
  t53 := Tryz.underlying140
  a53 := Tryz.isAgg140
  z53 := Tryz.sizeOf140
  v53 := Tryz.zeroValue140
  t70 := Tryz.underlying113
  a70 := Tryz.isAgg113
  z70 := Tryz.sizeOf113
  v70 := Tryz.zeroValue113
  t72 := Tryz.underlying115
  a72 := Tryz.isAgg115
  z72 := Tryz.sizeOf115
  v72 := Tryz.zeroValue115
  t75 := Tryz.underlying117
  a75 := Tryz.isAgg117
  z75 := Tryz.sizeOf117
  v75 := Tryz.zeroValue117
  t76 := Tryz.underlying118
  a76 := Tryz.isAgg118
  z76 := Tryz.sizeOf118
  v76 := Tryz.zeroValue118
  t109 := Tryz.underlying110
  a109 := Tryz.isAgg110
  z109 := Tryz.sizeOf110
  v109 := Tryz.zeroValue110
  t127 := Tryz.underlying143
  a127 := Tryz.isAgg143
  z127 := Tryz.sizeOf143
  v127 := Tryz.zeroValue143
  t146 := Tryz.underlying138
  a146 := Tryz.isAgg138
  z146 := Tryz.sizeOf138
  v146 := Tryz.zeroValue138
  t148 := Tryz.underlying141
  a148 := Tryz.isAgg141
  z148 := Tryz.sizeOf141
  v148 := Tryz.zeroValue141
  t164 := Tryz.underlying155
  a164 := Tryz.isAgg155
  z164 := Tryz.sizeOf155
  v164 := Tryz.zeroValue155
end Go.Proofs.YtjofjgflcogklaaGreatDoor

namespace Go.Abs
open Go.Shelf Go.Proofs Go.Maps Go.RowKit
variable {P : Program} {ρ : Ren}
theorem below_ext {w w' : World} {G : Ghost} {h : Heap} (H : HRel w G h) (hB : Below w.heap.size w w') :
    ∃ G', Ext w G h w' G' h ∧ HRel w' G' h ∧ ∀ b, w.heap.size ≤ b → G'.lim b = none := by
  have hX : Ext w G h w' { G with lim := fun b => if b < w.heap.size then G.lim b else none } h :=
    { os := hB.os, tape := hB.tape, out := hB.output, size := hB.size
      keep := fun b hb _ => ⟨hB.block b hb, by simp [hb]⟩
      stable := fun b k hb hs => ⟨by simp [World.cell?, hB.block b hb], by unfold stab; simp [hb]; exact hs⟩
      shape := fun b hb => by simp [World.shape?, hB.block b hb]
      n_le := Nat.le_refl _
      ids := fun id hid => ⟨rfl, rfl⟩
      fresh := fun b hb ho => ho
      env := rfl }
  refine ⟨_, hX, ⟨H.n_eq, fun id o ho => Nat.lt_of_lt_of_le (H.lt id o ho) hB.size, fun id o ho => ?_, H.inj, fun g cs hg => ⟨(H.glob g cs hg).1.mono hX, (H.glob g cs hg).2⟩⟩, fun b hb => by simp [Nat.not_lt.2 hb]⟩
  have hlt := H.lt id o ho
  exact OkObj.mono hX (by rw [H.n_eq]; exact Heap.get_lt ho) hlt (hB.block _ hlt) (by simp [hlt]) (H.obj id o ho)
def keyZ : AVal → Option Int
  | .int .i64 n => if -9223372036854775808 ≤ n ∧ n ≤ 9223372036854775807 then some n else none
  | _ => none
def keysZ : List (Nat × AVal × AVal) → Option (List Int)
  | [] => some []
  | x :: es => match keyZ x.2.1, keysZ es with
    | some n, some ns => some (n :: ns)
    | _, _ => none
def zsl (ns : List Int) : AVal := .sl (ns.map (.int .i64)) (if ns = [] then .nil else .none)
def insZ (x : Int) : List Int → List Int
  | [] => [x]
  | y :: l => if x ≤ y then x :: y :: l else y :: insZ x l
def sortZ : List Int → List Int
  | [] => []
  | x :: l => insZ x (sortZ l)
theorem insZ_perm (x : Int) : ∀ l, (insZ x l).Perm (x :: l)
  | [] => .refl _
  | y :: l => by
    simp only [insZ]
    split
    · exact .refl _
    · exact ((insZ_perm x l).cons y).trans (.swap x y l)
theorem sortZ_perm : ∀ l, (sortZ l).Perm l
  | [] => .refl _
  | x :: l => (insZ_perm x _).trans ((sortZ_perm l).cons x)
theorem insZ_le {x : Int} : ∀ {l : List Int}, l.Pairwise (· ≤ ·) → (insZ x l).Pairwise (· ≤ ·)
  | [], _ => by simp [insZ]
  | y :: l, h => by
    obtain ⟨h1, h2⟩ := List.pairwise_cons.1 h
    simp only [insZ]
    split
    · rename_i hxy
      refine List.pairwise_cons.2 ⟨fun z hz => ?_, h⟩
      rcases List.mem_cons.1 hz with rfl | hz
      · exact hxy
      · exact Int.le_trans hxy (h1 z hz)
    · rename_i hxy
      refine List.pairwise_cons.2 ⟨fun z hz => ?_, insZ_le h2⟩
      rcases List.mem_cons.1 ((insZ_perm x l).mem_iff.1 hz) with rfl | hz
      · omega
      · exact h1 z hz
theorem sortZ_le : ∀ (l : List Int), (sortZ l).Pairwise (· ≤ ·)
  | [] => by simp [sortZ]
  | x :: l => insZ_le (sortZ_le l)
theorem rising_perm {l l' : List Int} (h : l.Perm l') (h1 : l.Pairwise (· ≤ ·)) (h2 : l'.Pairwise (· ≤ ·)) : l = l' :=
  List.Perm.eq_of_pairwise (le := (· ≤ ·)) (fun a b _ _ p q => Int.le_antisymm p q) h1 h2 h
theorem sortZ_eq (ns : List Int) : ns.mergeSort (fun x y => decide (x ≤ y)) = sortZ ns := by
  refine rising_perm ((List.mergeSort_perm ns _).trans (sortZ_perm ns).symm) ?_ (sortZ_le ns)
  have := List.pairwise_mergeSort (le := fun x y : Int => decide (x ≤ y)) (fun a b c h1 h2 => by simp only [decide_eq_true_eq] at *; omega) (fun a b => by simp; omega) ns
  exact this.imp (fun h => by simpa using h)
def sortedS (g1 g2 : Nat) (args : List AVal) (h : Heap) : Option (AVal × Heap) :=
  match args with
  | [.fn g [.ptr rid 0]] =>
    if g = g1 ∨ g = g2 then
      match h.get rid with
      | some (.row _ _ _ [.nilmp]) => some (zsl [], h)
      | some (.row _ _ _ [.mp id]) => match h.get id with
        | some (.map _ _ es) => if es.length ≤ 17592186044416 then (keysZ es).map fun ns => (zsl (sortZ ns), h) else none
        | _ => none
      | _ => none
    else none
  | _ => none
theorem keyZ_ok {x : AVal} {n : Int} (e : keyZ x = some n) : x = .int .i64 n ∧ (Lit.int .i64 n).wf = true := by
  unfold keyZ at e
  split at e
  · split at e
    · rename_i n' hn
      obtain rfl := Option.some.inj e
      refine ⟨rfl, ?_⟩
      simp only [Lit.wf, Bool.and_eq_true, decide_eq_true_eq]
      exact hn
    · simp at e
  · simp at e
theorem keysZ_ok {w : World} {G : Ghost} : ∀ {L : List MapEntry} {es : List (Nat × AVal × AVal)} {ns : List Int}, L.length = es.length →
    (∀ (k : Nat) e x, L[k]? = some e → es[k]? = some x → VRel w G e.key x.2.1) → keysZ es = some ns →
    L.map (·.key) = ns.map encZ ∧ (∀ n ∈ ns, (Lit.int .i64 n).wf = true) ∧ ns.length = es.length
  | [], [], ns, _, _, e => by simp [keysZ] at e; subst e; simp
  | [], _ :: _, ns, h, _, _ => by simp at h
  | _ :: _, [], ns, h, _, _ => by simp at h
  | e :: L, x :: es, ns, hl, hr, h => by
    simp only [keysZ] at h
    split at h
    · rename_i n ns' h1 h2
      simp only [Option.some.injEq] at h
      subst h
      obtain ⟨q1, q2⟩ := keyZ_ok h1
      have hr0 := hr 0 e x rfl rfl
      rw [q1] at hr0
      obtain ⟨r1, r2, r3⟩ := keysZ_ok (by simpa using hl) (fun k e' x' h1 h2 => hr (k + 1) e' x' (by simpa using h1) (by simpa using h2)) h2
      have hk : e.key = encZ n := by generalize e.key = u at hr0; cases hr0; rfl
      refine ⟨by simp [hk, r1], fun m hm => ?_, by simp [r3]⟩
      rcases List.mem_cons.1 hm with rfl | hm
      · exact q2
      · exact r2 m hm
    · simp at h
def Rc : Value → Option (DataW Unit × List MemPlace) := fun _ => some (.nil, [])
theorem rg_Rc {k : TypeId} (hk : P.underlying k = some (.int .i64)) {e : MapEntry} {n : Int} (hn : e.key = encZ n) (hw : (Lit.int .i64 n).wf = true) :
    WideElems.rd P k Rc e = some (.int .i64 n, .nil) := by
  obtain ⟨key, val, born⟩ := e
  simp only at hn
  subst hn
  exact WideElems.rd_mk (R := Rc) (yv := (.nil, [])) (keyOf_int_mk hk hw) rfl
theorem owns_keys {w : World} {k : TypeId} (hk : P.underlying k = some (.int .i64)) {b : Nat} {entries : Array MapEntry} {clock : Nat} {ns : List Int} (hb : w.heap[b]? = some (.map entries clock))
    (hst : MapKept.Stamped entries clock) (hkeys : entries.toList.map (·.key) = ns.map encZ) (hw : ∀ n ∈ ns, (Lit.int .i64 n).wf = true) (hlen : ns.length ≤ maxLen) :
    ∃ D0 : DataW Unit, w.ownsMap P k Rc b ns.length D0 ∧ (intKeys D0).Perm ns ∧ Maps.size D0 = ns.length := by
  have hsz : entries.size = ns.length := by simpa using congrArg List.length hkeys
  have hmem : ∀ e ∈ entries.toList, ∃ n ∈ ns, e.key = encZ n := fun e he => by
    have : e.key ∈ ns.map encZ := hkeys ▸ List.mem_map.2 ⟨e, he, rfl⟩
    obtain ⟨n, hn, hq⟩ := List.mem_map.1 this
    exact ⟨n, hn, hq.symm⟩
  refine ⟨_, ⟨entries, clock, hb, ⟨by omega, hst, fun e he => ?_⟩, by omega, rfl⟩, ?_, ?_⟩
  · obtain ⟨n, hn, hq⟩ := hmem e he
    exact ⟨_, rg_Rc hk hq (hw n hn)⟩
  · show ((List.foldr DataW.insert [] (entries.toList.map (WideElems.rg P k Rc))).map fun p => intOf p.1).Perm ns
    refine ((WideShapes.sorted_perm _).map _).trans ?_
    refine List.Perm.of_eq ?_
    rw [List.map_map]
    have : ns = (ns.map encZ).map (fun v => match v with | .int _ n => n | _ => 0) := by simp [encZ, List.map_map, Function.comp_def]
    rw [this, ← hkeys, List.map_map]
    refine List.map_congr_left fun e he => ?_
    obtain ⟨n, hn, hq⟩ := hmem e he
    simp [WideElems.rg, rg_Rc hk hq (hw n hn), hq, intOf]
  · simp [Maps.size, length_sorted, hsz]
theorem sorted_walk {ρA ρS : Ren} (LA : SlLaysZI.n7 P ρA) (LS : SlLaysZI.n6 P ρS) (hsort : ∀ m, AnyZI.SortsIn P ρS Fence.wide m) (hk : ρA.t 26 = ρS.t 26) (hu : P.underlying (ρS.t 26) = some (.int .i64))
    (e9 : ∀ args w, (callFunc (ρS.f 9) args).run P w = .ok (.enter (ρS.f 9) args) w) (eg : ∀ args w, (callFunc (ρA.f 10) args).run P w = .ok (.enter (ρA.f 10) args) w)
    {w : World} {b m clock : Nat} {entries : Array MapEntry} {ns : List Int} (hB : b < w.heap.size) (hc : w.cell? ⟨b, 0, none⟩ = some (.map (some m))) (hb : w.heap[m]? = some (.map entries clock))
    (hst : MapKept.Stamped entries clock) (hkeys : entries.toList.map (·.key) = ns.map encZ) (hw : ∀ n ∈ ns, (Lit.int .i64 n).wf = true) (hlen : ns.length ≤ 17592186044416) :
    Calls P (ρS.f 6) #[.func (.func (ρA.f 10)) #[] #[.pointer (some ⟨b, 0, none⟩)]] w fun e w' => ∃ (v : Value), e = .returned v ∧
      w'.ownsRow w.heap.size (ρS.t 26) 1 v ns.length ((ns.mergeSort (fun x y => decide (x ≤ y))).map encZ) ∧ (v = .slice none 0 0 ↔ ns = []) ∧ Below w.heap.size w w' := by
  obtain ⟨D0, d1, d2, d3⟩ := owns_keys hu hb hst hkeys hw (Nat.le_trans hlen (by decide))
  rw [← hk] at d1
  have hseq : SeqGives Fence.wide 2 P (ρA.f 10) #[.pointer (some ⟨b, 0, none⟩)] encZ (fun ss => ss.Perm (intKeys D0)) (Maps.size D0) w :=
    AnyZI.keys_gives (ρ := ρA) { LA with } Fence.wide _ trivial rfl (by omega) b m _ D0 _ hB hc d1
  have cS := AnyZI.sorted_in LS Fence.wide 5 trivial trivial trivial trivial rfl (by omega) (hsort _) e9 (ρA.f 10) #[.pointer (some ⟨b, 0, none⟩)] trivial eg _ _ (by rw [d3]; exact Nat.le_trans hlen (by decide)) (by rw [d3]; omega) _ hseq
  refine ((callsIn_wide (n := 5)).1 cS).mono ?_
  rintro e w' ⟨v, ss, rfl, hS, hrow, hnil, hb⟩
  have hp : ss.Perm ns := hS.trans d2
  have hsz : ss.length = ns.length := hp.length_eq
  have hsame : ss.mergeSort (fun x y => decide (x ≤ y)) = ns.mergeSort (fun x y => decide (x ≤ y)) := mergeSort_of_perm_i hp
  rw [hsame, hsz] at hrow
  refine ⟨v, rfl, hrow, hnil.trans ⟨fun q => ?_, fun q => ?_⟩, hb⟩
  · subst q; exact hp.nil_eq.symm ▸ rfl
  · subst q; exact hp.eq_nil
theorem sorted_nil_walk {ρA ρS : Ren} (LA : SlLaysZI.n7 P ρA) (LS : SlLaysZI.n6 P ρS) (hsort : ∀ m, AnyZI.SortsIn P ρS Fence.wide m)
    (e9 : ∀ args w, (callFunc (ρS.f 9) args).run P w = .ok (.enter (ρS.f 9) args) w) (eg : ∀ args w, (callFunc (ρA.f 10) args).run P w = .ok (.enter (ρA.f 10) args) w)
    {w : World} {b : Nat} (hB : b < w.heap.size) (hc : w.cell? ⟨b, 0, none⟩ = some (.map none)) :
    Calls P (ρS.f 6) #[.func (.func (ρA.f 10)) #[] #[.pointer (some ⟨b, 0, none⟩)]] w fun e w' => e = .returned (.slice none 0 0) ∧ Below w.heap.size w w' := by
  have hseq : SeqGives Fence.wide 2 P (ρA.f 10) #[.pointer (some ⟨b, 0, none⟩)] encZ (fun ss : List Int => ss = []) 0 w :=
    AnyZI.keys_gives_nil (ρ := ρA) { LA with } Fence.wide _ trivial rfl b _ hB hc
  have cS := AnyZI.sorted_in LS Fence.wide 5 trivial trivial trivial trivial rfl (by omega) (hsort _) e9 (ρA.f 10) #[.pointer (some ⟨b, 0, none⟩)] trivial eg _ 0 (Nat.zero_le _) (by omega) _ hseq
  refine ((callsIn_wide (n := 5)).1 cS).mono ?_
  rintro e w' ⟨v, ss, rfl, rfl, hrow, hnil, hb⟩
  obtain rfl : v = .slice none 0 0 := hnil.2 rfl
  exact ⟨rfl, hb⟩
theorem flat_zs (ns : List Int) : flat (ns.map (AVal.int .i64)) = ns.map (AVal.int .i64) := by
  induction ns with
  | nil => rfl
  | cons n ns ih => simp only [List.map_cons, flat, List.flatMap_cons] at ih ⊢; rw [ih]; rfl
theorem sorted_ok {ρA ρB ρS : Ren} (LA : SlLaysZI.n7 P ρA) (LB : SlLaysZI.n7 P ρB) (LS : SlLaysZI.n6 P ρS) (hsort : ∀ m, AnyZI.SortsIn P ρS Fence.wide m) (hkA : ρA.t 26 = ρS.t 26) (hkB : ρB.t 26 = ρS.t 26) (hu : P.underlying (ρS.t 26) = some (.int .i64))
    (e6 : ∀ args w, (callFunc (ρS.f 6) args).run P w = .ok (.enter (ρS.f 6) args) w)
    (e9 : ∀ args w, (callFunc (ρS.f 9) args).run P w = .ok (.enter (ρS.f 9) args) w) (eA : ∀ args w, (callFunc (ρA.f 10) args).run P w = .ok (.enter (ρA.f 10) args) w) (eB : ∀ args w, (callFunc (ρB.f 10) args).run P w = .ok (.enter (ρB.f 10) args) w) :
    HandOk P (ρS.f 6) (sortedS (ρA.f 10) (ρB.f 10)) := by
  refine ⟨fun args h r h' e w G cargs H hp => ?_, e6⟩
  have hlen := hp.len
  unfold sortedS at e
  split at e
  · rename_i g rid
    obtain ⟨v0, hv0⟩ : ∃ v, cargs = #[v] := by
      obtain ⟨l⟩ := cargs
      match l, hlen with
      | [v], _ => exact ⟨v, rfl⟩
    subst hv0
    have rv := hp.rel 0 v0 (.fn g [.ptr rid 0]) (by simp) (by simp)
    cases rv with
    | fn _ cs _ hl hrel =>
      obtain ⟨v1, hv1⟩ : ∃ v, cs = #[v] := by
        obtain ⟨l⟩ := cs
        match l, hl with
        | [v], _ => exact ⟨v, rfl⟩
      subst hv1
      have r1 := hrel 0 v1 (.ptr rid 0) (by simp) (by simp)
      cases r1
      split at e
      · rename_i hg12
        split at e
        · -- the nil map
          rename_i mu sz ag hg
          simp only [Option.some.injEq, Prod.mk.injEq] at e
          obtain ⟨rfl, rfl⟩ := e
          obtain ⟨o1, o2, o3, o4, o5⟩ := H.obj rid _ hg
          obtain ⟨u, hu', ru⟩ := o2 0 .nilmp (by simp)
          cases ru
          have hlt := H.lt rid _ hg
          have cC : Calls P (ρS.f 6) #[.func (.func g) #[] #[.pointer (some ⟨G.loc rid, 0, none⟩)]] w fun e w' => e = .returned (.slice none 0 0) ∧ Below w.heap.size w w' := by
            rcases hg12 with rfl | rfl
            · exact sorted_nil_walk LA LS hsort e9 eA hlt hu'
            · exact sorted_nil_walk LB LS hsort e9 eB hlt hu'
          refine cC.mono ?_
          rintro e w' ⟨rfl, hb⟩
          obtain ⟨G', x1, x2, x3⟩ := below_ext H hb
          exact ⟨_, G', rfl, x1, x2, .nilsl _ (.inl rfl)⟩
        · rename_i mu sz ag id hg
          split at e
          · rename_i kd clock es hm
            split at e
            · rename_i hes
              simp only [Option.map_eq_some_iff, Prod.mk.injEq] at e
              obtain ⟨ns, hns, rfl, rfl⟩ := e
              obtain ⟨o1, o2, o3, o4, o5⟩ := H.obj rid _ hg
              obtain ⟨u, hu', ru⟩ := o2 0 (.mp id) (by simp)
              cases ru
              have hlt := H.lt rid _ hg
              obtain ⟨entries, h1, h2, h3, h4, h5⟩ := obj_map H hm
              obtain ⟨k1, k2, k3⟩ := keysZ_ok (w := w) (G := G) (L := entries.toList) (by simpa using h2) (fun k e x q1 q2 => (h3 k e x (by simpa using q1) q2).2.1) hns
              have cC : Calls P (ρS.f 6) #[.func (.func g) #[] #[.pointer (some ⟨G.loc rid, 0, none⟩)]] w fun e w' => ∃ (v : Value), e = .returned v ∧
                  w'.ownsRow w.heap.size (ρS.t 26) 1 v ns.length ((ns.mergeSort (fun x y => decide (x ≤ y))).map encZ) ∧ (v = .slice none 0 0 ↔ ns = []) ∧ Below w.heap.size w w' := by
                rcases hg12 with rfl | rfl
                · exact sorted_walk LA LS hsort hkA hu e9 eA hlt hu' h1 h5 k1 k2 (by omega)
                · exact sorted_walk LB LS hsort hkB hu e9 eB hlt hu' h1 h5 k1 k2 (by omega)
              refine cC.mono ?_
              rintro e w' ⟨v, rfl, hrow, hnil, hb⟩
              obtain ⟨G', x1, x2, x3⟩ := below_ext H hb
              refine ⟨_, G', rfl, x1, x2, ?_⟩
              rw [sortZ_eq] at hrow
              have hsl : (sortZ ns).length = ns.length := (sortZ_perm ns).length_eq
              by_cases hne : ns = []
              · subst hne
                have hs0 : sortZ [] = [] := rfl
                rw [hnil.2 rfl, hs0]
                exact .nilsl _ (.inl rfl)
              · rcases hrow.2 with ⟨rfl, hz⟩ | ⟨gb, cap, cur, rfl, hbase, hgb, q1, q2, q3, q4⟩
                · exact absurd (List.eq_nil_of_length_eq_zero hz) hne
                · have hne' : sortZ ns ≠ [] := by
                    intro q; rw [q] at hsl; exact hne (List.eq_nil_of_length_eq_zero hsl.symm)
                  unfold zsl
                  rw [if_neg hne']
                  have hln : ((sortZ ns).map (AVal.int .i64)).length = ns.length := by simp [hsl]
                  rw [← hln]
                  refine .sl gb 0 cap 1 _ _ (fun k => encZ ((sortZ ns).getD k 0)) ?_ ?_ ?_ ?_ ?_ ?_ ?_ ?_ ?_
                  · intro x hx; obtain ⟨n, _, rfl⟩ := List.mem_map.1 hx; rfl
                  · intro k c hk
                    rw [flat_zs, List.getElem?_map, Option.map_eq_some_iff] at hk
                    obtain ⟨n, hn, rfl⟩ := hk
                    have hkl : k < ns.length := by rw [← hsl]; exact (List.getElem?_eq_some_iff.1 hn).1
                    have hcur : cur.toList[k]? = some (encZ n) := by
                      have : (cur.toList.take (ns.length * 1))[k]? = ((sortZ ns).map encZ)[k]? := by rw [q4]
                      rw [List.getElem?_take_of_lt (by omega), List.getElem?_map, hn] at this
                      exact this
                    simp only [World.cell?, hgb, Nat.zero_add, List.getD_eq_getElem?_getD, hn]
                    rw [← Array.getElem?_toList, hcur]
                    rfl
                  · intro k c hk
                    rw [flat_zs, List.getElem?_map, Option.map_eq_some_iff] at hk
                    obtain ⟨n, hn, rfl⟩ := hk
                    have hn' : (sortZ ns).getD k 0 = n := by simp [List.getD_eq_getElem?_getD, hn]
                    show VRel w' G' (encZ ((sortZ ns).getD k 0)) _
                    rw [hn']
                    exact .int _ _
                  · intro k _ m hm'
                    rw [x3 gb hbase] at hm'
                    simp at hm'
                  · intro c hc
                    rw [flat_zs] at hc
                    obtain ⟨n, _, rfl⟩ := List.mem_map.1 hc; rfl
                  · intro c hc
                    rw [flat_zs] at hc
                    obtain ⟨n, _, rfl⟩ := List.mem_map.1 hc; rfl
                  · rw [hln]; exact q1
                  · exact ⟨by simp, by simp⟩
                  · intro id s q; simp at q
            · simp at e
          · simp at e
        · simp at e
      · simp at e
  · simp at e
end Go.Abs

namespace Go.Abs
open Go.Shelf Go.Proofs Go.Maps Go.RowKit
variable {P : Program} {ρ : Ren}
def repeatS (args : List AVal) (h : Heap) : Option (AVal × Heap) :=
  match args with
  | [.str s, .int .i64 n] => if 0 ≤ n ∧ n ≤ 1000000 ∧ s.length ≤ 1000000 then some (.str (Lib.repeatL s n.toNat), h) else none
  | _ => none
theorem repeat_ok (L : Lays.n105 P ρ) (X : Builder.Extra P ρ) (e105 : ∀ args w, (callFunc (ρ.f 105) args).run P w = .ok (.enter (ρ.f 105) args) w) : HandOk P (ρ.f 105) repeatS := by
  refine ⟨fun args h r h' e w G cargs H hp => ?_, e105⟩
  have hlen := hp.len
  unfold repeatS at e
  split at e
  · rename_i s n
    split at e
    · rename_i hn
      simp only [Option.some.injEq, Prod.mk.injEq] at e
      obtain ⟨rfl, rfl⟩ := e
      obtain ⟨l⟩ := cargs
      match l, hlen with
      | [v0, v1], _ =>
        have r0 := hp.rel 0 v0 (.str s) (by simp) (by simp)
        have r1 := hp.rel 1 v1 (.int .i64 n) (by simp) (by simp)
        cases r0 with
        | str bs =>
        cases r1
        obtain ⟨h0, h1, h2⟩ := hn
        obtain ⟨c, rfl⟩ : ∃ c : Nat, n = (c : Int) := ⟨n.toNat, by omega⟩
        have hsz : bs.size = bs.data.toList.length := rfl
        have hm : bs.data.toList.length * c ≤ 1000000 * 1000000 := Nat.mul_le_mul h2 (by omega)
        refine (Any.strings_Repeat L X bs c w (by omega) (by rw [hsz]; omega)).mono ?_
        rintro e w' ⟨rfl, hB⟩
        obtain ⟨G', q1, q2, q3⟩ := below_ext H hB
        exact ⟨_, G', rfl, q1, q2, .str _⟩
    · simp at e
  · simp at e
end Go.Abs

namespace Go.Abs
variable {F : Nat → Option AEnt} {ev : Opd → AVal} {h : Heap} {K : AVal → Heap → Prop}
theorem wrap_in64 {x : Int} (h1 : -9223372036854775808 ≤ x) (h2 : x < 9223372036854775808) : IntKind.i64.wrap x = x := IntWalk.i64_in x ⟨h1, by omega⟩
theorem stripL_append : ∀ {a b a' b' : List AVal}, stripL a = some a' → stripL b = some b' → stripL (a ++ b) = some (a' ++ b')
  | [], b, a', b', h1, h2 => by simp [stripL] at h1; subst h1; simpa using h2
  | x :: a, b, a', b', h1, h2 => by
    simp only [stripL] at h1
    split at h1
    · rename_i y ys e1 e2
      simp at h1; subst h1
      simp only [List.cons_append, stripL, e1, stripL_append e2 h2]
    · simp at h1
def Pt (t : Tok) : Prop := t = .none ∨ t = .nil
theorem strip_pt {t : Tok} (ht : Pt t) {xs : List AVal} : strip (.sl xs t) = some (.sl xs t) := by
  rcases ht with rfl | rfl <;> rfl
theorem purify_pt {t : Tok} (ht : Pt t) {xs : List AVal} {h : Heap} : purify h (.sl xs t) = some (.sl xs t) := by
  rcases ht with rfl | rfl <;> rfl
theorem roomOk_of {n bytes : Nat} (h1 : n ≤ 1000000) (h2 : bytes ≤ 10000) : roomOk n bytes = true := by
  simp only [roomOk, Bool.and_eq_true, decide_eq_true_eq]
  refine ⟨by omega, ?_⟩
  calc (4 * n + 1024) * bytes ≤ (4 * 1000000 + 1024) * 10000 := Nat.mul_le_mul (by omega) h2
    _ ≤ 281474976710656 := by decide
theorem get_push (h : Heap) (o : Obj) : (h.push o).get h.next = some o := by simp [Heap.get, Heap.push]
theorem get_push_old {h : Heap} {o o' : Obj} {j : Nat} (hj : h.get j = some o') : (h.push o).get j = some o' := by
  have hlt : j < h.next := by
    unfold Heap.get at hj; split at hj
    · assumption
    · simp at hj
  have e1 : h.next + 1 - 1 - j = (h.next - 1 - j) + 1 := by omega
  simp only [Heap.get, Heap.push, e1, List.getElem?_cons_succ] at hj ⊢
  rw [if_pos hlt] at hj
  rw [if_pos (by omega)]; exact hj
theorem get_lt {h : Heap} {j : Nat} {o : Obj} (hj : h.get j = some o) : j < h.next := by
  unfold Heap.get at hj; split at hj
  · assumption
  · simp at hj
theorem put_push (h : Heap) (o o' : Obj) : (h.push o).put h.next (some o') = h.push o' := by
  simp [Heap.put, Heap.push]
theorem put_push_old {h : Heap} {o : Obj} {j : Nat} (o' : Option Obj) (hj : j < h.next) : (h.push o).put j o' = (h.put j o').push o := by
  have e1 : h.next + 1 - 1 - j = (h.next - 1 - j) + 1 := by omega
  simp only [Heap.put, Heap.push, hj, if_true, e1, List.set_cons_succ]
  rw [if_pos (by omega)]
end Go.Abs

namespace Go.Abs
variable {F : Nat → Option AEnt} {ev : Opd → AVal} {h : Heap} {K : AVal → Heap → Prop}
theorem ev_v (vs ts : List AVal) (i : Nat) : evOpd vs ts (.v i) = (vs[i]?).getD .bad := _root_.id rfl
theorem ev_t (vs ts : List AVal) (i : Nat) : evOpd vs ts (.t i) = (ts[i]?).getD .bad := _root_.id rfl
theorem ev_c (vs ts : List AVal) (x : AVal) : evOpd vs ts (.c x) = x := _root_.id rfl
theorem putV_tmp (vs : List AVal) (r : AVal) : putV .tmp vs r = vs := _root_.id rfl
theorem putV_no (vs : List AVal) (r : AVal) : putV .no vs r = vs := _root_.id rfl
theorem putV_var (vs : List AVal) (r : AVal) (i : Nat) : putV (.var i) vs r = vs.set i r := _root_.id rfl
theorem putT_tmp (r : AVal) : putT .tmp r = r := _root_.id rfl
theorem putT_no (r : AVal) : putT .no r = .bad := _root_.id rfl
theorem putT_var (r : AVal) (i : Nat) : putT (.var i) r = .bad := _root_.id rfl
def wantV : AVal → Bool → Option Bool
  | .bool c, b => some (c == b)
  | .tup [], _ => some false
  | _, _ => none
theorem want_V (vs ts : List AVal) (x : Opd) (b : Bool) : wantA (evOpd vs ts) (some (x, b)) = wantV (evOpd vs ts x) b := by
  simp only [wantA, wantV]
  cases evOpd vs ts x <;> first | rfl | skip
  rename_i l; cases l <;> rfl
theorem XW_val {op : AOp} (hop : ∀ cf, execA cf op ev h = evalA op ev h) {f : Option AVal} (e : evalA op ev h = f.map (·, h)) : XW F op ev h K ↔ bindK f K h := by
  rw [XW_eval hop, e]
  simp only [Option.map_eq_some_iff, Prod.mk.injEq]
  constructor
  · rintro ⟨r, h', ⟨a, h1, rfl, rfl⟩, h2⟩; exact ⟨a, h1, h2⟩
  · rintro ⟨r, h1, h2⟩; exact ⟨r, h, ⟨r, h1, rfl, rfl⟩, h2⟩
theorem XW_heap {op : AOp} (hop : ∀ cf, execA cf op ev h = evalA op ev h) {p : Prop} [Decidable p] {v : AVal} {h1 : Heap} (e : evalA op ev h = if p then some (v, h1) else none) : XW F op ev h K ↔ p ∧ K v h1 := by
  rw [XW_eval hop, e]
  constructor
  · rintro ⟨r, h', he, q⟩
    split at he
    · rename_i hp
      simp only [Option.some.injEq, Prod.mk.injEq] at he
      obtain ⟨rfl, rfl⟩ := he
      exact ⟨hp, q⟩
    · simp at he
  · rintro ⟨hp, q⟩
    exact ⟨v, h1, if_pos hp, q⟩
theorem XW_mov {x : Opd} : XW F (.mov x) ev h K ↔ bindK (some (ev x)) K h := XW_val (fun _ => rfl) rfl
theorem XW_bin {op : BinOp} {bk : BK} {x y : Opd} : XW F (.bin op bk x y) ev h K ↔ bindK (binA op bk (ev x) (ev y)) K h := by
  exact XW_val (fun _ => rfl) rfl
theorem XW_un {op : UnOp} {x : Opd} : XW F (.un op x) ev h K ↔ bindK (unA op (ev x)) K h := by
  exact XW_val (fun _ => rfl) rfl
theorem XW_load {n : Nat} {ag : Bool} {x : Opd} : XW F (.load n ag x) ev h K ↔ bindK (loadA n ag (ev x) h) K h := by
  exact XW_val (fun _ => rfl) rfl
theorem XW_store {n : Nat} {a x : Opd} : XW F (.store n a x) ev h K ↔ bindH ((storeA n (ev a) (ev x) h).map fun h' => (.tup [], h')) K := by
  rw [XW_eval (fun _ => rfl)]
  rfl
def valA (op : AOp) (a b : AVal) (h : Heap) : Option AVal :=
  match op with
  | .len _ => (match a with
    | .sl xs _ => some (.int .i64 xs.length)
    | .ref _ _ n _ => some (.int .i64 n)
    | _ => none)
  | .slen _ => (match a with
    | .str s => some (.int .i64 s.length)
    | _ => none)
  | .faddr off _ => (match a with
    | .ptr i o => some (.ptr i (o + off))
    | .rp cs => some (.rp (cs.drop off))
    | _ => none)
  | .nilc _ => (match a with
    | .ptr i o => some (.ptr i o)
    | .rp cs => some (.rp cs)
    | .fn f c => some (.fn f c)
    | _ => none)
  | .iaddr sz _ _ => (match a, b with
    | .sl xs _, .int _ n => if 0 ≤ n ∧ n < xs.length then (match xs[n.toNat]? with
      | some y => if y.cells.length = sz then some (.rp y.cells) else none
      | none => none) else none
    | .ref id off len s, .int _ n => if 0 ≤ n ∧ n < len ∧ s = sz then some (.ptr id (off + n.toNat * sz)) else none
    | _, _ => none)
  | .ext _ i => (match a with
    | .tup vs => vs[i]?
    | _ => none)
  | _ => none
theorem XW_len {x : Opd} : XW F (.len x) ev h K ↔ bindK (valA (.len x) (ev x) .bad h) K h := by
  refine XW_val (fun _ => rfl) ?_
  simp only [evalA, valA]
  cases ev x <;> rfl
theorem XW_slen {x : Opd} : XW F (.slen x) ev h K ↔ bindK (valA (.slen x) (ev x) .bad h) K h := by
  refine XW_val (fun _ => rfl) ?_
  simp only [evalA, valA]
  cases ev x <;> rfl
theorem XW_faddr {x : Opd} {off : Nat} : XW F (.faddr off x) ev h K ↔ bindK (valA (.faddr off x) (ev x) .bad h) K h := by
  refine XW_val (fun _ => rfl) ?_
  simp only [evalA, valA]
  cases ev x <;> rfl
theorem XW_nilc {x : Opd} : XW F (.nilc x) ev h K ↔ bindK (valA (.nilc x) (ev x) .bad h) K h := by
  refine XW_val (fun _ => rfl) ?_
  simp only [evalA, valA]
  cases ev x <;> rfl
theorem XW_ext {x : Opd} {i : Nat} : XW F (.ext x i) ev h K ↔ bindK (valA (.ext x i) (ev x) .bad h) K h := by
  refine XW_val (fun _ => rfl) ?_
  simp only [evalA, valA]
  cases ev x <;> rfl
theorem XW_pick {c a b : Opd} : XW F (.pick c a b) ev h K ↔ condB (ev c) (fun t => K (if t then ev a else ev b) h) := by
  rw [XW_eval (fun _ => rfl)]; simp only [evalA]
  constructor
  · rintro ⟨r, h', e, q⟩
    split at e
    · rename_i t ht
      simp only [Option.some.injEq, Prod.mk.injEq] at e
      obtain ⟨rfl, rfl⟩ := e
      exact ⟨t, ht, q⟩
    · simp at e
  · rintro ⟨t, ht, q⟩
    exact ⟨_, _, by rw [ht], q⟩
theorem XW_alloc {ty sz : Nat} {ag : Bool} {z : List AVal} : XW F (.alloc ty sz ag z) ev h K ↔ (z.length = sz ∧ z.all AVal.one = true) ∧ K (.ptr h.next 0) (h.push (.row true (typed ty) ag z)) := by
  exact XW_heap (fun _ => rfl) rfl
theorem XW_box {sz : Nat} {ag : Bool} {x : Opd} : XW F (.box sz ag x) ev h K ↔ ((ev x).cells.length = sz ∧ (ev x).cells.all AVal.one = true) ∧ K (.ptr h.next 0) (h.push (.row true 0 ag (ev x).cells)) := by
  exact XW_heap (fun _ => rfl) rfl
theorem bin_lss (k : IntKind) (a b : Int) : binA .lss .arith (.int k a) (.int k b) = some (.bool (decide (a < b))) := by simp [binA, intBin]
theorem bin_leq (k : IntKind) (a b : Int) : binA .leq .arith (.int k a) (.int k b) = some (.bool (decide (a ≤ b))) := by simp [binA, intBin]
theorem bin_gtr (k : IntKind) (a b : Int) : binA .gtr .arith (.int k a) (.int k b) = some (.bool (decide (b < a))) := by simp [binA, intBin]
theorem bin_geq (k : IntKind) (a b : Int) : binA .geq .arith (.int k a) (.int k b) = some (.bool (decide (b ≤ a))) := by simp [binA, intBin]
theorem bin_eql (k : IntKind) (a b : Int) : binA .eql .arith (.int k a) (.int k b) = some (.bool (decide (a = b))) := by simp [binA, intBin]; by_cases e : a = b <;> simp [e]
theorem bin_neq (k : IntKind) (a b : Int) : binA .neq .arith (.int k a) (.int k b) = some (.bool (decide (a ≠ b))) := by simp [binA, intBin]; by_cases e : a = b <;> simp [e]
theorem bin_add (a b : Int) : binA .add .arith (.int .i64 a) (.int .i64 b) = some (.int .i64 (IntKind.i64.wrap (a + b))) := by simp [binA, intBin]
theorem bin_sub (a b : Int) : binA .sub .arith (.int .i64 a) (.int .i64 b) = some (.int .i64 (IntKind.i64.wrap (a - b))) := by simp [binA, intBin]
theorem bin_mul (a b : Int) : binA .mul .arith (.int .i64 a) (.int .i64 b) = some (.int .i64 (IntKind.i64.wrap (a * b))) := by simp [binA, intBin]
theorem bin_eql_s (a b : List UInt8) : binA .eql .arith (.str a) (.str b) = some (.bool (decide (a = b))) := by simp [binA, strBin]; by_cases e : a = b <;> simp [e]
theorem bin_neq_s (a b : List UInt8) : binA .neq .arith (.str a) (.str b) = some (.bool (decide (a ≠ b))) := by simp [binA, strBin]; by_cases e : a = b <;> simp [e]
theorem bin_rem (a b : Int) (hb : b ≠ 0) : binA .rem .arith (.int .i64 a) (.int .i64 b) = some (.int .i64 (a.tmod b)) := by simp [binA, intBin, hb]
theorem bin_quo (a b : Int) (hb : b ≠ 0) : binA .quo .arith (.int .i64 a) (.int .i64 b) = some (.int .i64 (IntKind.i64.wrap (a.tdiv b))) := by simp [binA, intBin, hb]
theorem un_neg (a : Int) : unA .neg (.int .i64 a) = some (.int .i64 (IntKind.i64.wrap (-a))) := by simp [unA]
theorem un_not (a : Bool) : unA .not (.bool a) = some (.bool (!a)) := _root_.id rfl
theorem load_rp (n : Nat) (ag : Bool) (cs : List AVal) (h : Heap) : loadA n ag (.rp cs) h = if n ≤ cs.length then mk ag (cs.take n) else none := _root_.id rfl
theorem mk_f (c : AVal) : mk false [c] = some c := _root_.id rfl
theorem mk_t (cs : List AVal) : mk true cs = some (.agg cs) := _root_.id rfl
theorem len_sl (x : Opd) (xs : List AVal) (t : Tok) (h : Heap) (b : AVal) : valA (.len x) (.sl xs t) b h = some (.int .i64 xs.length) := _root_.id rfl
theorem len_ref (x : Opd) (id off n sz : Nat) (h : Heap) (b : AVal) : valA (.len x) (.ref id off n sz) b h = some (.int .i64 n) := _root_.id rfl
theorem slen_str (x : Opd) (s : List UInt8) (h : Heap) (b : AVal) : valA (.slen x) (.str s) b h = some (.int .i64 s.length) := _root_.id rfl
theorem faddr_rp (x : Opd) (off : Nat) (cs : List AVal) (h : Heap) (b : AVal) : valA (.faddr off x) (.rp cs) b h = some (.rp (cs.drop off)) := _root_.id rfl
theorem faddr_ptr (x : Opd) (off i o : Nat) (h : Heap) (b : AVal) : valA (.faddr off x) (.ptr i o) b h = some (.ptr i (o + off)) := _root_.id rfl
theorem nilc_ptr (x : Opd) (i o : Nat) (h : Heap) (b : AVal) : valA (.nilc x) (.ptr i o) b h = some (.ptr i o) := _root_.id rfl
theorem nilc_fn (x : Opd) (f : Nat) (c : List AVal) (h : Heap) (b : AVal) : valA (.nilc x) (.fn f c) b h = some (.fn f c) := _root_.id rfl
theorem ext_tup (x : Opd) (i : Nat) (vs : List AVal) (h : Heap) (b : AVal) : valA (.ext x i) (.tup vs) b h = vs[i]? := _root_.id rfl
theorem XW_iaddr {sz : Nat} {x i : Opd} : XW F (.iaddr sz x i) ev h K ↔ bindK (valA (.iaddr sz x i) (ev x) (ev i) h) K h := by
  refine XW_val (fun _ => rfl) ?_
  simp only [evalA, valA]
  cases ev x <;> cases ev i <;> first | rfl | skip
  · rename_i xs tk k n
    by_cases h0 : 0 ≤ n ∧ n < xs.length
    · simp only [h0, and_self, if_true]
      cases xs[n.toNat]? with
      | none => rfl
      | some y => by_cases h1 : y.cells.length = sz <;> simp [h1]
    · simp only [h0, if_false]; rfl
  · rename_i id off len s k n
    by_cases h0 : 0 ≤ n ∧ n < len ∧ s = sz
    · simp only [h0, and_self, if_true]; rfl
    · simp only [h0, if_false]; rfl
theorem stripL_nil : stripL [] = some [] := rfl
def sc (o : Option AVal) (p : Option (List AVal)) : Option (List AVal) := match o, p with
  | some y, some ys => some (y :: ys)
  | _, _ => none
theorem stripL_sc (x : AVal) (xs : List AVal) : stripL (x :: xs) = sc (strip x) (stripL xs) := by
  rfl
theorem sc_some (y : AVal) (ys : List AVal) : sc (some y) (some ys) = some (y :: ys) := rfl
theorem sc_none (p : Option (List AVal)) : sc none p = none := rfl
theorem st_int (k : IntKind) (n : Int) : strip (.int k n) = some (.int k n) := rfl
theorem st_bool (b : Bool) : strip (.bool b) = some (.bool b) := rfl
theorem st_str (s : List UInt8) : strip (.str s) = some (.str s) := rfl
theorem st_none (xs : List AVal) : strip (.sl xs .none) = some (.sl xs .none) := rfl
theorem st_nil (xs : List AVal) : strip (.sl xs .nil) = some (.sl xs .nil) := rfl
theorem st_own (xs : List AVal) (id sz : Nat) : strip (.sl xs (.own id sz)) = some (.sl xs .none) := rfl
theorem st_ref (a b c d : Nat) : strip (.ref a b c d) = none := rfl
theorem st_agg (cs : List AVal) : strip (.agg cs) = (stripL cs).map .agg := by simp only [strip]
theorem map_some' (cs : List AVal) : (some cs).map AVal.agg = some (.agg cs) := rfl
theorem pu_int (h : Heap) (k : IntKind) (n : Int) : purify h (.int k n) = some (.int k n) := rfl
theorem pu_bool (h : Heap) (b : Bool) : purify h (.bool b) = some (.bool b) := rfl
theorem pu_str (h : Heap) (s : List UInt8) : purify h (.str s) = some (.str s) := rfl
theorem pu_none (h : Heap) (xs : List AVal) : purify h (.sl xs .none) = some (.sl xs .none) := rfl
theorem pu_nil (h : Heap) (xs : List AVal) : purify h (.sl xs .nil) = some (.sl xs .nil) := rfl
theorem pu_own (h : Heap) (xs : List AVal) (id sz : Nat) : purify h (.sl xs (.own id sz)) = some (.sl xs .none) := rfl
end Go.Abs
