/-
  Merged from LyTab_Tryz LvLays_Tryz AbsBld LvHand AbsSW AbsSX AbsRules AbsSim AbsAuto AbsSN AbsFlat: The functions that the statements reach, translated for the abstract machine, and that this is what the translation gives.
-/
import Derived.Test.YthhdkkecolocdaaGreatDoorM03
import Derived.Test.YthhdkkecolocdaaGreatDoorM04
import Derived.Test.YthhdkkecolocdaaGreatDoorProg
import Derived.KernelRfl
import Derived.Shelf.Strings.SplitCore
import Derived.Shelf.Strings.Builder1
import Derived.Shelf.Strings.Search3
import Derived.Shelf.Strings.Count
import Derived.Lib.SplitLaws
import Derived.Shelf.Small.Strs
import Derived.IntWalk
import Derived.Test.YthhdkkecolocdaaGreatDoorM02
set_option linter.unusedSimpArgs false
set_option linter.unusedVariables false
set_option linter.defProp false
set_option linter.constructorNameAsVariable false
/-
 The functions that the statements reach, translated for the abstract machine, and that this is what the translation gives.
-/
set_option maxRecDepth 100000
namespace Go.Proofs.YthhdkkecolocdaaGreatDoor
open Go Go.Abs
def hints : Hints := ⟨fun f s => (f == 3 && s == 36) || (f == 11 && s == 93) || (f == 12 && s == 86) || (f == 41 && s == 40) || (f == 69 && s == 97) || (f == 69 && s == 106) || (f == 141 && s == 6), fun f s => (f == 4 && s == 62) || (f == 7 && s == 85) || (f == 50 && s == 36), fun _ _ => false, fun f => [8, 9, 10, 11, 12, 13, 14, 15, 16, 17, 18, 19, 20, 21, 22, 23, 24, 25, 26, 27, 28, 31, 32, 33, 34, 35, 36, 37, 38, 39, 40, 41, 50, 51, 52, 57, 58, 59, 60, 61, 63, 66, 68, 71, 72, 73, 74, 75, 76, 86, 91, 92, 105, 106, 108, 109, 110, 131, 143, 278, 279].contains f, fun _ => false, fun _ _ => [], fun _ => false, fun _ => none, fun _ _ => none⟩
def c4 : AFunc := ⟨[0, 1, 2, 3, 8, 9, 10, 11, 12, 13, 14, 15, 16, 17, 18, 32, 53, 64], (.seq (.ops [oV 4 (.mov (.c (.bool false)))]) (.seq (.ops [mv 0, oT (.call (.c (.fn 7 [])) [(.t 0)]), oV 5 (.alloc 31 7 true [nS, nS, nS, nS, nS, nS, nS]), sV 7 5 1]) (.seq (.ops [lV 7 5, mv 1, mv 2, oT (.pcall 10 [(.t 2), (k6 14)]), mv 3, oT (.pcall 10 [(.t 4), (k6 5)]), oT (.pcall 9 [(.t 0), (.t 1), (.t 3), (.t 5)]), vt 6 6]) (.seq (.seq (.ops [oV 7 (.mov (k6 0))]) (.block 0 (.loop (.seq (.seq (.ops [mv 7, fV 1 5, lS 1 1, oT (.len (.t 2)), oV 15 (.bin .lss .arith (.t 0) (.t 3))]) (.cond (.v 15) .skip (.exit 0))) (.seq (.block 1 (.seq (.ops [lV 7 5, mv 6, fV 1 5, lS 1 2, mv 7, iT 14 3 4, fT 0 5, lT 3 6, oT (.pcall 15 [(.t 0), (.t 1), (.t 7)]), lV 7 5, mv 6, fV 1 5, lS 1 11, mv 7, iT 14 12 13, fT 0 14, lT 3 15, oT (.pcall 16 [(.t 9), (.t 10), (.t 16)]), oV 16 (.bin .neq .arith (.t 8) (.t 17))]) (.cond (.v 16) (.seq (.ops [oV 4 (.mov (.c (.bool false)))]) .ret) .skip))) (.ops [mv 7, oT (.bin .add .arith (.t 0) (k6 1)), vt 7 1])))))) (.seq (.ops [oT (.build [z6, z6, z6] [(0, 1, (k6 4)), (1, 1, (k6 4)), (2, 1, (k6 4))]), oV 8 (.alloc 62 3 true [z6, z6, z6]), sV 3 8 0]) (.seq (.ops [oT (.call (.c (.fn 7 [])) [(.c nS)]), oV 9 (.alloc 31 7 true [nS, nS, nS, nS, nS, nS, nS]), sV 7 9 0]) (.seq (.ops [fV 1 9, lS 1 0, oT (.iaddr 14 (.t 1) (k6 0)), fT 0 2, lT 3 3, oV 10 (.alloc 62 3 true [z6, z6, z6]), sV 3 10 4]) (.seq (.ops [lV 3 10, oT (.lit 1 62 1 3 true [z6, z6, z6] [(0, (.t 0))]), vt 11 1]) (.seq (.seq (.ops [oV 12 (.mov (k6 0))]) (.block 2 (.loop (.seq (.seq (.ops [mv 12, oV 17 (.bin .lss .arith (.t 0) (k6 30))]) (.cond (.v 17) .skip (.exit 2))) (.seq (.block 3 (.seq (.ops [mv 12, oT (.bin .quo .arith (.t 0) (k6 16)), oT (.bin .add .arith (k6 1) (.t 1)), mv 12, oT (.bin .rem .arith (.t 3) (k6 16)), oT (.build [z6, z6, z6] [(0, 1, (k6 5)), (1, 1, (.t 2)), (2, 1, (.t 4))]), oV 13 (.alloc 62 3 true [z6, z6, z6]), sV 3 13 5]) (.seq (.ops [fV 1 9, lS 1 0, lV 3 13, lV 3 10, oT (.build [z6, z6, z6, z6, z6, z6, nS, nS, nS, nS, nS, nS, nS, nS] [(0, 3, (.t 2)), (3, 3, (.t 3))]), oT (.lit 0 67 1 14 true [z6, z6, z6, z6, z6, z6, nS, nS, nS, nS, nS, nS, nS, nS] [(0, (.t 4))]), oT (.append false 67 240 14 true (.t 1) (.t 5)), fV 1 9, sT 1 7 6]) (.ops [mv 11, lV 3 13, oT (.lit 0 62 1 3 true [z6, z6, z6] [(0, (.t 1))]), oT (.append false 62 24 3 true (.t 0) (.t 2)), vt 11 3])))) (.ops [mv 12, oT (.bin .add .arith (.t 0) (k6 1)), vt 12 1])))))) (.seq (.ops [mv 11, mv 2, oT (.pcall 10 [(.t 1), (k6 30)]), oT (.bin .add .arith (k6 1) (.t 2)), iT 3 0 3, lT 3 4, oV 14 (.alloc 62 3 true [z6, z6, z6]), sV 3 14 5]) (.seq (.ops [lV 7 5, mv 6, lV 3 8, oT (.pcall 15 [(.t 0), (.t 1), (.t 2)]), oT (.bin .eql .arith (.t 3) (.c (.str []))), mt 4, oG 5 true (.load 7 true (.v 9)), oG 5 true (.mov (.v 11)), oG 5 true (.load 3 true (.v 14)), oG 5 true (.pcall 15 [(.t 6), (.t 7), (.t 8)]), oG 5 true (.load 7 true (.v 9)), oG 5 true (.mov (.v 11)), oG 5 true (.load 3 true (.v 14)), oG 5 true (.pcall 16 [(.t 10), (.t 11), (.t 12)]), oG 5 true (.bin .eql .arith (.t 9) (.t 13)), oT (.pick (.t 5) (.t 14) (.c (.bool false))), mt 15, oG 16 true (.pcall 14 []), oT (.pick (.t 16) (.t 17) (.c (.bool false))), vt 4 18]) .ret))))))))))), [.v 4], []⟩
def c7 : AFunc := ⟨[0, 2, 3, 4, 5, 6, 7, 10, 34, 61, 77, 91], (.seq (.ops [oV 1 (.alloc 31 7 true [nS, nS, nS, nS, nS, nS, nS])]) (.seq (.ops [oT (.build [nS, nS, nS, nS, nS, nS, nS] []), oV 2 (.alloc 31 7 true [nS, nS, nS, nS, nS, nS, nS]), sV 7 2 0]) (.seq (.seq (.ops [oV 3 (.mov (k6 0))]) (.block 0 (.loop (.seq (.seq (.ops [mv 3, oV 7 (.bin .lss .arith (.t 0) (k6 2))]) (.cond (.v 7) .skip (.exit 0))) (.seq (.block 1 (.ops [fV 0 2, lS 1 0, mv 3, oT (.build [z6, z6, z6] [(0, 1, (k6 0)), (1, 1, (k6 1)), (2, 1, (.t 2))]), oT (.lit 0 9 4 1 false [(.str [])] [(0, (.c (.str [99, 97, 116]))), (1, (.c (.str [97, 110, 116]))), (2, (.c (.str [98, 101, 116]))), (3, (.c (.str [99, 104, 33])))]), mv 0, mv 3, oT (.pcall 21 [(.t 5), (.t 6), (k6 4)]), iT 1 4 7, lS 1 8, oT (.build [(.str []), z6, z6, z6, z6, z6, z6] [(0, 1, (.t 9))]), oT (.lit 0 83 1 7 true [(.str []), z6, z6, z6, z6, z6, z6] [(0, (.t 10))]), oT (.build [z6, z6, z6, nS, nS] [(0, 3, (.t 3)), (3, 1, (.t 11))]), oT (.lit 0 70 1 5 true [z6, z6, z6, nS, nS] [(0, (.t 12))]), oT (.append false 70 72 5 true (.t 1) (.t 13)), fV 0 2, sT 1 15 14])) (.ops [mv 3, oT (.bin .add .arith (.t 0) (k6 1)), vt 3 1])))))) (.seq (.ops [mv 0, oT (.pcall 21 [(.t 0), (k6 2), (k6 9)]), oT (.bin .add .arith (k6 1) (.t 1)), vt 4 2]) (.seq (.seq (.ops [oV 5 (.mov (k6 0))]) (.block 2 (.loop (.seq (.seq (.ops [mv 5, mv 4, oV 8 (.bin .lss .arith (.t 0) (.t 1))]) (.cond (.v 8) .skip (.exit 2))) (.seq (.block 3 (.seq (.ops [mv 5, oT (.bin .rem .arith (.t 0) (k6 2)), mv 5, oT (.bin .quo .arith (.t 2) (k6 4)), oT (.bin .add .arith (k6 2) (.t 3)), mv 5, oT (.bin .rem .arith (.t 5) (k6 4)), oT (.build [z6, z6, z6] [(0, 1, (.t 1)), (1, 1, (.t 4)), (2, 1, (.t 6))]), mv 0, mv 5, oT (.bin .add .arith (k6 3) (.t 9)), oT (.pcall 21 [(.t 8), (.t 10), (k6 2)]), oT (.build [z6, z6, z6] [(0, 1, (k6 0)), (1, 1, (k6 1)), (2, 1, (.t 11))]), oT (.build [(.str []), z6, z6, z6, z6, z6, z6] [(0, 1, (.c (.str [97, 32, 98, 101, 116])))]), oT (.lit 0 83 1 7 true [(.str []), z6, z6, z6, z6, z6, z6] [(0, (.t 13))]), oT (.build [z6, z6, z6, z6, z6, z6, nS, nS, nS, nS, nS, nS, nS, nS] [(0, 3, (.t 7)), (3, 3, (.t 12)), (6, 1, (.t 14))]), oV 6 (.alloc 67 14 true [z6, z6, z6, z6, z6, z6, nS, nS, nS, nS, nS, nS, nS, nS]), sV 14 6 15]) (.seq (.seq (.ops [mv 5, oT (.bin .gtr .arith (.t 0) (k6 0)), mt 1, oG 2 true (.mov (.v 0)), oG 2 true (.mov (.v 5)), oG 2 true (.bin .add .arith (k6 13) (.t 4)), oG 2 true (.pcall 21 [(.t 3), (.t 5), (k6 3)]), oG 2 true (.bin .gtr .arith (.t 6) (k6 0)), oV 9 (.pick (.t 2) (.t 7) (.c (.bool false)))]) (.cond (.v 9) (.ops [fV 1 2, lS 1 0, mv 0, mv 5, oT (.bin .add .arith (k6 23) (.t 3)), mv 5, oT (.pcall 21 [(.t 2), (.t 4), (.t 5)]), iT 14 1 6, fT 0 7, lT 3 8, fV 3 6, sT 3 10 9]) .skip)) (.seq (.seq (.ops [mv 0, mv 5, oT (.bin .add .arith (k6 33) (.t 1)), oT (.pcall 21 [(.t 0), (.t 2), (k6 17)]), oV 10 (.bin .eql .arith (.t 3) (k6 1))]) (.cond (.v 10) (.ops [oT (.build [z6, z6, z6] [(0, 1, (k6 3)), (1, 1, (k6 3)), (2, 1, (k6 3))]), fV 3 6, sT 3 1 0]) .skip)) (.seq (.ops [mv 0, mv 5, oT (.bin .add .arith (k6 43) (.t 1)), oT (.pcall 21 [(.t 0), (.t 2), (k6 4)]), oT (.build [(.str []), z6, z6, z6, z6, z6, z6] [(1, 1, (.t 3))]), oT (.lit 1 83 1 7 true [(.str []), z6, z6, z6, z6, z6, z6] [(0, (.t 4))]), fV 7 6, sT 1 6 5]) (.seq (.seq (.ops [mv 0, mv 5, oT (.bin .add .arith (k6 53) (.t 1)), oT (.pcall 21 [(.t 0), (.t 2), (k6 6)]), oV 11 (.bin .eql .arith (.t 3) (k6 1))]) (.cond (.v 11) (.ops [fV 7 6, lS 1 0, oT (.build [(.str []), z6, z6, z6, z6, z6, z6] [(1, 1, (k6 7))]), oT (.lit 0 83 1 7 true [(.str []), z6, z6, z6, z6, z6, z6] [(0, (.t 2))]), oT (.append false 83 64 7 true (.t 1) (.t 3)), fV 7 6, sT 1 5 4]) .skip)) (.ops [fV 1 2, lS 1 0, lV 14 6, oT (.lit 0 67 1 14 true [z6, z6, z6, z6, z6, z6, nS, nS, nS, nS, nS, nS, nS, nS] [(0, (.t 2))]), oT (.append false 67 240 14 true (.t 1) (.t 3)), fV 1 2, sT 1 5 4]))))))) (.ops [mv 5, oT (.bin .add .arith (.t 0) (k6 1)), vt 5 1])))))) (.seq (.ops [lV 7 2, sV 7 1 0]) .ret)))))), [.c 1 7 true], []⟩
def c9 : AFunc := ⟨[0, 1, 2, 3, 4, 8, 9, 10, 19, 37], (.seq (.ops [oV 4 (.box 7 true (.v 0)), oV 5 (.mov (.c nS))]) (.seq (.ops [oV 6 (.mov (.c nS))]) (.seq (.seq (.ops [oV 7 (.mov (k6 0))]) (.block 0 (.loop (.seq (.seq (.ops [mv 7, mv 2, oT (.bin .lss .arith (.t 0) (.t 1)), mt 2, oG 3 true (.faddr 1 (.v 4)), oG 3 true (.load 1 false (.t 4)), oG 3 true (.len (.t 5)), oG 3 true (.bin .gtr .arith (.t 6) (k6 0)), oV 8 (.pick (.t 3) (.t 7) (.c (.bool false)))]) (.cond (.v 8) .skip (.exit 0))) (.seq (.block 1 (.ops [mv 6, fV 1 4, lS 1 1, mv 1, mv 7, fV 1 4, lS 1 5, oT (.len (.t 6)), oT (.pcall 21 [(.t 3), (.t 4), (.t 7)]), iT 14 2 8, fT 0 9, lT 3 10, oT (.lit 0 62 1 3 true [z6, z6, z6] [(0, (.t 11))]), oT (.append false 62 24 3 true (.t 0) (.t 12)), vt 6 13])) (.ops [mv 7, oT (.bin .add .arith (.t 0) (k6 1)), vt 7 1])))))) (.seq (.seq (.ops [mv 3, oV 9 (.bin .eql .arith (.t 0) (k6 0))]) (.cond (.v 9) (.ops [mv 6, oT (.build [z6, z6, z6] [(0, 1, (k6 4)), (1, 1, (k6 4)), (2, 1, (k6 4))]), oT (.lit 0 62 1 3 true [z6, z6, z6] [(0, (.t 1))]), oT (.append false 62 24 3 true (.t 0) (.t 2)), vt 6 3]) .skip)) (.seq (.ops [mv 6, vt 5 0]) .ret))))), [.v 5], []⟩
def c10 : AFunc := ⟨[0, 1, 4, 6], (.seq (.ops [oV 2 (.mov (k6 0))]) (.seq (.seq (.ops [mv 0, oV 3 (.bin .lss .arith (.t 0) (k6 0))]) (.cond (.v 3) (.ops [mv 0, oT (.bin .add .arith (.t 0) (k6 1)), oT (.un .neg (.t 1)), vt 0 2]) .skip)) (.seq (.ops [mv 0, mv 1, oT (.bin .rem .arith (.t 0) (.t 1)), vt 2 2]) .ret))), [.v 2], []⟩
def c15 : AFunc := ⟨[0, 1, 2, 3, 5, 6, 7, 8, 10, 12, 30, 35, 36, 37, 38, 44], (.seq (.ops [oV 3 (.box 7 true (.v 0)), oV 4 (.box 3 true (.v 2)), oV 5 (.mov (.c (.str [])))]) (.seq (.ops [lV 7 3, lV 3 4, oT (.pcall 17 [(.t 0), (.t 1)]), mt 2, eT 3 0, eT 3 1, oV 6 (.alloc 70 5 true [z6, z6, z6, nS, nS]), sV 5 6 4, vt 7 5]) (.seq (.seq (.ops [lV 7 3, lV 3 4, oT (.pcall 18 [(.t 0), (.t 1)]), mt 2, eT 3 0, eT 3 1, oT (.alloc 67 14 true [z6, z6, z6, z6, z6, z6, nS, nS, nS, nS, nS, nS, nS, nS]), sT 14 6 4, vt 8 5]) (.seq (.ops [mv 7, oT (.un .not (.t 0)), mt 1, oG 2 false (.mov (.v 8)), oG 2 false (.un .not (.t 3)), oV 10 (.pick (.t 2) (.c (.bool true)) (.t 4))]) (.cond (.v 10) (.seq (.ops [oV 5 (.mov (.c (.str [])))]) .ret) .skip))) (.seq (.seq (.ops [lV 7 3, fV 0 6, lT 3 1, mv 1, oV 11 (.pcall 34 [(.t 0), (.t 2), (.t 3)]), oV 12 (.len (.v 11)), oV 13 (.mov (k6 0))]) (.block 0 (.loop (.seq (.ops [oV 14 (.bin .lss .arith (.v 13) (.v 12))]) (.seq (.cond (.v 14) .skip (.exit 0)) (.seq (.block 1 (.seq (.ops [oT (.iaddr 4 (.v 11) (.v 13)), lT 4 0, oV 9 (.alloc 105 4 true [z6, z6, z6, (.str [])]), sV 4 9 1]) (.seq (.ops [fV 0 9, lT 3 0, lV 3 4, oV 15 (.bin .eql (.struct [.int, .int, .int]) (.t 1) (.t 2))]) (.cond (.v 15) (.seq (.ops [fV 3 9, lS 1 0, vt 5 1]) .ret) .skip)))) (.ops [oT (.bin .add .arith (.v 13) (k6 1)), vt 13 0]))))))) (.seq (.ops [oV 5 (.mov (.c (.str [])))]) .ret))))), [.v 5], []⟩
def c16 : AFunc := ⟨[0, 1, 2, 3, 5, 6, 7, 8, 9, 10, 11, 33, 41, 45, 50], (.seq (.ops [oV 3 (.box 7 true (.v 0)), oV 4 (.box 3 true (.v 2)), oV 5 (.mov (.c (.str [])))]) (.seq (.ops [lV 7 3, lV 3 4, oT (.pcall 36 [(.t 0), (.t 1)]), mt 2, eT 3 0, eT 3 1, oV 6 (.alloc 70 5 true [z6, z6, z6, nS, nS]), sV 5 6 4, vt 7 5]) (.seq (.seq (.ops [mv 7, oT (.un .not (.t 0)), mt 1, oG 2 false (.load 7 true (.v 3)), oG 2 false (.load 3 true (.v 4)), oG 2 false (.faddr 0 (.v 6)), oG 2 false (.load 3 true (.t 5)), oG 2 false (.pcall 37 [(.t 3), (.t 4), (.t 6)]), oG 2 false (.un .not (.t 7)), oT (.pick (.t 2) (.c (.bool true)) (.t 8)), mt 9, oG 10 false (.mov (.v 1)), oG 10 false (.load 3 true (.v 4)), oG 10 false (.pcall 19 [(.t 11), (.t 12)]), oG 10 false (.un .not (.t 13)), oV 11 (.pick (.t 10) (.c (.bool true)) (.t 14))]) (.cond (.v 11) (.seq (.ops [oV 5 (.mov (.c (.str [])))]) .ret) .skip)) (.seq (.ops [lV 7 3, mv 1, lV 3 4, oT (.pcall 50 [(.t 0), (.t 1), (.t 2)]), vt 8 3]) (.seq (.ops [oV 9 (.mov (.c (.str [])))]) (.seq (.seq (.ops [oV 10 (.mov (k6 0))]) (.block 0 (.loop (.seq (.seq (.ops [mv 10, mv 8, oT (.len (.t 1)), oV 12 (.bin .lss .arith (.t 0) (.t 2))]) (.cond (.v 12) .skip (.exit 0))) (.seq (.block 1 (.seq (.seq (.ops [mv 10, oV 13 (.bin .gtr .arith (.t 0) (k6 0))]) (.cond (.v 13) (.ops [mv 9, oT (.bin .add .arith (.t 0) (.c (.str [46]))), vt 9 1]) .skip)) (.seq (.ops [mv 10, oT (.bin .rem .arith (.t 0) (k6 2)), oV 14 (.bin .eql .arith (.t 1) (k6 0))]) (.cond (.v 14) (.ops [mv 9, mv 8, mv 10, iT 1 1 2, lS 1 3, oT (.pcall 51 [(.t 4)]), oT (.bin .add .arith (.t 0) (.t 5)), vt 9 6]) (.ops [mv 9, mv 8, mv 10, iT 1 1 2, lS 1 3, oT (.pcall 52 [(.t 4)]), oT (.bin .add .arith (.t 0) (.t 5)), vt 9 6]))))) (.ops [mv 10, oT (.bin .add .arith (.t 0) (k6 1)), vt 10 1])))))) (.seq (.ops [mv 9, vt 5 0]) .ret))))))), [.v 5], []⟩
def c17 : AFunc := ⟨[0, 1, 2, 3, 4, 5, 6, 7, 8, 11, 12, 13, 21, 27], (.seq (.ops [oV 2 (.box 7 true (.v 0)), oV 3 (.box 3 true (.v 1)), oV 4 (.alloc 70 5 true [z6, z6, z6, nS, nS]), oV 5 (.mov (.c (.bool false)))]) (.seq (.seq (.ops [fV 1 2, lS 1 0, oV 9 (.len (.t 1)), oV 10 (.mov (k6 0))]) (.block 0 (.loop (.seq (.ops [oV 11 (.bin .lss .arith (.v 10) (.v 9))]) (.seq (.cond (.v 11) .skip (.exit 0)) (.seq (.block 1 (.seq (.ops [lV 7 2, lV 3 3, oT (.pcall 18 [(.t 0), (.t 1)]), mt 2, eT 3 0, eT 3 1, oV 6 (.alloc 67 14 true [z6, z6, z6, z6, z6, z6, nS, nS, nS, nS, nS, nS, nS, nS]), sV 14 6 4, vt 7 5]) (.seq (.seq (.ops [mv 7, oV 12 (.un .not (.t 0))]) (.cond (.v 12) (.exit 0) .skip)) (.seq (.seq (.ops [fV 0 2, lS 1 0, oT (.clo 54 [(.v 6)]), oT (.call (.c (.fn 53 [])) [(.t 1), (.t 2)]), vt 8 3]) (.seq (.ops [mv 8, oV 13 (.bin .geq .arith (.t 0) (k6 0))]) (.cond (.v 13) (.seq (.ops [fV 0 2, lS 1 0, mv 8, iT 5 1 2, lT 5 3, sV 5 4 4, oV 5 (.mov (.c (.bool true)))]) .ret) .skip))) (.ops [fV 3 6, lT 3 0, sV 3 3 1]))))) (.ops [oT (.bin .add .arith (.v 10) (k6 1)), vt 10 0]))))))) (.seq (.ops [oT (.build [z6, z6, z6, nS, nS] []), sV 5 4 0, oV 5 (.mov (.c (.bool false)))]) .ret))), [.c 4 5 true, .v 5], []⟩
def c18 : AFunc := cV18
def c19 : AFunc := ⟨[0, 1, 3, 4, 5, 9, 17], (.seq (.ops [oV 2 (.box 3 true (.v 1)), oV 3 (.mov (.c (.bool false)))]) (.seq (.seq (.ops [oV 4 (.mov (k6 0))]) (.block 0 (.loop (.seq (.seq (.ops [mv 4, mv 0, oT (.len (.t 1)), oV 5 (.bin .lss .arith (.t 0) (.t 2))]) (.cond (.v 5) .skip (.exit 0))) (.seq (.block 1 (.seq (.ops [mv 0, mv 4, iT 3 0 1, lT 3 2, lV 3 2, oV 6 (.bin .eql (.struct [.int, .int, .int]) (.t 3) (.t 4))]) (.cond (.v 6) (.seq (.ops [oV 3 (.mov (.c (.bool true)))]) .ret) .skip))) (.ops [mv 4, oT (.bin .add .arith (.t 0) (k6 1)), vt 4 1])))))) (.seq (.ops [oV 3 (.mov (.c (.bool false)))]) .ret))), [.v 3], []⟩
def c20 : AFunc := ⟨[0, 1, 2, 3, 5, 6, 7, 8, 10, 11, 12, 23, 34, 39], (.seq (.ops [oV 3 (.box 7 true (.v 0)), oV 4 (.box 3 true (.v 2)), oV 5 (.alloc 62 3 true [z6, z6, z6]), oV 6 (.mov (.c (.bool false)))]) (.seq (.ops [lV 7 3, lV 3 4, oT (.pcall 57 [(.t 0), (.t 1)]), mt 2, eT 3 0, eT 3 1, oV 7 (.alloc 67 14 true [z6, z6, z6, z6, z6, z6, nS, nS, nS, nS, nS, nS, nS, nS]), sV 14 7 4, mt 5]) (.seq (.seq (.ops [oV 8 (.mov (k6 0))]) (.block 0 (.loop (.seq (.seq (.ops [mv 8, fV 1 3, lS 1 1, oT (.len (.t 2)), oV 11 (.bin .lss .arith (.t 0) (.t 3))]) (.cond (.v 11) .skip (.exit 0))) (.seq (.block 1 (.seq (.ops [lV 7 3, fV 3 7, lT 3 1, oT (.pcall 57 [(.t 0), (.t 2)]), mt 3, eT 4 0, eT 4 1, oV 9 (.alloc 67 14 true [z6, z6, z6, z6, z6, z6, nS, nS, nS, nS, nS, nS, nS, nS]), sV 14 9 5, vt 10 6]) (.seq (.seq (.ops [mv 10, oV 12 (.un .not (.t 0))]) (.cond (.v 12) (.seq (.ops [oT (.build [z6, z6, z6] []), sV 3 5 0, oV 6 (.mov (.c (.bool false)))]) .ret) .skip)) (.seq (.seq (.ops [mv 1, fV 0 9, lT 3 1, oV 13 (.pcall 19 [(.t 0), (.t 2)])]) (.cond (.v 13) (.seq (.ops [fV 0 9, lT 3 0, sV 3 5 1, oV 6 (.mov (.c (.bool true)))]) .ret) .skip)) (.ops [lV 14 9, sV 14 7 0]))))) (.ops [mv 8, oT (.bin .add .arith (.t 0) (k6 1)), vt 8 1])))))) (.seq (.ops [oT (.build [z6, z6, z6] []), sV 3 5 0, oV 6 (.mov (.c (.bool false)))]) .ret)))), [.c 5 3 true, .v 6], []⟩
def c21 : AFunc := ⟨[0, 1, 2, 6, 14], (.seq (.ops [oV 3 (.mov (k6 0))]) (.seq (.seq (.ops [mv 1, oT (.bin .lss .arith (.t 0) (k6 0)), mt 1, oG 2 false (.mov (.v 1)), oG 2 false (.mov (.v 0)), oG 2 false (.len (.t 4)), oG 2 false (.bin .geq .arith (.t 3) (.t 5)), oV 4 (.pick (.t 2) (.c (.bool true)) (.t 6))]) (.cond (.v 4) (.seq (.ops [oV 3 (.mov (k6 0))]) .ret) .skip)) (.seq (.ops [mv 0, mv 1, iT 1 0 1, lS 1 2, mv 2, oT (.pcall 10 [(.t 3), (.t 4)]), vt 3 5]) .ret))), [.v 3], []⟩
def c29 : AFunc := cV29
def c31 : AFunc := cV31
def c33 : AFunc := cV33
def c36 : AFunc := ⟨[0, 1, 2, 3, 4, 5, 6, 7, 8, 9, 14, 24, 30, 41], (.seq (.ops [oV 2 (.box 7 true (.v 0)), oV 3 (.box 3 true (.v 1)), oV 4 (.alloc 70 5 true [z6, z6, z6, nS, nS]), oV 5 (.mov (.c (.bool false)))]) (.seq (.seq (.ops [oV 6 (.mov (k6 0))]) (.block 0 (.loop (.seq (.seq (.ops [mv 6, fV 1 2, lS 1 1, oT (.len (.t 2)), oV 10 (.bin .lss .arith (.t 0) (.t 3))]) (.cond (.v 10) .skip (.exit 0))) (.seq (.block 1 (.seq (.ops [lV 7 2, lV 3 3, oT (.pcall 57 [(.t 0), (.t 1)]), mt 2, eT 3 0, eT 3 1, oV 7 (.alloc 67 14 true [z6, z6, z6, z6, z6, z6, nS, nS, nS, nS, nS, nS, nS, nS]), sV 14 7 4, vt 8 5]) (.seq (.seq (.ops [mv 8, oV 11 (.un .not (.t 0))]) (.cond (.v 11) (.seq (.ops [oT (.build [z6, z6, z6, nS, nS] []), sV 5 4 0, oV 5 (.mov (.c (.bool false)))]) .ret) .skip)) (.seq (.seq (.ops [oV 9 (.mov (k6 0))]) (.block 2 (.loop (.seq (.seq (.ops [mv 9, fV 0 2, lS 1 1, oT (.len (.t 2)), oV 12 (.bin .lss .arith (.t 0) (.t 3))]) (.cond (.v 12) .skip (.exit 2))) (.seq (.block 3 (.seq (.ops [fV 0 2, lS 1 0, mv 9, iT 5 1 2, fT 0 3, lT 3 4, fV 3 7, lT 3 6, oV 13 (.bin .eql (.struct [.int, .int, .int]) (.t 5) (.t 7))]) (.cond (.v 13) (.seq (.ops [fV 0 2, lS 1 0, mv 9, iT 5 1 2, lT 5 3, sV 5 4 4, oV 5 (.mov (.c (.bool true)))]) .ret) .skip))) (.ops [mv 9, oT (.bin .add .arith (.t 0) (k6 1)), vt 9 1])))))) (.ops [fV 3 7, lT 3 0, sV 3 3 1]))))) (.ops [mv 6, oT (.bin .add .arith (.t 0) (k6 1)), vt 6 1])))))) (.seq (.ops [oT (.build [z6, z6, z6, nS, nS] []), sV 5 4 0, oV 5 (.mov (.c (.bool false)))]) .ret))), [.c 4 5 true, .v 5], []⟩
def c37 : AFunc := ⟨[0, 1, 2, 3, 4, 5, 6, 8, 9, 10], (.seq (.ops [oV 3 (.box 7 true (.v 0)), oV 4 (.box 3 true (.v 1)), oV 5 (.box 3 true (.v 2)), oV 6 (.mov (.c (.bool false)))]) (.seq (.ops [lV 7 3, lV 3 4, oT (.pcall 57 [(.t 0), (.t 1)]), mt 2, eT 3 0, eT 3 1, oT (.alloc 67 14 true [z6, z6, z6, z6, z6, z6, nS, nS, nS, nS, nS, nS, nS, nS]), sT 14 6 4, vt 7 5]) (.seq (.ops [lV 7 3, lV 3 4, oT (.pcall 36 [(.t 0), (.t 1)]), mt 2, eT 3 0, eT 3 1, oV 8 (.alloc 70 5 true [z6, z6, z6, nS, nS]), sV 5 8 4, vt 9 5]) (.seq (.ops [mv 7, mt 0, oG 1 true (.mov (.v 9)), oT (.pick (.t 1) (.t 2) (.c (.bool false))), mt 3, oG 4 true (.faddr 0 (.v 8)), oG 4 true (.load 3 true (.t 5)), oG 4 true (.load 3 true (.v 5)), oG 4 true (.bin .eql (.struct [.int, .int, .int]) (.t 6) (.t 7)), oT (.pick (.t 4) (.t 8) (.c (.bool false))), vt 6 9]) .ret)))), [.v 6], []⟩
def c50 : AFunc := ⟨[0, 1, 2, 3, 5, 6, 7, 8, 9, 10, 19, 30], (.seq (.ops [oV 3 (.box 7 true (.v 0)), oV 4 (.box 3 true (.v 2)), oV 5 (.mov (.c nS))]) (.seq (.ops [lV 7 3, mv 1, lV 3 4, oT (.pcall 86 [(.t 0), (.t 1), (.t 2)]), oT (.lit 0 3 1 1 false [z6] [(0, (.t 3))]), vt 6 4]) (.seq (.seq (.ops [oV 7 (.mov (k6 0))]) (.block 0 (.loop (.seq (.seq (.ops [mv 7, mv 1, oT (.len (.t 1)), oV 10 (.bin .lss .arith (.t 0) (.t 2))]) (.cond (.v 10) .skip (.exit 0))) (.seq (.block 1 (.seq (.ops [lV 7 3, mv 1, lV 3 4, oT (.pcall 20 [(.t 0), (.t 1), (.t 2)]), mt 3, eT 4 0, eT 4 1, oV 8 (.alloc 62 3 true [z6, z6, z6]), sV 3 8 5, vt 9 6]) (.seq (.seq (.ops [mv 9, oV 11 (.un .not (.t 0))]) (.cond (.v 11) (.seq (.ops [mv 6, vt 5 0]) .ret) .skip)) (.seq (.ops [lV 7 3, mv 1, lV 3 8, oT (.pcall 86 [(.t 0), (.t 1), (.t 2)]), oT (.lit 1 3 1 1 false [z6] [(0, (.t 3))]), mv 6, oT (.append false 3 8 1 false (.t 4) (.t 5)), vt 6 6]) (.ops [lV 3 8, sV 3 4 0]))))) (.ops [mv 7, oT (.bin .add .arith (.t 0) (k6 1)), vt 7 1])))))) (.seq (.ops [mv 6, vt 5 0]) .ret)))), [.v 5], []⟩
def c51 : AFunc := ⟨[0, 2, 3, 5], (.seq (.ops [oV 1 (.mov (.c (.str [])))]) (.seq (.ops [oV 2 (.mov (.c (.str [])))]) (.seq (.block 0 (.loop (.seq (.seq (.ops [mv 0, oV 3 (.bin .gtr .arith (.t 0) (k6 9))]) (.cond (.v 3) .skip (.exit 0))) (.block 1 (.seq (.ops [mv 0, oT (.bin .rem .arith (.t 0) (k6 10)), oT (.bin .add .arith (k6 48) (.t 1)), oT (.toInt .u8 (.t 2)), oT (.lit 0 5 1 1 false [(.int .u8 0)] [(0, (.t 3))]), oT (.x .b2s [(.t 4)]), mv 2, oT (.bin .add .arith (.t 5) (.t 6)), vt 2 7]) (.ops [mv 0, oT (.bin .quo .arith (.t 0) (k6 10)), vt 0 1])))))) (.seq (.ops [mv 0, oT (.bin .add .arith (k6 48) (.t 0)), oT (.toInt .u8 (.t 1)), oT (.lit 0 5 1 1 false [(.int .u8 0)] [(0, (.t 2))]), oT (.x .b2s [(.t 3)]), mv 2, oT (.bin .add .arith (.t 4) (.t 5)), vt 1 6]) .ret)))), [.v 1], []⟩
def c52 : AFunc := ⟨[0, 2, 3, 5], (.seq (.ops [oV 1 (.mov (.c (.str [])))]) (.seq (.ops [oV 2 (.mov (.c (.str [])))]) (.seq (.block 0 (.loop (.seq (.seq (.ops [mv 0, oV 3 (.bin .gtr .arith (.t 0) (k6 0))]) (.cond (.v 3) .skip (.exit 0))) (.block 1 (.seq (.ops [mv 0, oT (.bin .sub .arith (.t 0) (k6 1)), oT (.bin .rem .arith (.t 1) (k6 26)), oT (.bin .add .arith (k6 97) (.t 2)), oT (.toInt .u8 (.t 3)), oT (.lit 0 5 1 1 false [(.int .u8 0)] [(0, (.t 4))]), oT (.x .b2s [(.t 5)]), mv 2, oT (.bin .add .arith (.t 6) (.t 7)), vt 2 8]) (.ops [mv 0, oT (.bin .sub .arith (.t 0) (k6 1)), oT (.bin .quo .arith (.t 1) (k6 26)), vt 0 2])))))) (.seq (.ops [mv 2, vt 1 0]) .ret)))), [.v 1], []⟩
def c53 : AFunc := cV53
def c54 : AFunc := cV54
def c55 : AFunc := cV55
def c56 : AFunc := cV56
def c57 : AFunc := ⟨[0, 1, 2, 3, 4, 5, 6, 11, 21], (.seq (.ops [oV 2 (.box 7 true (.v 0)), oV 3 (.box 3 true (.v 1)), oV 4 (.alloc 67 14 true [z6, z6, z6, z6, z6, z6, nS, nS, nS, nS, nS, nS, nS, nS]), oV 5 (.mov (.c (.bool false)))]) (.seq (.seq (.ops [oV 6 (.mov (k6 0))]) (.block 0 (.loop (.seq (.seq (.ops [mv 6, fV 1 2, lS 1 1, oT (.len (.t 2)), oV 7 (.bin .lss .arith (.t 0) (.t 3))]) (.cond (.v 7) .skip (.exit 0))) (.seq (.block 1 (.seq (.ops [fV 1 2, lS 1 0, mv 6, iT 14 1 2, fT 0 3, lT 3 4, lV 3 3, oV 8 (.bin .eql (.struct [.int, .int, .int]) (.t 5) (.t 6))]) (.cond (.v 8) (.seq (.ops [fV 1 2, lS 1 0, mv 6, iT 14 1 2, lT 14 3, sV 14 4 4, oV 5 (.mov (.c (.bool true)))]) .ret) .skip))) (.ops [mv 6, oT (.bin .add .arith (.t 0) (k6 1)), vt 6 1])))))) (.seq (.ops [oT (.build [z6, z6, z6, z6, z6, z6, nS, nS, nS, nS, nS, nS, nS, nS] []), sV 14 4 0, oV 5 (.mov (.c (.bool false)))]) .ret))), [.c 4 14 true, .v 5], []⟩
def c63 : AFunc := cV63
def c64 : AFunc := cV64
def c65 : AFunc := cV65
def c68 : AFunc := cV68
def c69 : AFunc := ⟨[0, 1, 2, 3, 4, 6, 7, 8, 9, 11, 12, 13, 15, 16, 17, 18, 19, 21, 26, 27, 28, 29, 44, 48, 49, 50, 51, 62, 73, 74, 75, 84, 88, 101, 116, 118], (.seq (.ops [oV 3 (.box 7 true (.v 0)), oV 4 (.box 3 true (.v 1)), oV 5 (.alloc 167 2 true [nS, .nilmp])]) (.seq (.ops [oT (.x (.mkmap (.stk [.int .i64, .int .i64, .int .i64])) []), oT (.build [nS, .nilmp] [(1, 1, (.t 0))]), oV 6 (.alloc 167 2 true [nS, .nilmp]), sV 2 6 1]) (.seq (.ops [oT (.x (.mkmap (.stk [.int .i64, .int .i64, .int .i64])) []), vt 7 0]) (.seq (.ops [oT (.x (.mkmap (.stk [.int .i64, .int .i64, .int .i64])) []), vt 8 0]) (.seq (.seq (.ops [vv 18 2, oV 19 (.len (.v 18)), oV 20 (.mov (k6 0))]) (.block 0 (.loop (.seq (.ops [oV 21 (.bin .lss .arith (.v 20) (.v 19))]) (.seq (.cond (.v 21) .skip (.exit 0)) (.seq (.block 1 (.seq (.ops [oT (.iaddr 3 (.v 18) (.v 20)), lT 3 0, oV 9 (.alloc 62 3 true [z6, z6, z6]), sV 3 9 1]) (.seq (.ops [lV 7 3, lV 3 9, oT (.pcall 17 [(.t 0), (.t 1)]), mt 2, eT 3 0, eT 3 1, oV 10 (.alloc 70 5 true [z6, z6, z6, nS, nS]), sV 5 10 4, vt 11 5]) (.seq (.ops [mv 11, mt 0, oG 1 true (.faddr 0 (.v 10)), oG 1 true (.load 3 true (.t 2)), oG 1 true (.load 3 true (.v 4)), oG 1 true (.bin .eql (.struct [.int, .int, .int]) (.t 3) (.t 4)), oV 22 (.pick (.t 1) (.t 5) (.c (.bool false)))]) (.cond (.v 22) (.ops [mv 8, lV 3 9, oN (.x (.mput (.stk [.int .i64, .int .i64, .int .i64])) [(.t 0), (.t 1), (.c (.bool true))])]) .skip))))) (.ops [oT (.bin .add .arith (.v 20) (k6 1)), vt 20 0]))))))) (.seq (.seq (.ops [vv 23 2, oV 24 (.len (.v 23)), oV 25 (.mov (k6 0))]) (.block 2 (.loop (.seq (.ops [oV 26 (.bin .lss .arith (.v 25) (.v 24))]) (.seq (.cond (.v 26) .skip (.exit 2)) (.seq (.block 3 (.seq (.ops [oT (.iaddr 3 (.v 23) (.v 25)), lT 3 0, oV 12 (.alloc 62 3 true [z6, z6, z6]), sV 3 12 1]) (.seq (.seq (.ops [mv 8, lV 3 12, oT (.x (.mlook (.stk [.int .i64, .int .i64, .int .i64]) (.bool false) false) [(.t 0), (.t 1)]), oT (.un .not (.t 2)), mt 3, oG 4 false (.mov (.v 7)), oG 4 false (.load 3 true (.v 12)), oG 4 false (.x (.mlook (.stk [.int .i64, .int .i64, .int .i64]) (.bool false) false) [(.t 5), (.t 6)]), oV 27 (.pick (.t 4) (.c (.bool true)) (.t 7))]) (.cond (.v 27) (.exit 3) .skip)) (.seq (.ops [mv 7, lV 3 12, oN (.x (.mput (.stk [.int .i64, .int .i64, .int .i64])) [(.t 0), (.t 1), (.c (.bool true))])]) (.seq (.ops [oV 13 (.mov (.c (.bool false)))]) (.seq (.ops [lV 7 3, lV 3 12, oT (.pcall 18 [(.t 0), (.t 1)]), mt 2, eT 3 0, eT 3 1, oV 14 (.alloc 67 14 true [z6, z6, z6, z6, z6, z6, nS, nS, nS, nS, nS, nS, nS, nS]), sV 14 14 4, vt 15 5]) (.seq (.seq (.ops [fV 1 3, lS 1 0, oV 28 (.len (.t 1)), oV 29 (.mov (k6 0))]) (.block 4 (.loop (.seq (.ops [oV 30 (.bin .lss .arith (.v 29) (.v 28))]) (.seq (.cond (.v 30) .skip (.exit 4)) (.seq (.block 5 (.seq (.ops [lV 7 3, fV 3 14, lT 3 1, oT (.pcall 18 [(.t 0), (.t 2)]), mt 3, eT 4 0, eT 4 1, sV 14 14 5, vt 15 6]) (.seq (.seq (.ops [mv 15, oV 31 (.un .not (.t 0))]) (.cond (.v 31) (.exit 4) .skip)) (.seq (.ops [mv 2, fV 0 14, lT 3 1, oV 32 (.pcall 106 [(.t 0), (.t 2)])]) (.cond (.v 32) (.seq (.ops [fV 1 6, lS 1 0, fV 0 14, lT 3 2, lV 3 12, oT (.lit 0 62 1 3 true [z6, z6, z6] [(0, (.t 4))]), oT (.x (.mentry (.stk [.int .i64, .int .i64, .int .i64]) nS) [(.t 1), (.t 3)]), eT 6 0, oT (.append true 62 24 3 true (.t 7) (.t 5)), eT 6 1, oN (.x .mestore [(.t 1), (.t 9), (.t 8)])]) (.seq (.ops [oV 13 (.mov (.c (.bool true)))]) (.exit 4))) .skip))))) (.ops [oT (.bin .add .arith (.v 29) (k6 1)), vt 29 0]))))))) (.seq (.ops [mv 13, oV 33 (.un .not (.t 0))]) (.cond (.v 33) (.ops [fV 0 6, lS 1 0, lV 3 12, oT (.lit 0 62 1 3 true [z6, z6, z6] [(0, (.t 2))]), oT (.append true 62 24 3 true (.t 1) (.t 3)), fV 0 6, sT 1 5 4]) .skip))))))))) (.ops [oT (.bin .add .arith (.v 25) (k6 1)), vt 25 0]))))))) (.seq (.ops [oT (.clo 107 [(.v 3)]), vt 16 0]) (.seq (.ops [fV 0 6, lS 1 0, mv 16, oT (.call (.c (.fn 29 [])) [(.t 1), (.t 2)])]) (.seq (.seq (.ops [fV 1 6, lS 1 0, oV 34 (.x .mrange [(.t 1)])]) (.block 6 (.loop (.seq (.ops [oT (.x .mnext [(.v 34)]), oV 35 (.ext (.t 0) 0)]) (.seq (.cond (.v 35) .skip (.exit 6)) (.block 7 (.seq (.ops [oT (.x .mstep [(.v 34)]), eT 0 1, vt 17 1]) (.ops [mv 17, mv 16, oT (.call (.c (.fn 29 [])) [(.t 0), (.t 1)])])))))))) (.seq (.ops [lV 2 6, sV 2 5 0]) .ret)))))))))), [.c 5 2 true], []⟩
def c70 : AFunc := cV70
def c72 : AFunc := ⟨[0, 2, 3, 4, 7, 12, 48], (.seq (.ops [oV 1 (.alloc 83 7 true [(.str []), z6, z6, z6, z6, z6, z6]), oV 2 (.mov (k6 0))]) (.seq (.seq (.ops [mv 0, oT (.len (.t 0)), oV 4 (.bin .eql .arith (.t 1) (k6 0))]) (.cond (.v 4) (.seq (.ops [oT (.build [(.str []), z6, z6, z6, z6, z6, z6] []), sV 7 1 0, oV 2 (.mov (k6 6))]) .ret) .skip)) (.seq (.seq (.ops [oV 3 (.mov (k6 1))]) (.block 0 (.loop (.seq (.seq (.ops [mv 3, mv 0, oT (.len (.t 1)), oV 5 (.bin .lss .arith (.t 0) (.t 2))]) (.cond (.v 5) .skip (.exit 0))) (.seq (.block 1 (.seq (.ops [mv 0, mv 3, iT 7 0 1, fT 0 2, lS 1 3, mv 0, oT (.iaddr 7 (.t 5) (k6 0)), fT 0 6, lS 1 7, oT (.bin .neq .arith (.t 4) (.t 8)), mt 9, oG 10 false (.mov (.v 0)), oG 10 false (.mov (.v 3)), oG 10 false (.iaddr 7 (.t 11) (.t 12)), oG 10 false (.faddr 1 (.t 13)), oG 10 false (.load 1 false (.t 14)), oG 10 false (.mov (.v 0)), oG 10 false (.iaddr 7 (.t 16) (k6 0)), oG 10 false (.faddr 1 (.t 17)), oG 10 false (.load 1 false (.t 18)), oG 10 false (.bin .neq .arith (.t 15) (.t 19)), oT (.pick (.t 10) (.c (.bool true)) (.t 20)), mt 21, oG 22 false (.mov (.v 0)), oG 22 false (.mov (.v 3)), oG 22 false (.iaddr 7 (.t 23) (.t 24)), oG 22 false (.faddr 2 (.t 25)), oG 22 false (.load 2 true (.t 26)), oG 22 false (.mov (.v 0)), oG 22 false (.iaddr 7 (.t 28) (k6 0)), oG 22 false (.faddr 2 (.t 29)), oG 22 false (.load 2 true (.t 30)), oG 22 false (.bin .neq (.struct [.int, .int]) (.t 27) (.t 31)), oV 6 (.pick (.t 22) (.c (.bool true)) (.t 32))]) (.cond (.v 6) (.seq (.ops [oT (.build [(.str []), z6, z6, z6, z6, z6, z6] []), sV 7 1 0, oV 2 (.mov (k6 15))]) .ret) .skip))) (.ops [mv 3, oT (.bin .add .arith (.t 0) (k6 1)), vt 3 1])))))) (.seq (.ops [mv 0, oT (.iaddr 7 (.t 0) (k6 0)), lT 7 1, sV 7 1 2, oV 2 (.mov (k6 0))]) .ret)))), [.c 1 7 true, .v 2], []⟩
def c75 : AFunc := ⟨[0, 1, 2, 3, 4, 9, 19], (.seq (.ops [oV 2 (.box 3 true (.v 0)), oV 3 (.box 3 true (.v 1)), oV 4 (.mov (.c (.bool false)))]) (.seq (.seq (.ops [fV 0 2, lS 1 0, fV 0 3, lS 1 2, oV 5 (.bin .neq .arith (.t 1) (.t 3))]) (.cond (.v 5) (.seq (.ops [fV 0 2, lS 1 0, fV 0 3, lS 1 2, oT (.bin .lss .arith (.t 1) (.t 3)), vt 4 4]) .ret) .skip)) (.seq (.seq (.ops [fV 1 2, lS 1 0, fV 1 3, lS 1 2, oV 6 (.bin .neq .arith (.t 1) (.t 3))]) (.cond (.v 6) (.seq (.ops [fV 1 2, lS 1 0, fV 1 3, lS 1 2, oT (.bin .lss .arith (.t 1) (.t 3)), vt 4 4]) .ret) .skip)) (.seq (.ops [fV 2 2, lS 1 0, fV 2 3, lS 1 2, oT (.bin .lss .arith (.t 1) (.t 3)), vt 4 4]) .ret)))), [.v 4], []⟩
def c86 : AFunc := ⟨[0, 1, 2, 3, 5, 6, 7, 9, 10, 11, 12, 13, 14, 15, 16, 33, 50, 69, 90], (.seq (.ops [oV 3 (.box 7 true (.v 0)), oV 4 (.box 3 true (.v 2)), oV 5 (.mov (k6 0))]) (.seq (.ops [lV 7 3, lV 3 4, oT (.pcall 36 [(.t 0), (.t 1)]), mt 2, eT 3 0, eT 3 1, oV 6 (.alloc 70 5 true [z6, z6, z6, nS, nS]), sV 5 6 4, mt 5]) (.seq (.ops [lV 7 3, mv 1, lV 3 4, oT (.pcall 20 [(.t 0), (.t 1), (.t 2)]), mt 3, eT 4 0, eT 4 1, oV 7 (.alloc 62 3 true [z6, z6, z6]), sV 3 7 5, vt 8 6]) (.seq (.ops [oV 9 (.mov (k6 1))]) (.seq (.ops [oV 10 (.mov (.c nS))]) (.seq (.seq (.ops [oV 11 (.mov (k6 0))]) (.block 0 (.loop (.seq (.seq (.ops [mv 11, mv 1, oT (.len (.t 1)), oV 15 (.bin .lss .arith (.t 0) (.t 2))]) (.cond (.v 15) .skip (.exit 0))) (.seq (.block 1 (.seq (.ops [mv 1, mv 11, iT 3 0 1, lT 3 2, oV 12 (.alloc 62 3 true [z6, z6, z6]), sV 3 12 3]) (.seq (.seq (.ops [mv 10, lV 3 12, oT (.pcall 19 [(.t 0), (.t 1)]), mt 2, oG 3 false (.load 7 true (.v 3)), oG 3 false (.load 3 true (.v 12)), oG 3 false (.faddr 0 (.v 6)), oG 3 false (.load 3 true (.t 6)), oG 3 false (.pcall 37 [(.t 4), (.t 5), (.t 7)]), oG 3 false (.un .not (.t 8)), oV 16 (.pick (.t 3) (.c (.bool true)) (.t 9))]) (.cond (.v 16) (.exit 1) .skip)) (.seq (.ops [mv 10, lV 3 12, oT (.lit 0 62 1 3 true [z6, z6, z6] [(0, (.t 1))]), oT (.append false 62 24 3 true (.t 0) (.t 2)), vt 10 3]) (.seq (.ops [lV 7 3, mv 1, lV 3 12, oT (.pcall 20 [(.t 0), (.t 1), (.t 2)]), mt 3, eT 4 0, eT 4 1, oV 13 (.alloc 62 3 true [z6, z6, z6]), sV 3 13 5, vt 14 6]) (.seq (.seq (.ops [mv 8, mv 14, oT (.bin .neq .bool (.t 0) (.t 1)), mt 2, oG 3 false (.load 3 true (.v 7)), oG 3 false (.load 3 true (.v 13)), oG 3 false (.bin .neq (.struct [.int, .int, .int]) (.t 4) (.t 5)), oV 17 (.pick (.t 3) (.c (.bool true)) (.t 6))]) (.cond (.v 17) (.exit 1) .skip)) (.seq (.ops [lV 7 3, lV 3 12, oT (.pcall 131 [(.t 0), (.t 1)]), lV 7 3, lV 3 4, oT (.pcall 131 [(.t 3), (.t 4)]), oT (.bin .lss .arith (.t 2) (.t 5)), mt 6, oG 7 false (.load 7 true (.v 3)), oG 7 false (.load 3 true (.v 12)), oG 7 false (.pcall 131 [(.t 8), (.t 9)]), oG 7 false (.load 7 true (.v 3)), oG 7 false (.load 3 true (.v 4)), oG 7 false (.pcall 131 [(.t 11), (.t 12)]), oG 7 false (.bin .eql .arith (.t 10) (.t 13)), oG 7 false (.mov (.t 14)), oG 15 true (.load 3 true (.v 12)), oG 15 true (.load 3 true (.v 4)), oG 15 true (.pcall 75 [(.t 16), (.t 17)]), oG 7 false (.pick (.t 15) (.t 18) (.c (.bool false))), oV 18 (.pick (.t 7) (.c (.bool true)) (.t 19))]) (.cond (.v 18) (.ops [mv 9, oT (.bin .add .arith (.t 0) (k6 1)), vt 9 1]) .skip)))))))) (.ops [mv 11, oT (.bin .add .arith (.t 0) (k6 1)), vt 11 1])))))) (.seq (.ops [mv 9, vt 5 0]) .ret))))))), [.v 5], []⟩
def c93 : AFunc := cV93
def c94 : AFunc := ⟨[0, 1, 2, 3, 8, 9, 10, 11, 12, 21, 33], (.seq (.ops [mv 1, vt 4 0]) (.seq (.ops [oV 5 (.mov (k6 0))]) (.seq (.ops [mv 2, mv 1, oT (.bin .sub .arith (.t 0) (.t 1)), vt 6 2]) (.seq (.seq (.ops [mv 6, oT (.bin .sub .arith (.t 0) (k6 1)), oT (.bin .quo .arith (.t 1) (k6 2)), vt 7 2]) (.block 0 (.loop (.seq (.seq (.ops [mv 7, oV 9 (.bin .geq .arith (.t 0) (k6 0))]) (.cond (.v 9) .skip (.exit 0))) (.seq (.block 1 (.ops [mv 0, mv 7, mv 6, mv 4, mv 3, oT (.call (.c (.fn 136 [])) [(.t 0), (.t 1), (.t 2), (.t 3), (.t 4)])])) (.ops [mv 7, oT (.bin .sub .arith (.t 0) (k6 1)), vt 7 1])))))) (.seq (.ops [mv 6, oT (.bin .sub .arith (.t 0) (k6 1)), vt 8 1]) (.block 2 (.loop (.seq (.seq (.ops [mv 8, oV 10 (.bin .geq .arith (.t 0) (k6 0))]) (.cond (.v 10) .skip (.exit 2))) (.seq (.block 3 (.seq (.ops [mv 0, mv 4, mv 0, mv 4, mv 8, oT (.bin .add .arith (.t 3) (.t 4)), mv 0, mv 4, mv 8, oT (.bin .add .arith (.t 7) (.t 8)), iT 3 6 9, lT 3 10, mv 0, mv 4, iT 3 12 13, lT 3 14, iT 3 0 1, sT 3 16 11, iT 3 2 5, sT 3 18 15]) (.ops [mv 0, mv 5, mv 8, mv 4, mv 3, oT (.call (.c (.fn 136 [])) [(.t 0), (.t 1), (.t 2), (.t 3), (.t 4)])]))) (.ops [mv 8, oT (.bin .sub .arith (.t 0) (k6 1)), vt 8 1])))))))))), [], []⟩
def c95 : AFunc := ⟨[0, 1, 2, 8, 9, 10, 11, 12, 17, 35, 45], (.seq (.ops [mv 2, mv 1, oT (.bin .sub .arith (.t 0) (.t 1)), vt 3 2]) (.seq (.ops [mv 3, oV 8 (.bin .geq .arith (.t 0) (k6 8))]) (.cond (.v 8) (.seq (.ops [mv 3, oT (.toInt .u64 (.t 0)), oV 4 (.alloc 266 1 false [(.int .u64 0)]), sV 1 4 1]) (.seq (.ops [mv 3, oT (.call (.c (.fn 137 [])) [(.t 0)]), vt 5 1]) (.seq (.ops [mv 1, mv 3, oT (.bin .quo .arith (.t 1) (k6 4)), oT (.bin .mul .arith (.t 2) (k6 2)), oT (.bin .add .arith (.t 0) (.t 3)), oT (.bin .sub .arith (.t 4) (k6 1)), vt 6 5]) (.block 0 (.loop (.seq (.seq (.ops [mv 6, mv 1, mv 3, oT (.bin .quo .arith (.t 2) (k6 4)), oT (.bin .mul .arith (.t 3) (k6 2)), oT (.bin .add .arith (.t 1) (.t 4)), oT (.bin .add .arith (.t 5) (k6 1)), oV 9 (.bin .leq .arith (.t 0) (.t 6))]) (.cond (.v 9) .skip (.exit 0))) (.seq (.block 1 (.seq (.ops [oT (.call (.c (.fn 138 [])) [(.v 4)]), mv 5, oT (.bin .sub .arith (.t 1) (.c (.int .u64 1))), oT (.bin .and .arith (.t 0) (.t 2)), oT (.toInt .i64 (.t 3)), vt 7 4]) (.seq (.seq (.ops [mv 7, mv 3, oV 10 (.bin .geq .arith (.t 0) (.t 1))]) (.cond (.v 10) (.ops [mv 7, mv 3, oT (.bin .sub .arith (.t 0) (.t 1)), vt 7 2]) .skip)) (.ops [mv 0, mv 6, mv 0, mv 1, mv 7, oT (.bin .add .arith (.t 3) (.t 4)), mv 0, mv 1, mv 7, oT (.bin .add .arith (.t 7) (.t 8)), iT 3 6 9, lT 3 10, mv 0, mv 6, iT 3 12 13, lT 3 14, iT 3 0 1, sT 3 16 11, iT 3 2 5, sT 3 18 15])))) (.ops [mv 6, oT (.bin .add .arith (.t 0) (k6 1)), vt 6 1])))))))) .skip))), [], []⟩
def c96 : AFunc := ⟨[0, 1, 2, 3, 8, 9, 10, 11, 12, 13, 14, 34, 36, 55, 57, 60], (.seq (.ops [oV 4 (.mov (k6 0)), oV 5 (.mov (k6 0))]) (.seq (.ops [mv 2, mv 1, oT (.bin .sub .arith (.t 0) (.t 1)), vt 6 2]) (.seq (.ops [oV 7 (.alloc 3 1 false [z6])]) (.seq (.ops [mv 1, mv 6, oT (.bin .quo .arith (.t 1) (k6 4)), oT (.bin .mul .arith (.t 2) (k6 1)), oT (.bin .add .arith (.t 0) (.t 3)), vt 8 4]) (.seq (.ops [mv 1, mv 6, oT (.bin .quo .arith (.t 1) (k6 4)), oT (.bin .mul .arith (.t 2) (k6 2)), oT (.bin .add .arith (.t 0) (.t 3)), vt 9 4]) (.seq (.ops [mv 1, mv 6, oT (.bin .quo .arith (.t 1) (k6 4)), oT (.bin .mul .arith (.t 2) (k6 3)), oT (.bin .add .arith (.t 0) (.t 3)), vt 10 4]) (.seq (.seq (.ops [mv 6, oV 11 (.bin .geq .arith (.t 0) (k6 8))]) (.cond (.v 11) (.seq (.seq (.ops [mv 6, oV 12 (.bin .geq .arith (.t 0) (k6 50))]) (.cond (.v 12) (.seq (.ops [mv 0, mv 8, mv 3, oT (.call (.c (.fn 139 [])) [(.t 0), (.t 1), (.v 7), (.t 2)]), vt 8 3]) (.seq (.ops [mv 0, mv 9, mv 3, oT (.call (.c (.fn 139 [])) [(.t 0), (.t 1), (.v 7), (.t 2)]), vt 9 3]) (.ops [mv 0, mv 10, mv 3, oT (.call (.c (.fn 139 [])) [(.t 0), (.t 1), (.v 7), (.t 2)]), vt 10 3]))) .skip)) (.ops [mv 0, mv 8, mv 9, mv 10, mv 3, oT (.call (.c (.fn 140 [])) [(.t 0), (.t 1), (.t 2), (.t 3), (.v 7), (.t 4)]), vt 9 5])) .skip)) (.seq (.ops [oV 13 (.load 1 false (.v 7))]) (.block 0 (.seq (.ops [oT (.bin .eql .arith (.v 13) (k6 0)), vt 14 0]) (.cond (.v 14) (.seq (.ops [mv 9, vt 4 0, oV 5 (.mov (k6 1))]) .ret) (.seq (.ops [oT (.bin .eql .arith (.v 13) (k6 12)), vt 15 0]) (.cond (.v 15) (.seq (.ops [mv 9, vt 4 0, oV 5 (.mov (k6 2))]) .ret) (.seq (.ops [mv 9, vt 4 0, oV 5 (.mov (k6 0))]) .ret)))))))))))))), [.v 4, .v 5], []⟩
def c97 : AFunc := ⟨[0, 1, 2, 8, 9, 15], (.seq (.ops [mv 1, vt 3 0]) (.seq (.ops [mv 2, oT (.bin .sub .arith (.t 0) (k6 1)), vt 4 1]) (.block 0 (.loop (.seq (.seq (.ops [mv 3, mv 4, oV 5 (.bin .lss .arith (.t 0) (.t 1))]) (.cond (.v 5) .skip (.exit 0))) (.block 1 (.seq (.ops [mv 0, mv 3, mv 0, mv 4, mv 0, mv 4, iT 3 4 5, lT 3 6, mv 0, mv 3, iT 3 8 9, lT 3 10, iT 3 0 1, sT 3 12 7, iT 3 2 3, sT 3 14 11]) (.seq (.ops [mv 3, oT (.bin .add .arith (.t 0) (k6 1)), vt 3 1]) (.ops [mv 4, oT (.bin .sub .arith (.t 0) (k6 1)), vt 4 1]))))))))), [], []⟩
def c98 : AFunc := ⟨[0, 1, 2, 3, 8, 9, 10, 11, 12, 16, 36, 41, 45, 65, 69, 84, 104, 109, 124], (.seq (.ops [oV 4 (.mov (.c (.bool false)))]) (.seq (.ops [mv 1, oT (.bin .add .arith (.t 0) (k6 1)), vt 5 1]) (.seq (.seq (.ops [oV 6 (.mov (k6 0))]) (.block 0 (.loop (.seq (.seq (.ops [mv 6, oV 9 (.bin .lss .arith (.t 0) (k6 5))]) (.cond (.v 9) .skip (.exit 0))) (.seq (.block 1 (.seq (.block 2 (.loop (.seq (.seq (.ops [mv 5, mv 2, oT (.bin .lss .arith (.t 0) (.t 1)), mt 2, oG 3 true (.mov (.v 3)), oG 3 true (.mov (.v 0)), oG 3 true (.mov (.v 5)), oG 3 true (.iaddr 3 (.t 5) (.t 6)), oG 3 true (.load 3 true (.t 7)), oG 3 true (.mov (.v 0)), oG 3 true (.mov (.v 5)), oG 3 true (.bin .sub .arith (.t 10) (k6 1)), oG 3 true (.iaddr 3 (.t 9) (.t 11)), oG 3 true (.load 3 true (.t 12)), oG 3 true (.call (.t 4) [(.t 8), (.t 13)]), oG 3 true (.bin .lss .arith (.t 14) (k6 0)), oG 3 true (.un .not (.t 15)), oV 10 (.pick (.t 3) (.t 16) (.c (.bool false)))]) (.cond (.v 10) .skip (.exit 2))) (.block 3 (.ops [mv 5, oT (.bin .add .arith (.t 0) (k6 1)), vt 5 1]))))) (.seq (.seq (.ops [mv 5, mv 2, oV 11 (.bin .eql .arith (.t 0) (.t 1))]) (.cond (.v 11) (.seq (.ops [oV 4 (.mov (.c (.bool true)))]) .ret) .skip)) (.seq (.seq (.ops [mv 2, mv 1, oT (.bin .sub .arith (.t 0) (.t 1)), oV 12 (.bin .lss .arith (.t 2) (k6 50))]) (.cond (.v 12) (.seq (.ops [oV 4 (.mov (.c (.bool false)))]) .ret) .skip)) (.seq (.ops [mv 0, mv 5, mv 0, mv 5, oT (.bin .sub .arith (.t 3) (k6 1)), mv 0, mv 5, oT (.bin .sub .arith (.t 6) (k6 1)), iT 3 5 7, lT 3 8, mv 0, mv 5, iT 3 10 11, lT 3 12, iT 3 0 1, sT 3 14 9, iT 3 2 4, sT 3 16 13]) (.seq (.seq (.ops [mv 5, mv 1, oT (.bin .sub .arith (.t 0) (.t 1)), oV 13 (.bin .geq .arith (.t 2) (k6 2))]) (.cond (.v 13) (.seq (.ops [mv 5, oT (.bin .sub .arith (.t 0) (k6 1)), vt 7 1]) (.block 4 (.loop (.seq (.seq (.ops [mv 7, oV 14 (.bin .geq .arith (.t 0) (k6 1))]) (.cond (.v 14) .skip (.exit 4))) (.seq (.block 5 (.seq (.seq (.ops [mv 3, mv 0, mv 7, iT 3 1 2, lT 3 3, mv 0, mv 7, oT (.bin .sub .arith (.t 6) (k6 1)), iT 3 5 7, lT 3 8, oT (.call (.t 0) [(.t 4), (.t 9)]), oT (.bin .lss .arith (.t 10) (k6 0)), oV 15 (.un .not (.t 11))]) (.cond (.v 15) (.exit 4) .skip)) (.ops [mv 0, mv 7, mv 0, mv 7, oT (.bin .sub .arith (.t 3) (k6 1)), mv 0, mv 7, oT (.bin .sub .arith (.t 6) (k6 1)), iT 3 5 7, lT 3 8, mv 0, mv 7, iT 3 10 11, lT 3 12, iT 3 0 1, sT 3 14 9, iT 3 2 4, sT 3 16 13]))) (.ops [mv 7, oT (.bin .sub .arith (.t 0) (k6 1)), vt 7 1])))))) .skip)) (.seq (.ops [mv 2, mv 5, oT (.bin .sub .arith (.t 0) (.t 1)), oV 16 (.bin .geq .arith (.t 2) (k6 2))]) (.cond (.v 16) (.seq (.ops [mv 5, oT (.bin .add .arith (.t 0) (k6 1)), vt 8 1]) (.block 6 (.loop (.seq (.seq (.ops [mv 8, mv 2, oV 17 (.bin .lss .arith (.t 0) (.t 1))]) (.cond (.v 17) .skip (.exit 6))) (.seq (.block 7 (.seq (.seq (.ops [mv 3, mv 0, mv 8, iT 3 1 2, lT 3 3, mv 0, mv 8, oT (.bin .sub .arith (.t 6) (k6 1)), iT 3 5 7, lT 3 8, oT (.call (.t 0) [(.t 4), (.t 9)]), oT (.bin .lss .arith (.t 10) (k6 0)), oV 18 (.un .not (.t 11))]) (.cond (.v 18) (.exit 6) .skip)) (.ops [mv 0, mv 8, mv 0, mv 8, oT (.bin .sub .arith (.t 3) (k6 1)), mv 0, mv 8, oT (.bin .sub .arith (.t 6) (k6 1)), iT 3 5 7, lT 3 8, mv 0, mv 8, iT 3 10 11, lT 3 12, iT 3 0 1, sT 3 14 9, iT 3 2 4, sT 3 16 13]))) (.ops [mv 8, oT (.bin .add .arith (.t 0) (k6 1)), vt 8 1])))))) .skip)))))))) (.ops [mv 6, oT (.bin .add .arith (.t 0) (k6 1)), vt 6 1])))))) (.seq (.ops [oV 4 (.mov (.c (.bool false)))]) .ret)))), [.v 4], []⟩
def c99 : AFunc := ⟨[0, 1, 2, 3, 4, 10, 11, 12, 47, 65, 70], (.seq (.ops [oV 5 (.mov (k6 0))]) (.seq (.ops [mv 0, mv 1, mv 0, mv 3, mv 0, mv 3, iT 3 4 5, lT 3 6, mv 0, mv 1, iT 3 8 9, lT 3 10, iT 3 0 1, sT 3 12 7, iT 3 2 3, sT 3 14 11]) (.seq (.ops [mv 1, oT (.bin .add .arith (.t 0) (k6 1)), mv 2, oT (.bin .sub .arith (.t 2) (k6 1)), vt 6 1, vt 7 3]) (.seq (.block 0 (.loop (.block 1 (.seq (.block 2 (.loop (.seq (.seq (.ops [mv 6, mv 7, oT (.bin .leq .arith (.t 0) (.t 1)), mt 2, oG 3 true (.mov (.v 4)), oG 3 true (.mov (.v 0)), oG 3 true (.mov (.v 1)), oG 3 true (.iaddr 3 (.t 5) (.t 6)), oG 3 true (.load 3 true (.t 7)), oG 3 true (.mov (.v 0)), oG 3 true (.mov (.v 6)), oG 3 true (.iaddr 3 (.t 9) (.t 10)), oG 3 true (.load 3 true (.t 11)), oG 3 true (.call (.t 4) [(.t 8), (.t 12)]), oG 3 true (.bin .lss .arith (.t 13) (k6 0)), oG 3 true (.un .not (.t 14)), oV 8 (.pick (.t 3) (.t 15) (.c (.bool false)))]) (.cond (.v 8) .skip (.exit 2))) (.block 3 (.ops [mv 6, oT (.bin .add .arith (.t 0) (k6 1)), vt 6 1]))))) (.seq (.block 4 (.loop (.seq (.seq (.ops [mv 6, mv 7, oT (.bin .leq .arith (.t 0) (.t 1)), mt 2, oG 3 true (.mov (.v 4)), oG 3 true (.mov (.v 0)), oG 3 true (.mov (.v 1)), oG 3 true (.iaddr 3 (.t 5) (.t 6)), oG 3 true (.load 3 true (.t 7)), oG 3 true (.mov (.v 0)), oG 3 true (.mov (.v 7)), oG 3 true (.iaddr 3 (.t 9) (.t 10)), oG 3 true (.load 3 true (.t 11)), oG 3 true (.call (.t 4) [(.t 8), (.t 12)]), oG 3 true (.bin .lss .arith (.t 13) (k6 0)), oV 9 (.pick (.t 3) (.t 14) (.c (.bool false)))]) (.cond (.v 9) .skip (.exit 4))) (.block 5 (.ops [mv 7, oT (.bin .sub .arith (.t 0) (k6 1)), vt 7 1]))))) (.seq (.seq (.ops [mv 6, mv 7, oV 10 (.bin .gtr .arith (.t 0) (.t 1))]) (.cond (.v 10) (.exit 0) .skip)) (.seq (.ops [mv 0, mv 6, mv 0, mv 7, mv 0, mv 7, iT 3 4 5, lT 3 6, mv 0, mv 6, iT 3 8 9, lT 3 10, iT 3 0 1, sT 3 12 7, iT 3 2 3, sT 3 14 11]) (.seq (.ops [mv 6, oT (.bin .add .arith (.t 0) (k6 1)), vt 6 1]) (.ops [mv 7, oT (.bin .sub .arith (.t 0) (k6 1)), vt 7 1]))))))))) (.seq (.ops [mv 6, vt 5 0]) .ret))))), [.v 5], []⟩
def c100 : AFunc := ⟨[0, 1, 2, 3, 4, 10, 11, 12, 13, 47, 66, 71, 120, 139, 144], (.seq (.ops [oV 5 (.mov (k6 0)), oV 6 (.mov (.c (.bool false)))]) (.seq (.ops [mv 0, mv 1, mv 0, mv 3, mv 0, mv 3, iT 3 4 5, lT 3 6, mv 0, mv 1, iT 3 8 9, lT 3 10, iT 3 0 1, sT 3 12 7, iT 3 2 3, sT 3 14 11]) (.seq (.ops [mv 1, oT (.bin .add .arith (.t 0) (k6 1)), mv 2, oT (.bin .sub .arith (.t 2) (k6 1)), vt 7 1, vt 8 3]) (.seq (.block 0 (.loop (.seq (.seq (.ops [mv 7, mv 8, oT (.bin .leq .arith (.t 0) (.t 1)), mt 2, oG 3 true (.mov (.v 4)), oG 3 true (.mov (.v 0)), oG 3 true (.mov (.v 7)), oG 3 true (.iaddr 3 (.t 5) (.t 6)), oG 3 true (.load 3 true (.t 7)), oG 3 true (.mov (.v 0)), oG 3 true (.mov (.v 1)), oG 3 true (.iaddr 3 (.t 9) (.t 10)), oG 3 true (.load 3 true (.t 11)), oG 3 true (.call (.t 4) [(.t 8), (.t 12)]), oG 3 true (.bin .lss .arith (.t 13) (k6 0)), oV 9 (.pick (.t 3) (.t 14) (.c (.bool false)))]) (.cond (.v 9) .skip (.exit 0))) (.block 1 (.ops [mv 7, oT (.bin .add .arith (.t 0) (k6 1)), vt 7 1]))))) (.seq (.block 2 (.loop (.seq (.seq (.ops [mv 7, mv 8, oT (.bin .leq .arith (.t 0) (.t 1)), mt 2, oG 3 true (.mov (.v 4)), oG 3 true (.mov (.v 0)), oG 3 true (.mov (.v 8)), oG 3 true (.iaddr 3 (.t 5) (.t 6)), oG 3 true (.load 3 true (.t 7)), oG 3 true (.mov (.v 0)), oG 3 true (.mov (.v 1)), oG 3 true (.iaddr 3 (.t 9) (.t 10)), oG 3 true (.load 3 true (.t 11)), oG 3 true (.call (.t 4) [(.t 8), (.t 12)]), oG 3 true (.bin .lss .arith (.t 13) (k6 0)), oG 3 true (.un .not (.t 14)), oV 10 (.pick (.t 3) (.t 15) (.c (.bool false)))]) (.cond (.v 10) .skip (.exit 2))) (.block 3 (.ops [mv 8, oT (.bin .sub .arith (.t 0) (k6 1)), vt 8 1]))))) (.seq (.seq (.ops [mv 7, mv 8, oV 11 (.bin .gtr .arith (.t 0) (.t 1))]) (.cond (.v 11) (.seq (.ops [mv 0, mv 8, mv 0, mv 1, mv 0, mv 1, iT 3 4 5, lT 3 6, mv 0, mv 8, iT 3 8 9, lT 3 10, iT 3 0 1, sT 3 12 7, iT 3 2 3, sT 3 14 11]) (.seq (.ops [mv 8, vt 5 0, oV 6 (.mov (.c (.bool true)))]) .ret)) .skip)) (.seq (.ops [mv 0, mv 7, mv 0, mv 8, mv 0, mv 8, iT 3 4 5, lT 3 6, mv 0, mv 7, iT 3 8 9, lT 3 10, iT 3 0 1, sT 3 12 7, iT 3 2 3, sT 3 14 11]) (.seq (.ops [mv 7, oT (.bin .add .arith (.t 0) (k6 1)), vt 7 1]) (.seq (.ops [mv 8, oT (.bin .sub .arith (.t 0) (k6 1)), vt 8 1]) (.seq (.block 4 (.loop (.block 5 (.seq (.block 6 (.loop (.seq (.seq (.ops [mv 7, mv 8, oT (.bin .leq .arith (.t 0) (.t 1)), mt 2, oG 3 true (.mov (.v 4)), oG 3 true (.mov (.v 0)), oG 3 true (.mov (.v 7)), oG 3 true (.iaddr 3 (.t 5) (.t 6)), oG 3 true (.load 3 true (.t 7)), oG 3 true (.mov (.v 0)), oG 3 true (.mov (.v 1)), oG 3 true (.iaddr 3 (.t 9) (.t 10)), oG 3 true (.load 3 true (.t 11)), oG 3 true (.call (.t 4) [(.t 8), (.t 12)]), oG 3 true (.bin .lss .arith (.t 13) (k6 0)), oV 12 (.pick (.t 3) (.t 14) (.c (.bool false)))]) (.cond (.v 12) .skip (.exit 6))) (.block 7 (.ops [mv 7, oT (.bin .add .arith (.t 0) (k6 1)), vt 7 1]))))) (.seq (.block 8 (.loop (.seq (.seq (.ops [mv 7, mv 8, oT (.bin .leq .arith (.t 0) (.t 1)), mt 2, oG 3 true (.mov (.v 4)), oG 3 true (.mov (.v 0)), oG 3 true (.mov (.v 8)), oG 3 true (.iaddr 3 (.t 5) (.t 6)), oG 3 true (.load 3 true (.t 7)), oG 3 true (.mov (.v 0)), oG 3 true (.mov (.v 1)), oG 3 true (.iaddr 3 (.t 9) (.t 10)), oG 3 true (.load 3 true (.t 11)), oG 3 true (.call (.t 4) [(.t 8), (.t 12)]), oG 3 true (.bin .lss .arith (.t 13) (k6 0)), oG 3 true (.un .not (.t 14)), oV 13 (.pick (.t 3) (.t 15) (.c (.bool false)))]) (.cond (.v 13) .skip (.exit 8))) (.block 9 (.ops [mv 8, oT (.bin .sub .arith (.t 0) (k6 1)), vt 8 1]))))) (.seq (.seq (.ops [mv 7, mv 8, oV 14 (.bin .gtr .arith (.t 0) (.t 1))]) (.cond (.v 14) (.exit 4) .skip)) (.seq (.ops [mv 0, mv 7, mv 0, mv 8, mv 0, mv 8, iT 3 4 5, lT 3 6, mv 0, mv 7, iT 3 8 9, lT 3 10, iT 3 0 1, sT 3 12 7, iT 3 2 3, sT 3 14 11]) (.seq (.ops [mv 7, oT (.bin .add .arith (.t 0) (k6 1)), vt 7 1]) (.ops [mv 8, oT (.bin .sub .arith (.t 0) (k6 1)), vt 8 1]))))))))) (.seq (.ops [mv 0, mv 8, mv 0, mv 1, mv 0, mv 1, iT 3 4 5, lT 3 6, mv 0, mv 8, iT 3 8 9, lT 3 10, iT 3 0 1, sT 3 12 7, iT 3 2 3, sT 3 14 11]) (.seq (.ops [mv 8, vt 5 0, oV 6 (.mov (.c (.bool false)))]) .ret)))))))))))), [.v 5, .v 6], []⟩
def c101 : AFunc := ⟨[0, 2, 4, 8], (.seq (.ops [oV 1 (.mov (k6 0))]) (.seq (.seq (.ops [mv 0, oV 2 (.bin .geq .arith (.t 0) (.c (.int .u32 65536)))]) (.cond (.v 2) (.seq (.ops [mv 0, oT (.bin .shr .arith (.t 0) (.c (.int .u64 16))), vt 0 1]) (.ops [oV 1 (.mov (k6 16))])) .skip)) (.seq (.seq (.ops [mv 0, oV 3 (.bin .geq .arith (.t 0) (.c (.int .u32 256)))]) (.cond (.v 3) (.seq (.ops [mv 0, oT (.bin .shr .arith (.t 0) (.c (.int .u64 8))), vt 0 1]) (.ops [mv 1, oT (.bin .add .arith (.t 0) (k6 8)), vt 1 1])) .skip)) (.seq (.ops [mv 1, mv 0, oT (.toInt .u8 (.t 1)), oT (.sidx (.c (.str ([0, 1, 2, 2, 3, 3, 3, 3] ++ List.replicate 8 4 ++ List.replicate 16 5 ++ List.replicate 32 6 ++ List.replicate 64 7 ++ List.replicate 128 8))) (.t 2)), oT (.toInt .i64 (.t 3)), oT (.bin .add .arith (.t 0) (.t 4)), vt 1 5]) .ret)))), [.v 1], []⟩
def c102 : AFunc := cV102
def c105 : AFunc := cV105
def c106 : AFunc := cV106
def c107 : AFunc := cV107
def c108 : AFunc := ⟨[0, 1, 2, 3, 4, 5, 7], (.seq (.ops [oV 2 (.box 7 true (.v 0)), oV 3 (.box 3 true (.v 1)), oV 4 (.mov (k6 0))]) (.seq (.ops [lV 7 2, lV 3 3, oT (.pcall 18 [(.t 0), (.t 1)]), mt 2, eT 3 0, eT 3 1, oV 5 (.alloc 67 14 true [z6, z6, z6, z6, z6, z6, nS, nS, nS, nS, nS, nS, nS, nS]), sV 14 5 4, mt 5]) (.seq (.ops [fV 7 5, lS 1 0, oT (.pcall 63 [(.t 1)]), mt 2, eT 3 0, eT 3 1, oV 6 (.alloc 83 7 true [(.str []), z6, z6, z6, z6, z6, z6]), sV 7 6 4, mt 5]) (.seq (.ops [fV 1 6, lS 1 0, vt 4 1]) .ret)))), [.v 4], []⟩
def c109 : AFunc := cV109
def c131 : AFunc := ⟨[0, 1, 2, 3, 4, 5, 7], (.seq (.ops [oV 2 (.box 7 true (.v 0)), oV 3 (.box 3 true (.v 1)), oV 4 (.mov (k6 0))]) (.seq (.ops [lV 7 2, lV 3 3, oT (.pcall 57 [(.t 0), (.t 1)]), mt 2, eT 3 0, eT 3 1, oV 5 (.alloc 67 14 true [z6, z6, z6, z6, z6, z6, nS, nS, nS, nS, nS, nS, nS, nS]), sV 14 5 4, mt 5]) (.seq (.ops [fV 7 5, lS 1 0, oT (.pcall 72 [(.t 1)]), mt 2, eT 3 0, eT 3 1, oV 6 (.alloc 83 7 true [(.str []), z6, z6, z6, z6, z6, z6]), sV 7 6 4, mt 5]) (.seq (.ops [fV 1 6, lS 1 0, vt 4 1]) .ret)))), [.v 4], []⟩
def c136 : AFunc := ⟨[0, 1, 2, 3, 4, 10, 11, 18, 40, 58], (.seq (.ops [mv 1, vt 5 0]) (.block 0 (.loop (.block 1 (.seq (.ops [mv 5, oT (.bin .mul .arith (k6 2) (.t 0)), oT (.bin .add .arith (.t 1) (k6 1)), vt 6 2]) (.seq (.seq (.ops [mv 6, mv 2, oV 7 (.bin .geq .arith (.t 0) (.t 1))]) (.cond (.v 7) (.exit 0) .skip)) (.seq (.seq (.ops [mv 6, oT (.bin .add .arith (.t 0) (k6 1)), mv 2, oT (.bin .lss .arith (.t 1) (.t 2)), mt 3, oG 4 true (.mov (.v 4)), oG 4 true (.mov (.v 0)), oG 4 true (.mov (.v 3)), oG 4 true (.mov (.v 6)), oG 4 true (.bin .add .arith (.t 7) (.t 8)), oG 4 true (.iaddr 3 (.t 6) (.t 9)), oG 4 true (.load 3 true (.t 10)), oG 4 true (.mov (.v 0)), oG 4 true (.mov (.v 3)), oG 4 true (.mov (.v 6)), oG 4 true (.bin .add .arith (.t 13) (.t 14)), oG 4 true (.bin .add .arith (.t 15) (k6 1)), oG 4 true (.iaddr 3 (.t 12) (.t 16)), oG 4 true (.load 3 true (.t 17)), oG 4 true (.call (.t 5) [(.t 11), (.t 18)]), oG 4 true (.bin .lss .arith (.t 19) (k6 0)), oV 8 (.pick (.t 4) (.t 20) (.c (.bool false)))]) (.cond (.v 8) (.ops [mv 6, oT (.bin .add .arith (.t 0) (k6 1)), vt 6 1]) .skip)) (.seq (.seq (.ops [mv 4, mv 0, mv 3, mv 5, oT (.bin .add .arith (.t 2) (.t 3)), iT 3 1 4, lT 3 5, mv 0, mv 3, mv 6, oT (.bin .add .arith (.t 8) (.t 9)), iT 3 7 10, lT 3 11, oT (.call (.t 0) [(.t 6), (.t 12)]), oT (.bin .lss .arith (.t 13) (k6 0)), oV 9 (.un .not (.t 14))]) (.cond (.v 9) .ret .skip)) (.seq (.ops [mv 0, mv 3, mv 5, oT (.bin .add .arith (.t 1) (.t 2)), mv 0, mv 3, mv 6, oT (.bin .add .arith (.t 5) (.t 6)), mv 0, mv 3, mv 6, oT (.bin .add .arith (.t 9) (.t 10)), iT 3 8 11, lT 3 12, mv 0, mv 3, mv 5, oT (.bin .add .arith (.t 15) (.t 16)), iT 3 14 17, lT 3 18, iT 3 0 3, sT 3 20 13, iT 3 4 7, sT 3 22 19]) (.ops [mv 6, vt 5 0])))))))))), [], []⟩
def c137 : AFunc := ⟨[0, 2], (.seq (.ops [oV 1 (.mov (.c (.int .u64 0)))]) (.seq (.ops [mv 0, oT (.toInt .u64 (.t 0)), oT (.call (.c (.fn 65 [])) [(.t 1)]), oT (.bin .shl .arith (.c (.int .u64 1)) (.t 2)), vt 1 3]) .ret)), [.v 1], []⟩
def c138 : AFunc := ⟨[0, 2], (.seq (.ops [oV 1 (.mov (.c (.int .u64 0)))]) (.seq (.ops [mv 0, oT (.nilc (.t 0)), lS 1 1, mv 0, oT (.nilc (.t 3)), lS 1 4, oT (.bin .shl .arith (.t 5) (.c (.int .u64 13))), oT (.bin .xor .arith (.t 2) (.t 6)), oT (.nilc (.t 0)), sT 1 8 7]) (.seq (.ops [mv 0, oT (.nilc (.t 0)), lS 1 1, mv 0, oT (.nilc (.t 3)), lS 1 4, oT (.bin .shr .arith (.t 5) (.c (.int .u64 7))), oT (.bin .xor .arith (.t 2) (.t 6)), oT (.nilc (.t 0)), sT 1 8 7]) (.seq (.ops [mv 0, oT (.nilc (.t 0)), lS 1 1, mv 0, oT (.nilc (.t 3)), lS 1 4, oT (.bin .shl .arith (.t 5) (.c (.int .u64 17))), oT (.bin .xor .arith (.t 2) (.t 6)), oT (.nilc (.t 0)), sT 1 8 7]) (.seq (.ops [mv 0, oT (.nilc (.t 0)), lS 1 1, vt 1 2]) .ret))))), [.v 1], []⟩
def c139 : AFunc := ⟨[0, 1, 2, 3, 8], (.seq (.ops [oV 4 (.mov (k6 0))]) (.seq (.ops [mv 0, mv 1, oT (.bin .sub .arith (.t 1) (k6 1)), mv 1, mv 1, oT (.bin .add .arith (.t 4) (k6 1)), mv 2, mv 3, oT (.call (.c (.fn 140 [])) [(.t 0), (.t 2), (.t 3), (.t 5), (.t 6), (.t 7)]), vt 4 8]) .ret)), [.v 4], []⟩
def c140 : AFunc := ⟨[0, 1, 2, 3, 4, 5, 12], (.seq (.ops [oV 6 (.mov (k6 0))]) (.seq (.ops [mv 0, mv 1, mv 2, mv 4, mv 5, oT (.call (.c (.fn 173 [])) [(.t 0), (.t 1), (.t 2), (.t 3), (.t 4)]), mt 5, eT 6 0, eT 6 1, vt 1 7, vt 2 8]) (.seq (.ops [mv 0, mv 2, mv 3, mv 4, mv 5, oT (.call (.c (.fn 173 [])) [(.t 0), (.t 1), (.t 2), (.t 3), (.t 4)]), mt 5, eT 6 0, eT 6 1, vt 2 7, vt 3 8]) (.seq (.ops [mv 0, mv 1, mv 2, mv 4, mv 5, oT (.call (.c (.fn 173 [])) [(.t 0), (.t 1), (.t 2), (.t 3), (.t 4)]), mt 5, eT 6 0, eT 6 1, vt 1 7, vt 2 8]) (.seq (.ops [mv 2, vt 6 0]) .ret))))), [.v 6], []⟩
def c142 : AFunc := cV142
def c143 : AFunc := cV143
def c173 : AFunc := ⟨[0, 1, 2, 3, 4, 10, 11, 22], (.seq (.ops [oV 5 (.mov (k6 0)), oV 6 (.mov (k6 0))]) (.seq (.seq (.ops [mv 4, mv 0, mv 2, iT 3 1 2, lT 3 3, mv 0, mv 1, iT 3 5 6, lT 3 7, oT (.call (.t 0) [(.t 4), (.t 8)]), oV 7 (.bin .lss .arith (.t 9) (k6 0))]) (.cond (.v 7) (.seq (.ops [mv 3, oT (.nilc (.t 0)), lS 1 1, oT (.bin .add .arith (.t 2) (k6 1)), oT (.nilc (.t 0)), sT 1 4 3]) (.seq (.ops [mv 2, mv 1, vt 5 0, vt 6 1]) .ret)) .skip)) (.seq (.ops [mv 1, mv 2, vt 5 0, vt 6 1]) .ret))), [.v 5, .v 6], []⟩
def c178 : AFunc := cV178
def c213 : AFunc := cV213
def c250 : AFunc := cV250
def c251 : AFunc := ⟨[0, 2, 3], (.seq (.ops [oV 1 (.mov (k6 0))]) (.seq (.ops [mv 0, oT (.call (.c (.fn 102 [])) [(.t 0)]), oT (.call (.c (.fn 274 [])) [(.t 1)]), vt 2 2]) (.seq .refuse .ret))), [.v 1], []⟩
def c252 : AFunc := ⟨[0, 1, 4, 5, 6, 7, 8, 9, 10, 11, 12, 13, 14, 15, 16, 20, 99, 139, 161], (.seq (.ops [mv 0, oT (.len (.t 0)), vt 2 1]) (.seq (.block 0 (.loop (.seq (.seq (.ops [mv 2, oV 15 (.bin .geq .arith (.t 0) (k6 8))]) (.cond (.v 15) .skip (.exit 0))) (.block 1 (.seq (.ops [mv 1, oT (.bin .rem .arith (.t 0) (.c (.int .u64 100000000))), oT (.toInt .u32 (.t 1)), vt 3 2]) (.seq (.ops [mv 1, oT (.bin .quo .arith (.t 0) (.c (.int .u64 100000000))), vt 1 1]) (.seq (.ops [mv 3, oT (.bin .quo .arith (.t 0) (.c (.int .u32 10000))), mv 3, oT (.bin .rem .arith (.t 2) (.c (.int .u32 10000))), vt 4 1, vt 5 3]) (.seq (.ops [mv 5, oT (.bin .quo .arith (.t 0) (.c (.int .u32 100))), oT (.bin .mul .arith (.t 1) (.c (.int .u32 2))), mv 5, oT (.bin .rem .arith (.t 3) (.c (.int .u32 100))), oT (.bin .mul .arith (.t 4) (.c (.int .u32 2))), vt 6 2, vt 7 5]) (.seq (.ops [mv 4, oT (.bin .quo .arith (.t 0) (.c (.int .u32 100))), oT (.bin .mul .arith (.t 1) (.c (.int .u32 2))), mv 4, oT (.bin .rem .arith (.t 3) (.c (.int .u32 100))), oT (.bin .mul .arith (.t 4) (.c (.int .u32 2))), vt 8 2, vt 9 5]) (.seq (.ops [mv 0, mv 2, oT (.bin .sub .arith (.t 1) (k6 1)), mv 0, mv 2, oT (.bin .sub .arith (.t 4) (k6 2)), mv 7, oT (.bin .add .arith (.t 6) (.c (.int .u32 1))), oT (.sidx (.c (.str [48, 48, 48, 49, 48, 50, 48, 51, 48, 52, 48, 53, 48, 54, 48, 55, 48, 56, 48, 57, 49, 48, 49, 49, 49, 50, 49, 51, 49, 52, 49, 53, 49, 54, 49, 55, 49, 56, 49, 57, 50, 48, 50, 49, 50, 50, 50, 51, 50, 52, 50, 53, 50, 54, 50, 55, 50, 56, 50, 57, 51, 48, 51, 49, 51, 50, 51, 51, 51, 52, 51, 53, 51, 54, 51, 55, 51, 56, 51, 57, 52, 48, 52, 49, 52, 50, 52, 51, 52, 52, 52, 53, 52, 54, 52, 55, 52, 56, 52, 57, 53, 48, 53, 49, 53, 50, 53, 51, 53, 52, 53, 53, 53, 54, 53, 55, 53, 56, 53, 57, 54, 48, 54, 49, 54, 50, 54, 51, 54, 52, 54, 53, 54, 54, 54, 55, 54, 56, 54, 57, 55, 48, 55, 49, 55, 50, 55, 51, 55, 52, 55, 53, 55, 54, 55, 55, 55, 56, 55, 57, 56, 48, 56, 49, 56, 50, 56, 51, 56, 52, 56, 53, 56, 54, 56, 55, 56, 56, 56, 57, 57, 48, 57, 49, 57, 50, 57, 51, 57, 52, 57, 53, 57, 54, 57, 55, 57, 56, 57, 57])) (.t 7)), mv 7, oT (.sidx (.c (.str [48, 48, 48, 49, 48, 50, 48, 51, 48, 52, 48, 53, 48, 54, 48, 55, 48, 56, 48, 57, 49, 48, 49, 49, 49, 50, 49, 51, 49, 52, 49, 53, 49, 54, 49, 55, 49, 56, 49, 57, 50, 48, 50, 49, 50, 50, 50, 51, 50, 52, 50, 53, 50, 54, 50, 55, 50, 56, 50, 57, 51, 48, 51, 49, 51, 50, 51, 51, 51, 52, 51, 53, 51, 54, 51, 55, 51, 56, 51, 57, 52, 48, 52, 49, 52, 50, 52, 51, 52, 52, 52, 53, 52, 54, 52, 55, 52, 56, 52, 57, 53, 48, 53, 49, 53, 50, 53, 51, 53, 52, 53, 53, 53, 54, 53, 55, 53, 56, 53, 57, 54, 48, 54, 49, 54, 50, 54, 51, 54, 52, 54, 53, 54, 54, 54, 55, 54, 56, 54, 57, 55, 48, 55, 49, 55, 50, 55, 51, 55, 52, 55, 53, 55, 54, 55, 55, 55, 56, 55, 57, 56, 48, 56, 49, 56, 50, 56, 51, 56, 52, 56, 53, 56, 54, 56, 55, 56, 56, 56, 57, 57, 48, 57, 49, 57, 50, 57, 51, 57, 52, 57, 53, 57, 54, 57, 55, 57, 56, 57, 57])) (.t 9)), iT 1 0 2, sT 1 11 8, iT 1 3 5, sT 1 13 10]) (.seq (.ops [mv 0, mv 2, oT (.bin .sub .arith (.t 1) (k6 3)), mv 0, mv 2, oT (.bin .sub .arith (.t 4) (k6 4)), mv 6, oT (.bin .add .arith (.t 6) (.c (.int .u32 1))), oT (.sidx (.c (.str [48, 48, 48, 49, 48, 50, 48, 51, 48, 52, 48, 53, 48, 54, 48, 55, 48, 56, 48, 57, 49, 48, 49, 49, 49, 50, 49, 51, 49, 52, 49, 53, 49, 54, 49, 55, 49, 56, 49, 57, 50, 48, 50, 49, 50, 50, 50, 51, 50, 52, 50, 53, 50, 54, 50, 55, 50, 56, 50, 57, 51, 48, 51, 49, 51, 50, 51, 51, 51, 52, 51, 53, 51, 54, 51, 55, 51, 56, 51, 57, 52, 48, 52, 49, 52, 50, 52, 51, 52, 52, 52, 53, 52, 54, 52, 55, 52, 56, 52, 57, 53, 48, 53, 49, 53, 50, 53, 51, 53, 52, 53, 53, 53, 54, 53, 55, 53, 56, 53, 57, 54, 48, 54, 49, 54, 50, 54, 51, 54, 52, 54, 53, 54, 54, 54, 55, 54, 56, 54, 57, 55, 48, 55, 49, 55, 50, 55, 51, 55, 52, 55, 53, 55, 54, 55, 55, 55, 56, 55, 57, 56, 48, 56, 49, 56, 50, 56, 51, 56, 52, 56, 53, 56, 54, 56, 55, 56, 56, 56, 57, 57, 48, 57, 49, 57, 50, 57, 51, 57, 52, 57, 53, 57, 54, 57, 55, 57, 56, 57, 57])) (.t 7)), mv 6, oT (.sidx (.c (.str [48, 48, 48, 49, 48, 50, 48, 51, 48, 52, 48, 53, 48, 54, 48, 55, 48, 56, 48, 57, 49, 48, 49, 49, 49, 50, 49, 51, 49, 52, 49, 53, 49, 54, 49, 55, 49, 56, 49, 57, 50, 48, 50, 49, 50, 50, 50, 51, 50, 52, 50, 53, 50, 54, 50, 55, 50, 56, 50, 57, 51, 48, 51, 49, 51, 50, 51, 51, 51, 52, 51, 53, 51, 54, 51, 55, 51, 56, 51, 57, 52, 48, 52, 49, 52, 50, 52, 51, 52, 52, 52, 53, 52, 54, 52, 55, 52, 56, 52, 57, 53, 48, 53, 49, 53, 50, 53, 51, 53, 52, 53, 53, 53, 54, 53, 55, 53, 56, 53, 57, 54, 48, 54, 49, 54, 50, 54, 51, 54, 52, 54, 53, 54, 54, 54, 55, 54, 56, 54, 57, 55, 48, 55, 49, 55, 50, 55, 51, 55, 52, 55, 53, 55, 54, 55, 55, 55, 56, 55, 57, 56, 48, 56, 49, 56, 50, 56, 51, 56, 52, 56, 53, 56, 54, 56, 55, 56, 56, 56, 57, 57, 48, 57, 49, 57, 50, 57, 51, 57, 52, 57, 53, 57, 54, 57, 55, 57, 56, 57, 57])) (.t 9)), iT 1 0 2, sT 1 11 8, iT 1 3 5, sT 1 13 10]) (.seq (.ops [mv 0, mv 2, oT (.bin .sub .arith (.t 1) (k6 5)), mv 0, mv 2, oT (.bin .sub .arith (.t 4) (k6 6)), mv 9, oT (.bin .add .arith (.t 6) (.c (.int .u32 1))), oT (.sidx (.c (.str [48, 48, 48, 49, 48, 50, 48, 51, 48, 52, 48, 53, 48, 54, 48, 55, 48, 56, 48, 57, 49, 48, 49, 49, 49, 50, 49, 51, 49, 52, 49, 53, 49, 54, 49, 55, 49, 56, 49, 57, 50, 48, 50, 49, 50, 50, 50, 51, 50, 52, 50, 53, 50, 54, 50, 55, 50, 56, 50, 57, 51, 48, 51, 49, 51, 50, 51, 51, 51, 52, 51, 53, 51, 54, 51, 55, 51, 56, 51, 57, 52, 48, 52, 49, 52, 50, 52, 51, 52, 52, 52, 53, 52, 54, 52, 55, 52, 56, 52, 57, 53, 48, 53, 49, 53, 50, 53, 51, 53, 52, 53, 53, 53, 54, 53, 55, 53, 56, 53, 57, 54, 48, 54, 49, 54, 50, 54, 51, 54, 52, 54, 53, 54, 54, 54, 55, 54, 56, 54, 57, 55, 48, 55, 49, 55, 50, 55, 51, 55, 52, 55, 53, 55, 54, 55, 55, 55, 56, 55, 57, 56, 48, 56, 49, 56, 50, 56, 51, 56, 52, 56, 53, 56, 54, 56, 55, 56, 56, 56, 57, 57, 48, 57, 49, 57, 50, 57, 51, 57, 52, 57, 53, 57, 54, 57, 55, 57, 56, 57, 57])) (.t 7)), mv 9, oT (.sidx (.c (.str [48, 48, 48, 49, 48, 50, 48, 51, 48, 52, 48, 53, 48, 54, 48, 55, 48, 56, 48, 57, 49, 48, 49, 49, 49, 50, 49, 51, 49, 52, 49, 53, 49, 54, 49, 55, 49, 56, 49, 57, 50, 48, 50, 49, 50, 50, 50, 51, 50, 52, 50, 53, 50, 54, 50, 55, 50, 56, 50, 57, 51, 48, 51, 49, 51, 50, 51, 51, 51, 52, 51, 53, 51, 54, 51, 55, 51, 56, 51, 57, 52, 48, 52, 49, 52, 50, 52, 51, 52, 52, 52, 53, 52, 54, 52, 55, 52, 56, 52, 57, 53, 48, 53, 49, 53, 50, 53, 51, 53, 52, 53, 53, 53, 54, 53, 55, 53, 56, 53, 57, 54, 48, 54, 49, 54, 50, 54, 51, 54, 52, 54, 53, 54, 54, 54, 55, 54, 56, 54, 57, 55, 48, 55, 49, 55, 50, 55, 51, 55, 52, 55, 53, 55, 54, 55, 55, 55, 56, 55, 57, 56, 48, 56, 49, 56, 50, 56, 51, 56, 52, 56, 53, 56, 54, 56, 55, 56, 56, 56, 57, 57, 48, 57, 49, 57, 50, 57, 51, 57, 52, 57, 53, 57, 54, 57, 55, 57, 56, 57, 57])) (.t 9)), iT 1 0 2, sT 1 11 8, iT 1 3 5, sT 1 13 10]) (.seq (.ops [mv 0, mv 2, oT (.bin .sub .arith (.t 1) (k6 7)), mv 0, mv 2, oT (.bin .sub .arith (.t 4) (k6 8)), mv 8, oT (.bin .add .arith (.t 6) (.c (.int .u32 1))), oT (.sidx (.c (.str [48, 48, 48, 49, 48, 50, 48, 51, 48, 52, 48, 53, 48, 54, 48, 55, 48, 56, 48, 57, 49, 48, 49, 49, 49, 50, 49, 51, 49, 52, 49, 53, 49, 54, 49, 55, 49, 56, 49, 57, 50, 48, 50, 49, 50, 50, 50, 51, 50, 52, 50, 53, 50, 54, 50, 55, 50, 56, 50, 57, 51, 48, 51, 49, 51, 50, 51, 51, 51, 52, 51, 53, 51, 54, 51, 55, 51, 56, 51, 57, 52, 48, 52, 49, 52, 50, 52, 51, 52, 52, 52, 53, 52, 54, 52, 55, 52, 56, 52, 57, 53, 48, 53, 49, 53, 50, 53, 51, 53, 52, 53, 53, 53, 54, 53, 55, 53, 56, 53, 57, 54, 48, 54, 49, 54, 50, 54, 51, 54, 52, 54, 53, 54, 54, 54, 55, 54, 56, 54, 57, 55, 48, 55, 49, 55, 50, 55, 51, 55, 52, 55, 53, 55, 54, 55, 55, 55, 56, 55, 57, 56, 48, 56, 49, 56, 50, 56, 51, 56, 52, 56, 53, 56, 54, 56, 55, 56, 56, 56, 57, 57, 48, 57, 49, 57, 50, 57, 51, 57, 52, 57, 53, 57, 54, 57, 55, 57, 56, 57, 57])) (.t 7)), mv 8, oT (.sidx (.c (.str [48, 48, 48, 49, 48, 50, 48, 51, 48, 52, 48, 53, 48, 54, 48, 55, 48, 56, 48, 57, 49, 48, 49, 49, 49, 50, 49, 51, 49, 52, 49, 53, 49, 54, 49, 55, 49, 56, 49, 57, 50, 48, 50, 49, 50, 50, 50, 51, 50, 52, 50, 53, 50, 54, 50, 55, 50, 56, 50, 57, 51, 48, 51, 49, 51, 50, 51, 51, 51, 52, 51, 53, 51, 54, 51, 55, 51, 56, 51, 57, 52, 48, 52, 49, 52, 50, 52, 51, 52, 52, 52, 53, 52, 54, 52, 55, 52, 56, 52, 57, 53, 48, 53, 49, 53, 50, 53, 51, 53, 52, 53, 53, 53, 54, 53, 55, 53, 56, 53, 57, 54, 48, 54, 49, 54, 50, 54, 51, 54, 52, 54, 53, 54, 54, 54, 55, 54, 56, 54, 57, 55, 48, 55, 49, 55, 50, 55, 51, 55, 52, 55, 53, 55, 54, 55, 55, 55, 56, 55, 57, 56, 48, 56, 49, 56, 50, 56, 51, 56, 52, 56, 53, 56, 54, 56, 55, 56, 56, 56, 57, 57, 48, 57, 49, 57, 50, 57, 51, 57, 52, 57, 53, 57, 54, 57, 55, 57, 56, 57, 57])) (.t 9)), iT 1 0 2, sT 1 11 8, iT 1 3 5, sT 1 13 10]) (.ops [mv 2, oT (.bin .sub .arith (.t 0) (k6 8)), vt 2 1])))))))))))))) (.seq (.ops [mv 1, oT (.toInt .u32 (.t 0)), vt 10 1]) (.seq (.seq (.ops [mv 2, oV 16 (.bin .geq .arith (.t 0) (k6 4))]) (.cond (.v 16) (.seq (.ops [mv 10, oT (.bin .rem .arith (.t 0) (.c (.int .u32 10000))), vt 11 1]) (.seq (.ops [mv 10, oT (.bin .quo .arith (.t 0) (.c (.int .u32 10000))), vt 10 1]) (.seq (.ops [mv 11, oT (.bin .quo .arith (.t 0) (.c (.int .u32 100))), oT (.bin .mul .arith (.t 1) (.c (.int .u32 2))), mv 11, oT (.bin .rem .arith (.t 3) (.c (.int .u32 100))), oT (.bin .mul .arith (.t 4) (.c (.int .u32 2))), vt 12 2, vt 13 5]) (.seq (.ops [mv 0, mv 2, oT (.bin .sub .arith (.t 1) (k6 1)), mv 0, mv 2, oT (.bin .sub .arith (.t 4) (k6 2)), mv 13, oT (.bin .add .arith (.t 6) (.c (.int .u32 1))), oT (.sidx (.c (.str [48, 48, 48, 49, 48, 50, 48, 51, 48, 52, 48, 53, 48, 54, 48, 55, 48, 56, 48, 57, 49, 48, 49, 49, 49, 50, 49, 51, 49, 52, 49, 53, 49, 54, 49, 55, 49, 56, 49, 57, 50, 48, 50, 49, 50, 50, 50, 51, 50, 52, 50, 53, 50, 54, 50, 55, 50, 56, 50, 57, 51, 48, 51, 49, 51, 50, 51, 51, 51, 52, 51, 53, 51, 54, 51, 55, 51, 56, 51, 57, 52, 48, 52, 49, 52, 50, 52, 51, 52, 52, 52, 53, 52, 54, 52, 55, 52, 56, 52, 57, 53, 48, 53, 49, 53, 50, 53, 51, 53, 52, 53, 53, 53, 54, 53, 55, 53, 56, 53, 57, 54, 48, 54, 49, 54, 50, 54, 51, 54, 52, 54, 53, 54, 54, 54, 55, 54, 56, 54, 57, 55, 48, 55, 49, 55, 50, 55, 51, 55, 52, 55, 53, 55, 54, 55, 55, 55, 56, 55, 57, 56, 48, 56, 49, 56, 50, 56, 51, 56, 52, 56, 53, 56, 54, 56, 55, 56, 56, 56, 57, 57, 48, 57, 49, 57, 50, 57, 51, 57, 52, 57, 53, 57, 54, 57, 55, 57, 56, 57, 57])) (.t 7)), mv 13, oT (.sidx (.c (.str [48, 48, 48, 49, 48, 50, 48, 51, 48, 52, 48, 53, 48, 54, 48, 55, 48, 56, 48, 57, 49, 48, 49, 49, 49, 50, 49, 51, 49, 52, 49, 53, 49, 54, 49, 55, 49, 56, 49, 57, 50, 48, 50, 49, 50, 50, 50, 51, 50, 52, 50, 53, 50, 54, 50, 55, 50, 56, 50, 57, 51, 48, 51, 49, 51, 50, 51, 51, 51, 52, 51, 53, 51, 54, 51, 55, 51, 56, 51, 57, 52, 48, 52, 49, 52, 50, 52, 51, 52, 52, 52, 53, 52, 54, 52, 55, 52, 56, 52, 57, 53, 48, 53, 49, 53, 50, 53, 51, 53, 52, 53, 53, 53, 54, 53, 55, 53, 56, 53, 57, 54, 48, 54, 49, 54, 50, 54, 51, 54, 52, 54, 53, 54, 54, 54, 55, 54, 56, 54, 57, 55, 48, 55, 49, 55, 50, 55, 51, 55, 52, 55, 53, 55, 54, 55, 55, 55, 56, 55, 57, 56, 48, 56, 49, 56, 50, 56, 51, 56, 52, 56, 53, 56, 54, 56, 55, 56, 56, 56, 57, 57, 48, 57, 49, 57, 50, 57, 51, 57, 52, 57, 53, 57, 54, 57, 55, 57, 56, 57, 57])) (.t 9)), iT 1 0 2, sT 1 11 8, iT 1 3 5, sT 1 13 10]) (.seq (.ops [mv 0, mv 2, oT (.bin .sub .arith (.t 1) (k6 3)), mv 0, mv 2, oT (.bin .sub .arith (.t 4) (k6 4)), mv 12, oT (.bin .add .arith (.t 6) (.c (.int .u32 1))), oT (.sidx (.c (.str [48, 48, 48, 49, 48, 50, 48, 51, 48, 52, 48, 53, 48, 54, 48, 55, 48, 56, 48, 57, 49, 48, 49, 49, 49, 50, 49, 51, 49, 52, 49, 53, 49, 54, 49, 55, 49, 56, 49, 57, 50, 48, 50, 49, 50, 50, 50, 51, 50, 52, 50, 53, 50, 54, 50, 55, 50, 56, 50, 57, 51, 48, 51, 49, 51, 50, 51, 51, 51, 52, 51, 53, 51, 54, 51, 55, 51, 56, 51, 57, 52, 48, 52, 49, 52, 50, 52, 51, 52, 52, 52, 53, 52, 54, 52, 55, 52, 56, 52, 57, 53, 48, 53, 49, 53, 50, 53, 51, 53, 52, 53, 53, 53, 54, 53, 55, 53, 56, 53, 57, 54, 48, 54, 49, 54, 50, 54, 51, 54, 52, 54, 53, 54, 54, 54, 55, 54, 56, 54, 57, 55, 48, 55, 49, 55, 50, 55, 51, 55, 52, 55, 53, 55, 54, 55, 55, 55, 56, 55, 57, 56, 48, 56, 49, 56, 50, 56, 51, 56, 52, 56, 53, 56, 54, 56, 55, 56, 56, 56, 57, 57, 48, 57, 49, 57, 50, 57, 51, 57, 52, 57, 53, 57, 54, 57, 55, 57, 56, 57, 57])) (.t 7)), mv 12, oT (.sidx (.c (.str [48, 48, 48, 49, 48, 50, 48, 51, 48, 52, 48, 53, 48, 54, 48, 55, 48, 56, 48, 57, 49, 48, 49, 49, 49, 50, 49, 51, 49, 52, 49, 53, 49, 54, 49, 55, 49, 56, 49, 57, 50, 48, 50, 49, 50, 50, 50, 51, 50, 52, 50, 53, 50, 54, 50, 55, 50, 56, 50, 57, 51, 48, 51, 49, 51, 50, 51, 51, 51, 52, 51, 53, 51, 54, 51, 55, 51, 56, 51, 57, 52, 48, 52, 49, 52, 50, 52, 51, 52, 52, 52, 53, 52, 54, 52, 55, 52, 56, 52, 57, 53, 48, 53, 49, 53, 50, 53, 51, 53, 52, 53, 53, 53, 54, 53, 55, 53, 56, 53, 57, 54, 48, 54, 49, 54, 50, 54, 51, 54, 52, 54, 53, 54, 54, 54, 55, 54, 56, 54, 57, 55, 48, 55, 49, 55, 50, 55, 51, 55, 52, 55, 53, 55, 54, 55, 55, 55, 56, 55, 57, 56, 48, 56, 49, 56, 50, 56, 51, 56, 52, 56, 53, 56, 54, 56, 55, 56, 56, 56, 57, 57, 48, 57, 49, 57, 50, 57, 51, 57, 52, 57, 53, 57, 54, 57, 55, 57, 56, 57, 57])) (.t 9)), iT 1 0 2, sT 1 11 8, iT 1 3 5, sT 1 13 10]) (.ops [mv 2, oT (.bin .sub .arith (.t 0) (k6 4)), vt 2 1])))))) .skip)) (.seq (.seq (.ops [mv 2, oV 17 (.bin .geq .arith (.t 0) (k6 2))]) (.cond (.v 17) (.seq (.ops [mv 10, oT (.bin .rem .arith (.t 0) (.c (.int .u32 100))), oT (.bin .mul .arith (.t 1) (.c (.int .u32 2))), vt 14 2]) (.seq (.ops [mv 10, oT (.bin .quo .arith (.t 0) (.c (.int .u32 100))), vt 10 1]) (.seq (.ops [mv 0, mv 2, oT (.bin .sub .arith (.t 1) (k6 1)), mv 0, mv 2, oT (.bin .sub .arith (.t 4) (k6 2)), mv 14, oT (.bin .add .arith (.t 6) (.c (.int .u32 1))), oT (.sidx (.c (.str [48, 48, 48, 49, 48, 50, 48, 51, 48, 52, 48, 53, 48, 54, 48, 55, 48, 56, 48, 57, 49, 48, 49, 49, 49, 50, 49, 51, 49, 52, 49, 53, 49, 54, 49, 55, 49, 56, 49, 57, 50, 48, 50, 49, 50, 50, 50, 51, 50, 52, 50, 53, 50, 54, 50, 55, 50, 56, 50, 57, 51, 48, 51, 49, 51, 50, 51, 51, 51, 52, 51, 53, 51, 54, 51, 55, 51, 56, 51, 57, 52, 48, 52, 49, 52, 50, 52, 51, 52, 52, 52, 53, 52, 54, 52, 55, 52, 56, 52, 57, 53, 48, 53, 49, 53, 50, 53, 51, 53, 52, 53, 53, 53, 54, 53, 55, 53, 56, 53, 57, 54, 48, 54, 49, 54, 50, 54, 51, 54, 52, 54, 53, 54, 54, 54, 55, 54, 56, 54, 57, 55, 48, 55, 49, 55, 50, 55, 51, 55, 52, 55, 53, 55, 54, 55, 55, 55, 56, 55, 57, 56, 48, 56, 49, 56, 50, 56, 51, 56, 52, 56, 53, 56, 54, 56, 55, 56, 56, 56, 57, 57, 48, 57, 49, 57, 50, 57, 51, 57, 52, 57, 53, 57, 54, 57, 55, 57, 56, 57, 57])) (.t 7)), mv 14, oT (.sidx (.c (.str [48, 48, 48, 49, 48, 50, 48, 51, 48, 52, 48, 53, 48, 54, 48, 55, 48, 56, 48, 57, 49, 48, 49, 49, 49, 50, 49, 51, 49, 52, 49, 53, 49, 54, 49, 55, 49, 56, 49, 57, 50, 48, 50, 49, 50, 50, 50, 51, 50, 52, 50, 53, 50, 54, 50, 55, 50, 56, 50, 57, 51, 48, 51, 49, 51, 50, 51, 51, 51, 52, 51, 53, 51, 54, 51, 55, 51, 56, 51, 57, 52, 48, 52, 49, 52, 50, 52, 51, 52, 52, 52, 53, 52, 54, 52, 55, 52, 56, 52, 57, 53, 48, 53, 49, 53, 50, 53, 51, 53, 52, 53, 53, 53, 54, 53, 55, 53, 56, 53, 57, 54, 48, 54, 49, 54, 50, 54, 51, 54, 52, 54, 53, 54, 54, 54, 55, 54, 56, 54, 57, 55, 48, 55, 49, 55, 50, 55, 51, 55, 52, 55, 53, 55, 54, 55, 55, 55, 56, 55, 57, 56, 48, 56, 49, 56, 50, 56, 51, 56, 52, 56, 53, 56, 54, 56, 55, 56, 56, 56, 57, 57, 48, 57, 49, 57, 50, 57, 51, 57, 52, 57, 53, 57, 54, 57, 55, 57, 56, 57, 57])) (.t 9)), iT 1 0 2, sT 1 11 8, iT 1 3 5, sT 1 13 10]) (.ops [mv 2, oT (.bin .sub .arith (.t 0) (k6 2)), vt 2 1])))) .skip)) (.seq (.ops [mv 2, oV 18 (.bin .gtr .arith (.t 0) (k6 0))]) (.cond (.v 18) (.ops [mv 0, mv 10, oT (.bin .add .arith (.c (.int .u32 48)) (.t 1)), oT (.toInt .u8 (.t 2)), oT (.iaddr 1 (.t 0) (k6 0)), sT 1 4 3]) .skip))))))), [], []⟩
def c253 : AFunc := ⟨[0, 1, 2, 3, 4, 10, 11, 12, 13, 14, 15, 16, 17, 18, 28, 30, 34, 46, 68, 89, 94], (.seq (.ops [oV 5 (.mov (.c nS)), oV 6 (.mov (.c (.str [])))]) (.seq (.seq (.ops [mv 2, oT (.bin .lss .arith (.t 0) (k6 2)), mt 1, oG 2 false (.mov (.v 2)), oG 2 false (.bin .eql .arith (.t 3) (k6 10)), oT (.pick (.t 2) (.c (.bool true)) (.t 4)), mt 5, oG 6 false (.mov (.v 2)), oG 6 false (.bin .gtr .arith (.t 7) (k6 36)), oV 14 (.pick (.t 6) (.c (.bool true)) (.t 8))]) (.cond (.v 14) .refuse .skip)) (.seq (.ops [oV 7 (.alloc 415 65 true (List.replicate 65 (.int .u8 0)))]) (.seq (.ops [oV 8 (.mov (k6 65))]) (.seq (.seq (.ops [vv 15 3]) (.cond (.v 15) (.ops [mv 1, oT (.un .neg (.t 0)), vt 1 1]) .skip)) (.seq (.seq (.ops [mv 2, oV 16 (.call (.c (.fn 276 [])) [(.t 0)])]) (.cond (.v 16) (.seq (.ops [mv 2, oT (.toInt .u64 (.t 0)), oT (.call (.c (.fn 277 [])) [(.t 1)]), oT (.toInt .u64 (.t 2)), vt 9 3]) (.seq (.ops [mv 2, oT (.toInt .u64 (.t 0)), vt 10 1]) (.seq (.ops [mv 2, oT (.toInt .u64 (.t 0)), oT (.bin .sub .arith (.t 1) (.c (.int .u64 1))), vt 11 2]) (.seq (.block 0 (.loop (.seq (.seq (.ops [mv 1, mv 10, oV 17 (.bin .geq .arith (.t 0) (.t 1))]) (.cond (.v 17) .skip (.exit 0))) (.block 1 (.seq (.ops [mv 8, oT (.bin .sub .arith (.t 0) (k6 1)), vt 8 1]) (.seq (.ops [mv 8, mv 1, mv 11, oT (.bin .and .arith (.t 1) (.t 2)), oT (.sidx (.c (.str [48, 49, 50, 51, 52, 53, 54, 55, 56, 57, 97, 98, 99, 100, 101, 102, 103, 104, 105, 106, 107, 108, 109, 110, 111, 112, 113, 114, 115, 116, 117, 118, 119, 120, 121, 122])) (.t 3)), oT (.aaddr 65 1 (.v 7) (.t 0)), sT 1 5 4]) (.ops [mv 1, mv 9, oT (.bin .shr .arith (.t 0) (.t 1)), vt 1 2]))))))) (.seq (.ops [mv 8, oT (.bin .sub .arith (.t 0) (k6 1)), vt 8 1]) (.ops [mv 8, mv 1, oT (.sidx (.c (.str [48, 49, 50, 51, 52, 53, 54, 55, 56, 57, 97, 98, 99, 100, 101, 102, 103, 104, 105, 106, 107, 108, 109, 110, 111, 112, 113, 114, 115, 116, 117, 118, 119, 120, 121, 122])) (.t 1)), oT (.aaddr 65 1 (.v 7) (.t 0)), sT 1 3 2])))))) (.seq (.ops [mv 2, oT (.toInt .u64 (.t 0)), vt 12 1]) (.seq (.block 2 (.loop (.seq (.seq (.ops [mv 1, mv 12, oV 18 (.bin .geq .arith (.t 0) (.t 1))]) (.cond (.v 18) .skip (.exit 2))) (.block 3 (.seq (.ops [mv 8, oT (.bin .sub .arith (.t 0) (k6 1)), vt 8 1]) (.seq (.ops [mv 1, mv 12, oT (.bin .quo .arith (.t 0) (.t 1)), vt 13 2]) (.seq (.ops [mv 8, mv 1, mv 13, mv 12, oT (.bin .mul .arith (.t 2) (.t 3)), oT (.bin .sub .arith (.t 1) (.t 4)), oT (.sidx (.c (.str [48, 49, 50, 51, 52, 53, 54, 55, 56, 57, 97, 98, 99, 100, 101, 102, 103, 104, 105, 106, 107, 108, 109, 110, 111, 112, 113, 114, 115, 116, 117, 118, 119, 120, 121, 122])) (.t 5)), oT (.aaddr 65 1 (.v 7) (.t 0)), sT 1 7 6]) (.ops [mv 13, vt 1 0])))))))) (.seq (.ops [mv 8, oT (.bin .sub .arith (.t 0) (k6 1)), vt 8 1]) (.ops [mv 8, mv 1, oT (.sidx (.c (.str [48, 49, 50, 51, 52, 53, 54, 55, 56, 57, 97, 98, 99, 100, 101, 102, 103, 104, 105, 106, 107, 108, 109, 110, 111, 112, 113, 114, 115, 116, 117, 118, 119, 120, 121, 122])) (.t 1)), oT (.aaddr 65 1 (.v 7) (.t 0)), sT 1 3 2])))))) (.seq (.seq (.ops [vv 19 3]) (.cond (.v 19) (.seq (.ops [mv 8, oT (.bin .sub .arith (.t 0) (k6 1)), vt 8 1]) (.ops [mv 8, oT (.aaddr 65 1 (.v 7) (.t 0)), oN (.store 1 (.t 1) (.c (.int .u8 45)))])) .skip)) (.seq (.seq (.ops [vv 20 4]) (.cond (.v 20) (.seq (.ops [mv 0, mv 8, oT (.x (.aslice 65 1 false true false) [(.v 7), (.t 1)]), oT (.append false 5 1 1 false (.t 0) (.t 2)), vt 5 3]) .ret) .skip)) (.seq (.ops [mv 8, oT (.x (.aslice 65 1 false true false) [(.v 7), (.t 0)]), oT (.x .b2s [(.t 1)]), vt 6 2]) .ret))))))))), [.v 5, .v 6], []⟩
def c274 : AFunc := ⟨[0, 2], (.seq (.ops [oV 1 (.mov (k6 0))]) (.seq (.ops [mv 0, oT (.bin .mul .arith (.t 0) (k6 78913)), oT (.bin .shr .arith (.t 1) (.c (.int .u64 18))), vt 1 2]) .ret)), [.v 1], []⟩
def c276 : AFunc := ⟨[0, 2], (.seq (.ops [oV 1 (.mov (.c (.bool false)))]) (.seq (.ops [mv 0, mv 0, oT (.bin .sub .arith (.t 1) (k6 1)), oT (.bin .and .arith (.t 0) (.t 2)), oT (.bin .eql .arith (.t 3) (k6 0)), vt 1 4]) .ret)), [.v 1], []⟩
def c277 : AFunc := ⟨[0, 2], (.seq (.ops [oV 1 (.mov (k6 0))]) (.seq (.cond (.c (.bool false)) (.seq (.ops [mv 0, oT (.toInt .u32 (.t 0)), oT (.call (.c (.fn 298 [])) [(.t 1)]), vt 1 2]) .ret) .skip) (.seq (.ops [mv 0, oT (.call (.c (.fn 299 [])) [(.t 0)]), vt 1 1]) .ret))), [.v 1], []⟩
def c298 : AFunc := ⟨[0, 2, 4], (.seq (.ops [oV 1 (.mov (k6 0))]) (.seq (.seq (.ops [mv 0, oV 2 (.bin .eql .arith (.t 0) (.c (.int .u32 0)))]) (.cond (.v 2) (.seq (.ops [oV 1 (.mov (k6 32))]) .ret) .skip)) (.seq .refuse .ret))), [.v 1], []⟩
def c299 : AFunc := ⟨[0, 2, 4], (.seq (.ops [oV 1 (.mov (k6 0))]) (.seq (.seq (.ops [mv 0, oV 2 (.bin .eql .arith (.t 0) (.c (.int .u64 0)))]) (.cond (.v 2) (.seq (.ops [oV 1 (.mov (k6 64))]) .ret) .skip)) (.seq .refuse .ret))), [.v 1], []⟩
theorem c4_ok : compFunc Tryz.prog hints 4 = some c4 := by kernel_rfl
theorem c7_ok : compFunc Tryz.prog hints 7 = some c7 := by kernel_rfl
theorem c9_ok : compFunc Tryz.prog hints 9 = some c9 := by kernel_rfl
theorem c10_ok : compFunc Tryz.prog hints 10 = some c10 := by kernel_rfl
theorem c15_ok : compFunc Tryz.prog hints 15 = some c15 := by kernel_rfl
theorem c16_ok : compFunc Tryz.prog hints 16 = some c16 := by kernel_rfl
theorem c17_ok : compFunc Tryz.prog hints 17 = some c17 := by kernel_rfl
theorem c18_ok : compFunc Tryz.prog hints 18 = some c18 := by kernel_rfl
theorem c19_ok : compFunc Tryz.prog hints 19 = some c19 := by kernel_rfl
theorem c20_ok : compFunc Tryz.prog hints 20 = some c20 := by kernel_rfl
theorem c21_ok : compFunc Tryz.prog hints 21 = some c21 := by kernel_rfl
theorem c29_ok : compFunc Tryz.prog hints 29 = some c29 := by kernel_rfl
theorem c31_ok : compFunc Tryz.prog hints 31 = some c31 := by kernel_rfl
theorem c33_ok : compFunc Tryz.prog hints 33 = some c33 := by kernel_rfl
theorem c36_ok : compFunc Tryz.prog hints 36 = some c36 := by kernel_rfl
theorem c37_ok : compFunc Tryz.prog hints 37 = some c37 := by kernel_rfl
theorem c50_ok : compFunc Tryz.prog hints 50 = some c50 := by kernel_rfl
theorem c51_ok : compFunc Tryz.prog hints 51 = some c51 := by kernel_rfl
theorem c52_ok : compFunc Tryz.prog hints 52 = some c52 := by kernel_rfl
theorem c53_ok : compFunc Tryz.prog hints 53 = some c53 := by kernel_rfl
theorem c54_ok : compFunc Tryz.prog hints 54 = some c54 := by kernel_rfl
theorem c55_ok : compFunc Tryz.prog hints 55 = some c55 := by kernel_rfl
theorem c56_ok : compFunc Tryz.prog hints 56 = some c56 := by kernel_rfl
theorem c57_ok : compFunc Tryz.prog hints 57 = some c57 := by kernel_rfl
theorem c63_ok : compFunc Tryz.prog hints 63 = some c63 := by kernel_rfl
theorem c64_ok : compFunc Tryz.prog hints 64 = some c64 := by kernel_rfl
theorem c65_ok : compFunc Tryz.prog hints 65 = some c65 := by kernel_rfl
theorem c68_ok : compFunc Tryz.prog hints 68 = some c68 := by kernel_rfl
theorem c69_ok : compFunc Tryz.prog hints 69 = some c69 := by kernel_rfl
theorem c70_ok : compFunc Tryz.prog hints 70 = some c70 := by kernel_rfl
theorem c72_ok : compFunc Tryz.prog hints 72 = some c72 := by kernel_rfl
theorem c75_ok : compFunc Tryz.prog hints 75 = some c75 := by kernel_rfl
theorem c86_ok : compFunc Tryz.prog hints 86 = some c86 := by kernel_rfl
theorem c93_ok : compFunc Tryz.prog hints 93 = some c93 := by kernel_rfl
theorem c94_ok : compFunc Tryz.prog hints 94 = some c94 := by kernel_rfl
theorem c95_ok : compFunc Tryz.prog hints 95 = some c95 := by kernel_rfl
theorem c96_ok : compFunc Tryz.prog hints 96 = some c96 := by kernel_rfl
theorem c97_ok : compFunc Tryz.prog hints 97 = some c97 := by kernel_rfl
theorem c98_ok : compFunc Tryz.prog hints 98 = some c98 := by kernel_rfl
theorem c99_ok : compFunc Tryz.prog hints 99 = some c99 := by kernel_rfl
theorem c100_ok : compFunc Tryz.prog hints 100 = some c100 := by kernel_rfl
theorem c101_ok : compFunc Tryz.prog hints 101 = some c101 := by kernel_rfl
theorem c102_ok : compFunc Tryz.prog hints 102 = some c102 := by kernel_rfl
theorem c105_ok : compFunc Tryz.prog hints 105 = some c105 := by kernel_rfl
theorem c106_ok : compFunc Tryz.prog hints 106 = some c106 := by kernel_rfl
theorem c107_ok : compFunc Tryz.prog hints 107 = some c107 := by kernel_rfl
theorem c108_ok : compFunc Tryz.prog hints 108 = some c108 := by kernel_rfl
theorem c109_ok : compFunc Tryz.prog hints 109 = some c109 := by kernel_rfl
theorem c131_ok : compFunc Tryz.prog hints 131 = some c131 := by kernel_rfl
theorem c136_ok : compFunc Tryz.prog hints 136 = some c136 := by kernel_rfl
theorem c137_ok : compFunc Tryz.prog hints 137 = some c137 := by kernel_rfl
theorem c138_ok : compFunc Tryz.prog hints 138 = some c138 := by kernel_rfl
theorem c139_ok : compFunc Tryz.prog hints 139 = some c139 := by kernel_rfl
theorem c140_ok : compFunc Tryz.prog hints 140 = some c140 := by kernel_rfl
theorem c142_ok : compFunc Tryz.prog hints 142 = some c142 := by kernel_rfl
theorem c143_ok : compFunc Tryz.prog hints 143 = some c143 := by kernel_rfl
theorem c173_ok : compFunc Tryz.prog hints 173 = some c173 := by kernel_rfl
theorem c178_ok : compFunc Tryz.prog hints 178 = some c178 := by kernel_rfl
theorem c213_ok : compFunc Tryz.prog hints 213 = some c213 := by kernel_rfl
theorem c250_ok : compFunc Tryz.prog hints 250 = some c250 := by kernel_rfl
theorem c251_ok : compFunc Tryz.prog hints 251 = some c251 := by kernel_rfl
theorem c252_ok : compFunc Tryz.prog hints 252 = some c252 := by kernel_rfl
theorem c253_ok : compFunc Tryz.prog hints 253 = some c253 := by kernel_rfl
theorem c274_ok : compFunc Tryz.prog hints 274 = some c274 := by kernel_rfl
theorem c276_ok : compFunc Tryz.prog hints 276 = some c276 := by kernel_rfl
theorem c277_ok : compFunc Tryz.prog hints 277 = some c277 := by kernel_rfl
theorem c298_ok : compFunc Tryz.prog hints 298 = some c298 := by kernel_rfl
theorem c299_ok : compFunc Tryz.prog hints 299 = some c299 := by kernel_rfl
end Go.Proofs.YthhdkkecolocdaaGreatDoor

namespace Go.Proofs.YthhdkkecolocdaaGreatDoor
open Go Go.Shelf Go.Proofs
set_option maxHeartbeats 4000000
set_option maxRecDepth 100000
def splA_ren : Go.Shelf.Ren := ⟨fun | 146 => 154 | 221 => 195 | 268 => 235 | 138 => 236 | 143 => 237 | 195 => 264 | 197 => 265 | 218 => 266 | 219 => 267 | 260 => 285 | 217 => 172 | 225 => 286 | 224 => 287 | 267 => 288 | 266 => 212 | 314 => 302 | n => n, fun | 9 => 9 | 31 => 37 | 3 => 3 | 4 => 4 | 0 => 0 | 105 => 406 | 21 => 21 | 5 => 5 | 46 => 162 | 119 => 426 | 139 => 429 | 138 => 428 | 146 => 430 | 51 => 220 | n => n, fun | 1 => 1 | 3 => 3 | 4 => 4 | n => n⟩
theorem splA : Go.Proofs.Lays.n146 Tryz.prog splA_ren where
 mixed := by kernel_rfl
 f138 := Tryz.func236.trans (congrArg some (by kernel_rfl))
 f143 := Tryz.func237.trans (congrArg some (by kernel_rfl))
 f146 := Tryz.func154.trans (congrArg some (by kernel_rfl))
 f195 := Tryz.func264.trans (congrArg some (by kernel_rfl))
 f197 := Tryz.func265.trans (congrArg some (by kernel_rfl))
 f217 := Tryz.func172.trans (congrArg some (by kernel_rfl))
 f218 := Tryz.func266.trans (congrArg some (by kernel_rfl))
 f219 := Tryz.func267.trans (congrArg some (by kernel_rfl))
 f221 := Tryz.func195.trans (congrArg some (by kernel_rfl))
 f224 := Tryz.func287.trans (congrArg some (by kernel_rfl))
 f225 := Tryz.func286.trans (congrArg some (by kernel_rfl))
 f260 := Tryz.func285.trans (congrArg some (by kernel_rfl))
 f266 := Tryz.func212.trans (congrArg some (by kernel_rfl))
 f267 := Tryz.func288.trans (congrArg some (by kernel_rfl))
 f268 := Tryz.func235.trans (congrArg some (by kernel_rfl))
 f314 := Tryz.func302.trans (congrArg some (by kernel_rfl))
 t0 := Tryz.underlying0
 a0 := Tryz.isAgg0
 z0 := Tryz.sizeOf0
 v0 := Tryz.zeroValue0
 t3 := Tryz.underlying3
 a3 := Tryz.isAgg3
 z3 := Tryz.sizeOf3
 v3 := Tryz.zeroValue3
 t4 := Tryz.underlying4
 a4 := Tryz.isAgg4
 z4 := Tryz.sizeOf4
 v4 := Tryz.zeroValue4
 t5 := Tryz.underlying5
 a5 := Tryz.isAgg5
 z5 := Tryz.sizeOf5
 v5 := Tryz.zeroValue5
 t9 := Tryz.underlying9
 a9 := Tryz.isAgg9
 z9 := Tryz.sizeOf9
 v9 := Tryz.zeroValue9
 t21 := Tryz.underlying21
 a21 := Tryz.isAgg21
 z21 := Tryz.sizeOf21
 v21 := Tryz.zeroValue21
 t31 := Tryz.underlying37
 a31 := Tryz.isAgg37
 z31 := Tryz.sizeOf37
 v31 := Tryz.zeroValue37
 t46 := Tryz.underlying162
 a46 := Tryz.isAgg162
 z46 := Tryz.sizeOf162
 v46 := Tryz.zeroValue162
 t51 := Tryz.underlying220
 a51 := Tryz.isAgg220
 z51 := Tryz.sizeOf220
 v51 := Tryz.zeroValue220
 t105 := Tryz.underlying406
 a105 := Tryz.isAgg406
 z105 := Tryz.sizeOf406
 v105 := Tryz.zeroValue406
 t119 := Tryz.underlying426
 a119 := Tryz.isAgg426
 z119 := Tryz.sizeOf426
 t138 := Tryz.underlying428
 a138 := Tryz.isAgg428
 z138 := Tryz.sizeOf428
 v138 := Tryz.zeroValue428
 t139 := Tryz.underlying429
 a139 := Tryz.isAgg429
 z139 := Tryz.sizeOf429
 v139 := Tryz.zeroValue429
 t146 := Tryz.underlying430
 a146 := Tryz.isAgg430
 z146 := Tryz.sizeOf430
 v146 := Tryz.zeroValue430
 g1 := by kernel_rfl
 g3 := by kernel_rfl
 g4 := by kernel_rfl
def idxA_ren : Go.Shelf.Ren := ⟨fun | 137 => 135 | 217 => 172 | 266 => 212 | n => n, fun | 9 => 9 | 5 => 5 | 3 => 3 | n => n, fun | n => n⟩
theorem idxA : Go.Proofs.Lays.n137 Tryz.prog idxA_ren where
 mixed := by kernel_rfl
 f137 := Tryz.func135.trans (congrArg some (by kernel_rfl))
 f217 := Tryz.func172.trans (congrArg some (by kernel_rfl))
 f266 := Tryz.func212.trans (congrArg some (by kernel_rfl))
 t3 := Tryz.underlying3
 a3 := Tryz.isAgg3
 z3 := Tryz.sizeOf3
 v3 := Tryz.zeroValue3
 t5 := Tryz.underlying5
 a5 := Tryz.isAgg5
 z5 := Tryz.sizeOf5
 v5 := Tryz.zeroValue5
 t9 := Tryz.underlying9
 a9 := Tryz.isAgg9
 z9 := Tryz.sizeOf9
 v9 := Tryz.zeroValue9
end Go.Proofs.YthhdkkecolocdaaGreatDoor

namespace Go.Abs
variable {P : Program}
section
open Go.Shelf Go.Proofs
variable {ρ : Ren}
end
end Go.Abs

namespace Go.Abs
open Go.Shelf Go.Proofs Go.RowKit Go.Lib
variable {P : Program} {ρ : Ren}
def splitS (args : List AVal) (h : Heap) : Option (AVal × Heap) :=
 match args with
 | [.str s, .str [c]] => if s.length < 4294967281 then some (.sl ((Lib.splitK [c] 0 (Lib.count s [c]) s).map .str) .none, h) else none
 | _ => none
theorem index_one (c : UInt8) : ∀ s : List UInt8, Lib.index s [c] = Lib.indexByte s c
 | [] => rfl
 | b :: l => by
   rw [Lib.index, Lib.indexByte, index_one c l]
   by_cases h : b = c
   ·subst h; simp
   ·have h' : ¬ c = b := fun e => h e.symm
    simp [List.isPrefixOf, h, h']
set_option maxHeartbeats 1000000 in
theorem split_one (L : Lays.n146 P ρ) (hi9 : (P.info? (ρ.t 9)).map (fun i => (i.zero, i.size, i.bytes)) = some (some (.string ByteArray.empty), 1, 16)) (s : ByteArray) (c : UInt8) (w : World) (hs : s.size < 4294967281) :
  Calls P (ρ.f 146) #[.string s, .string ⟨#[c]⟩] w fun e w' =>
   e = .returned (.slice (some ⟨w.heap.size, 0, none⟩) (Lib.countB s ⟨#[c]⟩ + 1) (Lib.countB s ⟨#[c]⟩ + 1)) ∧ w' = w.alloc (.cells ((Lib.splitB ⟨#[c]⟩ 0 (Lib.countB s ⟨#[c]⟩) s).map Value.string).toArray (ρ.t 9)) := by
 have h1 : 1 ≤ (⟨#[c]⟩ : ByteArray).size := Nat.le_refl _
 have hle := Lib.countB_le ⟨#[c]⟩ h1 s.size s (Nat.le_refl _)
 have hlen := Lib.splitB_all ⟨#[c]⟩ h1 0 _ s rfl
 have hC : Calls P (ρ.f 138) #[.string s, .string ⟨#[c]⟩] w fun e w' => e = .returned (.int .i64 (Lib.countB s ⟨#[c]⟩)) ∧ w' = w := by
  refine (Any.strings_Count_one { L with } s c w).mono fun e w' ⟨he, hw⟩ => ⟨?_, hw⟩
  rw [he]
  show _ = Ending.returned (Value.int .i64 ((Lib.count s.data.toList [c] : Nat) : Int))
  rw [Lib.count_one]
  rfl
 have key := Any.strings_genSplit_core { L with } hi9 s ⟨#[c]⟩ 0 (-1) (Lib.countB s ⟨#[c]⟩ + 1) w hs h1 (Nat.zero_le _)
  (fun x cs hx => by
   refine (Any.strings_Index_one { L with } x c _).mono fun e w' ⟨he, hw⟩ => ⟨?_, hw⟩
   rw [he]
   show Ending.returned (Value.int .i64 (Lib.indexByte x.data.toList c)) = Ending.returned (Value.int .i64 (Lib.index x.data.toList [c]))
   rw [index_one]) hC (by decide) (by decide) (by rw [if_pos (by decide)]; omega)
 rw [Nat.add_sub_cancel, hlen] at key
 have e2 : Lib.cellsOf (Lib.splitB ⟨#[c]⟩ 0 (Lib.countB s ⟨#[c]⟩) s) (Lib.countB s ⟨#[c]⟩ + 1) = ((Lib.splitB ⟨#[c]⟩ 0 (Lib.countB s ⟨#[c]⟩) s).map Value.string).toArray := by rw [← hlen]; exact Lib.cellsOf_full _
 rw [e2] at key
 have t3 := L.t3; have t9 := L.t9; have t31 := L.t31
 have a3 := L.a3; have a9 := L.a9; have a31 := L.a31
 have z3 := L.z3; have v3 := L.v3; have z9 := L.z9; have v9 := L.v9; have z31 := L.z31; have v31 := L.v31
 have e221 : ∀ args w, (callFunc (ρ.f 221) args).run P w = .ok (.enter (ρ.f 221) args) w := enters_of L.f221 (by kernel_rfl) rfl
 go_enter L.f146, Body.n146_ntmps ρ
 go_wp2_with (go_at_fn (ρ.f 221); refine key.mono ?_; rintro e w' ⟨rfl, hw⟩; rw [hw])
 go_ret
 exact ⟨rfl, rfl⟩
def idxS (args : List AVal) (h : Heap) : Option (AVal × Heap) :=
 match args with
 | [.str s, .int .u8 c] => some (.int .i64 (Lib.indexByte s c.toNat.toUInt8), h)
 | _ => none
theorem idx_ok (L : Lays.n137 P ρ) (e137 : ∀ args w, (callFunc (ρ.f 137) args).run P w = .ok (.enter (ρ.f 137) args) w) : HandOk P (ρ.f 137) idxS := by
 refine ⟨fun args h r h' e w G cargs H hp => ?_, e137⟩
 have hlen := hp.len
 unfold idxS at e
 split at e
 ·rename_i s c
  simp only [Option.some.injEq, Prod.mk.injEq] at e
  obtain ⟨rfl, rfl⟩ := e
  obtain ⟨l⟩ := cargs
  match l, hlen with
  | [v0, v1], _ =>
    have r0 := hp.rel 0 v0 (.str s) (by simp) (by simp)
    have r1 := hp.rel 1 v1 (.int .u8 c) (by simp) (by simp)
    cases r0 with
    | str bs =>
    cases r1
    refine (Any.strings_IndexByte L bs c w).mono ?_
    rintro e w' ⟨rfl, rfl⟩
    exact ⟨_, G, rfl, Ext.refl _ _ _, H, .int _ _⟩
 ·simp at e
theorem flat_strs : ∀ L0 : List ByteArray, flat (L0.map (AVal.str ∘ fun x => x.data.toList)) = L0.map (AVal.str ∘ fun x => x.data.toList)
 | [] => rfl
 | a :: l => by
   have := flat_strs l
   simp only [flat, List.map_cons, List.flatMap_cons] at this ⊢
   rw [this]; rfl
theorem split_ok (L : Lays.n146 P ρ) (hi9 : (P.info? (ρ.t 9)).map (fun i => (i.zero, i.size, i.bytes)) = some (some (.string ByteArray.empty), 1, 16)) (e146 : ∀ args w, (callFunc (ρ.f 146) args).run P w = .ok (.enter (ρ.f 146) args) w) : HandOk P (ρ.f 146) splitS := by
 refine ⟨fun args h r h' e w G cargs H hp => ?_, e146⟩
 have hlen := hp.len
 unfold splitS at e
 split at e
 ·rename_i s c
  split at e
  ·rename_i hsz
   simp only [Option.some.injEq, Prod.mk.injEq] at e
   obtain ⟨rfl, rfl⟩ := e
   obtain ⟨l⟩ := cargs
   match l, hlen with
   | [v0, v1], _ =>
     have r0 := hp.rel 0 v0 (.str s) (by simp) (by simp)
     have r1 := hp.rel 1 v1 (.str [c]) (by simp) (by simp)
     cases r0 with
     | str bs =>
     generalize hc : ([c] : List UInt8) = lc at r1
     cases r1 with
     | str cb =>
     have hcb : cb = ⟨#[c]⟩ := by
      cases cb with
      | mk d =>
        simp only at hc
        have : d = #[c] := by apply Array.ext'; simpa using hc.symm
        rw [this]
     subst hcb
     have hbs : bs.size < 4294967281 := by
      show bs.data.size < _
      rw [← Array.length_toList]
      exact hsz
     refine (split_one L hi9 bs c w hbs).mono ?_
     rintro e w' ⟨rfl, rfl⟩
     have h1 : 1 ≤ (⟨#[c]⟩ : ByteArray).size := Nat.le_refl _
     have hn := Lib.splitB_all ⟨#[c]⟩ h1 0 _ bs rfl
     have hd := Lib.splitB_data ⟨#[c]⟩ 0 (Lib.countB bs ⟨#[c]⟩) bs
     generalize hL : Lib.splitB ⟨#[c]⟩ 0 (Lib.countB bs ⟨#[c]⟩) bs = L0 at hn hd ⊢
     have hk : Lib.splitK [c] 0 (Lib.count bs.data.toList [c]) bs.data.toList = L0.map (·.data.toList) := hd.symm
     rw [hk, List.map_map]
     refine ⟨_, _, rfl, Ext.alloc_free _ _, H.alloc_free _ _, ?_⟩
     have hfl := flat_strs L0
     have key := VRel.sl (w := w.alloc (.cells (L0.map Value.string).toArray (ρ.t 9))) (G := { G with lim := fun b => if b = w.heap.size then none else G.lim b }) w.heap.size 0 (Lib.countB bs ⟨#[c]⟩ + 1) 1 (L0.map (AVal.str ∘ fun x => x.data.toList)) .none (fun k => ((L0.map Value.string)[k]?).getD .nilFunc)
      (fun x hx => by obtain ⟨y, _, rfl⟩ := List.mem_map.1 hx; rfl)
      (fun k x hx => by
       rw [hfl] at hx
       have hlt : k < L0.length := by have := (List.getElem?_eq_some_iff.1 hx).1; simpa using this
       have hnew : (w.alloc (.cells (L0.map Value.string).toArray (ρ.t 9))).heap[w.heap.size]? = some (.cells (L0.map Value.string).toArray (ρ.t 9)) := World.alloc_heap_new _ _
       simp only [World.cell?, hnew]
       simp [hlt])
      (fun k x hx => by
       rw [hfl, List.getElem?_map] at hx
       obtain ⟨y, hy, rfl⟩ := Option.map_eq_some_iff.1 hx
       rw [List.getElem?_map, hy]
       exact .str y)
      (fun k _ m hm => by simp at hm)
      (fun x hx => by rw [hfl] at hx; obtain ⟨y, _, rfl⟩ := List.mem_map.1 hx; rfl)
      (fun x hx => by rw [hfl] at hx; obtain ⟨y, _, rfl⟩ := List.mem_map.1 hx; rfl)
      (by rw [List.length_map, hn]; exact Nat.le_refl _) (by simp) (fun _ _ hh => by simp at hh)
     rwa [List.length_map, hn] at key
  ·simp at e
 ·simp at e
end Go.Abs

namespace Go.Abs
def seqL : Code → Code
 | .seq a _ => a
 | c => c
def seqR : Code → Code
 | .seq _ b => b
 | c => c
def bodyOf (P : Program) (g : Nat) : Code := ((P.funcs[g]?).bind (·.body)).getD .skip
def regOps : Code → Array Oper
 | .region _ ops _ => ops
 | _ => #[]
variable {P : Program} {Hh : Hints} {F : Nat → Option AEnt}
def SW (P : Program) (Hh : Hints) (nt : Nat) (slots : List Nat) (c : Code) (vs : List AVal) (h : Heap) (Q : AExit → List AVal → Heap → Prop) : Prop :=
 ∀ (m : Nat) (a : Act) (w : World) (G : Ghost) (Qm : Exit → Act → World → Prop), G.env = envOf P Hh → CRel w G a nt slots vs h →
   (∀ e vs' h' a' w' G', Q e vs' h' → Ext w G h w' G' h' → CRel w' G' a' nt slots vs' h' → Marks w a.defers w' G' h' a'.defers → Qm (exitOf e) a' w') → c.wpIn (rF none) m P Qm a w
theorem SW.of_wp (hmix : P.follows .mixedOrders = true) (hT : Table P Hh F) {fid nt : Nat} {slots : List Nat} (hnd : slots.Nodup) {top : Bool} {k : Nat} {c : Code} (hs : top = true → SitesOk P fid nt k c) {vs : List AVal} {h : Heap} {Q : AExit → List AVal → Heap → Prop}
  (w0 : WP F (compCode P Hh fid nt slots top k c) vs h Q) : SW P Hh nt slots c vs h Q := by
 intro m a w G Qm hE hC hQ
 unfold WP at w0
 obtain ⟨n, e, vs', h', hr, hq⟩ := w0
 exact (all_ok hmix hT n).1 none m top fid nt slots k c vs h e vs' h' a w G Qm hnd hs (fun l q => by simp at q) hE hr hC (fun a' w' G' hX hC' hM => hQ e vs' h' a' w' G' hq hX hC' hM)
theorem SW.seq {nt : Nat} {slots : List Nat} {x y : Code} {vs : List AVal} {h : Heap} {Q : AExit → List AVal → Heap → Prop}
  (a0 : SW P Hh nt slots x vs h (fun e vs' h' => match e with
   | .normal => SW P Hh nt slots y vs' h' Q
   | e => Q e vs' h')) : SW P Hh nt slots (.seq x y) vs h Q := by
 intro m a w G Qm hE hC hQ
 refine wpIn_seq (a0 m a w G _ hE hC fun e vs' h' a' w' G' hq hX hC' hM => ?_)
 cases e with
 | normal => exact hq m a' w' G' Qm (hX.env.trans hE) hC' fun e2 vs2 h2 a2 w2 G2 hq2 hX2 hC2 hM2 => hQ e2 vs2 h2 a2 w2 G2 hq2 (hX.trans hX2) hC2 (hM.trans hX.size hX2 hM2)
 | exit i => exact hQ _ vs' h' a' w' G' hq hX hC' hM
 | ret => exact hQ _ vs' h' a' w' G' hq hX hC' hM
theorem cfOf_ok (hmix : P.follows .mixedOrders = true) (hT : Table P Hh F) (n : Nat) : CfOk P Hh (cfOf F n) := by
 have ih := all_ok hmix hT n
 refine ⟨fun g args h0 r h1 hc => ?_, fun id args h0 r h1 hc => ?_⟩
 ·simp only [cfOf, tsk, Bool.false_eq_true, if_false] at hc
  cases hrun : run F n (.call g args h0) with
  | none => rw [hrun] at hc; simp at hc
  | some res =>
    rw [hrun] at hc
    cases res with
    | code _ _ _ => simp [Res.asVal] at hc
    | val r1 h2 =>
      simp only [Option.bind_some, Res.asVal, Option.some.injEq, Prod.mk.injEq] at hc
      obtain ⟨rfl, rfl⟩ := hc
      refine ⟨ih.2.1 g args h0 _ _ hrun, fun cargs w => ?_, fun hg => ?_⟩
      ·cases n with
       | zero => simp [run] at hrun
       | succ n =>
         simp only [run] at hrun
         split at hrun
         ·simp at hrun
         ·rename_i s hs; exact (hT.hand hs).2 cargs w
         ·rename_i af haf; exact callFunc_enter (hT.comp haf) cargs w
      ·cases n with
       | zero => simp [run] at hrun
       | succ n =>
         simp only [run] at hrun
         split at hrun
         ·simp at hrun
         ·rename_i s hs
          have hq := hT g
          rw [hs] at hq
          simp only [Option.map_eq_some_iff] at hrun
          obtain ⟨p, hp, he⟩ := hrun
          simp only [Res.val.injEq] at he
          obtain ⟨rfl, rfl⟩ := he
          exact hq.2 hg _ _ _ _ hp
         ·rename_i af haf
          have hq := hT g
          rw [haf] at hq
          rw [hq.2] at hg; simp at hg
 ·simp only [cfOf, tsk, if_true] at hc
  cases hrun : run F n (.yield id args h0) with
  | none => rw [hrun] at hc; simp at hc
  | some res =>
    rw [hrun] at hc
    cases res with
    | code _ _ _ => simp [Res.asVal] at hc
    | val r1 h2 =>
      simp only [Option.bind_some, Res.asVal, Option.some.injEq, Prod.mk.injEq] at hc
      obtain ⟨rfl, rfl⟩ := hc
      exact ih.2.2 id args h0 _ _ hrun
theorem SW.region (hmix : P.follows .mixedOrders = true) (hT : Table P Hh F) {fid nt : Nat} {slots : List Nat} (hnd : slots.Nodup) {id : Nat} {ops : Array Oper} {asx : List AOper} (hc : compOpers P Hh fid slots ops.toList ops.toList 0 = some asx) (hd : dstsOk nt slots ops.toList = true)
  {pairs : List (Nat × Nat)} {reps : List (List Nat)} (hr : repsOk Hh ops.toList asx pairs reps = true) {vs : List AVal} {h : Heap} {Q : AExit → List AVal → Heap → Prop}
  (hw : ∀ r ∈ reps, ∃ l, renOpers r asx r = some l ∧ WP F (.ops l) vs h Q) : SW P Hh nt slots (.region id ops true) vs h Q := by
 intro m a w G Qm hE hC hQ
 have hl : asx.length = ops.size := by have := (compOpers_get hc).1; simpa using this
 refine wpIn_region_draw fun t => ?_
 rw [hmix]
 -- all the walks, on one measure of fuel
 have hfu : ∀ n, ∀ g args h r h', Hh.grow g = true → cfOf F n false g args h = some (r, h') → TokExt h h' := fun n g args h r h' hg e => ((cfOf_ok hmix hT n).1 g args h r h' e).2.2 hg
 have hall : ∀ rs : List (List Nat), (∀ r ∈ rs, r ∈ reps) → ∃ n, ∀ r ∈ rs, ∃ s', foldI (cfOf F n) asx r ⟨vs, List.replicate asx.length .bad, h⟩ = some s' ∧ Q .normal s'.vs s'.h := by
  intro rs
  induction rs with
  | nil => intro _; exact ⟨0, by simp⟩
  | cons r rs ih =>
    intro hrs
    obtain ⟨n1, h1⟩ := ih (fun x hx => hrs x (by simp [hx]))
    obtain ⟨l, hren, hwp⟩ := hw r (hrs r (by simp))
    unfold WP at hwp
    obtain ⟨n2, e, vs', h', hrun, hq⟩ := hwp
    cases n2 with
    | zero => simp [run] at hrun
    | succ n2 =>
      rw [run_ops] at hrun
      split at hrun
      rotate_left
      ·simp at hrun
      rename_i s1 hs1
      simp only [Option.some.injEq, Res.code.injEq] at hrun
      obtain ⟨rfl, rfl, rfl⟩ := hrun
      simp only [repsOk, Bool.and_eq_true, List.all_eq_true] at hr
      obtain ⟨hrn, hrp⟩ := permOk_perm (hr.1.2 r (hrs r (by simp)))
      have hll := renOpers_len hren
      have hmem : ∀ k, k ∈ r ↔ k < asx.length := fun k => by rw [hrp.mem_iff, List.mem_range]
      obtain ⟨s1', r1, r2, r3⟩ := ren_fold (cf := cfOf F n2) (asx := asx) hrn 0 r l ⟨vs, List.replicate asx.length .bad, h⟩ ⟨vs, List.replicate l.length .bad, h⟩ s1 rfl hren rfl rfl (by simp [hll]) (fun k => by rw [hmem k]; simp) (fun k => by
       simp only [evOpd, List.getElem?_replicate]
       split <;> split <;> rfl) hs1
      refine ⟨max n1 n2, fun x hx => ?_⟩
      have mono : ∀ {n : Nat}, n ≤ max n1 n2 → ∀ {l : List Nat} {s τ : St}, foldI (cfOf F n) asx l s = some τ → foldI (cfOf F (max n1 n2)) asx l s = some τ := by
       intro n hle l
       induction l with
       | nil => intro s τ e; exact e
       | cons k l ihl =>
         intro s τ e
         simp only [foldI] at e ⊢
         split at e
         ·rename_i ao ha
          split at e
          ·rename_i s2 hs2
           rw [stepA_mono (cfOf_le fun _ _ q => run_mono hle q) hs2]
           exact ihl e
          ·simp at e
         ·simp at e
      rcases List.mem_cons.1 hx with rfl | hx
      ·exact ⟨s1', mono (Nat.le_max_right _ _) r1, by rw [r2, r3]; exact hq⟩
      ·obtain ⟨s', q1, q2⟩ := h1 x hx
       exact ⟨s', mono (Nat.le_max_left _ _) q1, q2⟩
 obtain ⟨n, hn⟩ := hall reps (fun r hr => hr)
 obtain ⟨r, hrm, hrt⟩ := draw_reps (hfu n) hl hr (s := ⟨vs, List.replicate asx.length .bad, h⟩) t
 obtain ⟨s', q1, q2⟩ := hn r hrm
 have hC' := hC.mono_refl
 refine fold_ok (s := ⟨vs, List.replicate asx.length .bad, h⟩) (cfOf_ok hmix hT n) hnd hd hc _ hE ⟨hC'.H, hC'.F, ⟨by simp [hl], fun k t o x h1 h2 h3 h4 => ?_⟩, hC'.size⟩ (hrt s' q1) fun a' w' G' hX S' hdf => ?_
 ·simp only [List.getElem?_replicate] at h4
  split at h4
  ·simp at h4; subst h4; exact .bad _
  ·simp at h4
 ·exact hQ .normal s'.vs s'.h a' w' G' q2 hX.drew ⟨S'.H, S'.F, S'.size⟩ (.of_eq hdf)
theorem SW.mono {nt : Nat} {slots : List Nat} {c : Code} {vs : List AVal} {h : Heap} {Q Q' : AExit → List AVal → Heap → Prop} (a0 : SW P Hh nt slots c vs h Q) (hi : ∀ e vs h, Q e vs h → Q' e vs h) : SW P Hh nt slots c vs h Q' :=
 fun m a w G Qm hE hC hQ => a0 m a w G Qm hE hC fun e vs' h' a' w' G' hq => hQ e vs' h' a' w' G' (hi _ _ _ hq)
theorem leavesM_mono {fn : Func} {tmps : Array Value} {m : Nat} {R R' : Ending → World → Prop} (hi : ∀ e w, R e w → R' e w) : ∀ (bs : List Nat) {w : World},
  LeavesInM (rF none) m P fn tmps R (bs.map (fun b => ({ target := .collected b, args := #[] } : Deferred))) .returning w → LeavesInM (rF none) m P fn tmps R' (bs.map (fun b => ({ target := .collected b, args := #[] } : Deferred))) .returning w
 | [], w, ⟨v, q1, q2⟩ => ⟨v, q1, hi _ _ q2⟩
 | b :: bs, w, ⟨h1, h2⟩ => by
   rcases h2 with ⟨r, w', e1, e2, e3⟩ | ⟨_, fv, cap, f, args, e1, _⟩
   ·exact ⟨h1, .inl ⟨r, w', e1, e2, leavesM_mono hi bs e3⟩⟩
   ·simp at e1
theorem calls_of_SW {g : Nat} {fn : Func} {c : Code} {slots : List Nat} {ris : List ResV} (hf : P.funcs[g]? = some fn) (hb : fn.body = some c) (hres : resRVs P slots fn.results.toList = some ris) {args : List AVal} {h : Heap} {K : AVal → Heap → Prop}
  (hw : SW P Hh fn.ntmps slots c (slots.map fun s => (args[s]?).getD (.tup [])) h (fun e vs h' => (e = .normal ∨ e = .ret) ∧ ∃ r, resultsA ris vs h' = some r ∧ K r h')) {w : World} {G : Ghost} {cargs : Array Value} (hE : G.env = envOf P Hh) (H : HRel w G h) (hp : Pts w G cargs args) :
  Calls P g cargs w (fun e w' => ∃ r h', K r h' ∧ ∃ v G', e = .returned v ∧ Ext w G h w' G' h' ∧ HRel w' G' h' ∧ VRel w' G' v r) := by
 refine (callsIn_wide (n := 0)).1 (callsIn_of_wp_marks (F := rF none) hf hb trivial ?_)
 have hget : ∀ s, (cargs ++ Array.replicate (fn.ntmps - cargs.size) undef).getD s undef = (cargs[s]?).getD undef := by
  intro s
  rw [Array.getD_eq_getD_getElem?]
  by_cases hs : s < cargs.size
  ·rw [Array.getElem?_append_left hs]
  ·rw [Array.getElem?_append_right (by omega : cargs.size ≤ s), Array.getElem?_replicate, Array.getElem?_eq_none (by omega : cargs.size ≤ s)]
   split <;> rfl
 have S0 : CRel w G { tmps := cargs ++ Array.replicate (fn.ntmps - cargs.size) undef, defers := [] } fn.ntmps slots (slots.map fun s => (args[s]?).getD (.tup [])) h := by
  refine ⟨H, ⟨by simp, fun i s x h1 h2 => ?_⟩, by simp; omega⟩
  simp only [List.getElem?_map, h1, Option.map_some, Option.some.injEq] at h2
  subst h2
  rw [hget]
  by_cases hs : s < cargs.size
  ·obtain ⟨x, hx⟩ : ∃ x, args[s]? = some x := ⟨_, List.getElem?_eq_getElem (by rw [← hp.len]; exact hs)⟩
   rw [hx, Array.getElem?_eq_getElem hs]
   exact hp.rel s _ x (Array.getElem?_eq_getElem hs) hx
  ·rw [Array.getElem?_eq_none (by omega), List.getElem?_eq_none (by rw [← hp.len]; omega)]
   exact .tup #[] [] rfl (by simp)
 refine hw 0 _ w G _ hE S0 fun e vs h' a' w' G' hq hX hC hM => ?_
 obtain ⟨he, r, hr, hK⟩ := hq
 obtain ⟨bs, e1, e2, e3⟩ := hM
 have key := leaves_ok hres hr (P := P) (m := 0) bs e2 (fun b hb => ⟨(e3 b hb).1, (e3 b hb).2.2.1, (e3 b hb).2.2.2⟩) hX hC.H hC.F
 have key2 : LeavesInM (rF none) 0 P fn a'.tmps (fun e w' => ∃ r h', K r h' ∧ ∃ v G', e = .returned v ∧ Ext w G h w' G' h' ∧ HRel w' G' h' ∧ VRel w' G' v r) a'.defers .returning w' := by
  rw [e1, List.append_nil]
  exact leavesM_mono (fun e w q => ⟨r, h', hK, q⟩) bs key
 rcases he with rfl | rfl
 ·exact key2
 ·exact key2
end Go.Abs

namespace Go.Abs
def blockC : Code → Code
 | .block _ c => c
 | c => c
def blockI : Code → Nat
 | .block i _ => i
 | _ => 0
def loopC : Code → Code
 | .loop c => c
 | c => c
variable {P : Program} {Hh : Hints} {F : Nat → Option AEnt}
theorem SW.cond {nt : Nat} {slots : List Nat} {x : Operand} {x' : Opd} {c1 c2 : Code} {vs : List AVal} {h : Heap} {Q : AExit → List AVal → Heap → Prop} {b : Bool} (hx : compOpd Hh.glob slots [] 0 x = some x') (hb : evOpd vs [] x' = .bool b)
  (a0 : SW P Hh nt slots (if b then c1 else c2) vs h Q) : SW P Hh nt slots (.cond x c1 c2) vs h Q := by
 intro m a w G Qm hE hC hQ
 have hT0 : TRel w G a.tmps slots [] [] := ⟨rfl, by simp⟩
 have hv := operand_ok (k := 0) (fun g cs hg => (hC.H.glob g cs (by rw [hE]; exact hg)).1) hC.F hT0 x x' hx
 rw [hb] at hv
 generalize hev : a.eval x = v at hv
 cases b with
 | true => cases hv; exact wpIn_cond_true hev (a0 m a w G Qm hE hC hQ)
 | false => cases hv; exact wpIn_cond_false hev (a0 m a w G Qm hE hC hQ)
def inBlk (id : Nat) (Q : AExit → List AVal → Heap → Prop) : AExit → List AVal → Heap → Prop
 | .exit i, vs, h => if i = id then Q .normal vs h else Q (.exit i) vs h
 | e, vs, h => Q e vs h
theorem SW.block {nt : Nat} {slots : List Nat} {id : Nat} {c1 : Code} {vs : List AVal} {h : Heap} {Q : AExit → List AVal → Heap → Prop} (a0 : SW P Hh nt slots c1 vs h (inBlk id Q)) : SW P Hh nt slots (.block id c1) vs h Q := by
 intro m a w G Qm hE hC hQ
 refine wpIn_block (a0 m a w G _ hE hC fun e vs' h' a' w' G' hq hX hC' hM => ?_)
 cases e with
 | normal => exact hQ .normal vs' h' a' w' G' hq hX hC' hM
 | exit i =>
   simp only [inBlk] at hq
   simp only [exitOf, Exit.inBlock]
   split
   ·rename_i hi
    rw [if_pos hi] at hq
    exact hQ .normal vs' h' a' w' G' hq hX hC' hM
   ·rename_i hi
    rw [if_neg hi] at hq
    exact hQ (.exit i) vs' h' a' w' G' hq hX hC' hM
 | ret => exact hQ .ret vs' h' a' w' G' hq hX hC' hM
def inLp (J : Nat → List AVal → Heap → Prop) (m : Nat) (Q : AExit → List AVal → Heap → Prop) : AExit → List AVal → Heap → Prop
 | .normal, vs, h => ∃ m', m' < m ∧ J m' vs h
 | e, vs, h => Q e vs h
theorem SW.loop {nt : Nat} {slots : List Nat} {c1 : Code} {vs : List AVal} {h : Heap} {Q : AExit → List AVal → Heap → Prop} (J : Nat → List AVal → Heap → Prop) (n : Nat) (h0 : J n vs h)
  (round : ∀ m vs h, J m vs h → SW P Hh nt slots c1 vs h (inLp J m Q)) : SW P Hh nt slots (.loop c1) vs h Q := by
 intro m0 a w G Qm hE hC hQ
 refine wpIn_loop_ind (fun m a1 w1 => ∃ vs1 h1 G1, J m vs1 h1 ∧ CRel w1 G1 a1 nt slots vs1 h1 ∧ Ext w G h w1 G1 h1 ∧ Marks w a.defers w1 G1 h1 a1.defers) (m := n) ⟨vs, h, G, h0, hC, Ext.refl _ _ _, .same⟩ ?_
 rintro m a1 w1 ⟨vs1, h1, G1, hJ, S1, hX1, hd1⟩
 refine round m vs1 h1 hJ m0 a1 w1 G1 _ (hX1.env.trans hE) S1 fun e vs2 h2 a2 w2 G2 hq hX2 S2 hM2 => ?_
 cases e with
 | normal =>
   obtain ⟨m', hlt, hJ'⟩ := hq
   exact ⟨m', hlt, vs2, h2, G2, hJ', S2, hX1.trans hX2, hd1.trans hX1.size hX2 hM2⟩
 | exit i => exact hQ (.exit i) vs2 h2 a2 w2 G2 hq (hX1.trans hX2) S2 (hd1.trans hX1.size hX2 hM2)
 | ret => exact hQ .ret vs2 h2 a2 w2 G2 hq (hX1.trans hX2) S2 (hd1.trans hX1.size hX2 hM2)
end Go.Abs

namespace Go.Abs
variable {F : Nat → Option AEnt} {ev : Opd → AVal} {h : Heap} {K : AVal → Heap → Prop}
theorem wrap_in64 {x : Int} (h1 : -9223372036854775808 ≤ x) (h2 : x < 9223372036854775808) : IntKind.i64.wrap x = x := IntWalk.i64_in x ⟨h1, by omega⟩
theorem stripL_append : ∀ {a b a' b' : List AVal}, stripL a = some a' → stripL b = some b' → stripL (a ++ b) = some (a' ++ b')
 | [], b, a', b', h1, h2 => by simp [stripL] at h1; subst h1; simpa using h2
 | x :: a, b, a', b', h1, h2 => by
   simp only [stripL] at h1
   split at h1
   ·rename_i y ys e1 e2
    simp at h1; subst h1
    simp only [List.cons_append, stripL, e1, stripL_append e2 h2]
   ·simp at h1
def Pt (t : Tok) : Prop := t = .none ∨ t = .nil
theorem strip_pt {t : Tok} (ht : Pt t) {xs : List AVal} : strip (.sl xs t) = some (.sl xs t) := by
 rcases ht with rfl | rfl <;> rfl
theorem purify_pt {t : Tok} (ht : Pt t) {xs : List AVal} {h : Heap} : purify h (.sl xs t) = some (.sl xs t) := by
 rcases ht with rfl | rfl <;> rfl
theorem roomOk_of {n bytes : Nat} (h1 : n ≤ 1000000) (h2 : bytes ≤ 10000) : roomOk n bytes = true := by
 simp only [roomOk, Bool.and_eq_true, decide_eq_true_eq]
 refine ⟨by omega, ?_⟩
 calc (4 * n + 1024) * bytes ≤ (4 * 1000000 + 1024) * 10000 := Nat.mul_le_mul (by omega) h2
  _ ≤ 281474976710656 := by decide
theorem get_push (h : Heap) (o : Obj) : (h.push o).get h.next = some o := Heap.get_push h o
theorem get_lt {h : Heap} {j : Nat} {o : Obj} (hj : h.get j = some o) : j < h.next := Heap.get_lt hj
theorem get_push_old {h : Heap} {o o' : Obj} {j : Nat} (hj : h.get j = some o') : (h.push o).get j = some o' := by
 rw [Heap.get_push_old _ (get_lt hj)]; exact hj
theorem put_push (h : Heap) (o o' : Obj) : (h.push o).put h.next (some o') = h.push o' := by
 show (if h.next < h.next + 1 then (⟨h.next + 1, HT.ins (h.next + 1) (HT.ins (h.next + 1) h.t h.next (some o)) h.next (some o')⟩ : Heap) else h.push o) = ⟨h.next + 1, HT.ins (h.next + 1) h.t h.next (some o')⟩
 rw [if_pos (Nat.lt_succ_self _), HT.ins_ins]
theorem put_push_old {h : Heap} {o : Obj} {j : Nat} (o' : Option Obj) (hj : j < h.next) : (h.push o).put j o' = (h.put j o').push o := by
 exact Heap.put_push_lt h hj o' o
end Go.Abs

namespace Go.Abs
variable {F : Nat → Option AEnt} {ev : Opd → AVal} {h : Heap} {K : AVal → Heap → Prop}
theorem ev_v (vs ts : List AVal) (i : Nat) : evOpd vs ts (.v i) = (vs[i]?).getD .bad := _root_.id rfl
theorem ev_t (vs ts : List AVal) (i : Nat) : evOpd vs ts (.t i) = (ts[i]?).getD .bad := _root_.id rfl
theorem ev_c (vs ts : List AVal) (x : AVal) : evOpd vs ts (.c x) = x := _root_.id rfl
theorem putV_tmp (vs : List AVal) (r : AVal) : putV .tmp vs r = vs := _root_.id rfl
theorem putV_no (vs : List AVal) (r : AVal) : putV .no vs r = vs := _root_.id rfl
theorem putV_var (vs : List AVal) (r : AVal) (i : Nat) : putV (.var i) vs r = vs.set i r := _root_.id rfl
theorem putT_tmp (r : AVal) : putT .tmp r = r := _root_.id rfl
theorem putT_no (r : AVal) : putT .no r = .bad := _root_.id rfl
theorem putT_var (r : AVal) (i : Nat) : putT (.var i) r = .bad := _root_.id rfl
def wantV : AVal → Bool → Option Bool
 | .bool c, b => some (c == b)
 | .tup [], _ => some false
 | _, _ => none
theorem want_V (vs ts : List AVal) (x : Opd) (b : Bool) : wantA (evOpd vs ts) (some (x, b)) = wantV (evOpd vs ts x) b := by
 simp only [wantA, wantV]
 cases evOpd vs ts x <;> first | rfl | skip
 rename_i l; cases l <;> rfl
theorem XW_val {op : AOp} (hop : ∀ cf, execA cf op ev h = evalA op ev h) {f : Option AVal} (e : evalA op ev h = f.map (·, h)) : XW F op ev h K ↔ bindK f K h := by
 rw [XW_eval hop, e]
 simp only [Option.map_eq_some_iff, Prod.mk.injEq]
 constructor
 ·rintro ⟨r, h', ⟨a, h1, rfl, rfl⟩, h2⟩; exact ⟨a, h1, h2⟩
 ·rintro ⟨r, h1, h2⟩; exact ⟨r, h, ⟨r, h1, rfl, rfl⟩, h2⟩
theorem XW_heap {op : AOp} (hop : ∀ cf, execA cf op ev h = evalA op ev h) {p : Prop} [Decidable p] {v : AVal} {h1 : Heap} (e : evalA op ev h = if p then some (v, h1) else none) : XW F op ev h K ↔ p ∧ K v h1 := by
 rw [XW_eval hop, e]
 constructor
 ·rintro ⟨r, h', he, q⟩
  split at he
  ·rename_i hp
   simp only [Option.some.injEq, Prod.mk.injEq] at he
   obtain ⟨rfl, rfl⟩ := he
   exact ⟨hp, q⟩
  ·simp at he
 ·rintro ⟨hp, q⟩
  exact ⟨v, h1, if_pos hp, q⟩
theorem XW_mov {x : Opd} : XW F (.mov x) ev h K ↔ bindK (some (ev x)) K h := XW_val (fun _ => rfl) rfl
theorem XW_bin {op : BinOp} {bk : BK} {x y : Opd} : XW F (.bin op bk x y) ev h K ↔ bindK (binA op bk (ev x) (ev y)) K h := by
 exact XW_val (fun _ => rfl) rfl
theorem XW_un {op : UnOp} {x : Opd} : XW F (.un op x) ev h K ↔ bindK (unA op (ev x)) K h := by
 exact XW_val (fun _ => rfl) rfl
theorem XW_load {n : Nat} {ag : Bool} {x : Opd} : XW F (.load n ag x) ev h K ↔ bindK (loadA n ag (ev x) h) K h := by
 exact XW_val (fun _ => rfl) rfl
theorem XW_store {n : Nat} {a x : Opd} : XW F (.store n a x) ev h K ↔ bindH ((storeA n (ev a) (ev x) h).map fun h' => (.tup [], h')) K := by
 rw [XW_eval (fun _ => rfl)]
 rfl
def valA (op : AOp) (a b : AVal) (h : Heap) : Option AVal :=
 match op with
 | .len _ => (match a with
   | .sl xs _ => some (.int .i64 xs.length)
   | .ref _ _ n _ => some (.int .i64 n)
   | _ => none)
 | .slen _ => (match a with
   | .str s => some (.int .i64 s.length)
   | _ => none)
 | .faddr off _ => (match a with
   | .ptr i o => some (.ptr i (o + off))
   | .rp cs => some (.rp (cs.drop off))
   | _ => none)
 | .nilc _ => (match a with
   | .ptr i o => some (.ptr i o)
   | .rp cs => some (.rp cs)
   | .fn f c => some (.fn f c)
   | _ => none)
 | .iaddr sz _ _ => (match a, b with
   | .sl xs _, .int _ n => if 0 ≤ n ∧ n < xs.length then (match xs[n.toNat]? with
     | some y => if y.cells.length = sz then some (.rp y.cells) else none
     | none => none) else none
   | .ref id off len s, .int _ n => if 0 ≤ n ∧ n < len ∧ s = sz then some (.ptr id (off + n.toNat * sz)) else none
   | _, _ => none)
 | .ext _ i => (match a with
   | .tup vs => vs[i]?
   | _ => none)
 | _ => none
theorem XW_len {x : Opd} : XW F (.len x) ev h K ↔ bindK (valA (.len x) (ev x) .bad h) K h := by
 refine XW_val (fun _ => rfl) ?_
 simp only [evalA, valA]
 cases ev x <;> rfl
theorem XW_slen {x : Opd} : XW F (.slen x) ev h K ↔ bindK (valA (.slen x) (ev x) .bad h) K h := by
 refine XW_val (fun _ => rfl) ?_
 simp only [evalA, valA]
 cases ev x <;> rfl
theorem XW_faddr {x : Opd} {off : Nat} : XW F (.faddr off x) ev h K ↔ bindK (valA (.faddr off x) (ev x) .bad h) K h := by
 refine XW_val (fun _ => rfl) ?_
 simp only [evalA, valA]
 cases ev x <;> rfl
theorem XW_nilc {x : Opd} : XW F (.nilc x) ev h K ↔ bindK (valA (.nilc x) (ev x) .bad h) K h := by
 refine XW_val (fun _ => rfl) ?_
 simp only [evalA, valA]
 cases ev x <;> rfl
theorem XW_ext {x : Opd} {i : Nat} : XW F (.ext x i) ev h K ↔ bindK (valA (.ext x i) (ev x) .bad h) K h := by
 refine XW_val (fun _ => rfl) ?_
 simp only [evalA, valA]
 cases ev x <;> rfl
theorem XW_pick {c a b : Opd} : XW F (.pick c a b) ev h K ↔ condB (ev c) (fun t => K (if t then ev a else ev b) h) := by
 rw [XW_eval (fun _ => rfl)]; simp only [evalA]
 constructor
 ·rintro ⟨r, h', e, q⟩
  split at e
  ·rename_i t ht
   simp only [Option.some.injEq, Prod.mk.injEq] at e
   obtain ⟨rfl, rfl⟩ := e
   exact ⟨t, ht, q⟩
  ·simp at e
 ·rintro ⟨t, ht, q⟩
  exact ⟨_, _, by rw [ht], q⟩
theorem XW_alloc {ty sz : Nat} {ag : Bool} {z : List AVal} : XW F (.alloc ty sz ag z) ev h K ↔ (z.length = sz ∧ z.all AVal.one = true) ∧ K (.ptr h.next 0) (h.push (.row true (typed ty) ag z)) := by
 exact XW_heap (fun _ => rfl) rfl
theorem XW_box {sz : Nat} {ag : Bool} {x : Opd} : XW F (.box sz ag x) ev h K ↔ ((ev x).cells.length = sz ∧ (ev x).cells.all AVal.one = true) ∧ K (.ptr h.next 0) (h.push (.row true 0 ag (ev x).cells)) := by
 exact XW_heap (fun _ => rfl) rfl
theorem bin_lss (k : IntKind) (a b : Int) : binA .lss .arith (.int k a) (.int k b) = some (.bool (decide (a < b))) := by simp [binA, intBin]
theorem bin_leq (k : IntKind) (a b : Int) : binA .leq .arith (.int k a) (.int k b) = some (.bool (decide (a ≤ b))) := by simp [binA, intBin]
theorem bin_gtr (k : IntKind) (a b : Int) : binA .gtr .arith (.int k a) (.int k b) = some (.bool (decide (b < a))) := by simp [binA, intBin]
theorem bin_geq (k : IntKind) (a b : Int) : binA .geq .arith (.int k a) (.int k b) = some (.bool (decide (b ≤ a))) := by simp [binA, intBin]
theorem bin_eql (k : IntKind) (a b : Int) : binA .eql .arith (.int k a) (.int k b) = some (.bool (decide (a = b))) := by simp [binA, intBin]; by_cases e : a = b <;> simp [e]
theorem bin_neq (k : IntKind) (a b : Int) : binA .neq .arith (.int k a) (.int k b) = some (.bool (decide (a ≠ b))) := by simp [binA, intBin]; by_cases e : a = b <;> simp [e]
theorem bin_add (a b : Int) : binA .add .arith (.int .i64 a) (.int .i64 b) = some (.int .i64 (IntKind.i64.wrap (a + b))) := by simp [binA, intBin]
theorem bin_sub (a b : Int) : binA .sub .arith (.int .i64 a) (.int .i64 b) = some (.int .i64 (IntKind.i64.wrap (a - b))) := by simp [binA, intBin]
theorem bin_mul (a b : Int) : binA .mul .arith (.int .i64 a) (.int .i64 b) = some (.int .i64 (IntKind.i64.wrap (a * b))) := by simp [binA, intBin]
theorem bin_eql_s (a b : List UInt8) : binA .eql .arith (.str a) (.str b) = some (.bool (decide (a = b))) := by simp [binA, strBin]; by_cases e : a = b <;> simp [e]
theorem bin_neq_s (a b : List UInt8) : binA .neq .arith (.str a) (.str b) = some (.bool (decide (a ≠ b))) := by simp [binA, strBin]; by_cases e : a = b <;> simp [e]
theorem bin_rem (a b : Int) (hb : b ≠ 0) : binA .rem .arith (.int .i64 a) (.int .i64 b) = some (.int .i64 (a.tmod b)) := by simp [binA, intBin, hb]
theorem bin_quo (a b : Int) (hb : b ≠ 0) : binA .quo .arith (.int .i64 a) (.int .i64 b) = some (.int .i64 (IntKind.i64.wrap (a.tdiv b))) := by simp [binA, intBin, hb]
theorem un_neg (a : Int) : unA .neg (.int .i64 a) = some (.int .i64 (IntKind.i64.wrap (-a))) := by simp [unA]
theorem un_not (a : Bool) : unA .not (.bool a) = some (.bool (!a)) := _root_.id rfl
theorem load_rp (n : Nat) (ag : Bool) (cs : List AVal) (h : Heap) : loadA n ag (.rp cs) h = if n ≤ cs.length then mk ag (cs.take n) else none := _root_.id rfl
theorem mk_f (c : AVal) : mk false [c] = some c := _root_.id rfl
theorem mk_t (cs : List AVal) : mk true cs = some (.agg cs) := _root_.id rfl
theorem len_sl (x : Opd) (xs : List AVal) (t : Tok) (h : Heap) (b : AVal) : valA (.len x) (.sl xs t) b h = some (.int .i64 xs.length) := _root_.id rfl
theorem len_ref (x : Opd) (id off n sz : Nat) (h : Heap) (b : AVal) : valA (.len x) (.ref id off n sz) b h = some (.int .i64 n) := _root_.id rfl
theorem slen_str (x : Opd) (s : List UInt8) (h : Heap) (b : AVal) : valA (.slen x) (.str s) b h = some (.int .i64 s.length) := _root_.id rfl
theorem faddr_rp (x : Opd) (off : Nat) (cs : List AVal) (h : Heap) (b : AVal) : valA (.faddr off x) (.rp cs) b h = some (.rp (cs.drop off)) := _root_.id rfl
theorem faddr_ptr (x : Opd) (off i o : Nat) (h : Heap) (b : AVal) : valA (.faddr off x) (.ptr i o) b h = some (.ptr i (o + off)) := _root_.id rfl
theorem nilc_ptr (x : Opd) (i o : Nat) (h : Heap) (b : AVal) : valA (.nilc x) (.ptr i o) b h = some (.ptr i o) := _root_.id rfl
theorem nilc_fn (x : Opd) (f : Nat) (c : List AVal) (h : Heap) (b : AVal) : valA (.nilc x) (.fn f c) b h = some (.fn f c) := _root_.id rfl
theorem ext_tup (x : Opd) (i : Nat) (vs : List AVal) (h : Heap) (b : AVal) : valA (.ext x i) (.tup vs) b h = vs[i]? := _root_.id rfl
theorem XW_iaddr {sz : Nat} {x i : Opd} : XW F (.iaddr sz x i) ev h K ↔ bindK (valA (.iaddr sz x i) (ev x) (ev i) h) K h := by
 refine XW_val (fun _ => rfl) ?_
 simp only [evalA, valA]
 cases ev x <;> cases ev i <;> first | rfl | skip
 ·rename_i xs tk k n
  by_cases h0 : 0 ≤ n ∧ n < xs.length
  ·simp only [h0, and_self, if_true]
   cases xs[n.toNat]? with
   | none => rfl
   | some y => by_cases h1 : y.cells.length = sz <;> simp [h1]
  ·simp only [h0, if_false]; rfl
 ·rename_i id off len s k n
  by_cases h0 : 0 ≤ n ∧ n < len ∧ s = sz
  ·simp only [h0, and_self, if_true]; rfl
  ·simp only [h0, if_false]; rfl
theorem stripL_nil : stripL [] = some [] := rfl
def sc (o : Option AVal) (p : Option (List AVal)) : Option (List AVal) := match o, p with
 | some y, some ys => some (y :: ys)
 | _, _ => none
theorem stripL_sc (x : AVal) (xs : List AVal) : stripL (x :: xs) = sc (strip x) (stripL xs) := by
 rfl
theorem sc_some (y : AVal) (ys : List AVal) : sc (some y) (some ys) = some (y :: ys) := rfl
theorem sc_none (p : Option (List AVal)) : sc none p = none := rfl
theorem st_int (k : IntKind) (n : Int) : strip (.int k n) = some (.int k n) := rfl
theorem st_bool (b : Bool) : strip (.bool b) = some (.bool b) := rfl
theorem st_str (s : List UInt8) : strip (.str s) = some (.str s) := rfl
theorem st_none (xs : List AVal) : strip (.sl xs .none) = some (.sl xs .none) := rfl
theorem st_nil (xs : List AVal) : strip (.sl xs .nil) = some (.sl xs .nil) := rfl
theorem st_own (xs : List AVal) (id sz : Nat) : strip (.sl xs (.own id sz)) = some (.sl xs .none) := rfl
theorem st_ref (a b c d : Nat) : strip (.ref a b c d) = none := rfl
theorem st_agg (cs : List AVal) : strip (.agg cs) = (stripL cs).map .agg := by simp only [strip]
theorem map_some' (cs : List AVal) : (some cs).map AVal.agg = some (.agg cs) := rfl
theorem pu_int (h : Heap) (k : IntKind) (n : Int) : purify h (.int k n) = some (.int k n) := rfl
theorem pu_bool (h : Heap) (b : Bool) : purify h (.bool b) = some (.bool b) := rfl
theorem pu_str (h : Heap) (s : List UInt8) : purify h (.str s) = some (.str s) := rfl
theorem pu_none (h : Heap) (xs : List AVal) : purify h (.sl xs .none) = some (.sl xs .none) := rfl
theorem pu_nil (h : Heap) (xs : List AVal) : purify h (.sl xs .nil) = some (.sl xs .nil) := rfl
theorem pu_own (h : Heap) (xs : List AVal) (id sz : Nat) : purify h (.sl xs (.own id sz)) = some (.sl xs .none) := rfl
end Go.Abs

namespace Go.Abs
variable {F : Nat → Option AEnt} {ev : Opd → AVal} {h : Heap} {K : AVal → Heap → Prop}
def Dum : Prop := True
theorem Dum_eq : Dum ↔ True := ⟨fun _ => trivial, fun _ => trivial⟩
@[congr] theorem bindK_congrD {d : Prop} {o o' : Option AVal} (e0 : Dum = d) (e : o = o') : bindK o K h = bindK o' K h := by rw [e]
@[congr] theorem bindH_congrD {d : Prop} {o o' : Option (AVal × Heap)} (e0 : Dum = d) (e : o = o') : bindH o K = bindH o' K := by rw [e]
def nth {α : Type} [Inhabited α] (l : List α) (i : Nat) : α := l.getD i default
theorem nth_eq {α : Type} [Inhabited α] {l : List α} {i : Nat} (h : i < l.length) : nth l i = l[i] := by simp [nth, List.getD_eq_getElem?_getD, List.getElem?_eq_getElem h]
theorem nth_mem {α : Type} [Inhabited α] {l : List α} {i : Nat} (h : i < l.length) : nth l i ∈ l := by rw [nth_eq h]; exact List.getElem_mem h
def ifP (p : Prop) (A B : Prop) : Prop := (p → A) ∧ (¬ p → B)
@[congr] theorem ifP_congr {p q A B : Prop} {d : Prop} (e0 : Dum = d) (e : p = q) : ifP p A B = ifP q A B := by rw [e]
theorem ifP_true (A B : Prop) : ifP True A B = A := by simp [ifP]
theorem ifP_false (A B : Prop) : ifP False A B = B := by simp [ifP]
theorem ifP_not (p A B : Prop) : ifP (¬ p) A B = ifP p B A := by
 apply propext
 constructor
 ·rintro ⟨a, b⟩; exact ⟨fun hp => b (fun h => h hp), fun hp => a hp⟩
 ·rintro ⟨a, b⟩
  refine ⟨fun hp => b hp, fun hp => ?_⟩
  exact a (Classical.byContradiction hp)
theorem ifP_pos {p A B : Prop} (hp : p) (a : A) : ifP p A B := ⟨fun _ => a, fun h => absurd hp h⟩
theorem ifP_neg {p A B : Prop} (hp : ¬ p) (b : B) : ifP p A B := ⟨fun h => absurd h hp, fun _ => b⟩
def condP (v : AVal) (A B : Prop) : Prop := ∃ t, v = .bool t ∧ ifP (t = true) A B
@[congr] theorem condP_congr {v w : AVal} {A B : Prop} {d : Prop} (e0 : Dum = d) (e : v = w) : condP v A B = condP w A B := by rw [e]
theorem condP_bool (b : Bool) (A B : Prop) : condP (.bool b) A B = ifP (b = true) A B := by
 apply propext
 constructor
 ·rintro ⟨t, e, q⟩; cases e; exact q
 ·intro q; exact ⟨b, rfl, q⟩
theorem WP_condP {x : Opd} {a b : ACode} {vs : List AVal} {Q : AExit → List AVal → Heap → Prop} : WP F (.cond x a b) vs h Q ↔ condP (evOpd vs [] x) (WP F a vs h Q) (WP F b vs h Q) := by
 rw [WP_cond]
 constructor
 ·rintro ⟨t, e, q⟩
  refine ⟨t, e, fun ht => ?_, fun ht => ?_⟩
  ·subst ht; exact q
  ·have : t = false := by simpa using ht
   subst this; exact q
 ·rintro ⟨t, e, q1, q2⟩
  refine ⟨t, e, ?_⟩
  cases t with
  | true => exact q1 rfl
  | false => exact q2 (by simp)
def guardP (v : AVal) (b : Bool) (A B : Prop) : Prop := ∃ t, wantV v b = some t ∧ ifP (t = true) A B
@[congr] theorem guardP_congr {v w : AVal} {b : Bool} {A B : Prop} {d : Prop} (e0 : Dum = d) (e : v = w) : guardP v b A B = guardP w b A B := by rw [e]
theorem guardP_t (c : Bool) (A B : Prop) : guardP (.bool c) true A B = ifP (c = true) A B := by
 apply propext
 constructor
 ·rintro ⟨t, e, q⟩; simp only [wantV, Option.some.injEq] at e; subst e; simpa using q
 ·intro q; exact ⟨c == true, rfl, by simpa using q⟩
theorem guardP_f (c : Bool) (A B : Prop) : guardP (.bool c) false A B = ifP (c = true) B A := by
 apply propext
 constructor
 ·rintro ⟨t, e, q⟩
  simp only [wantV, Option.some.injEq] at e; subst e
  cases c <;> simpa [ifP] using q
 ·intro q
  refine ⟨c == false, rfl, ?_⟩
  cases c <;> simpa [ifP] using q
theorem guardP_tup (b : Bool) (A B : Prop) : guardP (.tup []) b A B = B := by
 apply propext
 constructor
 ·rintro ⟨t, e, q⟩; simp only [wantV, Option.some.injEq] at e; subst e; simpa [ifP] using q
 ·intro q; exact ⟨false, rfl, by simpa [ifP] using q⟩
theorem RW_guardP {d : ADst} {op : AOp} {x : Opd} {b : Bool} {l : List AOper} {vs ts : List AVal} {K : List AVal → Heap → Prop} :
  RW F (⟨d, op, some (x, b)⟩ :: l) vs ts h K ↔ guardP (evOpd vs ts x) b (RW F (⟨d, op, none⟩ :: l) vs ts h K) (RW F (⟨d, .mov (.c (.tup [])), none⟩ :: l) vs ts h K) := by
 rw [RW_guard, want_V]
 constructor
 ·rintro ⟨t, e, q⟩
  refine ⟨t, e, fun ht => ?_, fun ht => ?_⟩
  ·subst ht; exact q
  ·have : t = false := by simpa using ht
   subst this; exact q
 ·rintro ⟨t, e, q1, q2⟩
  refine ⟨t, e, ?_⟩
  cases t with
  | true => exact q1 rfl
  | false => exact q2 (by simp)
theorem XW_pickP {c a b : Opd} : XW F (.pick c a b) ev h K ↔ condP (ev c) (K (ev a) h) (K (ev b) h) := by
 rw [XW_pick]
 constructor
 ·rintro ⟨t, e, q⟩
  refine ⟨t, e, fun ht => ?_, fun ht => ?_⟩
  ·subst ht; exact q
  ·have : t = false := by simpa using ht
   subst this; exact q
 ·rintro ⟨t, e, q1, q2⟩
  refine ⟨t, e, ?_⟩
  cases t with
  | true => exact q1 rfl
  | false => exact q2 (by simp)
theorem push_next (h : Heap) (o : Obj) : (h.push o).next = h.next + 1 := _root_.id rfl
theorem put_next (h : Heap) (i : Nat) (o : Option Obj) : (h.put i o).next = h.next := by unfold Heap.put; split <;> rfl
theorem empty_next : Heap.empty.next = 0 := _root_.id rfl
theorem get_push_ne {h : Heap} {o : Obj} {j : Nat} (hj : j ≠ h.next) : (h.push o).get j = h.get j := by
 by_cases hlt : j < h.next
 ·exact Heap.get_push_old _ hlt
 ·unfold Heap.get Heap.push
  rw [if_neg (by simp; omega), if_neg hlt]
theorem get_put_old {h : Heap} {j : Nat} {o1 : Obj} {o : Option Obj} (hj : h.get j = some o1) : (h.put j o).get j = o := Heap.get_put o hj
theorem get_put_ne {h : Heap} {i j : Nat} {o : Option Obj} (hj : j ≠ i) : (h.put i o).get j = h.get j := Heap.get_put_other o hj
theorem put_push_ne {h : Heap} {o : Obj} {j : Nat} (o' : Option Obj) (hj : j < h.next) : (h.push o).put j o' = (h.put j o').push o := put_push_old o' hj
def loadG (n : Nat) (ag : Bool) (off : Nat) : Option Obj → Option AVal
 | some (.row _ _ _ cs) => if off + n ≤ cs.length then mk ag ((cs.drop off).take n) else none
 | _ => none
theorem load_ptr (n : Nat) (ag : Bool) (id off : Nat) (h : Heap) : loadA n ag (.ptr id off) h = loadG n ag off (h.get id) := by
 simp only [loadA, loadG]
 cases h.get id with
 | none => rfl
 | some o => cases o <;> rfl
theorem loadG_row (n : Nat) (ag : Bool) (off : Nat) (mu : Bool) (s : Nat) (a : Bool) (cs : List AVal) : loadG n ag off (some (.row mu s a cs)) = if off + n ≤ cs.length then mk ag ((cs.drop off).take n) else none := rfl
def storeG (n id off : Nat) (x : AVal) (h : Heap) : Option Obj → Option Heap
 | some (.row true s ag cs) => if x.cells.length = n ∧ off + n ≤ cs.length ∧ x.cells.all AVal.one then some (h.put id (some (.row true s ag (setCells cs off x.cells)))) else none
 | _ => none
theorem store_ptr (n id off : Nat) (x : AVal) (h : Heap) : storeA n (.ptr id off) x h = storeG n id off x h (h.get id) := by
 simp only [storeA, storeG]
 cases h.get id with
 | none => rfl
 | some o => cases o with
   | row mu _ _ _ => cases mu <;> rfl
   | tok _ => rfl
   | map _ _ _ => rfl
   | lrec _ _ _ _ _ => rfl
   | iter _ _ _ _ => rfl
theorem storeG_row (n id off : Nat) (x : AVal) (h : Heap) (s : Nat) (a : Bool) (cs : List AVal) : storeG n id off x h (some (.row true s a cs)) = if x.cells.length = n ∧ off + n ≤ cs.length ∧ x.cells.all AVal.one then some (h.put id (some (.row true s a (setCells cs off x.cells)))) else none := rfl
def Fr (S : Nat → Prop) (h h' : Heap) : Prop := h.next ≤ h'.next ∧ ∀ j, j < h.next → ¬ S j → h'.get j = h.get j
theorem Fr.refl (S : Nat → Prop) (h : Heap) : Fr S h h := ⟨Nat.le_refl _, fun _ _ _ => rfl⟩
theorem Fr.trans {S : Nat → Prop} {h h1 h2 : Heap} (a : Fr S h h1) (b : Fr S h1 h2) : Fr S h h2 := ⟨Nat.le_trans a.1 b.1, fun j hj hs => (b.2 j (Nat.lt_of_lt_of_le hj a.1) hs).trans (a.2 j hj hs)⟩
theorem Fr.push {S : Nat → Prop} {h h1 : Heap} (a : Fr S h h1) (o : Obj) : Fr S h (h1.push o) := ⟨Nat.le_trans a.1 (Nat.le_succ _), fun j hj hs => by
 have := a.1
 rw [get_push_ne (by omega)]; exact a.2 j hj hs⟩
theorem Fr.put {S : Nat → Prop} {h h1 : Heap} (a : Fr S h h1) {i : Nat} (hi : S i ∨ h.next ≤ i) (o : Option Obj) : Fr S h (h1.put i o) := ⟨by rw [put_next]; exact a.1, fun j hj hs => by
 rw [get_put_ne]
 ·exact a.2 j hj hs
 ·rintro rfl
  rcases hi with h' | h'
  ·exact hs h'
  ·omega⟩
theorem Fr.mono {S T : Nat → Prop} {h h1 : Heap} (a : Fr S h h1) (hi : ∀ j, j < h.next → S j → T j) : Fr T h h1 := ⟨a.1, fun j hj hs => a.2 j hj (fun h' => hs (hi j hj h'))⟩
theorem Fr.get {S : Nat → Prop} {h h1 : Heap} (a : Fr S h h1) {j : Nat} {o : Obj} (hg : h.get j = some o) (hs : ¬ S j) : h1.get j = some o := by rw [a.2 j (get_lt hg) hs]; exact hg
def CV (F : Nat → Option AEnt) (g : Nat) (asx : List AVal) (h : Heap) (K : AVal → Heap → Prop) : Prop := ∃ r h', Gives F g asx h r h' ∧ K r h'
theorem CV_wp {g : Nat} {fn : AFunc} (hf : F g = some (.comp fn)) {args : List AVal} {h : Heap} {K : AVal → Heap → Prop}
  (w : WP F fn.body (fn.slots.map fun s => (args[s]?).getD (.tup [])) h (fun e vs h1 => (e = .normal ∨ e = .ret) ∧ resK fn.results vs h1 K)) : CV F g args h K := gives_wp hf w
theorem CV_mono {g : Nat} {asx : List AVal} {h : Heap} {K K' : AVal → Heap → Prop} (c : CV F g asx h K) (hi : ∀ r h', K r h' → K' r h') : CV F g asx h K' := by
 obtain ⟨r, h', c, k⟩ := c
 exact ⟨r, h', c, hi _ _ k⟩
def callK (F : Nat → Option AEnt) (f : AVal) (asx : List AVal) (h : Heap) (K : AVal → Heap → Prop) : Prop := (∃ g cap, f = .fn g cap ∧ CV F g (asx ++ cap) h K) ∨ ∃ id, f = .yld id ∧ YV F id asx h K
@[congr] theorem callK_congr {f f' : AVal} {asx as' : List AVal} {K : AVal → Heap → Prop} {d : Prop} (e0 : Dum = d) (e : f = f') (e2 : asx = as') : callK F f asx h K = callK F f' as' h K := by rw [e, e2]
@[congr] theorem CV_congr {g : Nat} {asx as' : List AVal} {K : AVal → Heap → Prop} {d : Prop} (e0 : Dum = d) (e2 : asx = as') : CV F g asx h K = CV F g as' h K := by rw [e2]
theorem callK_fn (g : Nat) (cap asx : List AVal) : callK F (.fn g cap) asx h K = CV F g (asx ++ cap) h K := by
 apply propext
 constructor
 ·rintro (⟨g', c', e, q⟩ | ⟨_, e, _⟩)
  ·cases e; exact q
  ·simp at e
 ·intro q; exact .inl ⟨g, cap, rfl, q⟩
theorem XW_callK {f : Opd} {args : List Opd} : XW F (.call f args) ev h K ↔ callK F (ev f) (args.map ev) h K := by
 rw [XW_call]
 constructor
 ·rintro (⟨g, cap, hf, r, h', e, q⟩ | q)
  ·exact .inl ⟨g, cap, hf, r, h', of_GV e, q⟩
  ·exact .inr q
 ·rintro (⟨g, cap, hf, r, h', e, q⟩ | q)
  ·exact .inl ⟨g, cap, hf, r, h', GV_of e, q⟩
  ·exact .inr q
theorem callK_yld (id : Nat) (asx : List AVal) (h : Heap) (K : AVal → Heap → Prop) : callK F (.yld id) asx h K = YV F id asx h K := by
 unfold callK
 refine propext ⟨?_, fun q => .inr ⟨id, rfl, q⟩⟩
 rintro (⟨g, cap, e, _⟩ | ⟨i, e, q⟩)
 ·simp at e
 ·cases e; exact q
def GK (h : Heap) (K : AVal → Heap → Prop) (r : AVal) (h' : Heap) : Prop := extB h h' = true ∧ K r h'
theorem GK_same (h : Heap) (K : AVal → Heap → Prop) (r : AVal) : GK h K r h = K r h := by
 unfold GK; simp [extB_refl]
theorem XW_gcall {g : Nat} {args : List Opd} : XW F (.gcall g args) ev h K ↔ CV F g (args.map ev) h (GK h K) := by
 constructor
 ·intro w
  unfold XW at w
  obtain ⟨n, r, h', hx, hq⟩ := w
  simp only [execA] at hx
  split at hx
  ·rename_i r1 h1 hc
   split at hx
   ·rename_i he
    simp only [Option.some.injEq, Prod.mk.injEq] at hx
    obtain ⟨rfl, rfl⟩ := hx
    exact ⟨r1, h1, cf_gives hc, he, hq⟩
   ·simp at hx
  ·simp at hx
 ·rintro ⟨r, h', c, he, hq⟩
  exact x_gcall r h' c he hq
theorem XW_build {z : List AVal} {ps : List (Nat × Nat × Opd)} : XW F (.build z ps) ev h K ↔ bindK ((fillA z (ps.map fun p => (p.1, p.2.1, ev p.2.2))).map .agg) K h := by
 refine XW_val (fun _ => rfl) ?_
 simp only [evalA, Option.map_map]; rfl
theorem fillA_nil (z : List AVal) : fillA z [] = some z := rfl
theorem fillA_cons (z : List AVal) (off n : Nat) (v : AVal) (l : List (Nat × Nat × AVal)) : fillA z ((off, n, v) :: l) = if v.cells.length = n ∧ off + n ≤ z.length ∧ v.cells.all AVal.one then fillA (setCells z off v.cells) l else none := rfl
theorem XW_field {off n : Nat} {ag : Bool} {x : Opd} : XW F (.field off n ag x) ev h K ↔ bindK (match ev x with | .agg cs => if off + n ≤ cs.length then mk ag ((cs.drop off).take n) else none | _ => none) K h := by
 refine XW_val (fun _ => rfl) ?_
 simp only [evalA]
 cases ev x <;> first | rfl | skip
 rename_i cs; by_cases h1 : off + n ≤ cs.length <;> simp [h1]
theorem XW_clo {f : Nat} {cap : List Opd} : XW F (.clo f cap) ev h K ↔ bindK (some (.fn f (cap.map ev))) K h := XW_val (fun _ => rfl) rfl
def toIntA (k : IntKind) : AVal → Option AVal
 | .int _ n => some (.int k (k.wrap n))
 | _ => none
theorem toInt_int (k k' : IntKind) (n : Int) : toIntA k (.int k' n) = some (.int k (k.wrap n)) := _root_.id rfl
theorem XW_toInt {k : IntKind} {x : Opd} : XW F (.toInt k x) ev h K ↔ bindK (toIntA k (ev x)) K h := by
 refine XW_val (fun _ => rfl) ?_
 simp only [evalA]; cases ev x <;> rfl
theorem XW_idstr {x : Opd} : XW F (.idstr x) ev h K ↔ bindK (match ev x with | .str s => some (.str s) | _ => none) K h := by
 refine XW_val (fun _ => rfl) ?_
 simp only [evalA]; cases ev x <;> rfl
theorem XW_slice {sz : Nat} {x : Opd} {lo hi : Option Opd} : XW F (.slice sz x lo hi) ev h K ↔ bindK (sliceA sz (ev x) (lo.map ev) (hi.map ev)) K h := XW_val (fun _ => rfl) rfl
theorem XW_sslice {x : Opd} {lo hi : Option Opd} : XW F (.sslice x lo hi) ev h K ↔ bindK (ssliceA (ev x) (lo.map ev) (hi.map ev)) K h := XW_val (fun _ => rfl) rfl
def sidxA (x i : AVal) : Option AVal := match x, i with
 | .str s, .int _ n => if 0 ≤ n then (s[n.toNat]?).map (fun b => .int .u8 b.toNat) else none
 | _, _ => none
theorem XW_sidx {x i : Opd} : XW F (.sidx x i) ev h K ↔ bindK (sidxA (ev x) (ev i)) K h := by
 refine XW_val (fun _ => rfl) ?_
 simp only [evalA, sidxA]
 cases ev x <;> cases ev i <;> first | rfl | skip
 rename_i s k n
 by_cases h0 : 0 ≤ n
 ·simp only [h0, if_true]
  cases s[n.toNat]? <;> rfl
 ·simp only [h0, if_false]; rfl
theorem sidx_str (s : List UInt8) (k : IntKind) (n : Int) (h0 : 0 ≤ n) (h1 : n < s.length) : sidxA (.str s) (.int k n) = some (.int .u8 (nth s n.toNat).toNat) := by
 have : n.toNat < s.length := by omega
 simp [sidxA, h0, nth, List.getD_eq_getElem?_getD, List.getElem?_eq_getElem this]
theorem boundA_none (d y : Nat) : boundA none d y = some d := rfl
theorem boundA_int (k : IntKind) (i : Int) (d y : Nat) (h0 : 0 ≤ i) (h1 : i ≤ y) : boundA (some (.int k i)) d y = some i.toNat := by simp [boundA, h0, h1]
theorem sslice_str (s : List UInt8) (lo hi : Option AVal) {a b : Nat} (hb : boundA hi s.length s.length = some b) (ha : boundA lo 0 b = some a) : ssliceA (.str s) lo hi = some (.str ((s.drop a).take (b - a))) := by simp only [ssliceA, hb, ha]
theorem XW_appendK {arr : Bool} {ty bytes sz : Nat} {ag : Bool} {x y : Opd} : XW F (.append arr ty bytes sz ag x y) ev h K ↔ bindH (appendA arr ty bytes sz ag (ev x) (ev y) h) K := by
 rw [XW_eval (fun _ => rfl)]; rfl
theorem XW_copyK {sz : Nat} {x y : Opd} : XW F (.copy sz x y) ev h K ↔ bindH (copyA sz (ev x) (ev y) h) K := by
 rw [XW_eval (fun _ => rfl)]; rfl
def mkslA (bytes sz : Nat) (ag : Bool) (z : List AVal) (l c : AVal) (h : Heap) : Option (AVal × Heap) := match l, c with
 | .int _ a, .int _ b => if 0 ≤ a ∧ a ≤ b ∧ b < 9223372036854775808 ∧ bytes * b ≤ 281474976710656 ∧ z.length = sz ∧ z.all AVal.one ∧ small sz then some (.ref h.next 0 a.toNat sz, h.push (.row true sz ag (repl a.toNat z))) else none
 | _, _ => none
theorem XW_mksl {bytes sz : Nat} {ag : Bool} {z : List AVal} {l c : Opd} : XW F (.mksl bytes sz ag z l c) ev h K ↔ bindH (mkslA bytes sz ag z (ev l) (ev c) h) K := by
 rw [XW_eval (fun _ => rfl)]
 have : evalA (.mksl bytes sz ag z l c) ev h = mkslA bytes sz ag z (ev l) (ev c) h := by
  simp only [evalA, mkslA]
  cases ev l <;> cases ev c <;> rfl
 rw [this]; rfl
theorem mksl_int (bytes sz : Nat) (ag : Bool) (z : List AVal) (k k' : IntKind) (a : Int) (h : Heap) (h0 : 0 ≤ a) (h1 : a < 1000000000) (hb : bytes ≤ 100000) (hz : z.length = sz) (ho : z.all AVal.one = true) (hs : small sz = true) : mkslA bytes sz ag z (.int k a) (.int k' a) h = some (.ref h.next 0 a.toNat sz, h.push (.row true sz ag (repl a.toNat z))) := by
 have : (bytes : Int) * a ≤ 281474976710656 := by
  have h2 : (bytes : Int) * a ≤ 100000 * 1000000000 := Int.mul_le_mul (by omega) (by omega) h0 (by omega)
  omega
 have h3 : a < 9223372036854775808 := by omega
 simp [mkslA, h0, h3, this, hz, ho, hs]
def litA (mode ty n sz : Nat) (ag : Bool) (z : List AVal) (fl : Option (List AVal)) (h : Heap) : Option (AVal × Heap) := match fl with
    | some cs =>
      if !(decide (z.length = sz) && z.all AVal.one && decide (n * sz ≤ 16777216) && small sz) then none else
      if mode = 2 then some (.ref h.next 0 n sz, h.push (.row true sz ag cs))
      else if mode = 3 then (match purifyL h cs, freeze h (refIdsL cs) with
       | some cs, some h => match chunk sz ag n cs with
         | none => none
         | some xs => some (.sl xs .none, h)
       | _, _ => none)
      else match stripL cs with
       | none => none
       | some cs => match chunk sz ag n cs with
         | none => none
         | some xs => if mode = 1 then some (.sl xs (.own h.next sz), h.push (.tok ty)) else some (.sl xs .none, h)
    | none => none
theorem XW_lit {mode ty n sz : Nat} {ag : Bool} {z : List AVal} {ps : List (Nat × Opd)} : XW F (.lit mode ty n sz ag z ps) ev h K ↔ bindH (litA mode ty n sz ag z (fillA (repl n z) (ps.map fun p => (p.1 * sz, sz, ev p.2))) h) K := by
 rw [XW_eval (fun _ => rfl)]; rfl
theorem lit_none {mode ty n sz : Nat} {ag : Bool} {z : List AVal} {cs cs' xs : List AVal} {h : Heap} (hs : stripL cs = some cs') (hc : chunk sz ag n cs' = some xs) (hm : mode = 0) (hk : (decide (z.length = sz) && z.all AVal.one && decide (n * sz ≤ 16777216) && small sz) = true) :
  litA mode ty n sz ag z (some cs) h = some (.sl xs .none, h) := by
 subst hm
 simp only [litA, hk, hs, hc]; rfl
theorem lit_own {mode ty n sz : Nat} {ag : Bool} {z : List AVal} {cs cs' xs : List AVal} {h : Heap} (hs : stripL cs = some cs') (hc : chunk sz ag n cs' = some xs) (hm : mode = 1) (hk : (decide (z.length = sz) && z.all AVal.one && decide (n * sz ≤ 16777216) && small sz) = true) :
  litA mode ty n sz ag z (some cs) h = some (.sl xs (.own h.next sz), h.push (.tok ty)) := by
 subst hm
 simp only [litA, hk, hs, hc]; rfl
theorem XW_x {op : XOp} {args : List Opd} : XW F (.x op args) ev h K ↔ bindH (evalX op (args.map ev) h) K := by
 rw [XW_eval (fun _ => rfl)]; rfl
theorem X_mkmap (kd : KD) (h : Heap) : evalX (.mkmap kd) [] h = some (.mp h.next, h.push (.map kd 0 [])) := _root_.id rfl
def lookM (kd : KD) (z : AVal) (ok : Bool) (k : AVal) (h : Heap) : Option Obj → Option (AVal × Heap)
 | some (.map kd' _ es) => if kd' = kd then (match findE kd k es 0 with
    | some (_, v) => some (if ok then .tup [v, .bool true] else v, h)
    | none => some (if ok then .tup [z, .bool false] else z, h)) else none
 | _ => none
theorem X_mlook (kd : KD) (z : AVal) (ok : Bool) (id : Nat) (k : AVal) (h : Heap) (hk : isKey kd k = true) : evalX (.mlook kd z ok) [.mp id, k] h = lookM kd z ok k h (h.get id) := by
 simp only [evalX, hk, if_true, lookM]
 cases h.get id with
 | none => rfl
 | some o => cases o <;> rfl
def putM (kd : KD) (id : Nat) (k v : AVal) (h : Heap) : Option Obj → Option (AVal × Heap)
 | some (.map kd' clock es) => if kd' = kd ∧ plain v = true then some (.tup [], h.put id (some (.map kd (mput kd k v clock es).1 (mput kd k v clock es).2))) else none
 | _ => none
theorem X_mput (kd : KD) (id : Nat) (k v : AVal) (h : Heap) (hk : isKey kd k = true) : evalX (.mput kd) [.mp id, k, v] h = putM kd id k v h (h.get id) := by
 simp only [evalX, hk, if_true, putM]
 cases h.get id with
 | none => rfl
 | some o => cases o <;> rfl
theorem putM_map {v : AVal} (hp : plain v = true) (kd : KD) (id : Nat) (k : AVal) (h : Heap) (c : Nat) (es : List (Nat × AVal × AVal)) : putM kd id k v h (some (.map kd c es)) = some (.tup [], h.put id (some (.map kd (mput kd k v c es).1 (mput kd k v c es).2))) := by
 simp [putM, hp]
def mdelE (kd : KD) (k : AVal) (es : List (Nat × AVal × AVal)) : List (Nat × AVal × AVal) := match findE kd k es 0 with
 | some (i, _) => es.eraseIdx i
 | none => es
def delM (kd : KD) (id : Nat) (k : AVal) (h : Heap) : Option Obj → Option (AVal × Heap)
 | some (.map kd' clock es) => if kd' = kd then some (.tup [], h.put id (some (.map kd clock (mdelE kd k es)))) else none
 | _ => none
theorem X_mdel (kd : KD) (id : Nat) (k : AVal) (h : Heap) (hk : isKey kd k = true) : evalX (.mdel kd) [.mp id, k] h = delM kd id k h (h.get id) := by
 simp only [evalX, hk, if_true, delM, mdelE]
 cases h.get id with
 | none => rfl
 | some o => cases o <;> first | rfl | skip
             rename_i kd' c es
             by_cases hkd : kd' = kd
             ·simp only [hkd, if_true]; cases findE kd k es 0 <;> rfl
             ·simp [hkd]
theorem delM_map {kd : KD} {id : Nat} {k : AVal} {h : Heap} {c : Nat} {es : List (Nat × AVal × AVal)} : delM kd id k h (some (.map kd c es)) = some (.tup [], h.put id (some (.map kd c (mdelE kd k es)))) := by
 simp [delM]
theorem isKey_int (k : IntKind) (n : Int) : isKey (.int k) (.int k n) = true := by simp [isKey]
theorem isKey_str (s : List UInt8) : isKey .str (.str s) = true := rfl
def byteV (b : UInt8) : AVal := .int .u8 b.toNat
theorem X_s2b_f (s : List UInt8) (h : Heap) (hl : s.length ≤ 1000000) : evalX (.s2b false) [.str s] h = some (.sl (s.map byteV) .none, h) := by
 simp only [evalX, hl, if_true]; rfl
theorem X_s2b_t (s : List UInt8) (h : Heap) (hl : s.length ≤ 1000000) : evalX (.s2b true) [.str s] h = some (.ref h.next 0 s.length 1, h.push (.row true 1 false (s.map byteV))) := by
 simp only [evalX, hl, if_true]; rfl
theorem u8cell_byte (b : UInt8) : u8cell (byteV b) = true := by
 have := b.toNat_lt
 simp [u8cell, byteV]; omega
theorem u8all_byte (s : List UInt8) : (s.map byteV).all u8cell = true := by
 simp only [List.all_map, List.all_eq_true, Function.comp_apply]
 exact fun b _ => u8cell_byte b
theorem bytesL_byte : ∀ (s : List UInt8), bytesL (s.map byteV) = some s
 | [] => rfl
 | b :: s => by simp [bytesL, byteV, bytesL_byte s]
theorem flat_byte (s : List UInt8) : flat (s.map byteV) = s.map byteV := by
 induction s with
 | nil => rfl
 | cons b s ih => simp only [flat, List.map_cons, List.flatMap_cons] at ih ⊢; rw [ih]; rfl
theorem X_b2s_sl (s : List UInt8) (t : Tok) (h : Heap) : evalX .b2s [.sl (s.map byteV) t] h = some (.str s, h) := by
 have he : elemsA h 1 (.sl (s.map byteV) t) = some (s.map byteV) := by
  simp only [elemsA]
  rw [if_pos, flat_byte]
  intro y hy
  cases s with
  | nil => simp at hy
  | cons b s => simp at hy; subst hy; rfl
 simp only [evalX, bytesA, he, u8all_byte, if_true, bytesL_byte, Option.map_some]
def b2sM (off len : Nat) (h : Heap) : Option Obj → Option (AVal × Heap)
 | some (.row _ _ _ cs) => if off + len ≤ cs.length ∧ ((cs.drop off).take len).all u8cell = true then (bytesL ((cs.drop off).take len)).map fun s => (.str s, h) else none
 | _ => none
theorem X_b2s_ref (id off len : Nat) (h : Heap) : evalX .b2s [.ref id off len 1] h = b2sM off len h (h.get id) := by
 simp only [evalX, bytesA, elemsA, if_true, b2sM]
 cases h.get id with
 | none => rfl
 | some o =>
   cases o <;> first | rfl | skip
   rename_i mu sz ag cs
   simp only [Nat.mul_one]
   by_cases h1 : off + len ≤ cs.length
   ·simp only [h1, if_true, true_and]
   ·simp only [h1, if_false, false_and]
def asM (id off n sz : Nat) (h : Heap) : Option Obj → Option (AVal × Heap)
 | some (.row _ _ _ cs) => if off + n * sz ≤ cs.length ∧ 0 < sz then some (.ref id off n sz, h) else none
 | _ => none
theorem X_as_ff (n sz : Nat) (ag : Bool) (id off : Nat) (h : Heap) : evalX (.aslice n sz ag false false) [.ptr id off] h = asM id off n sz h (h.get id) := by
 simp only [evalX, boundA, asM]
 cases h.get id with
 | none => rfl
 | some o => cases o <;> simp
theorem asM_row {id off n sz : Nat} {h : Heap} {mu : Bool} {s : Nat} {ag : Bool} {cs : List AVal} (hl : off + n * sz ≤ cs.length) (hp : 0 < sz) : asM id off n sz h (some (.row mu s ag cs)) = some (.ref id off n sz, h) := by
 simp [asM, hl, hp]
def asM2 (id off n sz : Nat) (b : Int) (h : Heap) : Option Obj → Option (AVal × Heap)
 | some (.row _ _ _ cs) => if off + n * sz ≤ cs.length ∧ 0 < sz ∧ 0 ≤ b ∧ b ≤ n then some (.ref id off b.toNat sz, h) else none
 | _ => none
theorem X_as_ft (n sz : Nat) (ag : Bool) (id off : Nat) (k : IntKind) (b : Int) (h : Heap) (h0 : 0 ≤ b) (h1 : b ≤ n) : evalX (.aslice n sz ag false true) [.ptr id off, .int k b] h = asM2 id off n sz b h (h.get id) := by
 simp only [evalX, boundA, asM2, if_true, List.head?_cons, h0, h1, and_self, Bool.false_eq_true, if_false]
 cases h.get id with
 | none => rfl
 | some o => cases o <;> simp
theorem asM2_row {id off n sz : Nat} {b : Int} {h : Heap} {mu : Bool} {s : Nat} {ag : Bool} {cs : List AVal} (hl : off + n * sz ≤ cs.length) (hp : 0 < sz) (h0 : 0 ≤ b) (h1 : b ≤ n) : asM2 id off n sz b h (some (.row mu s ag cs)) = some (.ref id off b.toNat sz, h) := by
 simp [asM2, hl, hp, h0, h1]
theorem X_s2ap_sl (n sz : Nat) (s : List UInt8) (t : Tok) (h : Heap) (hl : n ≤ s.length) (hn : 0 < n) (hz : sz = 1) : evalX (.s2ap n sz) [.sl (s.map byteV) t] h = some (.rp ((s.take n).map byteV), h) := by
 subst hz
 simp only [evalX]
 rw [if_pos, flat_byte, Nat.mul_one, List.map_take]
 refine ⟨by simpa using hl, hn, fun y hy => ?_⟩
 cases s with
 | nil => simp at hy
 | cons b s => simp at hy; subst hy; rfl
theorem X_slice30_sl (sz : Nat) (xs : List AVal) (t : Tok) (k k' : IntKind) (h : Heap) : evalX (.slice30 sz) [.sl xs t, .int k 0, .int k' 0] h = some (.sl [] (if t = .nil then .nil else .full), h) := rfl
theorem X_slice30_ref (sz a b c d : Nat) (k k' : IntKind) (h : Heap) : evalX (.slice30 sz) [.ref a b c d, .int k 0, .int k' 0] h = some (.sl [] .full, h) := rfl
theorem iaddr_map {α : Type} [Inhabited α] (x i : Opd) {sz : Nat} {l : List α} {f : α → AVal} {t : Tok} {k : IntKind} {n : Int} (h : Heap) (h0 : 0 ≤ n) (h1 : n < l.length) :
  valA (.iaddr sz x i) (.sl (l.map f) t) (.int k n) h = if (f (nth l n.toNat)).cells.length = sz then some (.rp (f (nth l n.toNat)).cells) else none := by
 have hlt : n.toNat < l.length := by omega
 have : (l.map f)[n.toNat]? = some (f (nth l n.toNat)) := by
  simp [nth, List.getD_eq_getElem?_getD, List.getElem?_eq_getElem hlt]
 simp only [valA]
 rw [if_pos ⟨h0, by simp; omega⟩]
 simp only [this]
theorem iaddr_refP (x i : Opd) {sz id off len s : Nat} {k : IntKind} {n : Int} (h : Heap) (h0 : 0 ≤ n) (hy : n < len) (hs : s = sz) : valA (.iaddr sz x i) (.ref id off len s) (.int k n) h = some (.ptr id (off + n.toNat * sz)) := by
 simp only [valA, h0, hy, true_and, hs, if_true]
theorem pu_agg (h : Heap) (cs : List AVal) : purify h (.agg cs) = (purifyL h cs).map .agg := by simp only [purify]
theorem pu_tup (h : Heap) (cs : List AVal) : purify h (.tup cs) = (purifyL h cs).map .tup := by simp only [purify]
theorem puL_nil (h : Heap) : purifyL h [] = some [] := by simp only [purifyL]
theorem puL_cons (h : Heap) (x : AVal) (xs : List AVal) : purifyL h (x :: xs) = sc (purify h x) (purifyL h xs) := by
 rw [purifyL]; unfold sc; cases purify h x <;> cases purifyL h xs <;> rfl
theorem st_tup (cs : List AVal) : strip (.tup cs) = (stripL cs).map .tup := by simp only [strip]
theorem get_push_eq {h : Heap} {o : Obj} {j : Nat} (hj : j = h.next) : (h.push o).get j = some o := by subst hj; exact get_push h o
theorem put_push_eq {h : Heap} {o o' : Obj} {j : Nat} (hj : j = h.next) : (h.push o).put j (some o') = h.push o' := by subst hj; exact put_push h o o'
theorem ifP_notB (b : Bool) (A B : Prop) : ifP ((!b) = true) A B = ifP (b = true) B A := by cases b <;> simp [ifP]
theorem bin_eql_b (a b : Bool) : binA .eql .bool (.bool a) (.bool b) = some (.bool (a == b)) := rfl
theorem bin_neq_b (a b : Bool) : binA .neq .bool (.bool a) (.bool b) = some (.bool (!(a == b))) := rfl
theorem bin_struct_eql (ks : List CK) (xs ys : List AVal) : binA .eql (.struct ks) (.agg xs) (.agg ys) = (cellsEq ks xs ys).map .bool := rfl
theorem bin_struct_neq (ks : List CK) (xs ys : List AVal) : binA .neq (.struct ks) (.agg xs) (.agg ys) = (cellsEq ks xs ys).map (fun b => .bool (!b)) := rfl
theorem bin_add_s (a b : List UInt8) (hl : a.length + b.length ≤ 9223372036854775807) : binA .add .arith (.str a) (.str b) = some (.str (a ++ b)) := by simp [binA, strBin, hl]
def evS (n : Nat) (vs ts : List AVal) : Opd → AVal
 | .v i => (vs[i]?).getD .bad
 | .t k => if k < n then (ts[n - 1 - k]?).getD .bad else .bad
 | .c x => x
def padT (n : Nat) (ts : List AVal) : List AVal := ts.take n ++ List.replicate (n - ts.length) .bad
theorem padT_length (n : Nat) (ts : List AVal) : (padT n ts).length = n := by simp [padT]; omega
theorem padT_cons (n : Nat) (r : AVal) (ts : List AVal) : padT (n + 1) (r :: ts) = r :: padT n ts := by simp [padT]
theorem padT_get (n i : Nat) (ts : List AVal) (hi : i < n) : ((padT n ts)[i]?).getD .bad = (ts[i]?).getD .bad := by
 unfold padT
 by_cases h1 : i < ts.length
 ·rw [List.getElem?_append_left (by simp; omega), List.getElem?_take, if_pos hi]
 ·rw [List.getElem?_append_right (by simp; omega), List.getElem?_replicate, List.getElem?_eq_none (by omega : ts.length ≤ i)]
  split <;> rfl
theorem evS_eq {n : Nat} {vs ts : List AVal} : evOpd vs (padT n ts).reverse = evS n vs ts := by
 funext x
 cases x with
 | v i => rfl
 | c x => rfl
 | t k =>
   simp only [evOpd, evS]
   have hn := padT_length n ts
   by_cases hk : k < n
   ·rw [if_pos hk, List.getElem?_reverse (by omega), hn, padT_get _ _ _ (by omega)]
   ·rw [if_neg hk, List.getElem?_eq_none (by simp; omega)]; rfl
def RV (F : Nat → Option AEnt) (l : List AOper) (n : Nat) (vs ts : List AVal) (h : Heap) (K : List AVal → Heap → Prop) : Prop := RW F l vs (padT n ts).reverse h K
@[congr] theorem RV_congr {l : List AOper} {n n' : Nat} {vs vs' ts ts' : List AVal} {h h' : Heap} {K : List AVal → Heap → Prop} {d : Prop} (e0 : Dum = d) (e1 : n = n') (e2 : vs = vs') (e3 : ts = ts') (e4 : h = h') : RV F l n vs ts h K = RV F l n' vs' ts' h' K := by rw [e1, e2, e3, e4]
@[congr] theorem WP_congr {c : ACode} {vs vs' : List AVal} {h h' : Heap} {Q : AExit → List AVal → Heap → Prop} {d : Prop} (e0 : Dum = d) (e2 : vs = vs') (e4 : h = h') : WP F c vs h Q = WP F c vs' h' Q := by rw [e2, e4]
theorem WP_opsV {l : List AOper} {vs : List AVal} {Q : AExit → List AVal → Heap → Prop} : WP F (.ops l) vs h Q ↔ RV F l 0 vs [] h (Q .normal) := by
 rw [WP_ops]
 exact Iff.rfl
theorem RV_nil {n : Nat} {vs ts : List AVal} {K : List AVal → Heap → Prop} : RV F [] n vs ts h K ↔ K vs h := by
 unfold RV
 rw [RW_nil]
theorem RV_exec {n : Nat} {d : ADst} {op : AOp} {l : List AOper} {vs ts : List AVal} {K : List AVal → Heap → Prop} :
  RV F (⟨d, op, none⟩ :: l) n vs ts h K ↔ XW F op (evS n vs ts) h (fun r h' => RV F l (n + 1) (putV d vs r) (putT d r :: ts) h' K) := by
 unfold RV
 rw [RW_exec, evS_eq]
 simp only [padT_cons, List.reverse_cons]
theorem RV_guardP {n : Nat} {d : ADst} {op : AOp} {x : Opd} {b : Bool} {l : List AOper} {vs ts : List AVal} {K : List AVal → Heap → Prop} :
  RV F (⟨d, op, some (x, b)⟩ :: l) n vs ts h K ↔ guardP (evS n vs ts x) b (RV F (⟨d, op, none⟩ :: l) n vs ts h K) (RV F (⟨d, .mov (.c (.tup [])), none⟩ :: l) n vs ts h K) := by
 unfold RV
 rw [RW_guardP, evS_eq]
theorem evS_v (n : Nat) (vs ts : List AVal) (i : Nat) : evS n vs ts (.v i) = (vs[i]?).getD .bad := _root_.id rfl
theorem evS_t (n : Nat) (vs ts : List AVal) (k : Nat) : evS n vs ts (.t k) = if k < n then (ts[n - 1 - k]?).getD .bad else .bad := _root_.id rfl
theorem evS_c (n : Nat) (vs ts : List AVal) (x : AVal) : evS n vs ts (.c x) = x := _root_.id rfl
attribute [irreducible] RV
theorem toNat_pred (a : Int) : (a - 1).toNat = a.toNat - 1 := by omega
theorem toNat_succ (i : Nat) : ((i : Int) + 1).toNat = i + 1 := by omega
end Go.Abs

namespace Go.Abs
variable {P : Program} {Hh : Hints} {F : Nat → Option AEnt}
def SR (P : Program) (Hh : Hints) (nt : Nat) (slots : List Nat) (ops : Array Oper) (k : Nat) (vs ts : List AVal) (h : Heap) (Q : List AVal → Heap → Prop) : Prop :=
 ∀ (m : Nat) (a : Act) (w : World) (G : Ghost) (Qm : Exit → Act → World → Prop), G.env = envOf P Hh → SRel w G a nt slots ops.toList ⟨vs, ts ++ List.replicate (ops.size - k) .bad, h⟩ →
   (∀ vs' h' a' w' G', Q vs' h' → Ext w G h w' G' h' → CRel w' G' a' nt slots vs' h' → a'.defers = a.defers → Qm .normal a' w') → wpOpsIn (rF none) m P ops Qm (List.range' k (ops.size - k)) a w
theorem SW.of_SR {nt : Nat} {slots : List Nat} {id : Nat} {ops : Array Oper} {vs : List AVal} {h : Heap} {Q : AExit → List AVal → Heap → Prop} (r : SR P Hh nt slots ops 0 vs [] h (Q .normal)) : SW P Hh nt slots (.region id ops false) vs h Q := by
 intro m a w G Qm hE hC hQ
 refine wpIn_region ?_
 have := r m a w G Qm hE ⟨hC.H, hC.F, ⟨by simp, fun k t o x h1 h2 h3 h4 => ?_⟩, hC.size⟩ (fun vs' h' a' w' G' q hX hC' hd => hQ .normal vs' h' a' w' G' q hX hC' (.of_eq hd))
 ·rw [List.range_eq_range']; simpa using this
 ·simp only [List.nil_append, List.getElem?_replicate] at h4
  split at h4
  ·simp at h4; subst h4; exact .bad _
  ·simp at h4
theorem SR.mono {nt : Nat} {slots : List Nat} {ops : Array Oper} {k : Nat} {vs ts : List AVal} {h : Heap} {Q Q' : List AVal → Heap → Prop} (r : SR P Hh nt slots ops k vs ts h Q) (hi : ∀ vs h, Q vs h → Q' vs h) : SR P Hh nt slots ops k vs ts h Q' :=
 fun m a w G Qm hE hS hQ => r m a w G Qm hE hS fun vs' h' a' w' G' q => hQ vs' h' a' w' G' (hi _ _ q)
theorem SR.of_rw (hmix : P.follows .mixedOrders = true) (hT : Table P Hh F) {fid nt : Nat} {slots : List Nat} (hnd : slots.Nodup) {ops : Array Oper} {asx : List AOper} (hc : compOpers P Hh fid slots ops.toList ops.toList 0 = some asx) (hd : dstsOk nt slots ops.toList = true)
  {k : Nat} {vs ts : List AVal} {h : Heap} {Q : List AVal → Heap → Prop} (hk : ts.length = k) (hle : k ≤ asx.length) (r : RW F (asx.drop k) vs ts h Q) : SR P Hh nt slots ops k vs ts h Q := by
 intro m a w G Qm hE hS hQ
 have hl : asx.length = ops.size := by have := (compOpers_get hc).1; simpa using this
 unfold RW at r
 obtain ⟨n, s', hr, hq⟩ := r
 rw [List.length_drop, hl, foldA_eq (cfOf F n) asx _ _ _ (fun j => by rw [List.getElem?_drop, hk]), List.length_drop, hl, hk] at hr
 exact fold_ok (cfOf_ok hmix hT n) hnd hd hc _ hE hS hr fun a' w' G' hX S' hdf => hQ s'.vs s'.h a' w' G' hq hX ⟨S'.H, S'.F, S'.size⟩ hdf
theorem SR.nil {nt : Nat} {slots : List Nat} {ops : Array Oper} {vs ts : List AVal} {h : Heap} {Q : List AVal → Heap → Prop} (q : Q vs h) {k : Nat} (hk : k = ops.size) : SR P Hh nt slots ops k vs ts h Q := by
 intro m a w G Qm hE hS hQ
 subst hk
 rw [Nat.sub_self]
 exact hQ vs h a w G q (Ext.refl _ _ _) ⟨hS.H, hS.F, hS.size⟩ rfl
theorem range_step {k n : Nat} (h : k < n) : List.range' k (n - k) = k :: List.range' (k + 1) (n - (k + 1)) := by
 rw [show n - k = (n - (k + 1)) + 1 by omega, List.range'_succ]
theorem SR.exec (hmix : P.follows .mixedOrders = true) (hT : Table P Hh F) {fid nt : Nat} {slots : List Nat} (hnd : slots.Nodup) {ops : Array Oper} {asx : List AOper} (hc : compOpers P Hh fid slots ops.toList ops.toList 0 = some asx) (hd : dstsOk nt slots ops.toList = true)
  {k : Nat} {vs ts : List AVal} {h : Heap} {Q : List AVal → Heap → Prop} (hk : ts.length = k) {d : ADst} {op : AOp} (ha : asx[k]? = some ⟨d, op, none⟩)
  (x : XW F op (evOpd vs ts) h (fun r h' => SR P Hh nt slots ops (k + 1) (putV d vs r) (ts ++ [putT d r]) h' Q)) : SR P Hh nt slots ops k vs ts h Q := by
 intro m a w G Qm hE hS hQ
 obtain ⟨e1, e2⟩ := compOpers_get hc
 have hl : asx.length = ops.size := by simpa using e1
 have hlt : k < ops.size := by rw [← hl]; exact (List.getElem?_eq_some_iff.1 ha).1
 obtain ⟨o, ho⟩ : ∃ o, ops.toList[k]? = some o := ⟨_, List.getElem?_eq_getElem (by simpa using hlt)⟩
 obtain ⟨ao', h1, h2⟩ := e2 k o ho
 rw [ha] at h1
 obtain rfl := Option.some.inj h1
 rw [Nat.zero_add] at h2
 have ho' : ops[k]? = some o := by simpa using ho
 unfold XW at x
 obtain ⟨n, r, h', hex, hr⟩ := x
 have hst : stepA (cfOf F n) ⟨d, op, none⟩ k ⟨vs, ts ++ List.replicate (ops.size - k) .bad, h⟩ = some ((⟨vs, ts ++ List.replicate (ops.size - k) .bad, h⟩ : St).put k d r h') := by
  simp only [stepA, wantA]
  rw [show evOpd vs (ts ++ List.replicate (ops.size - k) .bad) = evOpd vs ts from evOpd_pad vs ts _, hex]
 have hput : (⟨vs, ts ++ List.replicate (ops.size - k) .bad, h⟩ : St).put k d r h' = ⟨putV d vs r, (ts ++ [putT d r]) ++ List.replicate (ops.size - (k + 1)) .bad, h'⟩ := by
  rw [show ops.size - k = (ops.size - (k + 1)) + 1 by omega, ← hk]
  exact put_pad d vs ts _ h h' r
 rw [range_step hlt]
 simp only [wpOpsIn, ho']
 have key := step_ok (cfOf_ok hmix hT n) hnd hd ho' h2 hE hS hst (ro := none) (m := m) (Q := Qm) (next := wpOpsIn (rF none) m P ops Qm (List.range' (k + 1) (ops.size - (k + 1)))) fun a' w' G' hX S' hdf => by
  rw [hput] at hX S'
  exact hr m a' w' G' Qm (hX.env.trans hE) S' fun vs2 h2 a2 w2 G2 q hX2 hC2 hd2 => hQ vs2 h2 a2 w2 G2 q (hX.trans hX2) hC2 (hd2.trans hdf)
 split at key
 ·rename_i hw; rw [if_pos hw]; exact key
 ·rename_i hw; rw [if_neg hw]; exact ⟨fun _ _ => trivial, key⟩
theorem SR.any {nt : Nat} {slots : List Nat} (hnd : slots.Nodup) {ops : Array Oper} (hd : dstsOk nt slots ops.toList = true)
  {k : Nat} {vs ts : List AVal} {h : Heap} {Q : List AVal → Heap → Prop} (hk : ts.length = k) {o : Oper} (ho : ops.toList[k]? = some o) (hgd : o.guard = none) (hnde : ∀ c, o.op ≠ .defer c) {K : AVal → Heap → Prop}
  (hop : ∀ (a : Act) (w : World) (G : Ghost), G.env = envOf P Hh → HRel w G h → Ops a w G (compOpd Hh.glob slots ops.toList k) (evOpd vs ts) → ∃ r h', K r h' ∧ OpRes P o a w G h r h')
  (x : ∀ r h', K r h' → SR P Hh nt slots ops (k + 1) (putV (compDst slots o.dst) vs r) (ts ++ [putT (compDst slots o.dst) r]) h' Q) : SR P Hh nt slots ops k vs ts h Q := by
 intro m a w G Qm hE hS hQ
 have hlt : k < ops.size := by simpa using (List.getElem?_eq_some_iff.1 ho).1
 have ho' : ops[k]? = some o := by simpa using ho
 have hops : Ops a w G (compOpd Hh.glob slots ops.toList k) (evOpd vs ts) := by
  have := operand_ok (k := k) (fun g cs hg => (hS.H.glob g cs (by rw [hE]; exact hg)).1) hS.F hS.T
  rw [show evOpd vs (ts ++ List.replicate (ops.size - k) .bad) = evOpd vs ts from evOpd_pad vs ts _] at this
  exact this
 have hput : ∀ r h', (⟨vs, ts ++ List.replicate (ops.size - k) .bad, h⟩ : St).put k (compDst slots o.dst) r h' = ⟨putV (compDst slots o.dst) vs r, (ts ++ [putT (compDst slots o.dst) r]) ++ List.replicate (ops.size - (k + 1)) .bad, h'⟩ := fun r h' => by
  rw [show ops.size - k = (ops.size - (k + 1)) + 1 by omega, ← hk]
  exact put_pad _ vs ts _ h h' r
 obtain ⟨r, h', hK, v, w', G', hr, hX, hH, hv⟩ := hop a w G hE hS.H hops
 rw [range_step hlt]
 simp only [wpOpsIn, ho']
 have hw : Region.wanted o (yielded ops a.tmps) = true := by simp [Region.wanted, hgd]
 rw [if_pos hw]
 refine ⟨fun _ _ => trivial, ?_⟩
 rw [Oper.semAt_plain (rF none) a.eval o hnde]
 have fin : wpOpsIn (rF none) m P ops Qm (List.range' (k + 1) (ops.size - (k + 1))) (a.put o.dst v) w' := by
  have hp := put_rel hnd hd ho hS hX hH hv
  rw [hput] at hp
  refine x r h' hK m _ w' G' Qm (hX.env.trans hE) hp fun vs2 h2 a2 w2 G2 q hX2 hC2 hd2 => hQ vs2 h2 a2 w2 G2 q (hX.trans hX2) hC2 (hd2.trans ?_)
  cases o.dst <;> rfl
 rcases hr with hr | ⟨hr, rfl⟩
 ·rw [hr, Oper.uponIn_value]; exact fin
 ·rw [hr, Oper.uponIn_skip]; exact fin
theorem SR.call {nt : Nat} {slots : List Nat} (hnd : slots.Nodup) {ops : Array Oper} (hd : dstsOk nt slots ops.toList = true)
  {k : Nat} {vs ts : List AVal} {h : Heap} {Q : List AVal → Heap → Prop} (hk : ts.length = k) {o : Oper} (ho : ops.toList[k]? = some o) (hgd : o.guard = none) {g : Nat} {args : Array Operand} {tys : Array TypeId} (hcall : o.op = .call { callee := .value (.func g), args := args, argTypes := tys })
  {asx : List Opd} (has : optL (compOpd Hh.glob slots ops.toList k) args.toList = some asx) (henter : ∀ (cargs : Array Value) (w : World), (callFunc g cargs).run P w = .ok (.enter g cargs) w) {K : AVal → Heap → Prop}
  (hc : ∀ (w : World) (G : Ghost) (cargs : Array Value), G.env = envOf P Hh → HRel w G h → Pts w G cargs (asx.map (evOpd vs ts)) → Calls P g cargs w (fun e w' => ∃ r h', K r h' ∧ ∃ v G', e = .returned v ∧ Ext w G h w' G' h' ∧ HRel w' G' h' ∧ VRel w' G' v r))
  (x : ∀ r h', K r h' → SR P Hh nt slots ops (k + 1) (putV (compDst slots o.dst) vs r) (ts ++ [putT (compDst slots o.dst) r]) h' Q) : SR P Hh nt slots ops k vs ts h Q := by
 intro m a w G Qm hE hS hQ
 have hlt : k < ops.size := by simpa using (List.getElem?_eq_some_iff.1 ho).1
 have ho' : ops[k]? = some o := by simpa using ho
 have hops : Ops a w G (compOpd Hh.glob slots ops.toList k) (evOpd vs ts) := by
  have := operand_ok (k := k) (fun g cs hg => (hS.H.glob g cs (by rw [hE]; exact hg)).1) hS.F hS.T
  rw [show evOpd vs (ts ++ List.replicate (ops.size - k) .bad) = evOpd vs ts from evOpd_pad vs ts _] at this
  exact this
 have hput : ∀ r h', (⟨vs, ts ++ List.replicate (ops.size - k) .bad, h⟩ : St).put k (compDst slots o.dst) r h' = ⟨putV (compDst slots o.dst) vs r, (ts ++ [putT (compDst slots o.dst) r]) ++ List.replicate (ops.size - (k + 1)) .bad, h'⟩ := fun r h' => by
  rw [show ops.size - k = (ops.size - (k + 1)) + 1 by omega, ← hk]
  exact put_pad _ vs ts _ h h' r
 obtain ⟨p1, p2⟩ := opds_ok hops has
 have hpts : Pts w G (args.map a.eval) (asx.map (evOpd vs ts)) := ⟨by simpa using p1, fun k c x hc hx => p2 k c x (by simpa using hc) hx⟩
 have hrun : (execOp a.eval o).run P w = .ok (.enter g (args.map a.eval)) w := by
  simp [execOp, hcall, resolve, Act.eval, Deferred.ofValue, invoke, henter]
 rw [range_step hlt]
 simp only [wpOpsIn, ho']
 have hw : Region.wanted o (yielded ops a.tmps) = true := by simp [Region.wanted, hgd]
 rw [if_pos hw]
 refine ⟨fun _ _ => trivial, ?_⟩
 rw [Oper.semAt_plain (rF none) a.eval o (fun c hc => by rw [hcall] at hc; simp at hc), hrun, Oper.uponIn_enter]
 refine ⟨fun q => by simp [rF] at q, callsIn_rF ((hc w G _ hE hS.H hpts).mono fun e w' ⟨r, h', hK, v, G', he, hX, hH, hv⟩ => ?_)⟩
 subst he
 have hp := put_rel hnd hd ho hS hX hH hv
 rw [hput] at hp
 refine x r h' hK m _ w' G' Qm (hX.env.trans hE) hp fun vs2 h2 a2 w2 G2 q hX2 hC2 hd2 => hQ vs2 h2 a2 w2 G2 q (hX.trans hX2) hC2 (hd2.trans ?_)
 cases o.dst <;> rfl
theorem SR.next {nt : Nat} {slots : List Nat} (hnd : slots.Nodup) {ops : Array Oper} (hd : dstsOk nt slots ops.toList = true)
  {k : Nat} {vs ts : List AVal} {h : Heap} {Q : List AVal → Heap → Prop} (hk : ts.length = k) {o : Oper} (ho : ops.toList[k]? = some o) (hgd : o.guard = none) {it : Operand} (hop : o.op = .next it false) {x : Opd} (hit : compOpd Hh.glob slots ops.toList k it = some x)
  {rr mid since last clock : Nat} {seen : List Nat} {kd : KD} {es : List (Nat × AVal × AVal)}
  (hx : evOpd vs ts x = .ptr rr 0) (hg : h.get rr = some (.iter (some mid) since seen last)) (hm : h.get mid = some (.map kd clock es)) (hold : oldE since last es = true)
  (h0 : leftE seen es = [] → SR P Hh nt slots ops (k + 1) (putV (compDst slots o.dst) vs (.tup [.bool false])) (ts ++ [putT (compDst slots o.dst) (.tup [.bool false])]) h Q)
  (h1 : ∀ y ∈ leftE seen es, SR P Hh nt slots ops (k + 1) (putV (compDst slots o.dst) vs (.tup [.bool true, y.2.1, y.2.2])) (ts ++ [putT (compDst slots o.dst) (.tup [.bool true, y.2.1, y.2.2])]) (h.put rr (some (.iter (some mid) since (seen ++ [y.1]) clock))) Q) :
  SR P Hh nt slots ops k vs ts h Q := by
 refine SR.any hnd hd hk ho hgd (fun c hc => by rw [hop] at hc; simp at hc) (K := fun r h' => (leftE seen es = [] ∧ r = .tup [.bool false] ∧ h' = h) ∨ ∃ y ∈ leftE seen es, r = .tup [.bool true, y.2.1, y.2.2] ∧ h' = h.put rr (some (.iter (some mid) since (seen ++ [y.1]) clock))) (fun a w G hE H hops => ?_) ?_
 ·have rx := hops _ _ hit
  rw [hx] at rx
  generalize hv : a.eval it = u at rx
  have hexec : ∀ {v w1}, (Instr.next u false o.type).run P w = .ok v w1 → (execOp a.eval o).run P w = .ok (.value v) w1 := fun hr => by simp [execOp, hop, hv, hr]
  cases rx
  obtain ⟨g1, g2⟩ := obj_iter H hg
  simp only [Option.map_some] at g1
  obtain ⟨entries, m1, m2, m3, m4, m5⟩ := obj_map H hm
  simp only [oldE, Bool.and_eq_true, List.all_eq_true, decide_eq_true_eq] at hold
  obtain ⟨ho1, ho2⟩ := hold
  obtain ⟨f1, f2⟩ := filter_rel (R := fun e x => VRel w G e.key x.2.1 ∧ VRel w G e.val x.2.2) (fun n => !seen.contains n) entries.toList es (by simpa using m2) (fun k e x q1 q2 => m3 k e x (by simpa using q1) q2)
  have hleft : (leftOf entries seen.toArray).toList = entries.toList.filter fun e => !seen.contains e.born := by
   unfold leftOf
   rw [Array.toList_filter]
   congr 1
   funext e
   simp
  have hold' : ∀ x ∈ entries.toList, x.born < since := fun x hx => by
   obtain ⟨k, hk⟩ := mem_get hx
   obtain ⟨y, hy⟩ : ∃ y, es[k]? = some y := ⟨_, List.getElem?_eq_getElem (by have := (List.getElem?_eq_some_iff.1 hk).1; simp at this; omega)⟩
   rw [(m3 k x y (by simpa using hk) hy).1]
   exact ho1 y (List.mem_of_getElem? hy)
  rcases next_run (P := P) (ty := o.type) g1 m1 hold' ho2 with ⟨n1, n2⟩ | ⟨en, n1, w1, n2, n3⟩
  ·refine ⟨_, _, .inl ⟨?_, rfl, rfl⟩, OpRes.same H (hexec n2) (.tup _ _ rfl fun k c' a' q1 q2 => ?_)⟩
   ·unfold leftE
    rw [← List.length_eq_zero_iff, ← f1, ← hleft]
    simpa using n1
   ·match k with
    | 0 => simp at q1 q2; subst q1; subst q2; exact .bool _
    | k + 1 => simp at q2
  ·rw [hleft] at n1
   obtain ⟨j, hj⟩ := mem_get n1
   obtain ⟨y, hy⟩ : ∃ y, (es.filter fun x => !seen.contains x.1)[j]? = some y := ⟨_, List.getElem?_eq_getElem (by rw [← f1]; exact (List.getElem?_eq_some_iff.1 hj).1)⟩
   obtain ⟨q1, q2, q3⟩ := f2 j en y hj hy
   have H1 : HRel w1 G h := by rcases n2 with e | e <;> subst e <;> first | exact H | exact HRel.of_heap (w := w) (w' := w.drew) ⟨rfl, rfl, rfl, rfl⟩ H
   obtain ⟨G', x1, x2⟩ := iter_write (clock := clock) H1 hg en.born
   rw [q1] at x1 x2 n3
   have hX : Ext w G h { w1 with heap := w1.heap.setIfInBounds (G.loc rr) (.mapIter (some (G.loc mid)) since (seen.toArray.push y.1) clock) } G' (h.put rr (some (.iter (some mid) since (seen ++ [y.1]) clock))) := by
    rcases n2 with rfl | rfl
    ·exact x1
    ·exact x1.drew
   refine ⟨_, _, .inr ⟨y, List.mem_of_getElem? hy, rfl, rfl⟩, _, _, G', .inl (hexec n3), hX, x2, .tup _ _ rfl fun k c' a' r1 r2 => ?_⟩
   match k with
   | 0 => simp at r1 r2; subst r1; subst r2; exact .bool _
   | 1 => simp at r1 r2; subst r1; subst r2; exact q2.mono hX
   | 2 => simp at r1 r2; subst r1; subst r2; exact q3.mono hX
   | k + 3 => simp at r2
 ·rintro r h' (⟨q1, rfl, rfl⟩ | ⟨y, q1, rfl, rfl⟩)
  ·exact h0 q1
  ·exact h1 y q1
theorem drop_pure {w w' : World} {G G1 : Ghost} {h0 : Heap} {v : Value} {r r' : AVal} (H : HRel w G Heap.empty) (hX : Ext w G Heap.empty w' G1 h0) (H1 : HRel w' G1 h0) (hv : VRel w' G1 v r) (hpur : purify h0 r = some r') :
  ∃ G', Ext w G Heap.empty w' G' Heap.empty ∧ HRel w' G' Heap.empty ∧ VRel w' G' v r' := by
 have hempty : ∀ id o, Heap.empty.get id = some o → False := fun id o e => by rw [Heap.get_empty] at e; simp at e
 have hno : ∀ (G0 : Ghost) b, ¬ owned G0 Heap.empty b := fun G0 b ⟨id, o, e, _⟩ => hempty id o e
 have hkeep : ∀ b, b < w.heap.size → w'.heap[b]? = w.heap[b]? := fun b hb => (hX.keep b hb (hno G b)).1
 have hE : Ext w G Heap.empty w' { G with lim := fun b => if b < w.heap.size then G.lim b else none } Heap.empty := ⟨hX.os, hX.tape, hX.out, hX.size, fun b hb _ => ⟨hkeep b hb, by simp [hb]⟩, fun b k hb hst => ⟨by simp [World.cell?, hkeep b hb], fun m hm => by simp [hb] at hm; exact hst m hm⟩, fun b hb => by simp [World.shape?, hkeep b hb], Nat.le_refl _, fun _ _ => ⟨rfl, rfl⟩, fun b hb ho => ho, rfl, fun b r hr => ⟨r, by rw [hkeep b (Array.getElem?_eq_some_iff.1 hr).1]; exact hr⟩⟩
 refine ⟨_, hE, ⟨H.n_eq, fun id o e => (hempty id o e).elim, fun id o e => (hempty id o e).elim, H.inj, fun g cs hg => ⟨(H.glob g cs hg).1.mono hE, (H.glob g cs hg).2⟩⟩, hv.purify_to H1 (fun b k hst => ?_) (fun id hid k => ?_) hpur⟩
 ·by_cases hb : b < w.heap.size
  ·have hl := (hX.keep b hb (hno _ b)).2
   intro m hm
   simp [hb] at hm
   exact hst m (by rw [hl]; exact hm)
  ·intro m hm; simp [hb] at hm
 ·by_cases hb : G1.loc id < w.heap.size
  ·obtain ⟨o, ho⟩ := refs_live h0 r hpur id hid
   exact absurd (hX.fresh _ hb ⟨id, o, ho, rfl⟩) (hno _ _)
  ·intro m hm; simp [hb] at hm
noncomputable def toldS (P : Program) (Hh : Hints) (g : Nat) (Spec : List AVal → AVal → Prop) (args : List AVal) (h : Heap) : Option (AVal × Heap) := by
 classical exact if e : h = Heap.empty ∧ ∃ r, Spec args r ∧ CallRelE P Hh g args Heap.empty r Heap.empty then some (e.2.choose, Heap.empty) else none
theorem told_ok {g : Nat} {Spec : List AVal → AVal → Prop} (henter : ∀ (cargs : Array Value) (w : World), (callFunc g cargs).run P w = .ok (.enter g cargs) w) : HandOkE P Hh g (toldS P Hh g Spec) := by
 refine ⟨fun args h r h' e => ?_, henter⟩
 unfold toldS at e
 split at e
 ·rename_i q
  simp only [Option.some.injEq, Prod.mk.injEq] at e
  obtain ⟨rfl, rfl⟩ := e
  have hc := q.2.choose_spec.2
  have hh := q.1
  revert hc
  generalize q.2.choose = r0
  intro hc
  subst hh
  exact hc
 ·simp at e
theorem told_is {g : Nat} {Spec : List AVal → AVal → Prop} {args : List AVal} {r : AVal} (hs : Spec args r) (hc : CallRelE P Hh g args Heap.empty r Heap.empty) : ∃ r', toldS P Hh g Spec args Heap.empty = some (r', Heap.empty) ∧ Spec args r' := by
 have e : Heap.empty = Heap.empty ∧ ∃ r, Spec args r ∧ CallRelE P Hh g args Heap.empty r Heap.empty := ⟨rfl, r, hs, hc⟩
 refine ⟨e.2.choose, ?_, e.2.choose_spec.1⟩
 unfold toldS
 rw [dif_pos e]
theorem told_call {g : Nat} {fn : Func} {c : Code} {slots : List Nat} {ris : List ResV} (hf : P.funcs[g]? = some fn) (hb : fn.body = some c) (hres : resRVs P slots fn.results.toList = some ris) {args : List AVal} {r : AVal}
  (hw : SW P Hh fn.ntmps slots c (slots.map fun s => (args[s]?).getD (.tup [])) Heap.empty (fun e vs h' => (e = .normal ∨ e = .ret) ∧ ∃ r1, resultsA ris vs h' = some r1 ∧ purify h' r1 = some r)) : CallRelE P Hh g args Heap.empty r Heap.empty := by
 intro w G cargs hE H hp
 refine (calls_of_SW (K := fun r1 h' => purify h' r1 = some r) hf hb hres hw hE H hp).mono ?_
 rintro e w' ⟨r1, h1, hpur, v, G1, he, hX, H1, hv⟩
 obtain ⟨G', q1, q2, q3⟩ := drop_pure H hX H1 hv hpur
 exact ⟨v, G', he, q1, q2, q3⟩
end Go.Abs

set_option linter.unusedSectionVars false
namespace Go.Abs
variable {α : Type} [Inhabited α] {f : α → AVal} {sz : Nat}
theorem flat_cons (x : AVal) (xs : List AVal) : flat (x :: xs) = x.cells ++ flat xs := rfl
theorem flat_appendF (xs ys : List AVal) : flat (xs ++ ys) = flat xs ++ flat ys := by simp [flat]
theorem flatm_len (hf : ∀ x, (f x).cells.length = sz) : ∀ l : List α, (flat (l.map f)).length = l.length * sz
 | [] => by simp [flat]
 | x :: l => by
   have := flatm_len hf l
   simp only [List.map_cons, flat_cons, List.length_append, hf, this, List.length_cons, Nat.add_mul]
   omega
theorem flatm_drop (hf : ∀ x, (f x).cells.length = sz) : ∀ (l : List α) (n : Nat), (flat (l.map f)).drop (n * sz) = flat ((l.drop n).map f)
 | l, 0 => by simp
 | [], n + 1 => by simp [flat]
 | x :: l, n + 1 => by
   have := flatm_drop hf l n
   simp only [List.map_cons, flat_cons, List.drop_succ_cons]
   rw [← this, Nat.add_mul, Nat.one_mul, Nat.add_comm (n * sz) sz, ← List.drop_drop, List.drop_left' (hf x)]
theorem flatm_get (hf : ∀ x, (f x).cells.length = sz) (l : List α) {n k m : Nat} (hn : n < l.length) (hk : k + m ≤ sz) :
  ((flat (l.map f)).drop (n * sz + k)).take m = ((f (nth l n)).cells.drop k).take m := by
 rw [← List.drop_drop, flatm_drop hf, List.drop_eq_getElem_cons hn, List.map_cons, flat_cons, nth_eq hn]
 have := hf l[n]
 rw [List.drop_append_of_le_length (by omega), List.take_append_of_le_length (by simp; omega)]
theorem flatm_bound (hf : ∀ x, (f x).cells.length = sz) (l : List α) {n k m : Nat} (hn : n < l.length) (hk : k + m ≤ sz) : n * sz + k + m ≤ (flat (l.map f)).length := by
 rw [flatm_len hf]
 have : (n + 1) * sz ≤ l.length * sz := Nat.mul_le_mul_right _ hn
 rw [Nat.add_mul] at this
 omega
theorem loadG_flat (hf : ∀ x, (f x).cells.length = sz) (l : List α) {n k m : Nat} (ag : Bool) (mu : Bool) (s : Nat) (a : Bool) (hn : n < l.length) (hk : k + m ≤ sz) :
  loadG m ag (n * sz + k) (some (.row mu s a (flat (l.map f)))) = mk ag (((f (nth l n)).cells.drop k).take m) := by
 rw [loadG_row, if_pos (flatm_bound hf l hn hk), flatm_get hf l hn hk]
theorem loadG_flat0 (hf : ∀ x, (f x).cells.length = sz) (l : List α) {n m : Nat} (ag : Bool) (mu : Bool) (s : Nat) (a : Bool) (hn : n < l.length) (hk : m ≤ sz) :
  loadG m ag (n * sz) (some (.row mu s a (flat (l.map f)))) = mk ag ((f (nth l n)).cells.take m) := by
 have := loadG_flat hf l ag mu s a hn (k := 0) (m := m) (by omega)
 simpa using this
theorem setCells_append_right : ∀ (ys a b : List AVal) (k : Nat), setCells (a ++ b) (a.length + k) ys = a ++ setCells b k ys
 | [], a, b, k => by simp [setCells]
 | y :: ys, a, b, k => by
   simp only [setCells]
   rw [List.set_append_right _ _ (by omega), show a.length + k - a.length = k by omega, show a.length + k + 1 = a.length + (k + 1) by omega, setCells_append_right ys]
theorem setCells_append_left : ∀ (ys a b : List AVal) (k : Nat), k + ys.length ≤ a.length → setCells (a ++ b) k ys = setCells a k ys ++ b
 | [], a, b, k, _ => by simp [setCells]
 | y :: ys, a, b, k, h => by
   simp only [setCells, List.length_cons] at h ⊢
   rw [List.set_append_left _ _ (by omega), setCells_append_left ys _ _ _ (by simp; omega)]
theorem setCells_flat (hf : ∀ x, (f x).cells.length = sz) : ∀ (l : List α) {n k : Nat} {ys : List AVal} {x' : α} (hn : n < l.length) (hk : k + ys.length ≤ sz) (hx : (f x').cells = setCells (f (nth l n)).cells k ys),
  setCells (flat (l.map f)) (n * sz + k) ys = flat ((l.set n x').map f)
 | [], n, k, ys, x', hn, _, _ => by simp at hn
 | x :: l, 0, k, ys, x', hn, hk, hx => by
   have h0 : nth (x :: l) 0 = x := rfl
   rw [h0] at hx
   simp only [List.map_cons, flat_cons, Nat.zero_mul, Nat.zero_add, List.set_cons_zero]
   rw [setCells_append_left _ _ _ _ (by rw [hf]; exact hk), hx]
 | x :: l, n + 1, k, ys, x', hn, hk, hx => by
   have h0 : nth (x :: l) (n + 1) = nth l n := rfl
   rw [h0] at hx
   have ih := setCells_flat hf l (n := n) (k := k) (ys := ys) (x' := x') (by simpa using hn) hk hx
   simp only [List.map_cons, flat_cons, List.set_cons_succ]
   rw [← ih, show (n + 1) * sz + k = (f x).cells.length + (n * sz + k) by rw [hf, Nat.add_mul]; omega, setCells_append_right]
theorem storeG_flat (hf : ∀ x, (f x).cells.length = sz) (l : List α) {n k m id : Nat} {v : AVal} {h : Heap} (s : Nat) (a : Bool) (x' : α) (hn : n < l.length) (hv : v.cells.length = m) (hk : k + m ≤ sz) (ho : v.cells.all AVal.one = true) (hx : (f x').cells = setCells (f (nth l n)).cells k v.cells) :
  storeG m id (n * sz + k) v h (some (.row true s a (flat (l.map f)))) = some (h.put id (some (.row true s a (flat ((l.set n x').map f))))) := by
 rw [storeG_row, if_pos ⟨hv, flatm_bound hf l hn hk, ho⟩, setCells_flat hf l hn (by omega) hx]
theorem storeG_flatw (hf : ∀ x, (f x).cells.length = sz) (l : List α) {n id : Nat} {h : Heap} (s : Nat) (a : Bool) (x' : α) (hn : n < l.length) (ho : (f x').cells.all AVal.one = true) :
  storeG sz id (n * sz) (f x') h (some (.row true s a (flat (l.map f)))) = some (h.put id (some (.row true s a (flat ((l.set n x').map f))))) := by
 have hs : ∀ (ys zs : List AVal), zs.length = ys.length → setCells zs 0 ys = ys := by
  intro ys
  have gen : ∀ (ys pre zs : List AVal), zs.length = ys.length → setCells (pre ++ zs) pre.length ys = pre ++ ys := by
   intro ys
   induction ys with
   | nil => intro pre zs h; simp at h; subst h; simp [setCells]
   | cons y ys ih =>
     intro pre zs h
     cases zs with
     | nil => simp at h
     | cons z zs =>
       simp only [setCells]
       rw [List.set_append_right _ _ (Nat.le_refl _), Nat.sub_self, List.set_cons_zero]
       have := ih (pre ++ [y]) zs (by simpa using h)
       simpa using this
  intro zs hz
  simpa using gen ys [] zs hz
 have := storeG_flat hf l (n := n) (k := 0) (m := sz) (id := id) (v := f x') (h := h) s a x' hn (hf x') (by omega) ho (hs _ _ (by rw [hf, hf])).symm
 simpa using this
theorem chunkm (hf : ∀ x, (f x).cells.length = sz) (ag : Bool) (hm : ∀ x, mk ag (f x).cells = some (f x)) : ∀ (l : List α) (rest : List AVal), chunk sz ag l.length (flat (l.map f) ++ rest) = some (l.map f)
 | [], rest => rfl
 | x :: l, rest => by
   have ht : (flat ((x :: l).map f) ++ rest).take sz = (f x).cells := by
    simp only [List.map_cons, flat_cons, List.append_assoc]
    rw [List.take_left' (hf x)]
   have hd : (flat ((x :: l).map f) ++ rest).drop sz = flat (l.map f) ++ rest := by
    simp only [List.map_cons, flat_cons, List.append_assoc]
    rw [List.drop_left' (hf x)]
   simp only [List.length_cons, chunk, ht, hd, hm, chunkm hf ag hm l rest, hf, if_true]
   rfl
theorem stripm {g : α → AVal} (hs : ∀ x, stripL (f x).cells = some (g x).cells) : ∀ (l : List α), stripL (flat (l.map f)) = some (flat (l.map g))
 | [] => rfl
 | x :: l => by
   simp only [List.map_cons, flat_cons]
   exact stripL_append (hs x) (stripm hs l)
theorem nth_set_self {l : List α} {i : Nat} {x : α} (h : i < l.length) : nth (l.set i x) i = x := by rw [nth_eq (by simpa using h)]; simp
theorem nth_set_ne {l : List α} {i j : Nat} {x : α} (h : i ≠ j) : nth (l.set i x) j = nth l j := by simp [nth, List.getD_eq_getElem?_getD, List.getElem?_set_ne h]
theorem nth_append_left {l m : List α} {i : Nat} (h : i < l.length) : nth (l ++ m) i = nth l i := by simp [nth, List.getD_eq_getElem?_getD, List.getElem?_append_left h]
theorem nth_append_right {l m : List α} {i : Nat} (h : l.length ≤ i) : nth (l ++ m) i = nth m (i - l.length) := by simp [nth, List.getD_eq_getElem?_getD, List.getElem?_append_right h]
def Grow (h : Heap) (ty sz : Nat) (tk : Tok) : Prop := tk = .nil ∨ ∃ id, tk = .own id sz ∧ h.get id = some (.tok ty)
theorem append_own {h : Heap} {ty bytes : Nat} {ag : Bool} {l : List α} {tk : Tok} {y : AVal} {ys : List α} (hf : ∀ x, (f x).cells.length = sz) (hm : ∀ x, mk ag (f x).cells = some (f x)) (hs : ∀ x, stripL (f x).cells = some (f x).cells)
  (hy : lenA y = some ys.length) (hn : elemsA h sz y = some (flat (ys.map f))) (hg : Grow h ty sz tk) (hnil : tk = .nil → l = []) (hlen : l.length + ys.length ≤ 1000000) (hb : bytes ≤ 10000) (h0 : 0 < sz) (h1 : sz < 1000000) (hne : ys ≠ []) :
  ∃ h', appendA false ty bytes sz ag (.sl (l.map f) tk) y h = some (.sl ((l ++ ys).map f) (.own h.next sz), h') ∧ h'.next = h.next + 1 ∧ h'.get h.next = some (.tok ty) ∧ (∀ j, j < h.next → (∀ i s, tk = .own i s → j ≠ i) → h'.get j = h.get j) := by
 have hc := chunkm hf ag hm ys []
 rw [List.append_nil] at hc
 have hst := stripm hs ys
 have hroom := roomOk_of (n := l.length + ys.length) hlen hb
 have hroom2 := roomOk_of (n := 0 + ys.length) (bytes := bytes) (by omega) hb
 have hys : ¬ ys.length = 0 := by simpa using hne
 have hsm : small sz = true := by simp [small, h1]
 rcases hg with rfl | ⟨i, rfl, hg⟩
 ·have hl := hnil rfl
  subst hl
  refine ⟨h.push (.tok ty), ?_, rfl, get_push _ _, fun j hj _ => get_push_ne (by omega)⟩
  simp only [appendA, hy, hn, hys, if_false, List.map_nil, List.length_nil, hroom2, h0, hsm, decide_true, Bool.and_self, Bool.not_true, Bool.false_eq_true, hst, hc, if_true, List.nil_append]
 ·refine ⟨(h.put i none).push (.tok ty), ?_, by rw [push_next, put_next], get_push_eq (by rw [put_next]), fun j hj hne' => ?_⟩
  ·simp only [appendA, hy, hn, hys, if_false, List.length_map, hroom, h0, hsm, decide_true, Bool.and_self, Bool.not_true, Bool.false_eq_true, hst, hc, hg, and_self, if_true, List.map_append]
  ·rw [get_push_ne (by rw [put_next]; omega), get_put_ne (hne' i _ rfl)]
theorem elems_sl {h : Heap} {l : List α} {t : Tok} (hf : ∀ x, (f x).cells.length = sz) : elemsA h sz (.sl (l.map f) t) = some (flat (l.map f)) := by
 simp only [elemsA]
 rw [if_pos]
 intro y hy
 cases l with
 | nil => simp at hy
 | cons x l => simp at hy; subst hy; exact hf x
theorem lenA_sl {l : List α} {t : Tok} : lenA (.sl (l.map f) t) = some l.length := by simp [lenA]
theorem Grow.put {h : Heap} {ty sz id : Nat} {tk : Tok} {mu : Bool} {s : Nat} {a : Bool} {cs : List AVal} (g : Grow h ty sz tk) (hr : h.get id = some (.row mu s a cs)) (o : Option Abs.Obj) : Grow (h.put id o) ty sz tk := by
 rcases g with g | ⟨i, g1, g2⟩
 ·exact .inl g
 ·exact .inr ⟨i, g1, by rw [get_put_ne]; exact g2; rintro rfl; rw [g2] at hr; simp at hr⟩
theorem Grow.push {h : Heap} {ty sz : Nat} {tk : Tok} (g : Grow h ty sz tk) (o : Abs.Obj) : Grow (h.push o) ty sz tk := by
 rcases g with g | ⟨i, g1, g2⟩
 ·exact .inl g
 ·exact .inr ⟨i, g1, get_push_old g2⟩
theorem ite_some {β : Type} {c : Prop} [Decidable c] (a : β) (hc : c) : (if c then some a else none) = some a := if_pos hc
theorem ite_mk {c : Prop} [Decidable c] (ag : Bool) (cs : List AVal) (hc : c) : (if c then mk ag cs else none) = mk ag cs := if_pos hc
theorem sslice_ab (s : List UInt8) (k k' : IntKind) (a b : Int) (h0 : 0 ≤ a) (h1 : a ≤ b) (h2 : b ≤ s.length) : ssliceA (.str s) (some (.int k a)) (some (.int k' b)) = some (.str ((s.drop a.toNat).take (b.toNat - a.toNat))) :=
 sslice_str s _ _ (boundA_int k' b _ _ (by omega) h2) (boundA_int k a _ _ h0 (by omega))
theorem sslice_a (s : List UInt8) (k : IntKind) (a : Int) (h0 : 0 ≤ a) (h2 : a ≤ s.length) : ssliceA (.str s) (some (.int k a)) none = some (.str (s.drop a.toNat)) := by
 rw [sslice_str s _ _ (boundA_none _ _) (boundA_int k a _ _ h0 h2), List.take_of_length_le (by simp)]
theorem sslice_b (s : List UInt8) (k : IntKind) (b : Int) (h0 : 0 ≤ b) (h2 : b ≤ s.length) : ssliceA (.str s) none (some (.int k b)) = some (.str (s.take b.toNat)) := by
 rw [sslice_str s _ _ (boundA_int k b _ _ h0 h2) (boundA_none _ _)]; rfl
theorem slice_sl_b (f : α → AVal) (l : List α) {sz : Nat} (t : Tok) (k : IntKind) (b : Int) (h0 : 0 ≤ b) (h2 : b ≤ l.length) (hf : ∀ x, (f x).cells.length = sz) (ht : t = .nil → l = []) : sliceA sz (.sl (l.map f) t) none (some (.int k b)) = some (.sl ((l.take b.toNat).map f) t.sub) := by
 have hb : boundA (some (.int k b)) l.length l.length = some b.toNat := boundA_int k b _ _ h0 h2
 simp only [sliceA, List.length_map, hb, boundA_none, List.drop_zero, Nat.sub_zero, ← List.map_take]
 rw [if_pos]
 refine ⟨fun x hx => ?_, fun e => by rw [ht e]; rfl⟩
 cases l with
 | nil => simp at hx
 | cons y l => simp at hx; subst hx; exact hf y
theorem slice_ref_b (id off len sz : Nat) (k : IntKind) (b : Int) (h0 : 0 ≤ b) (h2 : b ≤ len) : sliceA sz (.ref id off len sz) none (some (.int k b)) = some (.ref id off b.toNat sz) := by
 have hb : boundA (some (.int k b)) len len = some b.toNat := boundA_int k b _ _ h0 h2
 simp only [sliceA, hb, boundA_none, if_true, Nat.zero_mul, Nat.add_zero, Nat.sub_zero]
theorem slice_ref_a (id off len sz : Nat) (k : IntKind) (a : Int) (h0 : 0 ≤ a) (h2 : a ≤ len) : sliceA sz (.ref id off len sz) (some (.int k a)) none = some (.ref id (off + a.toNat * sz) (len - a.toNat) sz) := by
 have hb : boundA (some (.int k a)) 0 len = some a.toNat := boundA_int k a _ _ h0 h2
 simp only [sliceA, hb, boundA_none, if_true]
theorem repl_zero (z : List AVal) : repl 0 z = [] := rfl
theorem repl_succ (n : Nat) (z : List AVal) : repl (n + 1) z = z ++ repl n z := by simp [repl, List.replicate_succ]
def chunkO (sz : Nat) (ag : Bool) (n : Nat) : Option (List AVal) → Option (List AVal)
 | some cs => chunk sz ag n cs
 | none => none
def consO (sz : Nat) : Option AVal → Option (List AVal) → Option (List AVal)
 | some x, some xs => if x.cells.length = sz then some (x :: xs) else none
 | _, _ => none
theorem chunkO_some (sz : Nat) (ag : Bool) (n : Nat) (cs : List AVal) : chunkO sz ag n (some cs) = chunk sz ag n cs := _root_.id rfl
theorem consO_some (sz : Nat) (x : AVal) (xs : List AVal) : consO sz (some x) (some xs) = if x.cells.length = sz then some (x :: xs) else none := _root_.id rfl
theorem chunk_z (sz : Nat) (ag : Bool) (cs : List AVal) : chunk sz ag 0 cs = some [] := _root_.id rfl
theorem chunk_s (sz : Nat) (ag : Bool) (n : Nat) (cs : List AVal) : chunk sz ag (n + 1) cs = consO sz (mk ag (cs.take sz)) (chunk sz ag n (cs.drop sz)) := by
 rw [chunk]; unfold consO
 cases mk ag (cs.take sz) <;> cases chunk sz ag n (cs.drop sz) <;> rfl
theorem lit0 {ty n sz : Nat} {ag : Bool} {z cs : List AVal} {h : Heap} (hk : (decide (z.length = sz) && z.all AVal.one && decide (n * sz ≤ 16777216) && small sz) = true) :
  litA 0 ty n sz ag z (some cs) h = (chunkO sz ag n (stripL cs)).map (fun xs => (.sl xs .none, h)) := by
 simp only [litA, hk]
 cases stripL cs with
 | none => rfl
 | some cs => simp only [chunkO]; cases chunk sz ag n cs <;> rfl
theorem lit2 {ty n sz : Nat} {ag : Bool} {z cs : List AVal} {h : Heap} (hk : (decide (z.length = sz) && z.all AVal.one && decide (n * sz ≤ 16777216) && small sz) = true) :
  litA 2 ty n sz ag z (some cs) h = some (.ref h.next 0 n sz, h.push (.row true sz ag cs)) := by
 simp only [litA, hk]; rfl
end Go.Abs
