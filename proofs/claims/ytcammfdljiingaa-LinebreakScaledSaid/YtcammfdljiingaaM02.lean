/-
  Merged from LbTab: The functions that the statements reach, translated for the abstract machine, and that this is what the translation gives.
-/
import Derived.Test.YtcammfdljiingaaM01
import Derived.Test.YtcammfdljiingaaProg
import Derived.KernelRfl
/-
  The functions that the statements reach, translated for the abstract machine, and that this is what the translation gives.
-/
namespace Go.Proofs.Ytcammfdljiingaa
open Go Go.Abs

def hints : Hints := ⟨fun f s => f == 11 || f == 21 || (f == 4 && s == 53), fun _ _ => false, fun f s => f == 4 && s == 105, fun f => !([35, 36, 40, 41, 42, 43, 46, 47, 49, 50, 51, 53, 56, 57, 58].contains f)⟩

def c3 : AFunc := ⟨[0, 1, 2, 3, 4, 10, 11, 12, 13, 14, 15, 16, 17, 18, 19, 20, 30, 42, 94, 144],
 (.seq (.ops [⟨(.var 5), .mov (.c (.bool false)), .none⟩])
 (.seq (.ops [⟨.tmp, .mov (.v 0), .none⟩,
   ⟨.tmp, .pcall 10 [(.t 0)], .none⟩,
   ⟨(.var 6), .mov (.t 1), .none⟩])
 (.seq (.ops [⟨.tmp, .mov (.v 6), .none⟩,
   ⟨.tmp, .mov (.v 1), .none⟩,
   ⟨.tmp, .mov (.v 2), .none⟩,
   ⟨.tmp, .mov (.v 3), .none⟩,
   ⟨.tmp, .pcall 11 [(.t 0), (.t 1), (.t 2), (.t 3)], .none⟩,
   ⟨(.var 7), .mov (.t 4), .none⟩])
 (.seq (.seq (.ops [⟨.tmp, .mov (.v 7), .none⟩,
   ⟨.tmp, .len (.t 0), .none⟩,
   ⟨(.var 16), .bin .gtr .arith (.t 1) (.c (.int .i64 60)), .none⟩])
 (.cond (.v 16)
  (.ops [⟨.tmp, .mov (.v 6), .none⟩,
    ⟨(.var 7), .mov (.t 0), .none⟩])
  .skip))
 (.seq (.ops [⟨.tmp, .mov (.v 4), .none⟩,
   ⟨.tmp, .pcall 12 [(.t 0), (.c (.int .i64 16))], .none⟩,
   ⟨.tmp, .bin .add .arith (.c (.int .i64 1)) (.t 1), .none⟩,
   ⟨.tmp, .mov (.v 4), .none⟩,
   ⟨.tmp, .bin .quo .arith (.t 3) (.c (.int .i64 16)), .none⟩,
   ⟨.tmp, .pcall 12 [(.t 4), (.c (.int .i64 40))], .none⟩,
   ⟨.tmp, .bin .add .arith (.c (.int .i64 1)) (.t 5), .none⟩,
   ⟨.tmp, .mov (.v 4), .none⟩,
   ⟨.tmp, .lit 0 3 3 1 false [(.int .i64 0)] [(0, (.t 2)), (1, (.t 6)), (2, (.t 7))], .none⟩,
   ⟨(.var 8), .mov (.t 8), .none⟩])
 (.seq (.seq (.ops [⟨(.var 9), .mov (.c (.int .i64 0)), .none⟩])
 (.block 0 (.loop (.seq (.seq (.ops [⟨.tmp, .mov (.v 9), .none⟩,
     ⟨(.var 17), .bin .lss .arith (.t 0) (.c (.int .i64 3)), .none⟩])
   (.cond (.v 17)
    .skip
    (.exit 0)))
   (.seq (.block 1 (.seq (.ops [⟨.tmp, .mov (.v 6), .none⟩,
      ⟨.tmp, .mov (.v 8), .none⟩,
      ⟨.tmp, .mov (.v 9), .none⟩,
      ⟨.tmp, .iaddr 1 (.t 1) (.t 2), .none⟩,
      ⟨.tmp, .load 1 false (.t 3), .none⟩,
      ⟨.tmp, .pcall 13 [(.t 0), (.t 4)], .none⟩,
      ⟨.tmp, .mov (.t 5), .none⟩,
      ⟨.tmp, .ext (.t 6) 0, .none⟩,
      ⟨.tmp, .ext (.t 6) 1, .none⟩,
      ⟨.tmp, .ext (.t 6) 2, .none⟩,
      ⟨(.var 10), .mov (.t 7), .none⟩,
      ⟨(.var 11), .mov (.t 8), .none⟩,
      ⟨(.var 12), .mov (.t 9), .none⟩])
    (.seq (.ops [⟨.tmp, .mov (.v 6), .none⟩,
      ⟨.tmp, .mov (.v 8), .none⟩,
      ⟨.tmp, .mov (.v 9), .none⟩,
      ⟨.tmp, .iaddr 1 (.t 1) (.t 2), .none⟩,
      ⟨.tmp, .load 1 false (.t 3), .none⟩,
      ⟨.tmp, .pcall 14 [(.t 0), (.t 4)], .none⟩,
      ⟨.tmp, .mov (.t 5), .none⟩,
      ⟨.tmp, .ext (.t 6) 0, .none⟩,
      ⟨.tmp, .ext (.t 6) 1, .none⟩,
      ⟨.tmp, .ext (.t 6) 2, .none⟩,
      ⟨(.var 13), .mov (.t 7), .none⟩,
      ⟨(.var 14), .mov (.t 8), .none⟩,
      ⟨(.var 15), .mov (.t 9), .none⟩])
    (.seq (.seq (.ops [⟨.tmp, .mov (.v 12), .none⟩,
      ⟨.tmp, .mov (.v 15), .none⟩,
      ⟨.tmp, .bin .neq .arith (.t 0) (.t 1), .none⟩,
      ⟨.tmp, .mov (.t 2), .none⟩,
      ⟨.tmp, .mov (.v 11), (some ((.t 3), false))⟩,
      ⟨.tmp, .mov (.v 14), (some ((.t 3), false))⟩,
      ⟨.tmp, .bin .neq .arith (.t 4) (.t 5), (some ((.t 3), false))⟩,
      ⟨.tmp, .pick (.t 3) (.c (.bool true)) (.t 6), .none⟩,
      ⟨.tmp, .mov (.t 7), .none⟩,
      ⟨.tmp, .mov (.v 10), (some ((.t 8), false))⟩,
      ⟨.tmp, .mov (.v 13), (some ((.t 8), false))⟩,
      ⟨.tmp, .pcall 15 [(.t 9), (.t 10)], (some ((.t 8), false))⟩,
      ⟨.tmp, .un .not (.t 11), (some ((.t 8), false))⟩,
      ⟨.tmp, .pick (.t 8) (.c (.bool true)) (.t 12), .none⟩,
      ⟨.tmp, .mov (.t 13), .none⟩,
      ⟨.tmp, .mov (.v 6), (some ((.t 14), false))⟩,
      ⟨.tmp, .mov (.v 8), (some ((.t 14), false))⟩,
      ⟨.tmp, .mov (.v 9), (some ((.t 14), false))⟩,
      ⟨.tmp, .iaddr 1 (.t 16) (.t 17), (some ((.t 14), false))⟩,
      ⟨.tmp, .load 1 false (.t 18), (some ((.t 14), false))⟩,
      ⟨.tmp, .pcall 17 [(.t 15), (.t 19)], (some ((.t 14), false))⟩,
      ⟨.tmp, .mov (.v 6), (some ((.t 14), false))⟩,
      ⟨.tmp, .mov (.v 8), (some ((.t 14), false))⟩,
      ⟨.tmp, .mov (.v 9), (some ((.t 14), false))⟩,
      ⟨.tmp, .iaddr 1 (.t 22) (.t 23), (some ((.t 14), false))⟩,
      ⟨.tmp, .load 1 false (.t 24), (some ((.t 14), false))⟩,
      ⟨.tmp, .pcall 18 [(.t 21), (.t 25)], (some ((.t 14), false))⟩,
      ⟨.tmp, .pcall 16 [(.t 20), (.t 26)], (some ((.t 14), false))⟩,
      ⟨.tmp, .un .not (.t 27), (some ((.t 14), false))⟩,
      ⟨(.var 18), .pick (.t 14) (.c (.bool true)) (.t 28), .none⟩])
    (.cond (.v 18)
     (.seq (.ops [⟨(.var 5), .mov (.c (.bool false)), .none⟩])
     .ret)
     .skip))
    (.seq (.ops [⟨.tmp, .mov (.v 7), .none⟩,
      ⟨.tmp, .mov (.v 8), .none⟩,
      ⟨.tmp, .mov (.v 9), .none⟩,
      ⟨.tmp, .iaddr 1 (.t 1) (.t 2), .none⟩,
      ⟨.tmp, .load 1 false (.t 3), .none⟩,
      ⟨.tmp, .pcall 13 [(.t 0), (.t 4)], .none⟩,
      ⟨.tmp, .mov (.t 5), .none⟩,
      ⟨.tmp, .ext (.t 6) 0, .none⟩,
      ⟨.tmp, .ext (.t 6) 1, .none⟩,
      ⟨.tmp, .ext (.t 6) 2, .none⟩,
      ⟨(.var 10), .mov (.t 7), .none⟩,
      ⟨(.var 11), .mov (.t 8), .none⟩,
      ⟨(.var 12), .mov (.t 9), .none⟩])
    (.seq (.ops [⟨.tmp, .mov (.v 7), .none⟩,
      ⟨.tmp, .mov (.v 8), .none⟩,
      ⟨.tmp, .mov (.v 9), .none⟩,
      ⟨.tmp, .iaddr 1 (.t 1) (.t 2), .none⟩,
      ⟨.tmp, .load 1 false (.t 3), .none⟩,
      ⟨.tmp, .pcall 14 [(.t 0), (.t 4)], .none⟩,
      ⟨.tmp, .mov (.t 5), .none⟩,
      ⟨.tmp, .ext (.t 6) 0, .none⟩,
      ⟨.tmp, .ext (.t 6) 1, .none⟩,
      ⟨.tmp, .ext (.t 6) 2, .none⟩,
      ⟨(.var 13), .mov (.t 7), .none⟩,
      ⟨(.var 14), .mov (.t 8), .none⟩,
      ⟨(.var 15), .mov (.t 9), .none⟩])
    (.seq (.ops [⟨.tmp, .mov (.v 12), .none⟩,
      ⟨.tmp, .mov (.v 15), .none⟩,
      ⟨.tmp, .bin .neq .arith (.t 0) (.t 1), .none⟩,
      ⟨.tmp, .mov (.t 2), .none⟩,
      ⟨.tmp, .mov (.v 11), (some ((.t 3), false))⟩,
      ⟨.tmp, .mov (.v 14), (some ((.t 3), false))⟩,
      ⟨.tmp, .bin .neq .arith (.t 4) (.t 5), (some ((.t 3), false))⟩,
      ⟨.tmp, .pick (.t 3) (.c (.bool true)) (.t 6), .none⟩,
      ⟨.tmp, .mov (.t 7), .none⟩,
      ⟨.tmp, .mov (.v 10), (some ((.t 8), false))⟩,
      ⟨.tmp, .mov (.v 13), (some ((.t 8), false))⟩,
      ⟨.tmp, .pcall 15 [(.t 9), (.t 10)], (some ((.t 8), false))⟩,
      ⟨.tmp, .un .not (.t 11), (some ((.t 8), false))⟩,
      ⟨.tmp, .pick (.t 8) (.c (.bool true)) (.t 12), .none⟩,
      ⟨.tmp, .mov (.t 13), .none⟩,
      ⟨.tmp, .mov (.v 7), (some ((.t 14), false))⟩,
      ⟨.tmp, .mov (.v 8), (some ((.t 14), false))⟩,
      ⟨.tmp, .mov (.v 9), (some ((.t 14), false))⟩,
      ⟨.tmp, .iaddr 1 (.t 16) (.t 17), (some ((.t 14), false))⟩,
      ⟨.tmp, .load 1 false (.t 18), (some ((.t 14), false))⟩,
      ⟨.tmp, .pcall 17 [(.t 15), (.t 19)], (some ((.t 14), false))⟩,
      ⟨.tmp, .mov (.v 7), (some ((.t 14), false))⟩,
      ⟨.tmp, .mov (.v 8), (some ((.t 14), false))⟩,
      ⟨.tmp, .mov (.v 9), (some ((.t 14), false))⟩,
      ⟨.tmp, .iaddr 1 (.t 22) (.t 23), (some ((.t 14), false))⟩,
      ⟨.tmp, .load 1 false (.t 24), (some ((.t 14), false))⟩,
      ⟨.tmp, .pcall 18 [(.t 21), (.t 25)], (some ((.t 14), false))⟩,
      ⟨.tmp, .pcall 16 [(.t 20), (.t 26)], (some ((.t 14), false))⟩,
      ⟨.tmp, .un .not (.t 27), (some ((.t 14), false))⟩,
      ⟨(.var 19), .pick (.t 14) (.c (.bool true)) (.t 28), .none⟩])
    (.cond (.v 19)
     (.seq (.ops [⟨(.var 5), .mov (.c (.bool false)), .none⟩])
     .ret)
     .skip))))))))
   (.ops [⟨.tmp, .mov (.v 9), .none⟩,
     ⟨.tmp, .bin .add .arith (.t 0) (.c (.int .i64 1)), .none⟩,
     ⟨(.var 9), .mov (.t 1), .none⟩]))))))
 (.seq (.ops [⟨.tmp, .pcall 19 [], .none⟩,
   ⟨(.var 5), .mov (.t 0), .none⟩])
 .ret))))))),
 [5]⟩
def c4 : AFunc := ⟨[0, 1, 2, 3, 4, 10, 11, 12, 13, 15, 16, 17, 18, 19, 22, 23, 24, 25, 42, 97, 109, 134],
 (.seq (.ops [⟨(.var 5), .mov (.c (.bool false)), .none⟩])
 (.seq (.ops [⟨.tmp, .mov (.v 0), .none⟩,
   ⟨.tmp, .pcall 10 [(.t 0)], .none⟩,
   ⟨(.var 6), .mov (.t 1), .none⟩])
 (.seq (.ops [⟨.tmp, .mov (.v 1), .none⟩,
   ⟨.tmp, .pcall 12 [(.t 0), (.c (.int .i64 20))], .none⟩,
   ⟨.tmp, .bin .add .arith (.c (.int .i64 3)) (.t 1), .none⟩,
   ⟨(.var 7), .mov (.t 2), .none⟩])
 (.seq (.ops [⟨.tmp, .mov (.v 6), .none⟩,
   ⟨.tmp, .mov (.v 7), .none⟩,
   ⟨.tmp, .pcall 14 [(.t 0), (.t 1)], .none⟩,
   ⟨.tmp, .mov (.t 2), .none⟩,
   ⟨.tmp, .ext (.t 3) 0, .none⟩,
   ⟨.tmp, .ext (.t 3) 1, .none⟩,
   ⟨.tmp, .ext (.t 3) 2, .none⟩,
   ⟨(.var 8), .mov (.t 4), .none⟩,
   ⟨.tmp, .mov (.t 5), .none⟩,
   ⟨(.var 9), .mov (.t 6), .none⟩])
 (.seq (.ops [⟨.tmp, .mov (.v 6), .none⟩,
   ⟨.tmp, .mov (.v 7), .none⟩,
   ⟨.tmp, .pcall 18 [(.t 0), (.t 1)], .none⟩,
   ⟨(.var 10), .mov (.t 2), .none⟩])
 (.seq (.seq (.ops [⟨.tmp, .mov (.v 9), .none⟩,
   ⟨(.var 18), .bin .neq .arith (.t 0) (.c (.int .i64 0)), .none⟩])
 (.cond (.v 18)
  (.seq (.ops [⟨.tmp, .mov (.v 6), .none⟩,
    ⟨.tmp, .mov (.v 7), .none⟩,
    ⟨.tmp, .mov (.v 10), .none⟩,
    ⟨.tmp, .pcall 20 [(.t 0), (.t 1), (.c (.sl [] .nil)), (.t 2)], .none⟩,
    ⟨.tmp, .bin .eql .arith (.t 3) (.c (.int .i64 24)), .none⟩,
    ⟨.tmp, .mov (.t 4), .none⟩,
    ⟨.tmp, .pcall 19 [], (some ((.t 5), true))⟩,
    ⟨.tmp, .pick (.t 5) (.t 6) (.c (.bool false)), .none⟩,
    ⟨(.var 5), .mov (.t 7), .none⟩])
  .ret)
  .skip))
 (.seq (.ops [⟨(.var 11), .mov (.c (.sl [] .nil)), .none⟩])
 (.seq (.ops [⟨.tmp, .mov (.v 11), .none⟩,
   ⟨.tmp, .mov (.v 10), .none⟩,
   ⟨.tmp, .append true 3 8 1 false (.t 0) (.t 1), .none⟩,
   ⟨(.var 11), .mov (.t 2), .none⟩])
 (.seq (.ops [⟨.tmp, .mov (.v 2), .none⟩,
   ⟨.tmp, .mov (.v 11), .none⟩,
   ⟨.tmp, .len (.t 1), .none⟩,
   ⟨.tmp, .pcall 12 [(.t 0), (.t 2)], .none⟩,
   ⟨(.var 12), .mov (.t 3), .none⟩])
 (.seq (.ops [⟨.tmp, .mov (.v 11), .none⟩,
   ⟨.tmp, .mov (.v 12), .none⟩,
   ⟨.tmp, .mov (.v 11), .none⟩,
   ⟨.tmp, .mov (.v 12), .none⟩,
   ⟨.tmp, .iaddr 1 (.t 2) (.t 3), .none⟩,
   ⟨.tmp, .load 1 false (.t 4), .none⟩,
   ⟨.tmp, .bin .sub .arith (.t 5) (.c (.int .i64 1)), .none⟩,
   ⟨.tmp, .mov (.v 11), .none⟩,
   ⟨.tmp, .mov (.v 12), .none⟩,
   ⟨.tmp, .iaddr 1 (.t 7) (.t 8), .none⟩,
   ⟨.tmp, .load 1 false (.t 9), .none⟩,
   ⟨.tmp, .bin .add .arith (.t 10) (.c (.int .i64 1)), .none⟩,
   ⟨.tmp, .mov (.v 4), .none⟩,
   ⟨.tmp, .lit 0 3 6 1 false [(.int .i64 0)] [(0, (.t 6)), (1, (.t 11)), (2, (.c (.int .i64 (-1)))), (3, (.c (.int .i64 0))), (4, (.t 12)), (5, (.c (.int .i64 (-2))))], .none⟩,
   ⟨.tmp, .mov (.v 3), .none⟩,
   ⟨.tmp, .bin .quo .arith (.t 14) (.c (.int .i64 7)), .none⟩,
   ⟨.tmp, .pcall 12 [(.t 15), (.c (.int .i64 6))], .none⟩,
   ⟨.tmp, .iaddr 1 (.t 13) (.t 16), .none⟩,
   ⟨.tmp, .load 1 false (.t 17), .none⟩,
   ⟨.tmp, .iaddr 1 (.t 0) (.t 1), .none⟩,
   ⟨.no, .store 1 (.t 19) (.t 18), .none⟩])
 (.seq (.ops [⟨.tmp, .mov (.v 6), .none⟩,
   ⟨.tmp, .mov (.v 7), .none⟩,
   ⟨.tmp, .bin .add .arith (.t 1) (.c (.int .i64 1)), .none⟩,
   ⟨.tmp, .pcall 14 [(.t 0), (.t 2)], .none⟩,
   ⟨.tmp, .mov (.t 3), .none⟩,
   ⟨.tmp, .ext (.t 4) 0, .none⟩,
   ⟨.tmp, .ext (.t 4) 1, .none⟩,
   ⟨.tmp, .ext (.t 4) 2, .none⟩,
   ⟨(.var 13), .mov (.t 5), .none⟩,
   ⟨.tmp, .mov (.t 6), .none⟩,
   ⟨.tmp, .mov (.t 7), .none⟩])
 (.seq (.ops [⟨.tmp, .mov (.v 8), .none⟩,
   ⟨.tmp, .mov (.v 8), .none⟩,
   ⟨.tmp, .mov (.v 2), .none⟩,
   ⟨.tmp, .mov (.v 3), .none⟩,
   ⟨.tmp, .mov (.v 4), .none⟩,
   ⟨.tmp, .pcall 21 [(.t 1), (.t 2), (.t 3), (.t 4)], .none⟩,
   ⟨.tmp, .mov (.v 13), .none⟩,
   ⟨.tmp, .lit 0 27 4 1 false [(.sl [] .nil)] [(0, (.t 0)), (1, (.t 5)), (2, (.t 6)), (3, (.c (.sl [] .nil)))], .none⟩,
   ⟨(.var 14), .mov (.t 7), .none⟩])
 (.seq (.seq (.ops [⟨(.var 15), .mov (.c (.int .i64 0)), .none⟩])
 (.block 0 (.loop (.seq (.seq (.ops [⟨.tmp, .mov (.v 15), .none⟩,
     ⟨.tmp, .mov (.v 14), .none⟩,
     ⟨.tmp, .len (.t 1), .none⟩,
     ⟨(.var 19), .bin .lss .arith (.t 0) (.t 2), .none⟩])
   (.cond (.v 19)
    .skip
    (.exit 0)))
   (.seq (.block 1 (.seq (.ops [⟨.tmp, .mov (.v 10), .none⟩,
      ⟨.tmp, .mov (.v 11), .none⟩,
      ⟨.tmp, .mov (.v 11), .none⟩,
      ⟨.tmp, .mov (.v 12), .none⟩,
      ⟨.tmp, .slice 1 (.t 2) .none (some (.t 3)), .none⟩,
      ⟨.tmp, .lit 3 22 4 1 false [(.sl [] .nil)] [(0, (.t 0)), (1, (.t 1)), (2, (.t 4)), (3, (.c (.sl [] .nil)))], .none⟩,
      ⟨(.var 16), .mov (.t 5), .none⟩])
    (.seq (.ops [⟨(.var 17), .mov (.c (.int .i64 0)), .none⟩])
    (.block 2 (.loop (.seq (.seq (.ops [⟨.tmp, .mov (.v 17), .none⟩,
        ⟨.tmp, .mov (.v 16), .none⟩,
        ⟨.tmp, .len (.t 1), .none⟩,
        ⟨(.var 20), .bin .lss .arith (.t 0) (.t 2), .none⟩])
      (.cond (.v 20)
       .skip
       (.exit 2)))
      (.seq (.block 3 (.seq (.ops [⟨.tmp, .mov (.v 6), .none⟩,
         ⟨.tmp, .mov (.v 7), .none⟩,
         ⟨.tmp, .mov (.v 14), .none⟩,
         ⟨.tmp, .mov (.v 15), .none⟩,
         ⟨.tmp, .iaddr 1 (.t 2) (.t 3), .none⟩,
         ⟨.tmp, .load 1 false (.t 4), .none⟩,
         ⟨.tmp, .mov (.v 16), .none⟩,
         ⟨.tmp, .mov (.v 17), .none⟩,
         ⟨.tmp, .iaddr 1 (.t 6) (.t 7), .none⟩,
         ⟨.tmp, .load 1 false (.t 8), .none⟩,
         ⟨.tmp, .pcall 20 [(.t 0), (.t 1), (.t 5), (.t 9)], .none⟩,
         ⟨.tmp, .mov (.v 6), .none⟩,
         ⟨.tmp, .mov (.v 7), .none⟩,
         ⟨.tmp, .mov (.v 14), .none⟩,
         ⟨.tmp, .mov (.v 15), .none⟩,
         ⟨.tmp, .iaddr 1 (.t 13) (.t 14), .none⟩,
         ⟨.tmp, .load 1 false (.t 15), .none⟩,
         ⟨.tmp, .mov (.v 16), .none⟩,
         ⟨.tmp, .mov (.v 17), .none⟩,
         ⟨.tmp, .iaddr 1 (.t 17) (.t 18), .none⟩,
         ⟨.tmp, .load 1 false (.t 19), .none⟩,
         ⟨.tmp, .pcall 22 [(.t 11), (.t 12), (.t 16), (.t 20)], .none⟩,
         ⟨(.var 21), .bin .neq .arith (.t 10) (.t 21), .none⟩])
       (.cond (.v 21)
        (.seq (.ops [⟨(.var 5), .mov (.c (.bool false)), .none⟩])
        .ret)
        .skip)))
      (.ops [⟨.tmp, .mov (.v 17), .none⟩,
        ⟨.tmp, .bin .add .arith (.t 0) (.c (.int .i64 1)), .none⟩,
        ⟨(.var 17), .mov (.t 1), .none⟩]))))))))
   (.ops [⟨.tmp, .mov (.v 15), .none⟩,
     ⟨.tmp, .bin .add .arith (.t 0) (.c (.int .i64 1)), .none⟩,
     ⟨(.var 15), .mov (.t 1), .none⟩]))))))
 (.seq (.ops [⟨.tmp, .mov (.v 6), .none⟩,
   ⟨.tmp, .mov (.v 8), .none⟩,
   ⟨.tmp, .mov (.v 10), .none⟩,
   ⟨.tmp, .pcall 20 [(.t 0), (.c (.int .i64 0)), (.t 1), (.t 2)], .none⟩,
   ⟨.tmp, .bin .eql .arith (.t 3) (.c (.int .i64 1)), .none⟩,
   ⟨.tmp, .mov (.t 4), .none⟩,
   ⟨.tmp, .mov (.v 6), (some ((.t 5), true))⟩,
   ⟨.tmp, .mov (.v 6), (some ((.t 5), true))⟩,
   ⟨.tmp, .len (.t 7), (some ((.t 5), true))⟩,
   ⟨.tmp, .bin .sub .arith (.t 8) (.c (.int .i64 1)), (some ((.t 5), true))⟩,
   ⟨.tmp, .slice 8 (.t 6) .none (some (.t 9)), (some ((.t 5), true))⟩,
   ⟨.tmp, .mov (.v 7), (some ((.t 5), true))⟩,
   ⟨.tmp, .mov (.v 8), (some ((.t 5), true))⟩,
   ⟨.tmp, .mov (.v 10), (some ((.t 5), true))⟩,
   ⟨.tmp, .pcall 20 [(.t 10), (.t 11), (.t 12), (.t 13)], (some ((.t 5), true))⟩,
   ⟨.tmp, .mov (.v 6), (some ((.t 5), true))⟩,
   ⟨.tmp, .mov (.v 6), (some ((.t 5), true))⟩,
   ⟨.tmp, .len (.t 16), (some ((.t 5), true))⟩,
   ⟨.tmp, .bin .sub .arith (.t 17) (.c (.int .i64 1)), (some ((.t 5), true))⟩,
   ⟨.tmp, .slice 8 (.t 15) .none (some (.t 18)), (some ((.t 5), true))⟩,
   ⟨.tmp, .mov (.v 7), (some ((.t 5), true))⟩,
   ⟨.tmp, .mov (.v 8), (some ((.t 5), true))⟩,
   ⟨.tmp, .mov (.v 10), (some ((.t 5), true))⟩,
   ⟨.tmp, .pcall 22 [(.t 19), (.t 20), (.t 21), (.t 22)], (some ((.t 5), true))⟩,
   ⟨.tmp, .bin .eql .arith (.t 14) (.t 23), (some ((.t 5), true))⟩,
   ⟨.tmp, .pick (.t 5) (.t 24) (.c (.bool false)), .none⟩,
   ⟨.tmp, .mov (.t 25), .none⟩,
   ⟨.tmp, .pcall 19 [], (some ((.t 26), true))⟩,
   ⟨.tmp, .pick (.t 26) (.t 27) (.c (.bool false)), .none⟩,
   ⟨(.var 5), .mov (.t 28), .none⟩])
 .ret)))))))))))))),
 [5]⟩
def c5 : AFunc := ⟨[0, 1, 2, 3, 4, 5, 12, 13, 14, 15, 45, 60],
 (.seq (.ops [⟨(.var 6), .mov (.c (.bool false)), .none⟩])
 (.seq (.ops [⟨.tmp, .mov (.v 0), .none⟩,
   ⟨.tmp, .pcall 10 [(.t 0)], .none⟩,
   ⟨.tmp, .mov (.v 1), .none⟩,
   ⟨.tmp, .mov (.v 2), .none⟩,
   ⟨.tmp, .mov (.v 3), .none⟩,
   ⟨.tmp, .pcall 11 [(.t 1), (.t 2), (.t 3), (.t 4)], .none⟩,
   ⟨(.var 7), .mov (.t 5), .none⟩])
 (.seq (.ops [⟨.tmp, .mov (.v 4), .none⟩,
   ⟨.tmp, .mov (.v 7), .none⟩,
   ⟨.tmp, .len (.t 1), .none⟩,
   ⟨.tmp, .bin .add .arith (.t 2) (.c (.int .i64 1)), .none⟩,
   ⟨.tmp, .pcall 12 [(.t 0), (.t 3)], .none⟩,
   ⟨.tmp, .mov (.v 5), .none⟩,
   ⟨.tmp, .mov (.v 7), .none⟩,
   ⟨.tmp, .len (.t 6), .none⟩,
   ⟨.tmp, .bin .add .arith (.t 7) (.c (.int .i64 2)), .none⟩,
   ⟨.tmp, .pcall 12 [(.t 5), (.t 8)], .none⟩,
   ⟨.tmp, .build [(.int .i64 0), (.int .i64 0), (.int .i64 0)] [(0, 1, (.t 4)), (1, 1, (.t 9))], .none⟩,
   ⟨.tmp, .mov (.v 7), .none⟩,
   ⟨.tmp, .len (.t 11), .none⟩,
   ⟨.tmp, .build [(.int .i64 0), (.int .i64 0), (.int .i64 0)] [(0, 1, (.c (.int .i64 0))), (1, 1, (.t 12))], .none⟩,
   ⟨.tmp, .mov (.v 4), .none⟩,
   ⟨.tmp, .mov (.v 5), .none⟩,
   ⟨.tmp, .build [(.int .i64 0), (.int .i64 0), (.int .i64 0)] [(0, 1, (.t 14)), (1, 1, (.t 15))], .none⟩,
   ⟨.tmp, .build [(.int .i64 0), (.int .i64 0), (.int .i64 0)] [(0, 1, (.c (.int .i64 (-1)))), (1, 1, (.c (.int .i64 1)))], .none⟩,
   ⟨.tmp, .build [(.int .i64 0), (.int .i64 0), (.int .i64 0)] [], .none⟩,
   ⟨.tmp, .lit 0 41 5 3 true [(.int .i64 0), (.int .i64 0), (.int .i64 0)] [(0, (.t 10)), (1, (.t 13)), (2, (.t 16)), (3, (.t 17)), (4, (.t 18))], .none⟩,
   ⟨(.var 8), .mov (.t 19), .none⟩])
 (.seq (.seq (.ops [⟨(.var 9), .mov (.c (.int .i64 0)), .none⟩])
 (.block 0 (.loop (.seq (.seq (.ops [⟨.tmp, .mov (.v 9), .none⟩,
     ⟨.tmp, .mov (.v 8), .none⟩,
     ⟨.tmp, .len (.t 1), .none⟩,
     ⟨(.var 10), .bin .lss .arith (.t 0) (.t 2), .none⟩])
   (.cond (.v 10)
    .skip
    (.exit 0)))
   (.seq (.block 1 (.seq (.ops [⟨.tmp, .mov (.v 7), .none⟩,
      ⟨.tmp, .mov (.v 8), .none⟩,
      ⟨.tmp, .mov (.v 9), .none⟩,
      ⟨.tmp, .iaddr 3 (.t 1) (.t 2), .none⟩,
      ⟨.tmp, .load 3 true (.t 3), .none⟩,
      ⟨.tmp, .pcall 23 [(.t 0), (.t 4)], .none⟩,
      ⟨.tmp, .mov (.v 7), .none⟩,
      ⟨.tmp, .mov (.v 8), .none⟩,
      ⟨.tmp, .mov (.v 9), .none⟩,
      ⟨.tmp, .iaddr 3 (.t 7) (.t 8), .none⟩,
      ⟨.tmp, .load 3 true (.t 9), .none⟩,
      ⟨.tmp, .pcall 24 [(.t 6), (.t 10)], .none⟩,
      ⟨(.var 11), .bin .neq .arith (.t 5) (.t 11), .none⟩])
    (.cond (.v 11)
     (.seq (.ops [⟨(.var 6), .mov (.c (.bool false)), .none⟩])
     .ret)
     .skip)))
   (.ops [⟨.tmp, .mov (.v 9), .none⟩,
     ⟨.tmp, .bin .add .arith (.t 0) (.c (.int .i64 1)), .none⟩,
     ⟨(.var 9), .mov (.t 1), .none⟩]))))))
 (.seq (.ops [⟨.tmp, .pcall 19 [], .none⟩,
   ⟨(.var 6), .mov (.t 0), .none⟩])
 .ret))))),
 [6]⟩
def c6 : AFunc := ⟨[0, 1, 2, 6, 7, 8, 9, 10, 11, 12, 13, 14, 15, 16, 17, 18, 19, 20, 21, 30, 79, 83, 123],
 (.seq (.ops [⟨(.var 3), .mov (.c (.bool false)), .none⟩])
 (.seq (.ops [⟨.tmp, .mov (.v 0), .none⟩,
   ⟨.tmp, .pcall 10 [(.t 0)], .none⟩,
   ⟨(.var 4), .mov (.t 1), .none⟩])
 (.seq (.ops [⟨.tmp, .mov (.v 2), .none⟩,
   ⟨.tmp, .pcall 12 [(.t 0), (.c (.int .i64 24))], .none⟩,
   ⟨.tmp, .bin .add .arith (.c (.int .i64 1)) (.t 1), .none⟩,
   ⟨(.var 5), .mov (.t 2), .none⟩])
 (.seq (.ops [⟨(.var 6), .mov (.c (.sl [] .nil)), .none⟩])
 (.seq (.seq (.ops [⟨(.var 7), .mov (.c (.int .i64 0)), .none⟩])
 (.block 0 (.loop (.seq (.seq (.ops [⟨.tmp, .mov (.v 7), .none⟩,
     ⟨.tmp, .mov (.v 4), .none⟩,
     ⟨.tmp, .len (.t 1), .none⟩,
     ⟨(.var 19), .bin .lss .arith (.t 0) (.t 2), .none⟩])
   (.cond (.v 19)
    .skip
    (.exit 0)))
   (.seq (.block 1 (.seq (.ops [⟨.tmp, .mov (.v 4), .none⟩,
      ⟨.tmp, .mov (.v 7), .none⟩,
      ⟨.tmp, .iaddr 8 (.t 0) (.t 1), .none⟩,
      ⟨.tmp, .load 8 true (.t 2), .none⟩,
      ⟨(.var 8), .alloc 47 8 true [(.int .i64 0), (.str []), (.int .i64 0), (.int .i64 0), (.bool false), (.int .i64 0), (.int .i64 0), (.int .i64 0)], .none⟩,
      ⟨.no, .store 8 (.v 8) (.t 3), .none⟩])
    (.seq (.ops [⟨.tmp, .faddr 2 (.v 8), .none⟩,
      ⟨.tmp, .load 1 false (.t 0), .none⟩,
      ⟨.tmp, .bin .mul .arith (.c (.int .i64 2)) (.t 1), .none⟩,
      ⟨.tmp, .faddr 2 (.v 8), .none⟩,
      ⟨.no, .store 1 (.t 3) (.t 2), .none⟩])
    (.seq (.ops [⟨.tmp, .faddr 3 (.v 8), .none⟩,
      ⟨.tmp, .load 1 false (.t 0), .none⟩,
      ⟨.tmp, .bin .mul .arith (.c (.int .i64 4)) (.t 1), .none⟩,
      ⟨.tmp, .faddr 3 (.v 8), .none⟩,
      ⟨.no, .store 1 (.t 3) (.t 2), .none⟩])
    (.ops [⟨.tmp, .mov (.v 6), .none⟩,
      ⟨.tmp, .load 8 true (.v 8), .none⟩,
      ⟨.tmp, .lit 0 47 1 8 true [(.int .i64 0), (.str []), (.int .i64 0), (.int .i64 0), (.bool false), (.int .i64 0), (.int .i64 0), (.int .i64 0)] [(0, (.t 1))], .none⟩,
      ⟨.tmp, .append false 47 72 8 true (.t 0) (.t 2), .none⟩,
      ⟨(.var 6), .mov (.t 3), .none⟩])))))
   (.ops [⟨.tmp, .mov (.v 7), .none⟩,
     ⟨.tmp, .bin .add .arith (.t 0) (.c (.int .i64 1)), .none⟩,
     ⟨(.var 7), .mov (.t 1), .none⟩]))))))
 (.seq (.ops [⟨.tmp, .mov (.v 4), .none⟩,
   ⟨.tmp, .mov (.v 5), .none⟩,
   ⟨.tmp, .pcall 13 [(.t 0), (.t 1)], .none⟩,
   ⟨.tmp, .mov (.t 2), .none⟩,
   ⟨.tmp, .ext (.t 3) 0, .none⟩,
   ⟨.tmp, .ext (.t 3) 1, .none⟩,
   ⟨.tmp, .ext (.t 3) 2, .none⟩,
   ⟨(.var 9), .mov (.t 4), .none⟩,
   ⟨(.var 10), .mov (.t 5), .none⟩,
   ⟨(.var 11), .mov (.t 6), .none⟩])
 (.seq (.ops [⟨.tmp, .mov (.v 6), .none⟩,
   ⟨.tmp, .mov (.v 5), .none⟩,
   ⟨.tmp, .bin .mul .arith (.c (.int .i64 2)) (.t 1), .none⟩,
   ⟨.tmp, .pcall 13 [(.t 0), (.t 2)], .none⟩,
   ⟨.tmp, .mov (.t 3), .none⟩,
   ⟨.tmp, .ext (.t 4) 0, .none⟩,
   ⟨.tmp, .ext (.t 4) 1, .none⟩,
   ⟨.tmp, .ext (.t 4) 2, .none⟩,
   ⟨(.var 12), .mov (.t 5), .none⟩,
   ⟨(.var 13), .mov (.t 6), .none⟩,
   ⟨(.var 14), .mov (.t 7), .none⟩])
 (.seq (.seq (.ops [⟨.tmp, .mov (.v 11), .none⟩,
   ⟨.tmp, .mov (.v 14), .none⟩,
   ⟨.tmp, .bin .neq .arith (.t 0) (.t 1), .none⟩,
   ⟨.tmp, .mov (.t 2), .none⟩,
   ⟨.tmp, .mov (.v 13), (some ((.t 3), false))⟩,
   ⟨.tmp, .mov (.v 10), (some ((.t 3), false))⟩,
   ⟨.tmp, .bin .mul .arith (.c (.int .i64 4)) (.t 5), (some ((.t 3), false))⟩,
   ⟨.tmp, .bin .neq .arith (.t 4) (.t 6), (some ((.t 3), false))⟩,
   ⟨.tmp, .pick (.t 3) (.c (.bool true)) (.t 7), .none⟩,
   ⟨.tmp, .mov (.t 8), .none⟩,
   ⟨.tmp, .mov (.v 9), (some ((.t 9), false))⟩,
   ⟨.tmp, .len (.t 10), (some ((.t 9), false))⟩,
   ⟨.tmp, .mov (.v 12), (some ((.t 9), false))⟩,
   ⟨.tmp, .len (.t 12), (some ((.t 9), false))⟩,
   ⟨.tmp, .bin .neq .arith (.t 11) (.t 13), (some ((.t 9), false))⟩,
   ⟨(.var 20), .pick (.t 9) (.c (.bool true)) (.t 14), .none⟩])
 (.cond (.v 20)
  (.seq (.ops [⟨(.var 3), .mov (.c (.bool false)), .none⟩])
  .ret)
  .skip))
 (.seq (.seq (.ops [⟨(.var 15), .mov (.c (.int .i64 0)), .none⟩])
 (.block 2 (.loop (.seq (.seq (.ops [⟨.tmp, .mov (.v 15), .none⟩,
     ⟨.tmp, .mov (.v 9), .none⟩,
     ⟨.tmp, .len (.t 1), .none⟩,
     ⟨(.var 21), .bin .lss .arith (.t 0) (.t 2), .none⟩])
   (.cond (.v 21)
    .skip
    (.exit 2)))
   (.seq (.block 3 (.seq (.ops [⟨.tmp, .mov (.v 9), .none⟩,
      ⟨.tmp, .mov (.v 15), .none⟩,
      ⟨.tmp, .iaddr 3 (.t 0) (.t 1), .none⟩,
      ⟨.tmp, .faddr 0 (.t 2), .none⟩,
      ⟨.tmp, .load 1 false (.t 3), .none⟩,
      ⟨.tmp, .mov (.v 12), .none⟩,
      ⟨.tmp, .mov (.v 15), .none⟩,
      ⟨.tmp, .iaddr 3 (.t 5) (.t 6), .none⟩,
      ⟨.tmp, .faddr 0 (.t 7), .none⟩,
      ⟨.tmp, .load 1 false (.t 8), .none⟩,
      ⟨.tmp, .bin .neq .arith (.t 4) (.t 9), .none⟩,
      ⟨.tmp, .mov (.t 10), .none⟩,
      ⟨.tmp, .mov (.v 9), (some ((.t 11), false))⟩,
      ⟨.tmp, .mov (.v 15), (some ((.t 11), false))⟩,
      ⟨.tmp, .iaddr 3 (.t 12) (.t 13), (some ((.t 11), false))⟩,
      ⟨.tmp, .faddr 1 (.t 14), (some ((.t 11), false))⟩,
      ⟨.tmp, .load 1 false (.t 15), (some ((.t 11), false))⟩,
      ⟨.tmp, .mov (.v 12), (some ((.t 11), false))⟩,
      ⟨.tmp, .mov (.v 15), (some ((.t 11), false))⟩,
      ⟨.tmp, .iaddr 3 (.t 17) (.t 18), (some ((.t 11), false))⟩,
      ⟨.tmp, .faddr 1 (.t 19), (some ((.t 11), false))⟩,
      ⟨.tmp, .load 1 false (.t 20), (some ((.t 11), false))⟩,
      ⟨.tmp, .bin .neq .arith (.t 16) (.t 21), (some ((.t 11), false))⟩,
      ⟨.tmp, .pick (.t 11) (.c (.bool true)) (.t 22), .none⟩,
      ⟨.tmp, .mov (.t 23), .none⟩,
      ⟨.tmp, .mov (.v 9), (some ((.t 24), false))⟩,
      ⟨.tmp, .mov (.v 15), (some ((.t 24), false))⟩,
      ⟨.tmp, .iaddr 3 (.t 25) (.t 26), (some ((.t 24), false))⟩,
      ⟨.tmp, .faddr 2 (.t 27), (some ((.t 24), false))⟩,
      ⟨.tmp, .load 1 false (.t 28), (some ((.t 24), false))⟩,
      ⟨.tmp, .bin .mul .arith (.c (.int .i64 2)) (.t 29), (some ((.t 24), false))⟩,
      ⟨.tmp, .mov (.v 12), (some ((.t 24), false))⟩,
      ⟨.tmp, .mov (.v 15), (some ((.t 24), false))⟩,
      ⟨.tmp, .iaddr 3 (.t 31) (.t 32), (some ((.t 24), false))⟩,
      ⟨.tmp, .faddr 2 (.t 33), (some ((.t 24), false))⟩,
      ⟨.tmp, .load 1 false (.t 34), (some ((.t 24), false))⟩,
      ⟨.tmp, .bin .neq .arith (.t 30) (.t 35), (some ((.t 24), false))⟩,
      ⟨(.var 22), .pick (.t 24) (.c (.bool true)) (.t 36), .none⟩])
    (.cond (.v 22)
     (.seq (.ops [⟨(.var 3), .mov (.c (.bool false)), .none⟩])
     .ret)
     .skip)))
   (.ops [⟨.tmp, .mov (.v 15), .none⟩,
     ⟨.tmp, .bin .add .arith (.t 0) (.c (.int .i64 1)), .none⟩,
     ⟨(.var 15), .mov (.t 1), .none⟩]))))))
 (.seq (.ops [⟨(.var 16), .mov (.c (.sl [] .nil)), .none⟩])
 (.seq (.ops [⟨.tmp, .mov (.v 16), .none⟩,
   ⟨.tmp, .mov (.v 4), .none⟩,
   ⟨.tmp, .append false 47 72 8 true (.t 0) (.t 1), .none⟩,
   ⟨(.var 16), .mov (.t 2), .none⟩])
 (.seq (.ops [⟨.tmp, .mov (.v 16), .none⟩,
   ⟨.tmp, .mov (.v 1), .none⟩,
   ⟨.tmp, .pcall 10 [(.t 1)], .none⟩,
   ⟨.tmp, .append false 47 72 8 true (.t 0) (.t 2), .none⟩,
   ⟨(.var 16), .mov (.t 3), .none⟩])
 (.seq (.ops [⟨.tmp, .mov (.v 4), .none⟩,
   ⟨.tmp, .mov (.v 5), .none⟩,
   ⟨.tmp, .pcall 17 [(.t 0), (.t 1)], .none⟩,
   ⟨(.var 17), .mov (.t 2), .none⟩])
 (.seq (.ops [⟨.tmp, .mov (.v 16), .none⟩,
   ⟨.tmp, .mov (.v 5), .none⟩,
   ⟨.tmp, .pcall 17 [(.t 0), (.t 1)], .none⟩,
   ⟨(.var 18), .mov (.t 2), .none⟩])
 (.seq (.ops [⟨.tmp, .mov (.v 17), .none⟩,
   ⟨.tmp, .len (.t 0), .none⟩,
   ⟨.tmp, .mov (.v 4), .none⟩,
   ⟨.tmp, .len (.t 2), .none⟩,
   ⟨.tmp, .bin .eql .arith (.t 1) (.t 3), .none⟩,
   ⟨.tmp, .mov (.t 4), .none⟩,
   ⟨.tmp, .mov (.v 18), (some ((.t 5), true))⟩,
   ⟨.tmp, .len (.t 6), (some ((.t 5), true))⟩,
   ⟨.tmp, .mov (.v 16), (some ((.t 5), true))⟩,
   ⟨.tmp, .len (.t 8), (some ((.t 5), true))⟩,
   ⟨.tmp, .bin .eql .arith (.t 7) (.t 9), (some ((.t 5), true))⟩,
   ⟨.tmp, .pick (.t 5) (.t 10) (.c (.bool false)), .none⟩,
   ⟨.tmp, .mov (.t 11), .none⟩,
   ⟨.tmp, .mov (.v 17), (some ((.t 12), true))⟩,
   ⟨.tmp, .mov (.v 18), (some ((.t 12), true))⟩,
   ⟨.tmp, .mov (.v 17), (some ((.t 12), true))⟩,
   ⟨.tmp, .len (.t 15), (some ((.t 12), true))⟩,
   ⟨.tmp, .slice 1 (.t 14) .none (some (.t 16)), (some ((.t 12), true))⟩,
   ⟨.tmp, .pcall 16 [(.t 13), (.t 17)], (some ((.t 12), true))⟩,
   ⟨.tmp, .pick (.t 12) (.t 18) (.c (.bool false)), .none⟩,
   ⟨.tmp, .mov (.t 19), .none⟩,
   ⟨.tmp, .pcall 19 [], (some ((.t 20), true))⟩,
   ⟨.tmp, .pick (.t 20) (.t 21) (.c (.bool false)), .none⟩,
   ⟨(.var 3), .mov (.t 22), .none⟩])
 .ret))))))))))))))),
 [3]⟩
def c7 : AFunc := ⟨[0, 1, 2, 3, 4, 5, 12, 13, 14, 15, 16, 17, 18, 19, 39, 46, 52, 59, 78, 114, 122, 143],
 (.seq (.ops [⟨(.var 6), .mov (.c (.bool false)), .none⟩])
 (.seq (.ops [⟨.tmp, .mov (.v 0), .none⟩,
   ⟨.tmp, .pcall 10 [(.t 0)], .none⟩,
   ⟨(.var 7), .mov (.t 1), .none⟩])
 (.seq (.ops [⟨.tmp, .mov (.v 7), .none⟩,
   ⟨.tmp, .mov (.v 1), .none⟩,
   ⟨.tmp, .mov (.v 2), .none⟩,
   ⟨.tmp, .mov (.v 3), .none⟩,
   ⟨.tmp, .pcall 11 [(.t 0), (.t 1), (.t 2), (.t 3)], .none⟩,
   ⟨(.var 8), .mov (.t 4), .none⟩])
 (.seq (.seq (.ops [⟨.tmp, .mov (.v 7), .none⟩,
   ⟨.tmp, .pcall 25 [(.t 0)], .none⟩,
   ⟨.tmp, .un .not (.t 1), .none⟩,
   ⟨.tmp, .mov (.t 2), .none⟩,
   ⟨.tmp, .mov (.v 8), (some ((.t 3), false))⟩,
   ⟨.tmp, .pcall 25 [(.t 4)], (some ((.t 3), false))⟩,
   ⟨.tmp, .mov (.v 8), (some ((.t 3), false))⟩,
   ⟨.tmp, .pcall 26 [(.t 6)], (some ((.t 3), false))⟩,
   ⟨.tmp, .bin .neq .bool (.t 5) (.t 7), (some ((.t 3), false))⟩,
   ⟨.tmp, .pick (.t 3) (.c (.bool true)) (.t 8), .none⟩,
   ⟨.tmp, .mov (.t 9), .none⟩,
   ⟨.tmp, .pcall 25 [(.c (.sl [] .nil))], (some ((.t 10), false))⟩,
   ⟨(.var 14), .pick (.t 10) (.c (.bool true)) (.t 11), .none⟩])
 (.cond (.v 14)
  (.seq (.ops [⟨(.var 6), .mov (.c (.bool false)), .none⟩])
  .ret)
  .skip))
 (.seq (.ops [⟨.tmp, .mov (.v 4), .none⟩,
   ⟨.tmp, .pcall 12 [(.t 0), (.c (.int .i64 16))], .none⟩,
   ⟨.tmp, .bin .add .arith (.c (.int .i64 1)) (.t 1), .none⟩,
   ⟨.tmp, .mov (.v 4), .none⟩,
   ⟨.tmp, .lit 0 3 2 1 false [(.int .i64 0)] [(0, (.t 2)), (1, (.t 3))], .none⟩,
   ⟨(.var 9), .mov (.t 4), .none⟩])
 (.seq (.seq (.ops [⟨(.var 10), .mov (.c (.int .i64 0)), .none⟩])
 (.block 0 (.loop (.seq (.seq (.ops [⟨.tmp, .mov (.v 10), .none⟩,
     ⟨(.var 15), .bin .lss .arith (.t 0) (.c (.int .i64 2)), .none⟩])
   (.cond (.v 15)
    .skip
    (.exit 0)))
   (.seq (.block 1 (.seq (.seq (.ops [⟨(.var 11), .mov (.c (.int .i64 (-1))), .none⟩])
    (.block 2 (.loop (.seq (.seq (.ops [⟨.tmp, .mov (.v 11), .none⟩,
        ⟨.tmp, .mov (.v 7), .none⟩,
        ⟨.tmp, .len (.t 1), .none⟩,
        ⟨(.var 16), .bin .leq .arith (.t 0) (.t 2), .none⟩])
      (.cond (.v 16)
       .skip
       (.exit 2)))
      (.seq (.block 3 (.seq (.ops [⟨(.var 12), .mov (.c (.int .i64 0)), .none⟩])
       (.block 4 (.loop (.seq (.seq (.ops [⟨.tmp, .mov (.v 12), .none⟩,
           ⟨.tmp, .mov (.v 7), .none⟩,
           ⟨.tmp, .len (.t 1), .none⟩,
           ⟨.tmp, .bin .add .arith (.t 2) (.c (.int .i64 1)), .none⟩,
           ⟨(.var 17), .bin .leq .arith (.t 0) (.t 3), .none⟩])
         (.cond (.v 17)
          .skip
          (.exit 4)))
         (.seq (.block 5 (.seq (.ops [⟨.tmp, .mov (.v 7), .none⟩,
            ⟨.tmp, .mov (.v 11), .none⟩,
            ⟨.tmp, .mov (.v 12), .none⟩,
            ⟨.tmp, .mov (.v 9), .none⟩,
            ⟨.tmp, .mov (.v 10), .none⟩,
            ⟨.tmp, .iaddr 1 (.t 3) (.t 4), .none⟩,
            ⟨.tmp, .load 1 false (.t 5), .none⟩,
            ⟨.tmp, .pcall 27 [(.t 0), (.t 1), (.t 2), (.t 6)], .none⟩,
            ⟨.tmp, .mov (.v 7), .none⟩,
            ⟨.tmp, .mov (.v 11), .none⟩,
            ⟨.tmp, .mov (.v 12), .none⟩,
            ⟨.tmp, .mov (.v 9), .none⟩,
            ⟨.tmp, .mov (.v 10), .none⟩,
            ⟨.tmp, .iaddr 1 (.t 11) (.t 12), .none⟩,
            ⟨.tmp, .load 1 false (.t 13), .none⟩,
            ⟨.tmp, .pcall 28 [(.t 8), (.t 9), (.t 10), (.t 14)], .none⟩,
            ⟨(.var 18), .bin .neq .arith (.t 7) (.t 15), .none⟩])
          (.cond (.v 18)
           (.seq (.ops [⟨(.var 6), .mov (.c (.bool false)), .none⟩])
           .ret)
           .skip)))
         (.ops [⟨.tmp, .mov (.v 12), .none⟩,
           ⟨.tmp, .bin .add .arith (.t 0) (.c (.int .i64 1)), .none⟩,
           ⟨(.var 12), .mov (.t 1), .none⟩])))))))
      (.ops [⟨.tmp, .mov (.v 11), .none⟩,
        ⟨.tmp, .bin .add .arith (.t 0) (.c (.int .i64 1)), .none⟩,
        ⟨(.var 11), .mov (.t 1), .none⟩]))))))
    (.seq (.seq (.ops [⟨.tmp, .mov (.v 7), .none⟩,
      ⟨.tmp, .mov (.v 5), .none⟩,
      ⟨.tmp, .mov (.v 1), .none⟩,
      ⟨.tmp, .mov (.v 9), .none⟩,
      ⟨.tmp, .mov (.v 10), .none⟩,
      ⟨.tmp, .iaddr 1 (.t 3) (.t 4), .none⟩,
      ⟨.tmp, .load 1 false (.t 5), .none⟩,
      ⟨.tmp, .pcall 27 [(.t 0), (.t 1), (.t 2), (.t 6)], .none⟩,
      ⟨.tmp, .mov (.v 7), .none⟩,
      ⟨.tmp, .mov (.v 5), .none⟩,
      ⟨.tmp, .mov (.v 1), .none⟩,
      ⟨.tmp, .mov (.v 9), .none⟩,
      ⟨.tmp, .mov (.v 10), .none⟩,
      ⟨.tmp, .iaddr 1 (.t 11) (.t 12), .none⟩,
      ⟨.tmp, .load 1 false (.t 13), .none⟩,
      ⟨.tmp, .pcall 28 [(.t 8), (.t 9), (.t 10), (.t 14)], .none⟩,
      ⟨.tmp, .bin .neq .arith (.t 7) (.t 15), .none⟩,
      ⟨.tmp, .mov (.t 16), .none⟩,
      ⟨.tmp, .mov (.v 8), (some ((.t 17), false))⟩,
      ⟨.tmp, .mov (.v 1), (some ((.t 17), false))⟩,
      ⟨.tmp, .mov (.v 5), (some ((.t 17), false))⟩,
      ⟨.tmp, .mov (.v 9), (some ((.t 17), false))⟩,
      ⟨.tmp, .mov (.v 10), (some ((.t 17), false))⟩,
      ⟨.tmp, .iaddr 1 (.t 21) (.t 22), (some ((.t 17), false))⟩,
      ⟨.tmp, .load 1 false (.t 23), (some ((.t 17), false))⟩,
      ⟨.tmp, .pcall 27 [(.t 18), (.t 19), (.t 20), (.t 24)], (some ((.t 17), false))⟩,
      ⟨.tmp, .mov (.v 8), (some ((.t 17), false))⟩,
      ⟨.tmp, .mov (.v 1), (some ((.t 17), false))⟩,
      ⟨.tmp, .mov (.v 5), (some ((.t 17), false))⟩,
      ⟨.tmp, .mov (.v 9), (some ((.t 17), false))⟩,
      ⟨.tmp, .mov (.v 10), (some ((.t 17), false))⟩,
      ⟨.tmp, .iaddr 1 (.t 29) (.t 30), (some ((.t 17), false))⟩,
      ⟨.tmp, .load 1 false (.t 31), (some ((.t 17), false))⟩,
      ⟨.tmp, .pcall 28 [(.t 26), (.t 27), (.t 28), (.t 32)], (some ((.t 17), false))⟩,
      ⟨.tmp, .bin .neq .arith (.t 25) (.t 33), (some ((.t 17), false))⟩,
      ⟨(.var 19), .pick (.t 17) (.c (.bool true)) (.t 34), .none⟩])
    (.cond (.v 19)
     (.seq (.ops [⟨(.var 6), .mov (.c (.bool false)), .none⟩])
     .ret)
     .skip))
    (.seq (.ops [⟨(.var 13), .mov (.c (.int .i64 0)), .none⟩])
    (.block 6 (.loop (.seq (.seq (.ops [⟨.tmp, .mov (.v 13), .none⟩,
        ⟨.tmp, .mov (.v 8), .none⟩,
        ⟨.tmp, .len (.t 1), .none⟩,
        ⟨.tmp, .bin .leq .arith (.t 0) (.t 2), .none⟩,
        ⟨.tmp, .mov (.t 3), .none⟩,
        ⟨.tmp, .mov (.v 13), (some ((.t 4), true))⟩,
        ⟨.tmp, .bin .lss .arith (.t 5) (.c (.int .i64 40)), (some ((.t 4), true))⟩,
        ⟨(.var 20), .pick (.t 4) (.t 6) (.c (.bool false)), .none⟩])
      (.cond (.v 20)
       .skip
       (.exit 6)))
      (.seq (.block 7 (.seq (.ops [⟨.tmp, .mov (.v 8), .none⟩,
         ⟨.tmp, .mov (.v 13), .none⟩,
         ⟨.tmp, .bin .quo .arith (.t 1) (.c (.int .i64 3)), .none⟩,
         ⟨.tmp, .mov (.v 13), .none⟩,
         ⟨.tmp, .mov (.v 9), .none⟩,
         ⟨.tmp, .mov (.v 10), .none⟩,
         ⟨.tmp, .iaddr 1 (.t 4) (.t 5), .none⟩,
         ⟨.tmp, .load 1 false (.t 6), .none⟩,
         ⟨.tmp, .pcall 27 [(.t 0), (.t 2), (.t 3), (.t 7)], .none⟩,
         ⟨.tmp, .mov (.v 8), .none⟩,
         ⟨.tmp, .mov (.v 13), .none⟩,
         ⟨.tmp, .bin .quo .arith (.t 10) (.c (.int .i64 3)), .none⟩,
         ⟨.tmp, .mov (.v 13), .none⟩,
         ⟨.tmp, .mov (.v 9), .none⟩,
         ⟨.tmp, .mov (.v 10), .none⟩,
         ⟨.tmp, .iaddr 1 (.t 13) (.t 14), .none⟩,
         ⟨.tmp, .load 1 false (.t 15), .none⟩,
         ⟨.tmp, .pcall 28 [(.t 9), (.t 11), (.t 12), (.t 16)], .none⟩,
         ⟨(.var 21), .bin .neq .arith (.t 8) (.t 17), .none⟩])
       (.cond (.v 21)
        (.seq (.ops [⟨(.var 6), .mov (.c (.bool false)), .none⟩])
        .ret)
        .skip)))
      (.ops [⟨.tmp, .mov (.v 13), .none⟩,
        ⟨.tmp, .bin .add .arith (.t 0) (.c (.int .i64 1)), .none⟩,
        ⟨(.var 13), .mov (.t 1), .none⟩])))))))))
   (.ops [⟨.tmp, .mov (.v 10), .none⟩,
     ⟨.tmp, .bin .add .arith (.t 0) (.c (.int .i64 1)), .none⟩,
     ⟨(.var 10), .mov (.t 1), .none⟩]))))))
 (.seq (.ops [⟨.tmp, .pcall 19 [], .none⟩,
   ⟨(.var 6), .mov (.t 0), .none⟩])
 .ret))))))),
 [6]⟩
def c8 : AFunc := ⟨[0, 1, 2, 6, 7, 8, 9, 10, 11, 12, 13, 14, 15, 16, 17, 18, 41, 52, 60, 67, 92],
 (.seq (.ops [⟨(.var 3), .mov (.c (.bool false)), .none⟩])
 (.seq (.ops [⟨.tmp, .mov (.v 0), .none⟩,
   ⟨.tmp, .pcall 10 [(.t 0)], .none⟩,
   ⟨(.var 4), .mov (.t 1), .none⟩])
 (.seq (.ops [⟨.tmp, .mov (.v 1), .none⟩,
   ⟨.tmp, .pcall 12 [(.t 0), (.c (.int .i64 20))], .none⟩,
   ⟨.tmp, .bin .add .arith (.c (.int .i64 3)) (.t 1), .none⟩,
   ⟨(.var 5), .mov (.t 2), .none⟩])
 (.seq (.ops [⟨.tmp, .mov (.v 4), .none⟩,
   ⟨.tmp, .mov (.v 5), .none⟩,
   ⟨.tmp, .pcall 13 [(.t 0), (.t 1)], .none⟩,
   ⟨.tmp, .mov (.t 2), .none⟩,
   ⟨.tmp, .ext (.t 3) 0, .none⟩,
   ⟨.tmp, .ext (.t 3) 1, .none⟩,
   ⟨.tmp, .ext (.t 3) 2, .none⟩,
   ⟨(.var 6), .mov (.t 4), .none⟩,
   ⟨(.var 7), .mov (.t 5), .none⟩,
   ⟨(.var 8), .mov (.t 6), .none⟩])
 (.seq (.ops [⟨(.var 9), .mov (.c (.int .i64 0)), .none⟩])
 (.seq (.ops [⟨(.var 10), .mov (.c (.int .i64 (-1))), .none⟩])
 (.seq (.seq (.ops [⟨(.var 11), .mov (.c (.int .i64 0)), .none⟩])
 (.block 0 (.loop (.seq (.seq (.ops [⟨.tmp, .mov (.v 11), .none⟩,
     ⟨.tmp, .mov (.v 4), .none⟩,
     ⟨.tmp, .len (.t 1), .none⟩,
     ⟨.tmp, .bin .leq .arith (.t 0) (.t 2), .none⟩,
     ⟨.tmp, .mov (.t 3), .none⟩,
     ⟨.tmp, .mov (.v 10), (some ((.t 4), true))⟩,
     ⟨.tmp, .mov (.v 4), (some ((.t 4), true))⟩,
     ⟨.tmp, .len (.t 6), (some ((.t 4), true))⟩,
     ⟨.tmp, .bin .sub .arith (.t 7) (.c (.int .i64 1)), (some ((.t 4), true))⟩,
     ⟨.tmp, .bin .lss .arith (.t 5) (.t 8), (some ((.t 4), true))⟩,
     ⟨(.var 16), .pick (.t 4) (.t 9) (.c (.bool false)), .none⟩])
   (.cond (.v 16)
    .skip
    (.exit 0)))
   (.seq (.block 1 (.seq (.ops [⟨.tmp, .mov (.v 4), .none⟩,
      ⟨.tmp, .mov (.v 10), .none⟩,
      ⟨.tmp, .pcall 29 [(.t 0), (.t 1)], .none⟩,
      ⟨(.var 12), .mov (.t 2), .none⟩])
    (.seq (.ops [⟨(.var 13), .mov (.c (.sl [] .nil)), .none⟩])
    (.seq (.seq (.ops [⟨.tmp, .mov (.v 12), .none⟩,
      ⟨.tmp, .bin .add .arith (.t 0) (.c (.int .i64 1)), .none⟩,
      ⟨(.var 14), .mov (.t 1), .none⟩])
    (.block 2 (.loop (.seq (.seq (.ops [⟨.tmp, .mov (.v 14), .none⟩,
        ⟨.tmp, .mov (.v 4), .none⟩,
        ⟨.tmp, .len (.t 1), .none⟩,
        ⟨(.var 17), .bin .leq .arith (.t 0) (.t 2), .none⟩])
      (.cond (.v 17)
       .skip
       (.exit 2)))
      (.seq (.block 3 (.seq (.ops [⟨.tmp, .mov (.v 4), .none⟩,
         ⟨.tmp, .mov (.v 12), .none⟩,
         ⟨.tmp, .mov (.v 14), .none⟩,
         ⟨.tmp, .mov (.v 5), .none⟩,
         ⟨.tmp, .pcall 27 [(.t 0), (.t 1), (.t 2), (.t 3)], .none⟩,
         ⟨(.var 18), .bin .geq .arith (.t 4) (.c (.int .i64 0)), .none⟩])
       (.cond (.v 18)
        (.ops [⟨.tmp, .mov (.v 13), .none⟩,
          ⟨.tmp, .mov (.v 14), .none⟩,
          ⟨.tmp, .lit 0 3 1 1 false [(.int .i64 0)] [(0, (.t 1))], .none⟩,
          ⟨.tmp, .append false 3 8 1 false (.t 0) (.t 2), .none⟩,
          ⟨(.var 13), .mov (.t 3), .none⟩])
        .skip)))
      (.ops [⟨.tmp, .mov (.v 14), .none⟩,
        ⟨.tmp, .bin .add .arith (.t 0) (.c (.int .i64 1)), .none⟩,
        ⟨(.var 14), .mov (.t 1), .none⟩]))))))
    (.seq (.seq (.ops [⟨.tmp, .mov (.v 13), .none⟩,
      ⟨.tmp, .len (.t 0), .none⟩,
      ⟨(.var 19), .bin .eql .arith (.t 1) (.c (.int .i64 0)), .none⟩])
    (.cond (.v 19)
     (.seq (.ops [⟨.tmp, .pcall 19 [], .none⟩,
       ⟨(.var 3), .mov (.t 0), .none⟩])
     .ret)
     .skip))
    (.seq (.ops [⟨.tmp, .mov (.v 13), .none⟩,
      ⟨.tmp, .mov (.v 2), .none⟩,
      ⟨.tmp, .mov (.v 11), .none⟩,
      ⟨.tmp, .mov (.v 13), .none⟩,
      ⟨.tmp, .len (.t 3), .none⟩,
      ⟨.tmp, .pcall 30 [(.t 1), (.t 2), (.t 4)], .none⟩,
      ⟨.tmp, .iaddr 1 (.t 0) (.t 5), .none⟩,
      ⟨.tmp, .load 1 false (.t 6), .none⟩,
      ⟨(.var 15), .mov (.t 7), .none⟩])
    (.seq (.ops [⟨.tmp, .mov (.v 9), .none⟩,
      ⟨.tmp, .mov (.v 4), .none⟩,
      ⟨.tmp, .mov (.v 12), .none⟩,
      ⟨.tmp, .mov (.v 15), .none⟩,
      ⟨.tmp, .mov (.v 5), .none⟩,
      ⟨.tmp, .pcall 27 [(.t 1), (.t 2), (.t 3), (.t 4)], .none⟩,
      ⟨.tmp, .bin .add .arith (.t 0) (.t 5), .none⟩,
      ⟨(.var 9), .mov (.t 6), .none⟩])
    (.ops [⟨.tmp, .mov (.v 15), .none⟩,
      ⟨.tmp, .bin .sub .arith (.t 0) (.c (.int .i64 1)), .none⟩,
      ⟨(.var 10), .mov (.t 1), .none⟩]))))))))
   (.ops [⟨.tmp, .mov (.v 11), .none⟩,
     ⟨.tmp, .bin .add .arith (.t 0) (.c (.int .i64 1)), .none⟩,
     ⟨(.var 11), .mov (.t 1), .none⟩]))))))
 (.seq (.seq (.ops [⟨.tmp, .mov (.v 8), .none⟩,
   ⟨.tmp, .bin .neq .arith (.t 0) (.c (.int .i64 0)), .none⟩,
   ⟨.tmp, .mov (.t 1), .none⟩,
   ⟨.tmp, .mov (.v 7), (some ((.t 2), false))⟩,
   ⟨.tmp, .mov (.v 9), (some ((.t 2), false))⟩,
   ⟨.tmp, .bin .gtr .arith (.t 3) (.t 4), (some ((.t 2), false))⟩,
   ⟨(.var 20), .pick (.t 2) (.c (.bool true)) (.t 5), .none⟩])
 (.cond (.v 20)
  (.seq (.ops [⟨(.var 3), .mov (.c (.bool false)), .none⟩])
  .ret)
  .skip))
 (.seq (.ops [⟨.tmp, .mov (.v 4), .none⟩,
   ⟨.tmp, .mov (.v 5), .none⟩,
   ⟨.tmp, .mov (.v 6), .none⟩,
   ⟨.tmp, .mov (.v 4), .none⟩,
   ⟨.tmp, .mov (.v 5), .none⟩,
   ⟨.tmp, .pcall 17 [(.t 3), (.t 4)], .none⟩,
   ⟨.tmp, .pcall 20 [(.t 0), (.t 1), (.t 2), (.t 5)], .none⟩,
   ⟨.tmp, .bin .eql .arith (.t 6) (.c (.int .i64 0)), .none⟩,
   ⟨.tmp, .mov (.t 7), .none⟩,
   ⟨.tmp, .pcall 19 [], (some ((.t 8), true))⟩,
   ⟨.tmp, .pick (.t 8) (.t 9) (.c (.bool false)), .none⟩,
   ⟨(.var 3), .mov (.t 10), .none⟩])
 .ret))))))))),
 [3]⟩
def c9 : AFunc := ⟨[0, 1, 4, 5, 6, 7, 8, 9, 10, 11, 12, 13, 14, 15, 16, 17, 18, 38, 40, 63, 103, 119, 127],
 (.seq (.ops [⟨(.var 2), .mov (.c (.bool false)), .none⟩])
 (.seq (.ops [⟨.tmp, .mov (.v 0), .none⟩,
   ⟨.tmp, .pcall 10 [(.t 0)], .none⟩,
   ⟨(.var 3), .mov (.t 1), .none⟩])
 (.seq (.ops [⟨.tmp, .mov (.v 1), .none⟩,
   ⟨.tmp, .pcall 12 [(.t 0), (.c (.int .i64 24))], .none⟩,
   ⟨.tmp, .bin .add .arith (.c (.int .i64 1)) (.t 1), .none⟩,
   ⟨(.var 4), .mov (.t 2), .none⟩])
 (.seq (.ops [⟨.tmp, .mov (.v 3), .none⟩,
   ⟨.tmp, .mov (.v 4), .none⟩,
   ⟨.tmp, .pcall 13 [(.t 0), (.t 1)], .none⟩,
   ⟨.tmp, .mov (.t 2), .none⟩,
   ⟨.tmp, .ext (.t 3) 0, .none⟩,
   ⟨.tmp, .ext (.t 3) 1, .none⟩,
   ⟨.tmp, .ext (.t 3) 2, .none⟩,
   ⟨(.var 5), .mov (.t 4), .none⟩,
   ⟨(.var 6), .mov (.t 5), .none⟩,
   ⟨(.var 7), .mov (.t 6), .none⟩])
 (.seq (.ops [⟨.tmp, .mov (.v 3), .none⟩,
   ⟨.tmp, .mov (.v 4), .none⟩,
   ⟨.tmp, .pcall 17 [(.t 0), (.t 1)], .none⟩,
   ⟨(.var 8), .mov (.t 2), .none⟩])
 (.seq (.seq (.ops [⟨.tmp, .mov (.v 8), .none⟩,
   ⟨.tmp, .len (.t 0), .none⟩,
   ⟨.tmp, .mov (.v 3), .none⟩,
   ⟨.tmp, .len (.t 2), .none⟩,
   ⟨(.var 17), .bin .neq .arith (.t 1) (.t 3), .none⟩])
 (.cond (.v 17)
  (.seq (.ops [⟨(.var 2), .mov (.c (.bool false)), .none⟩])
  .ret)
  .skip))
 (.seq (.seq (.ops [⟨.tmp, .mov (.v 7), .none⟩,
   ⟨(.var 18), .bin .neq .arith (.t 0) (.c (.int .i64 0)), .none⟩])
 (.cond (.v 18)
  (.seq (.ops [⟨.tmp, .mov (.v 7), .none⟩,
    ⟨.tmp, .bin .eql .arith (.t 0) (.c (.int .i64 18)), .none⟩,
    ⟨.tmp, .mov (.t 1), .none⟩,
    ⟨.tmp, .mov (.v 8), (some ((.t 2), true))⟩,
    ⟨.tmp, .mov (.v 3), (some ((.t 2), true))⟩,
    ⟨.tmp, .len (.t 4), (some ((.t 2), true))⟩,
    ⟨.tmp, .bin .sub .arith (.t 5) (.c (.int .i64 1)), (some ((.t 2), true))⟩,
    ⟨.tmp, .iaddr 1 (.t 3) (.t 6), (some ((.t 2), true))⟩,
    ⟨.tmp, .load 1 false (.t 7), (some ((.t 2), true))⟩,
    ⟨.tmp, .bin .eql .arith (.t 8) (.c (.int .i64 (-1))), (some ((.t 2), true))⟩,
    ⟨.tmp, .pick (.t 2) (.t 9) (.c (.bool false)), .none⟩,
    ⟨.tmp, .mov (.t 10), .none⟩,
    ⟨.tmp, .mov (.v 5), (some ((.t 11), true))⟩,
    ⟨.tmp, .len (.t 12), (some ((.t 11), true))⟩,
    ⟨.tmp, .bin .eql .arith (.t 13) (.c (.int .i64 0)), (some ((.t 11), true))⟩,
    ⟨.tmp, .pick (.t 11) (.t 14) (.c (.bool false)), .none⟩,
    ⟨.tmp, .mov (.t 15), .none⟩,
    ⟨.tmp, .pcall 19 [], (some ((.t 16), true))⟩,
    ⟨.tmp, .pick (.t 16) (.t 17) (.c (.bool false)), .none⟩,
    ⟨(.var 2), .mov (.t 18), .none⟩])
  .ret)
  .skip))
 (.seq (.ops [⟨(.var 9), .mov (.c (.int .i64 0)), .none⟩])
 (.seq (.ops [⟨(.var 10), .mov (.c (.int .i64 (-1))), .none⟩])
 (.seq (.ops [⟨(.var 11), .mov (.c (.str [])), .none⟩])
 (.seq (.seq (.ops [⟨(.var 12), .mov (.c (.int .i64 0)), .none⟩])
 (.block 0 (.loop (.seq (.seq (.ops [⟨.tmp, .mov (.v 12), .none⟩,
     ⟨.tmp, .mov (.v 5), .none⟩,
     ⟨.tmp, .len (.t 1), .none⟩,
     ⟨(.var 19), .bin .lss .arith (.t 0) (.t 2), .none⟩])
   (.cond (.v 19)
    .skip
    (.exit 0)))
   (.seq (.block 1 (.seq (.ops [⟨.tmp, .mov (.v 5), .none⟩,
      ⟨.tmp, .mov (.v 12), .none⟩,
      ⟨.tmp, .iaddr 3 (.t 0) (.t 1), .none⟩,
      ⟨.tmp, .load 3 true (.t 2), .none⟩,
      ⟨(.var 13), .alloc 41 3 true [(.int .i64 0), (.int .i64 0), (.int .i64 0)], .none⟩,
      ⟨.no, .store 3 (.v 13) (.t 3), .none⟩])
    (.seq (.ops [⟨.tmp, .mov (.v 3), .none⟩,
      ⟨.tmp, .faddr 0 (.v 13), .none⟩,
      ⟨.tmp, .load 1 false (.t 1), .none⟩,
      ⟨.tmp, .faddr 1 (.v 13), .none⟩,
      ⟨.tmp, .load 1 false (.t 3), .none⟩,
      ⟨.tmp, .mov (.v 4), .none⟩,
      ⟨.tmp, .pcall 27 [(.t 0), (.t 2), (.t 4), (.t 5)], .none⟩,
      ⟨(.var 14), .mov (.t 6), .none⟩])
    (.seq (.seq (.ops [⟨.tmp, .mov (.v 14), .none⟩,
      ⟨.tmp, .bin .lss .arith (.t 0) (.c (.int .i64 0)), .none⟩,
      ⟨.tmp, .mov (.t 1), .none⟩,
      ⟨.tmp, .faddr 0 (.v 13), (some ((.t 2), false))⟩,
      ⟨.tmp, .load 1 false (.t 3), (some ((.t 2), false))⟩,
      ⟨.tmp, .mov (.v 3), (some ((.t 2), false))⟩,
      ⟨.tmp, .mov (.v 10), (some ((.t 2), false))⟩,
      ⟨.tmp, .pcall 29 [(.t 5), (.t 6)], (some ((.t 2), false))⟩,
      ⟨.tmp, .bin .neq .arith (.t 4) (.t 7), (some ((.t 2), false))⟩,
      ⟨.tmp, .pick (.t 2) (.c (.bool true)) (.t 8), .none⟩,
      ⟨.tmp, .mov (.t 9), .none⟩,
      ⟨.tmp, .faddr 2 (.v 13), (some ((.t 10), false))⟩,
      ⟨.tmp, .load 1 false (.t 11), (some ((.t 10), false))⟩,
      ⟨.tmp, .mov (.v 3), (some ((.t 10), false))⟩,
      ⟨.tmp, .faddr 0 (.v 13), (some ((.t 10), false))⟩,
      ⟨.tmp, .load 1 false (.t 14), (some ((.t 10), false))⟩,
      ⟨.tmp, .faddr 1 (.v 13), (some ((.t 10), false))⟩,
      ⟨.tmp, .load 1 false (.t 16), (some ((.t 10), false))⟩,
      ⟨.tmp, .pcall 31 [(.t 13), (.t 15), (.t 17)], (some ((.t 10), false))⟩,
      ⟨.tmp, .bin .neq .arith (.t 12) (.t 18), (some ((.t 10), false))⟩,
      ⟨.tmp, .pick (.t 10) (.c (.bool true)) (.t 19), .none⟩,
      ⟨.tmp, .mov (.t 20), .none⟩,
      ⟨.tmp, .faddr 2 (.v 13), (some ((.t 21), false))⟩,
      ⟨.tmp, .load 1 false (.t 22), (some ((.t 21), false))⟩,
      ⟨.tmp, .mov (.v 4), (some ((.t 21), false))⟩,
      ⟨.tmp, .bin .gtr .arith (.t 23) (.t 24), (some ((.t 21), false))⟩,
      ⟨(.var 20), .pick (.t 21) (.c (.bool true)) (.t 25), .none⟩])
    (.cond (.v 20)
     (.seq (.ops [⟨(.var 2), .mov (.c (.bool false)), .none⟩])
     .ret)
     .skip))
    (.seq (.ops [⟨.tmp, .mov (.v 9), .none⟩,
      ⟨.tmp, .mov (.v 14), .none⟩,
      ⟨.tmp, .bin .add .arith (.t 0) (.t 1), .none⟩,
      ⟨(.var 9), .mov (.t 2), .none⟩])
    (.seq (.ops [⟨.tmp, .faddr 1 (.v 13), .none⟩,
      ⟨.tmp, .load 1 false (.t 0), .none⟩,
      ⟨.tmp, .bin .sub .arith (.t 1) (.c (.int .i64 1)), .none⟩,
      ⟨(.var 10), .mov (.t 2), .none⟩])
    (.ops [⟨.tmp, .mov (.v 11), .none⟩,
      ⟨.tmp, .mov (.v 3), .none⟩,
      ⟨.tmp, .load 3 true (.v 13), .none⟩,
      ⟨.tmp, .pcall 23 [(.t 1), (.t 2)], .none⟩,
      ⟨.tmp, .pcall 32 [(.t 3)], .none⟩,
      ⟨.tmp, .bin .add .arith (.t 0) (.t 4), .none⟩,
      ⟨(.var 11), .mov (.t 5), .none⟩])))))))
   (.ops [⟨.tmp, .mov (.v 12), .none⟩,
     ⟨.tmp, .bin .add .arith (.t 0) (.c (.int .i64 1)), .none⟩,
     ⟨(.var 12), .mov (.t 1), .none⟩]))))))
 (.seq (.ops [⟨(.var 15), .mov (.c (.str [])), .none⟩])
 (.seq (.seq (.ops [⟨(.var 16), .mov (.c (.int .i64 0)), .none⟩])
 (.block 2 (.loop (.seq (.seq (.ops [⟨.tmp, .mov (.v 16), .none⟩,
     ⟨.tmp, .mov (.v 3), .none⟩,
     ⟨.tmp, .len (.t 1), .none⟩,
     ⟨(.var 21), .bin .lss .arith (.t 0) (.t 2), .none⟩])
   (.cond (.v 21)
    .skip
    (.exit 2)))
   (.seq (.block 3 (.seq (.ops [⟨.tmp, .mov (.v 3), .none⟩,
      ⟨.tmp, .mov (.v 16), .none⟩,
      ⟨.tmp, .iaddr 8 (.t 0) (.t 1), .none⟩,
      ⟨.tmp, .faddr 0 (.t 2), .none⟩,
      ⟨.tmp, .load 1 false (.t 3), .none⟩,
      ⟨(.var 22), .bin .eql .arith (.t 4) (.c (.int .i64 0)), .none⟩])
    (.cond (.v 22)
     (.ops [⟨.tmp, .mov (.v 15), .none⟩,
       ⟨.tmp, .mov (.v 3), .none⟩,
       ⟨.tmp, .mov (.v 16), .none⟩,
       ⟨.tmp, .iaddr 8 (.t 1) (.t 2), .none⟩,
       ⟨.tmp, .faddr 1 (.t 3), .none⟩,
       ⟨.tmp, .load 1 false (.t 4), .none⟩,
       ⟨.tmp, .bin .add .arith (.t 0) (.t 5), .none⟩,
       ⟨(.var 15), .mov (.t 6), .none⟩])
     .skip)))
   (.ops [⟨.tmp, .mov (.v 16), .none⟩,
     ⟨.tmp, .bin .add .arith (.t 0) (.c (.int .i64 1)), .none⟩,
     ⟨(.var 16), .mov (.t 1), .none⟩]))))))
 (.seq (.ops [⟨.tmp, .mov (.v 10), .none⟩,
   ⟨.tmp, .mov (.v 3), .none⟩,
   ⟨.tmp, .len (.t 1), .none⟩,
   ⟨.tmp, .bin .sub .arith (.t 2) (.c (.int .i64 1)), .none⟩,
   ⟨.tmp, .bin .eql .arith (.t 0) (.t 3), .none⟩,
   ⟨.tmp, .mov (.t 4), .none⟩,
   ⟨.tmp, .mov (.v 9), (some ((.t 5), true))⟩,
   ⟨.tmp, .mov (.v 6), (some ((.t 5), true))⟩,
   ⟨.tmp, .bin .eql .arith (.t 6) (.t 7), (some ((.t 5), true))⟩,
   ⟨.tmp, .pick (.t 5) (.t 8) (.c (.bool false)), .none⟩,
   ⟨.tmp, .mov (.t 9), .none⟩,
   ⟨.tmp, .mov (.v 8), (some ((.t 10), true))⟩,
   ⟨.tmp, .mov (.v 10), (some ((.t 10), true))⟩,
   ⟨.tmp, .iaddr 1 (.t 11) (.t 12), (some ((.t 10), true))⟩,
   ⟨.tmp, .load 1 false (.t 13), (some ((.t 10), true))⟩,
   ⟨.tmp, .mov (.v 6), (some ((.t 10), true))⟩,
   ⟨.tmp, .bin .eql .arith (.t 14) (.t 15), (some ((.t 10), true))⟩,
   ⟨.tmp, .pick (.t 10) (.t 16) (.c (.bool false)), .none⟩,
   ⟨.tmp, .mov (.t 17), .none⟩,
   ⟨.tmp, .mov (.v 11), (some ((.t 18), true))⟩,
   ⟨.tmp, .mov (.v 15), (some ((.t 18), true))⟩,
   ⟨.tmp, .bin .eql .arith (.t 19) (.t 20), (some ((.t 18), true))⟩,
   ⟨.tmp, .pick (.t 18) (.t 21) (.c (.bool false)), .none⟩,
   ⟨.tmp, .mov (.t 22), .none⟩,
   ⟨.tmp, .pcall 19 [], (some ((.t 23), true))⟩,
   ⟨.tmp, .pick (.t 23) (.t 24) (.c (.bool false)), .none⟩,
   ⟨(.var 2), .mov (.t 25), .none⟩])
 .ret)))))))))))))),
 [2]⟩
def c10 : AFunc := ⟨[0, 2, 3, 4, 5, 6, 7, 8, 13, 22, 27, 38, 46, 50],
 (.seq (.ops [⟨(.var 1), .mov (.c (.sl [] .nil)), .none⟩])
 (.seq (.ops [⟨(.var 2), .mov (.c (.sl [] .nil)), .none⟩])
 (.seq (.seq (.ops [⟨(.var 3), .mov (.c (.int .i64 0)), .none⟩])
 (.block 0 (.loop (.seq (.seq (.ops [⟨.tmp, .mov (.v 3), .none⟩,
     ⟨.tmp, .mov (.v 0), .none⟩,
     ⟨.tmp, .pcall 30 [(.t 1), (.c (.int .i64 0)), (.c (.int .i64 9))], .none⟩,
     ⟨.tmp, .bin .add .arith (.c (.int .i64 1)) (.t 2), .none⟩,
     ⟨(.var 8), .bin .lss .arith (.t 0) (.t 3), .none⟩])
   (.cond (.v 8)
    .skip
    (.exit 0)))
   (.seq (.block 1 (.seq (.ops [⟨.tmp, .mov (.v 0), .none⟩,
      ⟨.tmp, .mov (.v 3), .none⟩,
      ⟨.tmp, .bin .mul .arith (.c (.int .i64 3)) (.t 1), .none⟩,
      ⟨.tmp, .bin .add .arith (.c (.int .i64 1)) (.t 2), .none⟩,
      ⟨.tmp, .pcall 30 [(.t 0), (.t 3), (.c (.int .i64 64))], .none⟩,
      ⟨(.var 4), .mov (.t 4), .none⟩])
    (.seq (.seq (.ops [⟨.tmp, .mov (.v 3), .none⟩,
      ⟨(.var 9), .bin .gtr .arith (.t 0) (.c (.int .i64 0)), .none⟩])
    (.cond (.v 9)
     (.seq (.ops [⟨(.var 5), .mov (.c (.int .i64 0)), .none⟩])
     (.block 2 (.loop (.seq (.seq (.ops [⟨.tmp, .mov (.v 5), .none⟩,
         ⟨.tmp, .mov (.v 4), .none⟩,
         ⟨.tmp, .bin .rem .arith (.t 1) (.c (.int .i64 9)), .none⟩,
         ⟨.tmp, .bin .quo .arith (.t 2) (.c (.int .i64 8)), .none⟩,
         ⟨(.var 10), .bin .leq .arith (.t 0) (.t 3), .none⟩])
       (.cond (.v 10)
        .skip
        (.exit 2)))
       (.seq (.block 3 (.ops [⟨.tmp, .mov (.v 2), .none⟩,
          ⟨.tmp, .mov (.v 4), .none⟩,
          ⟨.tmp, .bin .quo .arith (.t 1) (.c (.int .i64 32)), .none⟩,
          ⟨.tmp, .bin .add .arith (.c (.int .i64 1)) (.t 2), .none⟩,
          ⟨.tmp, .build [(.int .i64 0), (.str []), (.int .i64 0), (.int .i64 0), (.bool false), (.int .i64 0), (.int .i64 0), (.int .i64 0)] [(0, 1, (.c (.int .i64 1))), (2, 1, (.t 3))], .none⟩,
          ⟨.tmp, .lit 0 47 1 8 true [(.int .i64 0), (.str []), (.int .i64 0), (.int .i64 0), (.bool false), (.int .i64 0), (.int .i64 0), (.int .i64 0)] [(0, (.t 4))], .none⟩,
          ⟨.tmp, .append false 47 72 8 true (.t 0) (.t 5), .none⟩,
          ⟨(.var 2), .mov (.t 6), .none⟩]))
       (.ops [⟨.tmp, .mov (.v 5), .none⟩,
         ⟨.tmp, .bin .add .arith (.t 0) (.c (.int .i64 1)), .none⟩,
         ⟨(.var 5), .mov (.t 1), .none⟩]))))))
     .skip))
    (.seq (.seq (.ops [⟨.tmp, .mov (.v 4), .none⟩,
      ⟨(.var 11), .bin .eql .arith (.t 0) (.c (.int .i64 63)), .none⟩])
    (.cond (.v 11)
     (.ops [⟨.tmp, .mov (.v 2), .none⟩,
       ⟨.tmp, .build [(.int .i64 0), (.str []), (.int .i64 0), (.int .i64 0), (.bool false), (.int .i64 0), (.int .i64 0), (.int .i64 0)] [(0, 1, (.c (.int .i64 3)))], .none⟩,
       ⟨.tmp, .lit 0 47 1 8 true [(.int .i64 0), (.str []), (.int .i64 0), (.int .i64 0), (.bool false), (.int .i64 0), (.int .i64 0), (.int .i64 0)] [(0, (.t 1))], .none⟩,
       ⟨.tmp, .append false 47 72 8 true (.t 0) (.t 2), .none⟩,
       ⟨(.var 2), .mov (.t 3), .none⟩])
     .skip))
    (.seq (.ops [⟨(.var 6), .mov (.c (.int .i64 0)), .none⟩])
    (.block 4 (.loop (.seq (.seq (.ops [⟨.tmp, .mov (.v 6), .none⟩,
        ⟨.tmp, .mov (.v 4), .none⟩,
        ⟨.tmp, .bin .rem .arith (.t 1) (.c (.int .i64 3)), .none⟩,
        ⟨(.var 12), .bin .leq .arith (.t 0) (.t 2), .none⟩])
      (.cond (.v 12)
       .skip
       (.exit 4)))
      (.seq (.block 5 (.seq (.seq (.ops [⟨.tmp, .mov (.v 6), .none⟩,
         ⟨(.var 13), .bin .gtr .arith (.t 0) (.c (.int .i64 0)), .none⟩])
       (.cond (.v 13)
        (.ops [⟨.tmp, .mov (.v 2), .none⟩,
          ⟨.tmp, .mov (.v 0), .none⟩,
          ⟨.tmp, .mov (.v 3), .none⟩,
          ⟨.tmp, .bin .mul .arith (.c (.int .i64 3)) (.t 2), .none⟩,
          ⟨.tmp, .bin .add .arith (.c (.int .i64 3)) (.t 3), .none⟩,
          ⟨.tmp, .pcall 30 [(.t 1), (.t 4), (.c (.int .i64 30))], .none⟩,
          ⟨.tmp, .build [(.int .i64 0), (.str []), (.int .i64 0), (.int .i64 0), (.bool false), (.int .i64 0), (.int .i64 0), (.int .i64 0)] [(0, 1, (.c (.int .i64 2))), (1, 1, (.c (.str [45]))), (2, 1, (.c (.int .i64 1))), (3, 1, (.t 5))], .none⟩,
          ⟨.tmp, .lit 0 47 1 8 true [(.int .i64 0), (.str []), (.int .i64 0), (.int .i64 0), (.bool false), (.int .i64 0), (.int .i64 0), (.int .i64 0)] [(0, (.t 6))], .none⟩,
          ⟨.tmp, .append false 47 72 8 true (.t 0) (.t 7), .none⟩,
          ⟨(.var 2), .mov (.t 8), .none⟩])
        .skip))
       (.seq (.ops [⟨.tmp, .mov (.v 0), .none⟩,
         ⟨.tmp, .mov (.v 3), .none⟩,
         ⟨.tmp, .bin .mul .arith (.c (.int .i64 3)) (.t 1), .none⟩,
         ⟨.tmp, .bin .add .arith (.c (.int .i64 2)) (.t 2), .none⟩,
         ⟨.tmp, .mov (.v 6), .none⟩,
         ⟨.tmp, .bin .add .arith (.t 3) (.t 4), .none⟩,
         ⟨.tmp, .pcall 30 [(.t 0), (.t 5), (.c (.int .i64 5))], .none⟩,
         ⟨.tmp, .bin .add .arith (.c (.int .i64 1)) (.t 6), .none⟩,
         ⟨(.var 7), .mov (.t 7), .none⟩])
       (.ops [⟨.tmp, .mov (.v 2), .none⟩,
         ⟨.tmp, .mov (.v 6), .none⟩,
         ⟨.tmp, .mov (.v 6), .none⟩,
         ⟨.tmp, .mov (.v 7), .none⟩,
         ⟨.tmp, .bin .add .arith (.t 2) (.t 3), .none⟩,
         ⟨.tmp, .sslice (.c (.str [97, 98, 99, 100, 101, 102, 103, 104])) (some (.t 1)) (some (.t 4)), .none⟩,
         ⟨.tmp, .mov (.v 7), .none⟩,
         ⟨.tmp, .build [(.int .i64 0), (.str []), (.int .i64 0), (.int .i64 0), (.bool false), (.int .i64 0), (.int .i64 0), (.int .i64 0)] [(0, 1, (.c (.int .i64 0))), (1, 1, (.t 5)), (2, 1, (.t 6))], .none⟩,
         ⟨.tmp, .lit 0 47 1 8 true [(.int .i64 0), (.str []), (.int .i64 0), (.int .i64 0), (.bool false), (.int .i64 0), (.int .i64 0), (.int .i64 0)] [(0, (.t 7))], .none⟩,
         ⟨.tmp, .append false 47 72 8 true (.t 0) (.t 8), .none⟩,
         ⟨(.var 2), .mov (.t 9), .none⟩]))))
      (.ops [⟨.tmp, .mov (.v 6), .none⟩,
        ⟨.tmp, .bin .add .arith (.t 0) (.c (.int .i64 1)), .none⟩,
        ⟨(.var 6), .mov (.t 1), .none⟩]))))))))))
   (.ops [⟨.tmp, .mov (.v 3), .none⟩,
     ⟨.tmp, .bin .add .arith (.t 0) (.c (.int .i64 1)), .none⟩,
     ⟨(.var 3), .mov (.t 1), .none⟩]))))))
 (.seq (.ops [⟨.tmp, .mov (.v 2), .none⟩,
   ⟨.tmp, .build [(.int .i64 0), (.str []), (.int .i64 0), (.int .i64 0), (.bool false), (.int .i64 0), (.int .i64 0), (.int .i64 0)] [(0, 1, (.c (.int .i64 3)))], .none⟩,
   ⟨.tmp, .lit 0 47 1 8 true [(.int .i64 0), (.str []), (.int .i64 0), (.int .i64 0), (.bool false), (.int .i64 0), (.int .i64 0), (.int .i64 0)] [(0, (.t 1))], .none⟩,
   ⟨.tmp, .append false 47 72 8 true (.t 0) (.t 2), .none⟩,
   ⟨(.var 1), .mov (.t 3), .none⟩])
 .ret)))),
 [1]⟩
def c11 : AFunc := ⟨[0, 1, 2, 3, 8, 9, 10, 19, 24, 33, 45, 57, 62, 68, 75, 80],
 (.seq (.ops [⟨(.var 4), .mov (.c (.sl [] .nil)), .none⟩])
 (.seq (.ops [⟨(.var 5), .mov (.c (.sl [] .nil)), .none⟩])
 (.seq (.ops [⟨.tmp, .mov (.v 5), .none⟩,
   ⟨.tmp, .mov (.v 0), .none⟩,
   ⟨.tmp, .append true 47 72 8 true (.t 0) (.t 1), .none⟩,
   ⟨(.var 5), .mov (.t 2), .none⟩])
 (.seq (.ops [⟨.tmp, .mov (.v 1), .none⟩,
   ⟨.tmp, .mov (.v 5), .none⟩,
   ⟨.tmp, .len (.t 1), .none⟩,
   ⟨.tmp, .pcall 12 [(.t 0), (.t 2)], .none⟩,
   ⟨(.var 6), .mov (.t 3), .none⟩])
 (.seq (.seq (.ops [⟨.tmp, .mov (.v 2), .none⟩,
   ⟨(.var 7), .pcall 12 [(.t 0), (.c (.int .i64 8))], .none⟩])
 (.block 0 (.seq (.ops [⟨.tmp, .bin .eql .arith (.v 7) (.c (.int .i64 0)), .none⟩,
    ⟨(.var 8), .mov (.t 0), .none⟩])
  (.cond (.v 8)
   (.ops [⟨.tmp, .mov (.v 5), .none⟩,
     ⟨.tmp, .mov (.v 6), .none⟩,
     ⟨.tmp, .mov (.v 3), .none⟩,
     ⟨.tmp, .pcall 12 [(.t 2), (.c (.int .i64 6))], .none⟩,
     ⟨.tmp, .bin .sub .arith (.t 3) (.c (.int .i64 1)), .none⟩,
     ⟨.tmp, .iaddr 8 (.t 0) (.t 1), .none⟩,
     ⟨.tmp, .faddr 0 (.t 5), .none⟩,
     ⟨.no, .store 1 (.t 6) (.t 4), .none⟩])
   (.seq (.ops [⟨.tmp, .bin .eql .arith (.v 7) (.c (.int .i64 1)), .none⟩,
     ⟨(.var 9), .mov (.t 0), .none⟩])
   (.cond (.v 9)
    (.ops [⟨.tmp, .mov (.v 5), .none⟩,
      ⟨.tmp, .mov (.v 6), .none⟩,
      ⟨.tmp, .mov (.v 3), .none⟩,
      ⟨.tmp, .lit 2 3 6 1 false [(.int .i64 0)] [(0, (.c (.int .i64 (-1)))), (1, (.c (.int .i64 0))), (2, (.c (.int .i64 1))), (3, (.c (.int .i64 65536))), (4, (.c (.int .i64 65537))), (5, (.t 2))], .none⟩,
      ⟨.tmp, .mov (.v 3), .none⟩,
      ⟨.tmp, .pcall 12 [(.t 4), (.c (.int .i64 6))], .none⟩,
      ⟨.tmp, .iaddr 1 (.t 3) (.t 5), .none⟩,
      ⟨.tmp, .load 1 false (.t 6), .none⟩,
      ⟨.tmp, .iaddr 8 (.t 0) (.t 1), .none⟩,
      ⟨.tmp, .faddr 2 (.t 8), .none⟩,
      ⟨.no, .store 1 (.t 9) (.t 7), .none⟩])
    (.seq (.ops [⟨.tmp, .bin .eql .arith (.v 7) (.c (.int .i64 2)), .none⟩,
      ⟨(.var 10), .mov (.t 0), .none⟩])
    (.cond (.v 10)
     (.ops [⟨.tmp, .mov (.v 5), .none⟩,
       ⟨.tmp, .mov (.v 6), .none⟩,
       ⟨.tmp, .mov (.v 3), .none⟩,
       ⟨.tmp, .lit 2 3 6 1 false [(.int .i64 0)] [(0, (.c (.int .i64 (-1)))), (1, (.c (.int .i64 0))), (2, (.c (.int .i64 1))), (3, (.c (.int .i64 1048576))), (4, (.c (.int .i64 1048577))), (5, (.t 2))], .none⟩,
       ⟨.tmp, .mov (.v 3), .none⟩,
       ⟨.tmp, .pcall 12 [(.t 4), (.c (.int .i64 6))], .none⟩,
       ⟨.tmp, .iaddr 1 (.t 3) (.t 5), .none⟩,
       ⟨.tmp, .load 1 false (.t 6), .none⟩,
       ⟨.tmp, .iaddr 8 (.t 0) (.t 1), .none⟩,
       ⟨.tmp, .faddr 3 (.t 8), .none⟩,
       ⟨.no, .store 1 (.t 9) (.t 7), .none⟩])
     (.seq (.ops [⟨.tmp, .bin .eql .arith (.v 7) (.c (.int .i64 3)), .none⟩,
       ⟨(.var 11), .mov (.t 0), .none⟩])
     (.cond (.v 11)
      (.ops [⟨.tmp, .mov (.v 5), .none⟩,
        ⟨.tmp, .mov (.v 6), .none⟩,
        ⟨.tmp, .slice 8 (.t 0) .none (some (.t 1)), .none⟩,
        ⟨(.var 5), .mov (.t 2), .none⟩])
      (.seq (.ops [⟨.tmp, .bin .eql .arith (.v 7) (.c (.int .i64 4)), .none⟩,
        ⟨(.var 12), .mov (.t 0), .none⟩])
      (.cond (.v 12)
       (.ops [⟨.tmp, .mov (.v 5), .none⟩,
         ⟨.tmp, .mov (.v 6), .none⟩,
         ⟨.tmp, .iaddr 8 (.t 0) (.t 1), .none⟩,
         ⟨.tmp, .faddr 0 (.t 2), .none⟩,
         ⟨.no, .store 1 (.t 3) (.c (.int .i64 3)), .none⟩])
       (.seq (.ops [⟨.tmp, .bin .eql .arith (.v 7) (.c (.int .i64 5)), .none⟩,
         ⟨(.var 13), .mov (.t 0), .none⟩])
       (.cond (.v 13)
        (.block 1 (.loop (.seq (.seq (.ops [⟨.tmp, .mov (.v 5), .none⟩,
            ⟨.tmp, .len (.t 0), .none⟩,
            ⟨.tmp, .mov (.v 3), .none⟩,
            ⟨.tmp, .pcall 12 [(.t 2), (.c (.int .i64 4))], .none⟩,
            ⟨.tmp, .bin .add .arith (.c (.int .i64 510)) (.t 3), .none⟩,
            ⟨(.var 14), .bin .lss .arith (.t 1) (.t 4), .none⟩])
          (.cond (.v 14)
           .skip
           (.exit 1)))
          (.block 2 (.ops [⟨.tmp, .mov (.v 5), .none⟩,
             ⟨.tmp, .build [(.int .i64 0), (.str []), (.int .i64 0), (.int .i64 0), (.bool false), (.int .i64 0), (.int .i64 0), (.int .i64 0)] [(0, 1, (.c (.int .i64 3)))], .none⟩,
             ⟨.tmp, .lit 2 47 1 8 true [(.int .i64 0), (.str []), (.int .i64 0), (.int .i64 0), (.bool false), (.int .i64 0), (.int .i64 0), (.int .i64 0)] [(0, (.t 1))], .none⟩,
             ⟨.tmp, .append true 47 72 8 true (.t 0) (.t 2), .none⟩,
             ⟨(.var 5), .mov (.t 3), .none⟩])))))
        (.seq (.ops [⟨.tmp, .bin .eql .arith (.v 7) (.c (.int .i64 6)), .none⟩,
          ⟨(.var 15), .mov (.t 0), .none⟩])
        (.cond (.v 15)
         (.ops [⟨.tmp, .mov (.v 5), .none⟩,
           ⟨.tmp, .mov (.v 5), .none⟩,
           ⟨.tmp, .len (.t 1), .none⟩,
           ⟨.tmp, .bin .sub .arith (.t 2) (.c (.int .i64 1)), .none⟩,
           ⟨.tmp, .iaddr 8 (.t 0) (.t 3), .none⟩,
           ⟨.tmp, .faddr 0 (.t 4), .none⟩,
           ⟨.no, .store 1 (.t 5) (.c (.int .i64 1)), .none⟩])
         (.ops [⟨.tmp, .mov (.v 5), .none⟩,
           ⟨.tmp, .mov (.v 6), .none⟩,
           ⟨.tmp, .iaddr 8 (.t 0) (.t 1), .none⟩,
           ⟨.tmp, .faddr 1 (.t 2), .none⟩,
           ⟨.no, .store 1 (.t 3) (.c (.str [120, 121, 122])), .none⟩])))))))))))))))))
 (.seq (.ops [⟨.tmp, .mov (.v 5), .none⟩,
   ⟨(.var 4), .mov (.t 0), .none⟩])
 .ret)))))),
 [4]⟩
def c12 : AFunc := ⟨[0, 1, 4, 6],
 (.seq (.ops [⟨(.var 2), .mov (.c (.int .i64 0)), .none⟩])
 (.seq (.seq (.ops [⟨.tmp, .mov (.v 0), .none⟩,
   ⟨(.var 3), .bin .lss .arith (.t 0) (.c (.int .i64 0)), .none⟩])
 (.cond (.v 3)
  (.ops [⟨.tmp, .mov (.v 0), .none⟩,
    ⟨.tmp, .bin .add .arith (.t 0) (.c (.int .i64 1)), .none⟩,
    ⟨.tmp, .un .neg (.t 1), .none⟩,
    ⟨(.var 0), .mov (.t 2), .none⟩])
  .skip))
 (.seq (.ops [⟨.tmp, .mov (.v 0), .none⟩,
   ⟨.tmp, .mov (.v 1), .none⟩,
   ⟨.tmp, .bin .rem .arith (.t 0) (.t 1), .none⟩,
   ⟨(.var 2), .mov (.t 2), .none⟩])
 .ret))),
 [2]⟩
def c13 : AFunc := ⟨[0, 1, 2, 4, 5, 6, 7, 8, 9, 10, 11, 12, 13, 17, 30, 36, 42, 50, 58],
 (.seq (.ops [⟨(.var 2), .box 1 false (.v 0), .none⟩,
   ⟨(.var 3), .mov (.c (.sl [] .nil)), .none⟩,
   ⟨(.var 4), .mov (.c (.int .i64 0)), .none⟩,
   ⟨(.var 5), .mov (.c (.int .i64 0)), .none⟩])
 (.seq (.seq (.ops [⟨.tmp, .load 1 false (.v 2), .none⟩,
   ⟨.tmp, .mov (.v 1), .none⟩,
   ⟨.tmp, .pcall 33 [(.t 0), (.t 1)], .none⟩,
   ⟨(.var 13), .un .not (.t 2), .none⟩])
 (.cond (.v 13)
  (.seq (.ops [⟨(.var 3), .mov (.c (.sl [] .nil)), .none⟩,
    ⟨(.var 4), .mov (.c (.int .i64 0)), .none⟩,
    ⟨(.var 5), .mov (.c (.int .i64 1)), .none⟩])
  .ret)
  .skip))
 (.seq (.ops [⟨.tmp, .load 1 false (.v 2), .none⟩,
   ⟨.tmp, .len (.t 0), .none⟩,
   ⟨(.var 6), .mov (.t 1), .none⟩])
 (.seq (.ops [⟨.tmp, .mov (.v 6), .none⟩,
   ⟨.tmp, .bin .add .arith (.t 0) (.c (.int .i64 1)), .none⟩,
   ⟨.tmp, .mksl 48 6 true [(.bool false), (.int .i64 0), (.int .i64 0), (.int .i64 0), (.int .i64 0), (.int .i64 0)] (.t 1) (.t 1), .none⟩,
   ⟨(.var 7), .alloc 58 1 false [(.sl [] .nil)], .none⟩,
   ⟨.no, .store 1 (.v 7) (.t 2), .none⟩])
 (.seq (.ops [⟨.tmp, .load 1 false (.v 7), .none⟩,
   ⟨.tmp, .mov (.v 6), .none⟩,
   ⟨.tmp, .build [(.bool false), (.int .i64 0), (.int .i64 0), (.int .i64 0), (.int .i64 0), (.int .i64 0)] [(0, 1, (.c (.bool true)))], .none⟩,
   ⟨.tmp, .iaddr 6 (.t 0) (.t 1), .none⟩,
   ⟨.no, .store 6 (.t 3) (.t 2), .none⟩])
 (.seq (.seq (.ops [⟨.tmp, .mov (.v 6), .none⟩,
   ⟨.tmp, .bin .sub .arith (.t 0) (.c (.int .i64 1)), .none⟩,
   ⟨(.var 8), .alloc 3 1 false [(.int .i64 0)], .none⟩,
   ⟨.no, .store 1 (.v 8) (.t 1), .none⟩])
 (.block 0 (.loop (.seq (.seq (.ops [⟨.tmp, .load 1 false (.v 8), .none⟩,
     ⟨(.var 14), .bin .geq .arith (.t 0) (.c (.int .i64 0)), .none⟩])
   (.cond (.v 14)
    .skip
    (.exit 0)))
   (.seq (.block 1 (.seq (.seq (.ops [⟨.tmp, .load 1 false (.v 2), .none⟩,
      ⟨.tmp, .load 1 false (.v 8), .none⟩,
      ⟨.tmp, .pcall 34 [(.t 0), (.t 1)], .none⟩,
      ⟨(.var 15), .un .not (.t 2), .none⟩])
    (.cond (.v 15)
     (.exit 1)
     .skip))
    (.ops [⟨.tmp, .load 1 false (.v 2), .none⟩,
      ⟨.tmp, .load 1 false (.v 8), .none⟩,
      ⟨.tmp, .mov (.v 1), .none⟩,
      ⟨.tmp, .clo 36 [(.v 7), (.v 2), (.v 8)], .none⟩,
      ⟨.tmp, .call (.c (.fn 35 [])) [(.t 0), (.t 1), (.t 2), (.t 3)], .none⟩])))
   (.seq (.seq (.ops [⟨(.var 16), .load 1 false (.v 8), .none⟩])
   (.ops [⟨(.var 8), .alloc 3 1 false [(.int .i64 0)], .none⟩,
     ⟨.no, .store 1 (.v 8) (.v 16), .none⟩]))
   (.ops [⟨.tmp, .load 1 false (.v 8), .none⟩,
     ⟨.tmp, .bin .sub .arith (.t 0) (.c (.int .i64 1)), .none⟩,
     ⟨.no, .store 1 (.v 8) (.t 1), .none⟩])))))))
 (.seq (.ops [⟨.tmp, .load 1 false (.v 2), .none⟩,
   ⟨.tmp, .pcall 37 [(.t 0), (.c (.int .i64 (-1)))], .none⟩,
   ⟨(.var 9), .mov (.t 1), .none⟩])
 (.seq (.seq (.ops [⟨.tmp, .load 1 false (.v 7), .none⟩,
   ⟨.tmp, .mov (.v 9), .none⟩,
   ⟨.tmp, .iaddr 6 (.t 0) (.t 1), .none⟩,
   ⟨.tmp, .faddr 0 (.t 2), .none⟩,
   ⟨.tmp, .load 1 false (.t 3), .none⟩,
   ⟨(.var 17), .un .not (.t 4), .none⟩])
 (.cond (.v 17)
  (.seq (.ops [⟨(.var 3), .mov (.c (.sl [] .nil)), .none⟩,
    ⟨(.var 4), .mov (.c (.int .i64 0)), .none⟩,
    ⟨(.var 5), .mov (.c (.int .i64 18)), .none⟩])
  .ret)
  .skip))
 (.seq (.ops [⟨.tmp, .load 1 false (.v 7), .none⟩,
   ⟨.tmp, .mov (.v 9), .none⟩,
   ⟨.tmp, .iaddr 6 (.t 0) (.t 1), .none⟩,
   ⟨.tmp, .faddr 1 (.t 2), .none⟩,
   ⟨.tmp, .load 1 false (.t 3), .none⟩,
   ⟨(.var 10), .mov (.t 4), .none⟩])
 (.seq (.ops [⟨(.var 11), .mov (.c (.sl [] .nil)), .none⟩])
 (.seq (.block 2 (.loop (.seq (.seq (.ops [⟨.tmp, .mov (.v 9), .none⟩,
     ⟨.tmp, .mov (.v 6), .none⟩,
     ⟨(.var 18), .bin .lss .arith (.t 0) (.t 1), .none⟩])
   (.cond (.v 18)
    .skip
    (.exit 2)))
   (.block 3 (.seq (.ops [⟨.tmp, .load 1 false (.v 7), .none⟩,
      ⟨.tmp, .mov (.v 9), .none⟩,
      ⟨.tmp, .iaddr 6 (.t 0) (.t 1), .none⟩,
      ⟨.tmp, .faddr 3 (.t 2), .none⟩,
      ⟨.tmp, .load 3 true (.t 3), .none⟩,
      ⟨(.var 12), .alloc 41 3 true [(.int .i64 0), (.int .i64 0), (.int .i64 0)], .none⟩,
      ⟨.no, .store 3 (.v 12) (.t 4), .none⟩])
    (.seq (.ops [⟨.tmp, .mov (.v 11), .none⟩,
      ⟨.tmp, .load 3 true (.v 12), .none⟩,
      ⟨.tmp, .lit 0 41 1 3 true [(.int .i64 0), (.int .i64 0), (.int .i64 0)] [(0, (.t 1))], .none⟩,
      ⟨.tmp, .append false 41 24 3 true (.t 0) (.t 2), .none⟩,
      ⟨(.var 11), .mov (.t 3), .none⟩])
    (.ops [⟨.tmp, .load 1 false (.v 2), .none⟩,
      ⟨.tmp, .faddr 1 (.v 12), .none⟩,
      ⟨.tmp, .load 1 false (.t 1), .none⟩,
      ⟨.tmp, .bin .sub .arith (.t 2) (.c (.int .i64 1)), .none⟩,
      ⟨.tmp, .pcall 37 [(.t 0), (.t 3)], .none⟩,
      ⟨(.var 9), .mov (.t 4), .none⟩])))))))
 (.seq (.ops [⟨.tmp, .mov (.v 11), .none⟩,
   ⟨.tmp, .mov (.v 10), .none⟩,
   ⟨(.var 3), .mov (.t 0), .none⟩,
   ⟨(.var 4), .mov (.t 1), .none⟩,
   ⟨(.var 5), .mov (.c (.int .i64 0)), .none⟩])
 .ret)))))))))))),
 [3, 4, 5]⟩
def c14 : AFunc := ⟨[0, 1, 4, 5, 6, 7, 11, 22],
 (.seq (.ops [⟨(.var 2), .mov (.c (.sl [] .nil)), .none⟩,
   ⟨(.var 3), .mov (.c (.int .i64 0)), .none⟩,
   ⟨(.var 4), .mov (.c (.int .i64 0)), .none⟩])
 (.seq (.seq (.ops [⟨.tmp, .mov (.v 0), .none⟩,
   ⟨.tmp, .mov (.v 1), .none⟩,
   ⟨.tmp, .pcall 38 [(.t 0), (.t 1)], .none⟩,
   ⟨(.var 6), .un .not (.t 2), .none⟩])
 (.cond (.v 6)
  (.seq (.ops [⟨(.var 2), .mov (.c (.sl [] .nil)), .none⟩,
    ⟨(.var 3), .mov (.c (.int .i64 0)), .none⟩,
    ⟨(.var 4), .mov (.c (.int .i64 1)), .none⟩])
  .ret)
  .skip))
 (.seq (.ops [⟨.tmp, .mov (.v 0), .none⟩,
   ⟨.tmp, .mov (.v 1), .none⟩,
   ⟨.tmp, .pcall 39 [(.t 0), (.t 1)], .none⟩,
   ⟨.tmp, .mov (.v 0), .none⟩,
   ⟨.tmp, .len (.t 3), .none⟩,
   ⟨.tmp, .bin .sub .arith (.t 4) (.c (.int .i64 1)), .none⟩,
   ⟨.tmp, .iaddr 3 (.t 2) (.t 5), .none⟩,
   ⟨.tmp, .load 3 true (.t 6), .none⟩,
   ⟨(.var 5), .alloc 64 3 true [(.sl [] .nil), (.int .i64 0), (.bool false)], .none⟩,
   ⟨.no, .store 3 (.v 5) (.t 7), .none⟩])
 (.seq (.seq (.ops [⟨.tmp, .faddr 2 (.v 5), .none⟩,
   ⟨.tmp, .load 1 false (.t 0), .none⟩,
   ⟨(.var 7), .un .not (.t 1), .none⟩])
 (.cond (.v 7)
  (.seq (.ops [⟨(.var 2), .mov (.c (.sl [] .nil)), .none⟩,
    ⟨(.var 3), .mov (.c (.int .i64 0)), .none⟩,
    ⟨(.var 4), .mov (.c (.int .i64 18)), .none⟩])
  .ret)
  .skip))
 (.seq (.ops [⟨.tmp, .faddr 0 (.v 5), .none⟩,
   ⟨.tmp, .load 1 false (.t 0), .none⟩,
   ⟨.tmp, .faddr 1 (.v 5), .none⟩,
   ⟨.tmp, .load 1 false (.t 2), .none⟩,
   ⟨(.var 2), .mov (.t 1), .none⟩,
   ⟨(.var 3), .mov (.t 3), .none⟩,
   ⟨(.var 4), .mov (.c (.int .i64 0)), .none⟩])
 .ret))))),
 [2, 3, 4]⟩
def c15 : AFunc := ⟨[0, 1, 4, 5, 10, 14, 25],
 (.seq (.ops [⟨(.var 2), .mov (.c (.bool false)), .none⟩])
 (.seq (.seq (.ops [⟨.tmp, .mov (.v 0), .none⟩,
   ⟨.tmp, .len (.t 0), .none⟩,
   ⟨.tmp, .mov (.v 1), .none⟩,
   ⟨.tmp, .len (.t 2), .none⟩,
   ⟨(.var 4), .bin .neq .arith (.t 1) (.t 3), .none⟩])
 (.cond (.v 4)
  (.seq (.ops [⟨(.var 2), .mov (.c (.bool false)), .none⟩])
  .ret)
  .skip))
 (.seq (.seq (.ops [⟨(.var 3), .mov (.c (.int .i64 0)), .none⟩])
 (.block 0 (.loop (.seq (.seq (.ops [⟨.tmp, .mov (.v 3), .none⟩,
     ⟨.tmp, .mov (.v 0), .none⟩,
     ⟨.tmp, .len (.t 1), .none⟩,
     ⟨(.var 5), .bin .lss .arith (.t 0) (.t 2), .none⟩])
   (.cond (.v 5)
    .skip
    (.exit 0)))
   (.seq (.block 1 (.seq (.ops [⟨.tmp, .mov (.v 0), .none⟩,
      ⟨.tmp, .mov (.v 3), .none⟩,
      ⟨.tmp, .iaddr 3 (.t 0) (.t 1), .none⟩,
      ⟨.tmp, .load 3 true (.t 2), .none⟩,
      ⟨.tmp, .mov (.v 1), .none⟩,
      ⟨.tmp, .mov (.v 3), .none⟩,
      ⟨.tmp, .iaddr 3 (.t 4) (.t 5), .none⟩,
      ⟨.tmp, .load 3 true (.t 6), .none⟩,
      ⟨(.var 6), .bin .neq (.struct [.int, .int, .int]) (.t 3) (.t 7), .none⟩])
    (.cond (.v 6)
     (.seq (.ops [⟨(.var 2), .mov (.c (.bool false)), .none⟩])
     .ret)
     .skip)))
   (.ops [⟨.tmp, .mov (.v 3), .none⟩,
     ⟨.tmp, .bin .add .arith (.t 0) (.c (.int .i64 1)), .none⟩,
     ⟨(.var 3), .mov (.t 1), .none⟩]))))))
 (.seq (.ops [⟨(.var 2), .mov (.c (.bool true)), .none⟩])
 .ret)))),
 [2]⟩
def c16 : AFunc := ⟨[0, 1, 4, 5, 10, 14, 25],
 (.seq (.ops [⟨(.var 2), .mov (.c (.bool false)), .none⟩])
 (.seq (.seq (.ops [⟨.tmp, .mov (.v 0), .none⟩,
   ⟨.tmp, .len (.t 0), .none⟩,
   ⟨.tmp, .mov (.v 1), .none⟩,
   ⟨.tmp, .len (.t 2), .none⟩,
   ⟨(.var 4), .bin .neq .arith (.t 1) (.t 3), .none⟩])
 (.cond (.v 4)
  (.seq (.ops [⟨(.var 2), .mov (.c (.bool false)), .none⟩])
  .ret)
  .skip))
 (.seq (.seq (.ops [⟨(.var 3), .mov (.c (.int .i64 0)), .none⟩])
 (.block 0 (.loop (.seq (.seq (.ops [⟨.tmp, .mov (.v 3), .none⟩,
     ⟨.tmp, .mov (.v 0), .none⟩,
     ⟨.tmp, .len (.t 1), .none⟩,
     ⟨(.var 5), .bin .lss .arith (.t 0) (.t 2), .none⟩])
   (.cond (.v 5)
    .skip
    (.exit 0)))
   (.seq (.block 1 (.seq (.ops [⟨.tmp, .mov (.v 0), .none⟩,
      ⟨.tmp, .mov (.v 3), .none⟩,
      ⟨.tmp, .iaddr 1 (.t 0) (.t 1), .none⟩,
      ⟨.tmp, .load 1 false (.t 2), .none⟩,
      ⟨.tmp, .mov (.v 1), .none⟩,
      ⟨.tmp, .mov (.v 3), .none⟩,
      ⟨.tmp, .iaddr 1 (.t 4) (.t 5), .none⟩,
      ⟨.tmp, .load 1 false (.t 6), .none⟩,
      ⟨(.var 6), .bin .neq .arith (.t 3) (.t 7), .none⟩])
    (.cond (.v 6)
     (.seq (.ops [⟨(.var 2), .mov (.c (.bool false)), .none⟩])
     .ret)
     .skip)))
   (.ops [⟨.tmp, .mov (.v 3), .none⟩,
     ⟨.tmp, .bin .add .arith (.t 0) (.c (.int .i64 1)), .none⟩,
     ⟨(.var 3), .mov (.t 1), .none⟩]))))))
 (.seq (.ops [⟨(.var 2), .mov (.c (.bool true)), .none⟩])
 .ret)))),
 [2]⟩
def c17 : AFunc := ⟨[0, 1, 4, 5, 9],
 (.seq (.ops [⟨(.var 2), .mov (.c (.sl [] .nil)), .none⟩])
 (.seq (.seq (.ops [⟨.tmp, .mov (.v 0), .none⟩,
   ⟨.tmp, .mov (.v 1), .none⟩,
   ⟨.tmp, .pcall 33 [(.t 0), (.t 1)], .none⟩,
   ⟨(.var 4), .un .not (.t 2), .none⟩])
 (.cond (.v 4)
  (.seq (.ops [⟨(.var 2), .mov (.c (.sl [] .nil)), .none⟩])
  .ret)
  .skip))
 (.seq (.ops [⟨.tmp, .lit 0 3 1 1 false [(.int .i64 0)] [(0, (.c (.int .i64 (-1))))], .none⟩,
   ⟨.tmp, .mov (.v 0), .none⟩,
   ⟨.tmp, .len (.t 1), .none⟩,
   ⟨.tmp, .call (.c (.fn 40 [])) [(.t 0), (.t 2)], .none⟩,
   ⟨(.var 3), .alloc 22 1 false [(.sl [] .nil)], .none⟩,
   ⟨.no, .store 1 (.v 3) (.t 3), .none⟩])
 (.seq (.ops [⟨.tmp, .mov (.v 0), .none⟩,
   ⟨.tmp, .mov (.v 1), .none⟩,
   ⟨.tmp, .clo 42 [(.v 3)], .none⟩,
   ⟨.tmp, .clo 43 [(.v 3)], .none⟩,
   ⟨.tmp, .call (.c (.fn 41 [])) [(.t 0), (.t 1), (.t 2), (.t 3)], .none⟩])
 (.seq (.ops [⟨.tmp, .load 1 false (.v 3), .none⟩,
   ⟨(.var 2), .mov (.t 0), .none⟩])
 .ret))))),
 [2]⟩
def c18 : AFunc := ⟨[0, 1, 4, 5, 6, 7, 11, 19, 26],
 (.seq (.ops [⟨(.var 2), .mov (.c (.sl [] .nil)), .none⟩])
 (.seq (.ops [⟨(.var 3), .mov (.c (.sl [] .nil)), .none⟩])
 (.seq (.seq (.ops [⟨.tmp, .mov (.v 0), .none⟩,
   ⟨.tmp, .mov (.v 1), .none⟩,
   ⟨.tmp, .pcall 38 [(.t 0), (.t 1)], .none⟩,
   ⟨(.var 6), .un .not (.t 2), .none⟩])
 (.cond (.v 6)
  (.seq (.ops [⟨.tmp, .mov (.v 3), .none⟩,
    ⟨(.var 2), .mov (.t 0), .none⟩])
  .ret)
  .skip))
 (.seq (.ops [⟨.tmp, .mov (.v 0), .none⟩,
   ⟨.tmp, .mov (.v 1), .none⟩,
   ⟨.tmp, .pcall 39 [(.t 0), (.t 1)], .none⟩,
   ⟨(.var 4), .mov (.t 2), .none⟩])
 (.seq (.seq (.ops [⟨(.var 5), .mov (.c (.int .i64 0)), .none⟩])
 (.block 0 (.loop (.seq (.seq (.ops [⟨.tmp, .mov (.v 5), .none⟩,
     ⟨.tmp, .mov (.v 0), .none⟩,
     ⟨.tmp, .len (.t 1), .none⟩,
     ⟨(.var 7), .bin .lss .arith (.t 0) (.t 2), .none⟩])
   (.cond (.v 7)
    .skip
    (.exit 0)))
   (.seq (.block 1 (.seq (.ops [⟨.tmp, .mov (.v 4), .none⟩,
      ⟨.tmp, .mov (.v 5), .none⟩,
      ⟨.tmp, .iaddr 3 (.t 0) (.t 1), .none⟩,
      ⟨.tmp, .faddr 2 (.t 2), .none⟩,
      ⟨(.var 8), .load 1 false (.t 3), .none⟩])
    (.cond (.v 8)
     (.ops [⟨.tmp, .mov (.v 3), .none⟩,
       ⟨.tmp, .mov (.v 4), .none⟩,
       ⟨.tmp, .mov (.v 5), .none⟩,
       ⟨.tmp, .iaddr 3 (.t 1) (.t 2), .none⟩,
       ⟨.tmp, .faddr 1 (.t 3), .none⟩,
       ⟨.tmp, .load 1 false (.t 4), .none⟩,
       ⟨.tmp, .lit 0 3 1 1 false [(.int .i64 0)] [(0, (.t 5))], .none⟩,
       ⟨.tmp, .append false 3 8 1 false (.t 0) (.t 6), .none⟩,
       ⟨(.var 3), .mov (.t 7), .none⟩])
     (.ops [⟨.tmp, .mov (.v 3), .none⟩,
       ⟨.tmp, .lit 0 3 1 1 false [(.int .i64 0)] [(0, (.c (.int .i64 (-1))))], .none⟩,
       ⟨.tmp, .append false 3 8 1 false (.t 0) (.t 1), .none⟩,
       ⟨(.var 3), .mov (.t 2), .none⟩]))))
   (.ops [⟨.tmp, .mov (.v 5), .none⟩,
     ⟨.tmp, .bin .add .arith (.t 0) (.c (.int .i64 1)), .none⟩,
     ⟨(.var 5), .mov (.t 1), .none⟩]))))))
 (.seq (.ops [⟨.tmp, .mov (.v 3), .none⟩,
   ⟨(.var 2), .mov (.t 0), .none⟩])
 .ret)))))),
 [2]⟩
def c19 : AFunc := ⟨[0, 1, 2, 3, 4, 5, 6, 7, 8, 11],
 (.seq (.ops [⟨(.var 0), .mov (.c (.bool false)), .none⟩])
 (.seq (.ops [⟨.tmp, .build [(.int .i64 0), (.str []), (.int .i64 0), (.int .i64 0), (.bool false), (.int .i64 0), (.int .i64 0), (.int .i64 0)] [(0, 1, (.c (.int .i64 1))), (2, 1, (.c (.int .i64 1)))], .none⟩,
   ⟨(.var 1), .alloc 47 8 true [(.int .i64 0), (.str []), (.int .i64 0), (.int .i64 0), (.bool false), (.int .i64 0), (.int .i64 0), (.int .i64 0)], .none⟩,
   ⟨.no, .store 8 (.v 1) (.t 0), .none⟩])
 (.seq (.ops [⟨.tmp, .build [(.int .i64 0), (.str []), (.int .i64 0), (.int .i64 0), (.bool false), (.int .i64 0), (.int .i64 0), (.int .i64 0)] [(1, 1, (.c (.str [97, 97]))), (2, 1, (.c (.int .i64 2)))], .none⟩,
   ⟨.tmp, .load 8 true (.v 1), .none⟩,
   ⟨.tmp, .build [(.int .i64 0), (.str []), (.int .i64 0), (.int .i64 0), (.bool false), (.int .i64 0), (.int .i64 0), (.int .i64 0)] [(1, 1, (.c (.str [98]))), (2, 1, (.c (.int .i64 1)))], .none⟩,
   ⟨.tmp, .load 8 true (.v 1), .none⟩,
   ⟨.tmp, .build [(.int .i64 0), (.str []), (.int .i64 0), (.int .i64 0), (.bool false), (.int .i64 0), (.int .i64 0), (.int .i64 0)] [(1, 1, (.c (.str [99, 99]))), (2, 1, (.c (.int .i64 2)))], .none⟩,
   ⟨.tmp, .build [(.int .i64 0), (.str []), (.int .i64 0), (.int .i64 0), (.bool false), (.int .i64 0), (.int .i64 0), (.int .i64 0)] [(0, 1, (.c (.int .i64 3)))], .none⟩,
   ⟨.tmp, .lit 0 47 6 8 true [(.int .i64 0), (.str []), (.int .i64 0), (.int .i64 0), (.bool false), (.int .i64 0), (.int .i64 0), (.int .i64 0)] [(0, (.t 0)), (1, (.t 1)), (2, (.t 2)), (3, (.t 3)), (4, (.t 4)), (5, (.t 5))], .none⟩,
   ⟨(.var 2), .mov (.t 6), .none⟩])
 (.seq (.ops [⟨.tmp, .mov (.v 2), .none⟩,
   ⟨.tmp, .pcall 13 [(.t 0), (.c (.int .i64 4))], .none⟩,
   ⟨.tmp, .mov (.t 1), .none⟩,
   ⟨.tmp, .ext (.t 2) 0, .none⟩,
   ⟨.tmp, .ext (.t 2) 1, .none⟩,
   ⟨.tmp, .ext (.t 2) 2, .none⟩,
   ⟨(.var 3), .mov (.t 3), .none⟩,
   ⟨(.var 4), .mov (.t 4), .none⟩,
   ⟨(.var 5), .mov (.t 5), .none⟩])
 (.seq (.ops [⟨.tmp, .mov (.v 2), .none⟩,
   ⟨.tmp, .pcall 13 [(.t 0), (.c (.int .i64 3))], .none⟩,
   ⟨.tmp, .mov (.t 1), .none⟩,
   ⟨.tmp, .ext (.t 2) 0, .none⟩,
   ⟨.tmp, .ext (.t 2) 1, .none⟩,
   ⟨.tmp, .ext (.t 2) 2, .none⟩,
   ⟨(.var 6), .mov (.t 3), .none⟩,
   ⟨(.var 7), .mov (.t 4), .none⟩,
   ⟨(.var 8), .mov (.t 5), .none⟩])
 (.seq (.ops [⟨.tmp, .mov (.v 2), .none⟩,
   ⟨.tmp, .pcall 13 [(.t 0), (.c (.int .i64 1))], .none⟩,
   ⟨.tmp, .mov (.t 1), .none⟩,
   ⟨.tmp, .ext (.t 2) 0, .none⟩,
   ⟨.tmp, .ext (.t 2) 1, .none⟩,
   ⟨.tmp, .ext (.t 2) 2, .none⟩,
   ⟨.tmp, .mov (.t 3), .none⟩,
   ⟨.tmp, .mov (.t 4), .none⟩,
   ⟨(.var 9), .mov (.t 5), .none⟩])
 (.seq (.ops [⟨.tmp, .mov (.v 5), .none⟩,
   ⟨.tmp, .bin .eql .arith (.t 0) (.c (.int .i64 0)), .none⟩,
   ⟨.tmp, .mov (.t 1), .none⟩,
   ⟨.tmp, .mov (.v 8), (some ((.t 2), true))⟩,
   ⟨.tmp, .bin .eql .arith (.t 3) (.c (.int .i64 0)), (some ((.t 2), true))⟩,
   ⟨.tmp, .pick (.t 2) (.t 4) (.c (.bool false)), .none⟩,
   ⟨.tmp, .mov (.t 5), .none⟩,
   ⟨.tmp, .mov (.v 9), (some ((.t 6), true))⟩,
   ⟨.tmp, .bin .eql .arith (.t 7) (.c (.int .i64 18)), (some ((.t 6), true))⟩,
   ⟨.tmp, .pick (.t 6) (.t 8) (.c (.bool false)), .none⟩,
   ⟨.tmp, .mov (.t 9), .none⟩,
   ⟨.tmp, .mov (.v 4), (some ((.t 10), true))⟩,
   ⟨.tmp, .bin .eql .arith (.t 11) (.c (.int .i64 0)), (some ((.t 10), true))⟩,
   ⟨.tmp, .pick (.t 10) (.t 12) (.c (.bool false)), .none⟩,
   ⟨.tmp, .mov (.t 13), .none⟩,
   ⟨.tmp, .mov (.v 7), (some ((.t 14), true))⟩,
   ⟨.tmp, .bin .eql .arith (.t 15) (.c (.int .i64 5)), (some ((.t 14), true))⟩,
   ⟨.tmp, .pick (.t 14) (.t 16) (.c (.bool false)), .none⟩,
   ⟨.tmp, .mov (.t 17), .none⟩,
   ⟨.tmp, .mov (.v 3), (some ((.t 18), true))⟩,
   ⟨.tmp, .len (.t 19), (some ((.t 18), true))⟩,
   ⟨.tmp, .bin .eql .arith (.t 20) (.c (.int .i64 2)), (some ((.t 18), true))⟩,
   ⟨.tmp, .pick (.t 18) (.t 21) (.c (.bool false)), .none⟩,
   ⟨.tmp, .mov (.t 22), .none⟩,
   ⟨.tmp, .mov (.v 6), (some ((.t 23), true))⟩,
   ⟨.tmp, .len (.t 24), (some ((.t 23), true))⟩,
   ⟨.tmp, .bin .eql .arith (.t 25) (.c (.int .i64 3)), (some ((.t 23), true))⟩,
   ⟨.tmp, .pick (.t 23) (.t 26) (.c (.bool false)), .none⟩,
   ⟨.tmp, .mov (.t 27), .none⟩,
   ⟨.tmp, .mov (.v 2), (some ((.t 28), true))⟩,
   ⟨.tmp, .mov (.v 3), (some ((.t 28), true))⟩,
   ⟨.tmp, .iaddr 3 (.t 30) (.c (.int .i64 0)), (some ((.t 28), true))⟩,
   ⟨.tmp, .load 3 true (.t 31), (some ((.t 28), true))⟩,
   ⟨.tmp, .pcall 23 [(.t 29), (.t 32)], (some ((.t 28), true))⟩,
   ⟨.tmp, .bin .eql .arith (.t 33) (.c (.str [97, 97, 32, 98])), (some ((.t 28), true))⟩,
   ⟨.tmp, .pick (.t 28) (.t 34) (.c (.bool false)), .none⟩,
   ⟨.tmp, .mov (.t 35), .none⟩,
   ⟨.tmp, .mov (.v 2), (some ((.t 36), true))⟩,
   ⟨.tmp, .mov (.v 3), (some ((.t 36), true))⟩,
   ⟨.tmp, .iaddr 3 (.t 38) (.c (.int .i64 1)), (some ((.t 36), true))⟩,
   ⟨.tmp, .load 3 true (.t 39), (some ((.t 36), true))⟩,
   ⟨.tmp, .pcall 23 [(.t 37), (.t 40)], (some ((.t 36), true))⟩,
   ⟨.tmp, .bin .eql .arith (.t 41) (.c (.str [99, 99])), (some ((.t 36), true))⟩,
   ⟨.tmp, .pick (.t 36) (.t 42) (.c (.bool false)), .none⟩,
   ⟨.tmp, .mov (.t 43), .none⟩,
   ⟨.tmp, .mov (.v 2), (some ((.t 44), true))⟩,
   ⟨.tmp, .pcall 17 [(.t 45), (.c (.int .i64 4))], (some ((.t 44), true))⟩,
   ⟨.tmp, .lit 0 3 6 1 false [(.int .i64 0)] [(0, (.c (.int .i64 (-1)))), (1, (.c (.int .i64 4))), (2, (.c (.int .i64 (-1)))), (3, (.c (.int .i64 0))), (4, (.c (.int .i64 (-1)))), (5, (.c (.int .i64 0)))], (some ((.t 44), true))⟩,
   ⟨.tmp, .pcall 16 [(.t 46), (.t 47)], (some ((.t 44), true))⟩,
   ⟨.tmp, .pick (.t 44) (.t 48) (.c (.bool false)), .none⟩,
   ⟨.tmp, .mov (.t 49), .none⟩,
   ⟨.tmp, .mov (.v 2), (some ((.t 50), true))⟩,
   ⟨.tmp, .mov (.v 3), (some ((.t 50), true))⟩,
   ⟨.tmp, .lit 0 3 6 1 false [(.int .i64 0)] [(0, (.c (.int .i64 (-1)))), (1, (.c (.int .i64 4))), (2, (.c (.int .i64 (-1)))), (3, (.c (.int .i64 0))), (4, (.c (.int .i64 (-1)))), (5, (.c (.int .i64 0)))], (some ((.t 50), true))⟩,
   ⟨.tmp, .pcall 20 [(.t 51), (.c (.int .i64 4)), (.t 52), (.t 53)], (some ((.t 50), true))⟩,
   ⟨.tmp, .bin .eql .arith (.t 54) (.c (.int .i64 0)), (some ((.t 50), true))⟩,
   ⟨.tmp, .pick (.t 50) (.t 55) (.c (.bool false)), .none⟩,
   ⟨(.var 0), .mov (.t 56), .none⟩])
 .ret))))))),
 [0]⟩
def c20 : AFunc := ⟨[0, 1, 2, 3, 7, 8, 9, 10, 14, 42, 49],
 (.seq (.ops [⟨(.var 4), .box 1 false (.v 3), .none⟩,
   ⟨(.var 5), .mov (.c (.int .i64 0)), .none⟩])
 (.seq (.seq (.ops [⟨.tmp, .mov (.v 0), .none⟩,
   ⟨.tmp, .mov (.v 1), .none⟩,
   ⟨.tmp, .pcall 33 [(.t 0), (.t 1)], .none⟩,
   ⟨(.var 8), .un .not (.t 2), .none⟩])
 (.cond (.v 8)
  (.seq (.ops [⟨(.var 5), .mov (.c (.int .i64 1)), .none⟩])
  .ret)
  .skip))
 (.seq (.ops [⟨.tmp, .mov (.v 0), .none⟩,
   ⟨.tmp, .mov (.v 1), .none⟩,
   ⟨.tmp, .mov (.v 2), .none⟩,
   ⟨.tmp, .pcall 44 [(.t 0), (.t 1), (.t 2)], .none⟩,
   ⟨(.var 6), .mov (.t 3), .none⟩])
 (.seq (.seq (.ops [⟨.tmp, .mov (.v 6), .none⟩,
   ⟨.tmp, .bin .lss .arith (.t 0) (.c (.int .i64 0)), .none⟩,
   ⟨.tmp, .mov (.t 1), .none⟩,
   ⟨.tmp, .load 1 false (.v 4), (some ((.t 2), false))⟩,
   ⟨.tmp, .len (.t 3), (some ((.t 2), false))⟩,
   ⟨.tmp, .mov (.v 0), (some ((.t 2), false))⟩,
   ⟨.tmp, .len (.t 5), (some ((.t 2), false))⟩,
   ⟨.tmp, .bin .neq .arith (.t 4) (.t 6), (some ((.t 2), false))⟩,
   ⟨.tmp, .pick (.t 2) (.c (.bool true)) (.t 7), .none⟩,
   ⟨.tmp, .mov (.t 8), .none⟩,
   ⟨.tmp, .load 1 false (.v 4), (some ((.t 9), false))⟩,
   ⟨.tmp, .mov (.v 0), (some ((.t 9), false))⟩,
   ⟨.tmp, .len (.t 11), (some ((.t 9), false))⟩,
   ⟨.tmp, .bin .sub .arith (.t 12) (.c (.int .i64 1)), (some ((.t 9), false))⟩,
   ⟨.tmp, .iaddr 1 (.t 10) (.t 13), (some ((.t 9), false))⟩,
   ⟨.tmp, .load 1 false (.t 14), (some ((.t 9), false))⟩,
   ⟨.tmp, .mov (.v 6), (some ((.t 9), false))⟩,
   ⟨.tmp, .bin .neq .arith (.t 15) (.t 16), (some ((.t 9), false))⟩,
   ⟨.tmp, .pick (.t 9) (.c (.bool true)) (.t 17), .none⟩,
   ⟨.tmp, .mov (.t 18), .none⟩,
   ⟨.tmp, .load 1 false (.v 4), (some ((.t 19), false))⟩,
   ⟨.tmp, .pcall 45 [(.t 20)], (some ((.t 19), false))⟩,
   ⟨.tmp, .bin .lss .arith (.t 21) (.c (.int .i64 (-1))), (some ((.t 19), false))⟩,
   ⟨(.var 9), .pick (.t 19) (.c (.bool true)) (.t 22), .none⟩])
 (.cond (.v 9)
  (.seq (.ops [⟨(.var 5), .mov (.c (.int .i64 24)), .none⟩])
  .ret)
  .skip))
 (.seq (.ops [⟨(.var 7), .alloc 4 1 false [(.bool false)], .none⟩,
   ⟨.no, .store 1 (.v 7) (.c (.bool true)), .none⟩])
 (.seq (.ops [⟨.tmp, .mov (.v 0), .none⟩,
   ⟨.tmp, .mov (.v 1), .none⟩,
   ⟨.tmp, .clo 46 [(.v 4)], .none⟩,
   ⟨.tmp, .clo 47 [(.v 4), (.v 7)], .none⟩,
   ⟨.tmp, .call (.c (.fn 41 [])) [(.t 0), (.t 1), (.t 2), (.t 3)], .none⟩])
 (.seq (.seq (.ops [⟨.tmp, .load 1 false (.v 7), .none⟩,
   ⟨(.var 10), .un .not (.t 0), .none⟩])
 (.cond (.v 10)
  (.seq (.ops [⟨(.var 5), .mov (.c (.int .i64 24)), .none⟩])
  .ret)
  .skip))
 (.seq (.ops [⟨(.var 5), .mov (.c (.int .i64 0)), .none⟩])
 .ret)))))))),
 [5]⟩
def c21 : AFunc := ⟨[0, 1, 2, 3, 8, 9, 10, 19, 33, 40, 55, 70, 75],
 (.seq (.ops [⟨(.var 4), .mov (.c (.sl [] .nil)), .none⟩])
 (.seq (.ops [⟨(.var 5), .mov (.c (.sl [] .nil)), .none⟩])
 (.seq (.ops [⟨.tmp, .mov (.v 5), .none⟩,
   ⟨.tmp, .mov (.v 0), .none⟩,
   ⟨.tmp, .append true 41 24 3 true (.t 0) (.t 1), .none⟩,
   ⟨(.var 5), .mov (.t 2), .none⟩])
 (.seq (.ops [⟨.tmp, .mov (.v 1), .none⟩,
   ⟨.tmp, .mov (.v 5), .none⟩,
   ⟨.tmp, .len (.t 1), .none⟩,
   ⟨.tmp, .pcall 12 [(.t 0), (.t 2)], .none⟩,
   ⟨(.var 6), .mov (.t 3), .none⟩])
 (.seq (.seq (.ops [⟨.tmp, .mov (.v 2), .none⟩,
   ⟨(.var 7), .pcall 12 [(.t 0), (.c (.int .i64 6))], .none⟩])
 (.block 0 (.seq (.ops [⟨.tmp, .bin .eql .arith (.v 7) (.c (.int .i64 0)), .none⟩,
    ⟨(.var 8), .mov (.t 0), .none⟩])
  (.cond (.v 8)
   (.ops [⟨.tmp, .mov (.v 5), .none⟩,
     ⟨.tmp, .mov (.v 6), .none⟩,
     ⟨.tmp, .mov (.v 3), .none⟩,
     ⟨.tmp, .iaddr 3 (.t 0) (.t 1), .none⟩,
     ⟨.tmp, .faddr 0 (.t 3), .none⟩,
     ⟨.no, .store 1 (.t 4) (.t 2), .none⟩])
   (.seq (.ops [⟨.tmp, .bin .eql .arith (.v 7) (.c (.int .i64 1)), .none⟩,
     ⟨(.var 9), .mov (.t 0), .none⟩])
   (.cond (.v 9)
    (.ops [⟨.tmp, .mov (.v 5), .none⟩,
      ⟨.tmp, .mov (.v 6), .none⟩,
      ⟨.tmp, .mov (.v 5), .none⟩,
      ⟨.tmp, .mov (.v 6), .none⟩,
      ⟨.tmp, .iaddr 3 (.t 2) (.t 3), .none⟩,
      ⟨.tmp, .faddr 1 (.t 4), .none⟩,
      ⟨.tmp, .load 1 false (.t 5), .none⟩,
      ⟨.tmp, .mov (.v 3), .none⟩,
      ⟨.tmp, .pcall 12 [(.t 7), (.c (.int .i64 5))], .none⟩,
      ⟨.tmp, .bin .add .arith (.t 6) (.t 8), .none⟩,
      ⟨.tmp, .bin .sub .arith (.t 9) (.c (.int .i64 2)), .none⟩,
      ⟨.tmp, .iaddr 3 (.t 0) (.t 1), .none⟩,
      ⟨.tmp, .faddr 1 (.t 11), .none⟩,
      ⟨.no, .store 1 (.t 12) (.t 10), .none⟩])
    (.seq (.ops [⟨.tmp, .bin .eql .arith (.v 7) (.c (.int .i64 2)), .none⟩,
      ⟨(.var 10), .mov (.t 0), .none⟩])
    (.cond (.v 10)
     (.ops [⟨.tmp, .mov (.v 5), .none⟩,
       ⟨.tmp, .mov (.v 6), .none⟩,
       ⟨.tmp, .mov (.v 5), .none⟩,
       ⟨.tmp, .mov (.v 6), .none⟩,
       ⟨.tmp, .iaddr 3 (.t 2) (.t 3), .none⟩,
       ⟨.tmp, .faddr 2 (.t 4), .none⟩,
       ⟨.tmp, .load 1 false (.t 5), .none⟩,
       ⟨.tmp, .mov (.v 3), .none⟩,
       ⟨.tmp, .pcall 12 [(.t 7), (.c (.int .i64 3))], .none⟩,
       ⟨.tmp, .bin .add .arith (.t 6) (.t 8), .none⟩,
       ⟨.tmp, .bin .sub .arith (.t 9) (.c (.int .i64 1)), .none⟩,
       ⟨.tmp, .iaddr 3 (.t 0) (.t 1), .none⟩,
       ⟨.tmp, .faddr 2 (.t 11), .none⟩,
       ⟨.no, .store 1 (.t 12) (.t 10), .none⟩])
     (.seq (.ops [⟨.tmp, .bin .eql .arith (.v 7) (.c (.int .i64 3)), .none⟩,
       ⟨(.var 11), .mov (.t 0), .none⟩])
     (.cond (.v 11)
      (.ops [⟨.tmp, .mov (.v 5), .none⟩,
        ⟨.tmp, .mov (.v 6), .none⟩,
        ⟨.tmp, .slice 3 (.t 0) .none (some (.t 1)), .none⟩,
        ⟨(.var 5), .mov (.t 2), .none⟩])
      (.seq (.ops [⟨.tmp, .bin .eql .arith (.v 7) (.c (.int .i64 4)), .none⟩,
        ⟨(.var 12), .mov (.t 0), .none⟩])
      (.cond (.v 12)
       (.ops [⟨.tmp, .mov (.v 5), .none⟩,
         ⟨.tmp, .mov (.v 5), .none⟩,
         ⟨.tmp, .mov (.v 6), .none⟩,
         ⟨.tmp, .iaddr 3 (.t 1) (.t 2), .none⟩,
         ⟨.tmp, .load 3 true (.t 3), .none⟩,
         ⟨.tmp, .lit 2 41 1 3 true [(.int .i64 0), (.int .i64 0), (.int .i64 0)] [(0, (.t 4))], .none⟩,
         ⟨.tmp, .append true 41 24 3 true (.t 0) (.t 5), .none⟩,
         ⟨(.var 5), .mov (.t 6), .none⟩])
       (.ops [⟨.tmp, .mov (.v 5), .none⟩,
         ⟨.tmp, .mov (.v 6), .none⟩,
         ⟨.tmp, .mov (.v 5), .none⟩,
         ⟨.tmp, .mov (.v 6), .none⟩,
         ⟨.tmp, .iaddr 3 (.t 2) (.t 3), .none⟩,
         ⟨.tmp, .faddr 0 (.t 4), .none⟩,
         ⟨.tmp, .load 1 false (.t 5), .none⟩,
         ⟨.tmp, .mov (.v 3), .none⟩,
         ⟨.tmp, .pcall 12 [(.t 7), (.c (.int .i64 3))], .none⟩,
         ⟨.tmp, .bin .add .arith (.t 6) (.t 8), .none⟩,
         ⟨.tmp, .bin .sub .arith (.t 9) (.c (.int .i64 1)), .none⟩,
         ⟨.tmp, .iaddr 3 (.t 0) (.t 1), .none⟩,
         ⟨.tmp, .faddr 0 (.t 11), .none⟩,
         ⟨.no, .store 1 (.t 12) (.t 10), .none⟩])))))))))))))
 (.seq (.ops [⟨.tmp, .mov (.v 5), .none⟩,
   ⟨(.var 4), .mov (.t 0), .none⟩])
 .ret)))))),
 [4]⟩
def c22 : AFunc := ⟨[0, 1, 2, 3, 8, 9, 10, 11, 12, 13, 14, 15, 16, 20, 46, 50, 57, 62, 66, 84, 93, 121],
 (.seq (.ops [⟨(.var 4), .mov (.c (.int .i64 0)), .none⟩])
 (.seq (.seq (.ops [⟨.tmp, .mov (.v 0), .none⟩,
   ⟨.tmp, .mov (.v 1), .none⟩,
   ⟨.tmp, .pcall 38 [(.t 0), (.t 1)], .none⟩,
   ⟨(.var 13), .un .not (.t 2), .none⟩])
 (.cond (.v 13)
  (.seq (.ops [⟨(.var 4), .mov (.c (.int .i64 1)), .none⟩])
  .ret)
  .skip))
 (.seq (.ops [⟨.tmp, .mov (.v 0), .none⟩,
   ⟨.tmp, .mov (.v 1), .none⟩,
   ⟨.tmp, .mov (.v 2), .none⟩,
   ⟨.tmp, .pcall 48 [(.t 0), (.t 1), (.t 2)], .none⟩,
   ⟨.tmp, .mov (.t 3), .none⟩,
   ⟨.tmp, .ext (.t 4) 0, .none⟩,
   ⟨.tmp, .ext (.t 4) 1, .none⟩,
   ⟨(.var 5), .mov (.t 5), .none⟩,
   ⟨(.var 6), .mov (.t 6), .none⟩])
 (.seq (.seq (.ops [⟨.tmp, .mov (.v 6), .none⟩,
   ⟨.tmp, .un .not (.t 0), .none⟩,
   ⟨.tmp, .mov (.t 1), .none⟩,
   ⟨.tmp, .mov (.v 3), (some ((.t 2), false))⟩,
   ⟨.tmp, .len (.t 3), (some ((.t 2), false))⟩,
   ⟨.tmp, .mov (.v 0), (some ((.t 2), false))⟩,
   ⟨.tmp, .len (.t 5), (some ((.t 2), false))⟩,
   ⟨.tmp, .bin .neq .arith (.t 4) (.t 6), (some ((.t 2), false))⟩,
   ⟨.tmp, .pick (.t 2) (.c (.bool true)) (.t 7), .none⟩,
   ⟨.tmp, .mov (.t 8), .none⟩,
   ⟨.tmp, .mov (.v 3), (some ((.t 9), false))⟩,
   ⟨.tmp, .mov (.v 0), (some ((.t 9), false))⟩,
   ⟨.tmp, .len (.t 11), (some ((.t 9), false))⟩,
   ⟨.tmp, .bin .sub .arith (.t 12) (.c (.int .i64 1)), (some ((.t 9), false))⟩,
   ⟨.tmp, .iaddr 1 (.t 10) (.t 13), (some ((.t 9), false))⟩,
   ⟨.tmp, .load 1 false (.t 14), (some ((.t 9), false))⟩,
   ⟨.tmp, .mov (.v 5), (some ((.t 9), false))⟩,
   ⟨.tmp, .bin .neq .arith (.t 15) (.t 16), (some ((.t 9), false))⟩,
   ⟨(.var 14), .pick (.t 9) (.c (.bool true)) (.t 17), .none⟩])
 (.cond (.v 14)
  (.seq (.ops [⟨(.var 4), .mov (.c (.int .i64 24)), .none⟩])
  .ret)
  .skip))
 (.seq (.seq (.ops [⟨(.var 7), .mov (.c (.int .i64 0)), .none⟩])
 (.block 0 (.loop (.seq (.seq (.ops [⟨.tmp, .mov (.v 7), .none⟩,
     ⟨.tmp, .mov (.v 3), .none⟩,
     ⟨.tmp, .len (.t 1), .none⟩,
     ⟨(.var 15), .bin .lss .arith (.t 0) (.t 2), .none⟩])
   (.cond (.v 15)
    .skip
    (.exit 0)))
   (.seq (.block 1 (.seq (.ops [⟨.tmp, .mov (.v 3), .none⟩,
      ⟨.tmp, .mov (.v 7), .none⟩,
      ⟨.tmp, .iaddr 1 (.t 0) (.t 1), .none⟩,
      ⟨.tmp, .load 1 false (.t 2), .none⟩,
      ⟨(.var 16), .bin .lss .arith (.t 3) (.c (.int .i64 (-1))), .none⟩])
    (.cond (.v 16)
     (.seq (.ops [⟨(.var 4), .mov (.c (.int .i64 24)), .none⟩])
     .ret)
     .skip)))
   (.ops [⟨.tmp, .mov (.v 7), .none⟩,
     ⟨.tmp, .bin .add .arith (.t 0) (.c (.int .i64 1)), .none⟩,
     ⟨(.var 7), .mov (.t 1), .none⟩]))))))
 (.seq (.seq (.ops [⟨(.var 8), .mov (.c (.int .i64 (-1))), .none⟩])
 (.block 2 (.loop (.seq (.seq (.ops [⟨.tmp, .mov (.v 8), .none⟩,
     ⟨.tmp, .mov (.v 0), .none⟩,
     ⟨.tmp, .len (.t 1), .none⟩,
     ⟨.tmp, .bin .sub .arith (.t 2) (.c (.int .i64 1)), .none⟩,
     ⟨(.var 17), .bin .lss .arith (.t 0) (.t 3), .none⟩])
   (.cond (.v 17)
    .skip
    (.exit 2)))
   (.seq (.block 3 (.seq (.ops [⟨(.var 9), .mov (.c (.int .i64 0)), .none⟩])
    (.seq (.seq (.ops [⟨.tmp, .mov (.v 8), .none⟩,
      ⟨(.var 18), .bin .geq .arith (.t 0) (.c (.int .i64 0)), .none⟩])
    (.cond (.v 18)
     (.ops [⟨.tmp, .mov (.v 3), .none⟩,
       ⟨.tmp, .mov (.v 8), .none⟩,
       ⟨.tmp, .iaddr 1 (.t 0) (.t 1), .none⟩,
       ⟨.tmp, .load 1 false (.t 2), .none⟩,
       ⟨(.var 9), .mov (.t 3), .none⟩])
     .skip))
    (.seq (.seq (.ops [⟨.tmp, .mov (.v 9), .none⟩,
      ⟨.tmp, .bin .lss .arith (.t 0) (.c (.int .i64 0)), .none⟩,
      ⟨.tmp, .mov (.t 1), .none⟩,
      ⟨.tmp, .mov (.v 8), (some ((.t 2), false))⟩,
      ⟨.tmp, .bin .geq .arith (.t 3) (.c (.int .i64 0)), (some ((.t 2), false))⟩,
      ⟨.tmp, .mov (.t 4), (some ((.t 2), false))⟩,
      ⟨.tmp, .mov (.v 0), (some ((.t 5), true))⟩,
      ⟨.tmp, .mov (.v 8), (some ((.t 5), true))⟩,
      ⟨.tmp, .iaddr 8 (.t 6) (.t 7), (some ((.t 5), true))⟩,
      ⟨.tmp, .faddr 0 (.t 8), (some ((.t 5), true))⟩,
      ⟨.tmp, .load 1 false (.t 9), (some ((.t 5), true))⟩,
      ⟨.tmp, .bin .eql .arith (.t 10) (.c (.int .i64 0)), (some ((.t 5), true))⟩,
      ⟨.tmp, .pick (.t 5) (.t 11) (.c (.bool false)), (some ((.t 2), false))⟩,
      ⟨(.var 19), .pick (.t 2) (.c (.bool true)) (.t 12), .none⟩])
    (.cond (.v 19)
     (.exit 3)
     .skip))
    (.seq (.ops [⟨.tmp, .mov (.v 0), .none⟩,
      ⟨.tmp, .mov (.v 8), .none⟩,
      ⟨.tmp, .pcall 29 [(.t 0), (.t 1)], .none⟩,
      ⟨(.var 10), .mov (.t 2), .none⟩])
    (.seq (.ops [⟨.tmp, .mov (.v 10), .none⟩,
      ⟨.tmp, .bin .add .arith (.t 0) (.c (.int .i64 1)), .none⟩,
      ⟨(.var 11), .mov (.t 1), .none⟩])
    (.block 4 (.loop (.seq (.seq (.ops [⟨.tmp, .mov (.v 11), .none⟩,
        ⟨.tmp, .mov (.v 0), .none⟩,
        ⟨.tmp, .len (.t 1), .none⟩,
        ⟨(.var 20), .bin .leq .arith (.t 0) (.t 2), .none⟩])
      (.cond (.v 20)
       .skip
       (.exit 4)))
      (.seq (.block 5 (.seq (.ops [⟨.tmp, .mov (.v 0), .none⟩,
         ⟨.tmp, .mov (.v 10), .none⟩,
         ⟨.tmp, .mov (.v 11), .none⟩,
         ⟨.tmp, .mov (.v 1), .none⟩,
         ⟨.tmp, .pcall 28 [(.t 0), (.t 1), (.t 2), (.t 3)], .none⟩,
         ⟨(.var 12), .mov (.t 4), .none⟩])
       (.seq (.ops [⟨.tmp, .mov (.v 12), .none⟩,
         ⟨.tmp, .bin .geq .arith (.t 0) (.c (.int .i64 0)), .none⟩,
         ⟨.tmp, .mov (.t 1), .none⟩,
         ⟨.tmp, .mov (.v 3), (some ((.t 2), true))⟩,
         ⟨.tmp, .mov (.v 11), (some ((.t 2), true))⟩,
         ⟨.tmp, .bin .sub .arith (.t 4) (.c (.int .i64 1)), (some ((.t 2), true))⟩,
         ⟨.tmp, .iaddr 1 (.t 3) (.t 5), (some ((.t 2), true))⟩,
         ⟨.tmp, .load 1 false (.t 6), (some ((.t 2), true))⟩,
         ⟨.tmp, .bin .lss .arith (.t 7) (.c (.int .i64 0)), (some ((.t 2), true))⟩,
         ⟨.tmp, .mov (.t 8), (some ((.t 2), true))⟩,
         ⟨.tmp, .mov (.v 3), (some ((.t 9), false))⟩,
         ⟨.tmp, .mov (.v 11), (some ((.t 9), false))⟩,
         ⟨.tmp, .bin .sub .arith (.t 11) (.c (.int .i64 1)), (some ((.t 9), false))⟩,
         ⟨.tmp, .iaddr 1 (.t 10) (.t 12), (some ((.t 9), false))⟩,
         ⟨.tmp, .load 1 false (.t 13), (some ((.t 9), false))⟩,
         ⟨.tmp, .mov (.v 9), (some ((.t 9), false))⟩,
         ⟨.tmp, .bin .sub .arith (.t 14) (.t 15), (some ((.t 9), false))⟩,
         ⟨.tmp, .mov (.v 12), (some ((.t 9), false))⟩,
         ⟨.tmp, .bin .gtr .arith (.t 16) (.t 17), (some ((.t 9), false))⟩,
         ⟨.tmp, .pick (.t 9) (.c (.bool true)) (.t 18), (some ((.t 2), true))⟩,
         ⟨(.var 21), .pick (.t 2) (.t 19) (.c (.bool false)), .none⟩])
       (.cond (.v 21)
        (.seq (.ops [⟨(.var 4), .mov (.c (.int .i64 24)), .none⟩])
        .ret)
        .skip))))
      (.ops [⟨.tmp, .mov (.v 11), .none⟩,
        ⟨.tmp, .bin .add .arith (.t 0) (.c (.int .i64 1)), .none⟩,
        ⟨(.var 11), .mov (.t 1), .none⟩])))))))))))
   (.ops [⟨.tmp, .mov (.v 8), .none⟩,
     ⟨.tmp, .bin .add .arith (.t 0) (.c (.int .i64 1)), .none⟩,
     ⟨(.var 8), .mov (.t 1), .none⟩]))))))
 (.seq (.ops [⟨(.var 4), .mov (.c (.int .i64 0)), .none⟩])
 .ret))))))),
 [4]⟩
def c23 : AFunc := ⟨[0, 1, 3, 4, 5, 6, 7, 8, 25, 33, 40, 55],
 (.seq (.ops [⟨(.var 2), .box 3 true (.v 1), .none⟩,
   ⟨(.var 3), .mov (.c (.str [])), .none⟩])
 (.seq (.seq (.ops [⟨.tmp, .faddr 0 (.v 2), .none⟩,
   ⟨.tmp, .load 1 false (.t 0), .none⟩,
   ⟨.tmp, .bin .lss .arith (.t 1) (.c (.int .i64 0)), .none⟩,
   ⟨.tmp, .mov (.t 2), .none⟩,
   ⟨.tmp, .faddr 1 (.v 2), (some ((.t 3), false))⟩,
   ⟨.tmp, .load 1 false (.t 4), (some ((.t 3), false))⟩,
   ⟨.tmp, .faddr 0 (.v 2), (some ((.t 3), false))⟩,
   ⟨.tmp, .load 1 false (.t 6), (some ((.t 3), false))⟩,
   ⟨.tmp, .bin .leq .arith (.t 5) (.t 7), (some ((.t 3), false))⟩,
   ⟨.tmp, .pick (.t 3) (.c (.bool true)) (.t 8), .none⟩,
   ⟨.tmp, .mov (.t 9), .none⟩,
   ⟨.tmp, .faddr 1 (.v 2), (some ((.t 10), false))⟩,
   ⟨.tmp, .load 1 false (.t 11), (some ((.t 10), false))⟩,
   ⟨.tmp, .mov (.v 0), (some ((.t 10), false))⟩,
   ⟨.tmp, .len (.t 13), (some ((.t 10), false))⟩,
   ⟨.tmp, .bin .gtr .arith (.t 12) (.t 14), (some ((.t 10), false))⟩,
   ⟨(.var 8), .pick (.t 10) (.c (.bool true)) (.t 15), .none⟩])
 (.cond (.v 8)
  (.seq (.ops [⟨(.var 3), .mov (.c (.str [])), .none⟩])
  .ret)
  .skip))
 (.seq (.ops [⟨(.var 4), .alloc 78 2 true [.nilptr, (.sl [] .nil)], .none⟩])
 (.seq (.ops [⟨.tmp, .faddr 1 (.v 2), .none⟩,
   ⟨.tmp, .load 1 false (.t 0), .none⟩,
   ⟨.tmp, .bin .sub .arith (.t 1) (.c (.int .i64 1)), .none⟩,
   ⟨(.var 5), .mov (.t 2), .none⟩])
 (.seq (.seq (.ops [⟨.tmp, .faddr 0 (.v 2), .none⟩,
   ⟨.tmp, .load 1 false (.t 0), .none⟩,
   ⟨(.var 6), .mov (.t 1), .none⟩])
 (.block 0 (.loop (.seq (.seq (.ops [⟨.tmp, .mov (.v 6), .none⟩,
     ⟨.tmp, .mov (.v 5), .none⟩,
     ⟨(.var 9), .bin .leq .arith (.t 0) (.t 1), .none⟩])
   (.cond (.v 9)
    .skip
    (.exit 0)))
   (.seq (.block 1 (.seq (.ops [⟨.tmp, .mov (.v 0), .none⟩,
      ⟨.tmp, .mov (.v 6), .none⟩,
      ⟨.tmp, .iaddr 8 (.t 0) (.t 1), .none⟩,
      ⟨.tmp, .load 8 true (.t 2), .none⟩,
      ⟨(.var 7), .alloc 47 8 true [(.int .i64 0), (.str []), (.int .i64 0), (.int .i64 0), (.bool false), (.int .i64 0), (.int .i64 0), (.int .i64 0)], .none⟩,
      ⟨.no, .store 8 (.v 7) (.t 3), .none⟩])
    (.block 2 (.seq (.seq (.ops [⟨.tmp, .faddr 0 (.v 7), .none⟩,
       ⟨.tmp, .load 1 false (.t 0), .none⟩,
       ⟨.tmp, .bin .eql .arith (.t 1) (.c (.int .i64 0)), .none⟩,
       ⟨(.var 10), .mov (.t 2), .none⟩])
     (.cond (.v 10)
      .skip
      (.ops [⟨.tmp, .faddr 0 (.v 7), .none⟩,
        ⟨.tmp, .load 1 false (.t 0), .none⟩,
        ⟨.tmp, .bin .eql .arith (.t 1) (.c (.int .i64 2)), .none⟩,
        ⟨.tmp, .mov (.t 2), .none⟩,
        ⟨.tmp, .mov (.v 6), (some ((.t 3), true))⟩,
        ⟨.tmp, .mov (.v 5), (some ((.t 3), true))⟩,
        ⟨.tmp, .bin .eql .arith (.t 4) (.t 5), (some ((.t 3), true))⟩,
        ⟨.tmp, .pick (.t 3) (.t 6) (.c (.bool false)), .none⟩,
        ⟨(.var 10), .mov (.t 7), .none⟩])))
     (.cond (.v 10)
      (.ops [⟨.tmp, .faddr 1 (.v 7), .none⟩,
        ⟨.tmp, .load 1 false (.t 0), .none⟩,
        ⟨.tmp, .call (.c (.fn 49 [])) [(.v 4), (.t 1)], .none⟩])
      (.seq (.ops [⟨.tmp, .faddr 0 (.v 7), .none⟩,
        ⟨.tmp, .load 1 false (.t 0), .none⟩,
        ⟨.tmp, .bin .eql .arith (.t 1) (.c (.int .i64 1)), .none⟩,
        ⟨.tmp, .mov (.t 2), .none⟩,
        ⟨.tmp, .mov (.v 6), (some ((.t 3), true))⟩,
        ⟨.tmp, .mov (.v 5), (some ((.t 3), true))⟩,
        ⟨.tmp, .bin .lss .arith (.t 4) (.t 5), (some ((.t 3), true))⟩,
        ⟨.tmp, .pick (.t 3) (.t 6) (.c (.bool false)), .none⟩,
        ⟨(.var 11), .mov (.t 7), .none⟩])
      (.cond (.v 11)
       (.ops [⟨.tmp, .call (.c (.fn 50 [])) [(.v 4), (.c (.int .u8 32))], .none⟩])
       .skip)))))))
   (.ops [⟨.tmp, .mov (.v 6), .none⟩,
     ⟨.tmp, .bin .add .arith (.t 0) (.c (.int .i64 1)), .none⟩,
     ⟨(.var 6), .mov (.t 1), .none⟩]))))))
 (.seq (.ops [⟨.tmp, .call (.c (.fn 51 [])) [(.v 4)], .none⟩,
   ⟨(.var 3), .mov (.t 0), .none⟩])
 .ret)))))),
 [3]⟩
def c24 : AFunc := ⟨[0, 1, 3, 4, 5, 6, 7, 24, 31, 55, 72],
 (.seq (.ops [⟨(.var 2), .box 3 true (.v 1), .none⟩,
   ⟨(.var 3), .mov (.c (.str [])), .none⟩])
 (.seq (.ops [⟨(.var 4), .mov (.c (.str [])), .none⟩])
 (.seq (.seq (.ops [⟨.tmp, .faddr 0 (.v 2), .none⟩,
   ⟨.tmp, .load 1 false (.t 0), .none⟩,
   ⟨.tmp, .bin .lss .arith (.t 1) (.c (.int .i64 0)), .none⟩,
   ⟨.tmp, .mov (.t 2), .none⟩,
   ⟨.tmp, .faddr 1 (.v 2), (some ((.t 3), false))⟩,
   ⟨.tmp, .load 1 false (.t 4), (some ((.t 3), false))⟩,
   ⟨.tmp, .faddr 0 (.v 2), (some ((.t 3), false))⟩,
   ⟨.tmp, .load 1 false (.t 6), (some ((.t 3), false))⟩,
   ⟨.tmp, .bin .leq .arith (.t 5) (.t 7), (some ((.t 3), false))⟩,
   ⟨.tmp, .pick (.t 3) (.c (.bool true)) (.t 8), .none⟩,
   ⟨.tmp, .mov (.t 9), .none⟩,
   ⟨.tmp, .faddr 1 (.v 2), (some ((.t 10), false))⟩,
   ⟨.tmp, .load 1 false (.t 11), (some ((.t 10), false))⟩,
   ⟨.tmp, .mov (.v 0), (some ((.t 10), false))⟩,
   ⟨.tmp, .len (.t 13), (some ((.t 10), false))⟩,
   ⟨.tmp, .bin .gtr .arith (.t 12) (.t 14), (some ((.t 10), false))⟩,
   ⟨(.var 7), .pick (.t 10) (.c (.bool true)) (.t 15), .none⟩])
 (.cond (.v 7)
  (.seq (.ops [⟨.tmp, .mov (.v 4), .none⟩,
    ⟨(.var 3), .mov (.t 0), .none⟩])
  .ret)
  .skip))
 (.seq (.seq (.ops [⟨.tmp, .faddr 0 (.v 2), .none⟩,
   ⟨.tmp, .load 1 false (.t 0), .none⟩,
   ⟨(.var 5), .mov (.t 1), .none⟩])
 (.block 0 (.loop (.seq (.seq (.ops [⟨.tmp, .mov (.v 5), .none⟩,
     ⟨.tmp, .faddr 1 (.v 2), .none⟩,
     ⟨.tmp, .load 1 false (.t 1), .none⟩,
     ⟨(.var 8), .bin .lss .arith (.t 0) (.t 2), .none⟩])
   (.cond (.v 8)
    .skip
    (.exit 0)))
   (.seq (.block 1 (.seq (.ops [⟨.tmp, .mov (.v 5), .none⟩,
      ⟨.tmp, .faddr 1 (.v 2), .none⟩,
      ⟨.tmp, .load 1 false (.t 1), .none⟩,
      ⟨.tmp, .bin .sub .arith (.t 2) (.c (.int .i64 1)), .none⟩,
      ⟨.tmp, .bin .eql .arith (.t 0) (.t 3), .none⟩,
      ⟨(.var 6), .mov (.t 4), .none⟩])
    (.seq (.seq (.ops [⟨.tmp, .mov (.v 0), .none⟩,
      ⟨.tmp, .mov (.v 5), .none⟩,
      ⟨.tmp, .iaddr 8 (.t 0) (.t 1), .none⟩,
      ⟨.tmp, .faddr 0 (.t 2), .none⟩,
      ⟨.tmp, .load 1 false (.t 3), .none⟩,
      ⟨.tmp, .bin .eql .arith (.t 4) (.c (.int .i64 0)), .none⟩,
      ⟨.tmp, .mov (.t 5), .none⟩,
      ⟨.tmp, .mov (.v 0), (some ((.t 6), false))⟩,
      ⟨.tmp, .mov (.v 5), (some ((.t 6), false))⟩,
      ⟨.tmp, .iaddr 8 (.t 7) (.t 8), (some ((.t 6), false))⟩,
      ⟨.tmp, .faddr 0 (.t 9), (some ((.t 6), false))⟩,
      ⟨.tmp, .load 1 false (.t 10), (some ((.t 6), false))⟩,
      ⟨.tmp, .bin .eql .arith (.t 11) (.c (.int .i64 2)), (some ((.t 6), false))⟩,
      ⟨.tmp, .mov (.t 12), (some ((.t 6), false))⟩,
      ⟨.tmp, .mov (.v 6), (some ((.t 13), true))⟩,
      ⟨.tmp, .pick (.t 13) (.t 14) (.c (.bool false)), (some ((.t 6), false))⟩,
      ⟨(.var 9), .pick (.t 6) (.c (.bool true)) (.t 15), .none⟩])
    (.cond (.v 9)
     (.ops [⟨.tmp, .mov (.v 4), .none⟩,
       ⟨.tmp, .mov (.v 0), .none⟩,
       ⟨.tmp, .mov (.v 5), .none⟩,
       ⟨.tmp, .iaddr 8 (.t 1) (.t 2), .none⟩,
       ⟨.tmp, .faddr 1 (.t 3), .none⟩,
       ⟨.tmp, .load 1 false (.t 4), .none⟩,
       ⟨.tmp, .bin .add .arith (.t 0) (.t 5), .none⟩,
       ⟨(.var 4), .mov (.t 6), .none⟩])
     .skip))
    (.seq (.ops [⟨.tmp, .mov (.v 0), .none⟩,
      ⟨.tmp, .mov (.v 5), .none⟩,
      ⟨.tmp, .iaddr 8 (.t 0) (.t 1), .none⟩,
      ⟨.tmp, .faddr 0 (.t 2), .none⟩,
      ⟨.tmp, .load 1 false (.t 3), .none⟩,
      ⟨.tmp, .bin .eql .arith (.t 4) (.c (.int .i64 1)), .none⟩,
      ⟨.tmp, .mov (.t 5), .none⟩,
      ⟨.tmp, .mov (.v 6), (some ((.t 6), true))⟩,
      ⟨.tmp, .un .not (.t 7), (some ((.t 6), true))⟩,
      ⟨(.var 10), .pick (.t 6) (.t 8) (.c (.bool false)), .none⟩])
    (.cond (.v 10)
     (.ops [⟨.tmp, .mov (.v 4), .none⟩,
       ⟨.tmp, .bin .add .arith (.t 0) (.c (.str [32])), .none⟩,
       ⟨(.var 4), .mov (.t 1), .none⟩])
     .skip)))))
   (.ops [⟨.tmp, .mov (.v 5), .none⟩,
     ⟨.tmp, .bin .add .arith (.t 0) (.c (.int .i64 1)), .none⟩,
     ⟨(.var 5), .mov (.t 1), .none⟩]))))))
 (.seq (.ops [⟨.tmp, .mov (.v 4), .none⟩,
   ⟨(.var 3), .mov (.t 0), .none⟩])
 .ret))))),
 [3]⟩
def c25 : AFunc := ⟨[0, 2, 4, 5, 6, 20, 21, 22, 23, 24, 29, 32, 50],
 (.seq (.ops [⟨(.var 1), .mov (.c (.bool false)), .none⟩])
 (.seq (.seq (.ops [⟨.tmp, .mov (.v 0), .none⟩,
   ⟨.tmp, .len (.t 0), .none⟩,
   ⟨.tmp, .pcall 52 [(.t 1), (.c (.int .i64 1)), (.c (.int .i64 512))], .none⟩,
   ⟨.tmp, .un .not (.t 2), .none⟩,
   ⟨.tmp, .mov (.t 3), .none⟩,
   ⟨.tmp, .mov (.v 0), (some ((.t 4), false))⟩,
   ⟨.tmp, .mov (.v 0), (some ((.t 4), false))⟩,
   ⟨.tmp, .len (.t 6), (some ((.t 4), false))⟩,
   ⟨.tmp, .bin .sub .arith (.t 7) (.c (.int .i64 1)), (some ((.t 4), false))⟩,
   ⟨.tmp, .iaddr 8 (.t 5) (.t 8), (some ((.t 4), false))⟩,
   ⟨.tmp, .faddr 0 (.t 9), (some ((.t 4), false))⟩,
   ⟨.tmp, .load 1 false (.t 10), (some ((.t 4), false))⟩,
   ⟨.tmp, .bin .neq .arith (.t 11) (.c (.int .i64 3)), (some ((.t 4), false))⟩,
   ⟨(.var 5), .pick (.t 4) (.c (.bool true)) (.t 12), .none⟩])
 (.cond (.v 5)
  (.seq (.ops [⟨(.var 1), .mov (.c (.bool false)), .none⟩])
  .ret)
  .skip))
 (.seq (.seq (.ops [⟨(.var 6), .mov (.v 0), .none⟩,
   ⟨(.var 7), .len (.v 6), .none⟩,
   ⟨(.var 8), .mov (.c (.int .i64 0)), .none⟩])
 (.block 0 (.loop (.seq (.ops [⟨(.var 9), .bin .lss .arith (.v 8) (.v 7), .none⟩])
   (.seq (.cond (.v 9)
    .skip
    (.exit 0))
   (.seq (.block 1 (.seq (.ops [⟨.tmp, .iaddr 8 (.v 6) (.v 8), .none⟩,
      ⟨.tmp, .load 8 true (.t 0), .none⟩,
      ⟨(.var 2), .alloc 47 8 true [(.int .i64 0), (.str []), (.int .i64 0), (.int .i64 0), (.bool false), (.int .i64 0), (.int .i64 0), (.int .i64 0)], .none⟩,
      ⟨.no, .store 8 (.v 2) (.t 1), .none⟩])
    (.seq (.ops [⟨(.var 3), .mov (.c (.int .i64 65536)), .none⟩,
      ⟨(.var 4), .mov (.c (.int .i64 0)), .none⟩])
    (.seq (.seq (.ops [⟨.tmp, .faddr 0 (.v 2), .none⟩,
      ⟨.tmp, .load 1 false (.t 0), .none⟩,
      ⟨(.var 10), .bin .eql .arith (.t 1) (.c (.int .i64 3)), .none⟩])
    (.cond (.v 10)
     (.ops [⟨(.var 3), .mov (.c (.int .i64 0)), .none⟩])
     .skip))
    (.seq (.seq (.ops [⟨.tmp, .faddr 0 (.v 2), .none⟩,
      ⟨.tmp, .load 1 false (.t 0), .none⟩,
      ⟨(.var 11), .bin .eql .arith (.t 1) (.c (.int .i64 2)), .none⟩])
    (.cond (.v 11)
     (.ops [⟨(.var 4), .mov (.c (.int .i64 1048576)), .none⟩])
     .skip))
    (.seq (.ops [⟨.tmp, .faddr 0 (.v 2), .none⟩,
      ⟨.tmp, .load 1 false (.t 0), .none⟩,
      ⟨.tmp, .pcall 52 [(.t 1), (.c (.int .i64 0)), (.c (.int .i64 3))], .none⟩,
      ⟨.tmp, .un .not (.t 2), .none⟩,
      ⟨.tmp, .mov (.t 3), .none⟩,
      ⟨.tmp, .faddr 2 (.v 2), (some ((.t 4), false))⟩,
      ⟨.tmp, .load 1 false (.t 5), (some ((.t 4), false))⟩,
      ⟨.tmp, .mov (.v 3), (some ((.t 4), false))⟩,
      ⟨.tmp, .pcall 52 [(.t 6), (.c (.int .i64 0)), (.t 7)], (some ((.t 4), false))⟩,
      ⟨.tmp, .un .not (.t 8), (some ((.t 4), false))⟩,
      ⟨.tmp, .pick (.t 4) (.c (.bool true)) (.t 9), .none⟩,
      ⟨.tmp, .mov (.t 10), .none⟩,
      ⟨.tmp, .faddr 3 (.v 2), (some ((.t 11), false))⟩,
      ⟨.tmp, .load 1 false (.t 12), (some ((.t 11), false))⟩,
      ⟨.tmp, .mov (.v 4), (some ((.t 11), false))⟩,
      ⟨.tmp, .pcall 52 [(.t 13), (.c (.int .i64 0)), (.t 14)], (some ((.t 11), false))⟩,
      ⟨.tmp, .un .not (.t 15), (some ((.t 11), false))⟩,
      ⟨(.var 12), .pick (.t 11) (.c (.bool true)) (.t 16), .none⟩])
    (.cond (.v 12)
     (.seq (.ops [⟨(.var 1), .mov (.c (.bool false)), .none⟩])
     .ret)
     .skip)))))))
   (.ops [⟨.tmp, .bin .add .arith (.v 8) (.c (.int .i64 1)), .none⟩,
     ⟨(.var 8), .mov (.t 0), .none⟩])))))))
 (.seq (.ops [⟨(.var 1), .mov (.c (.bool true)), .none⟩])
 .ret)))),
 [1]⟩
def c26 : AFunc := ⟨[0, 2, 3, 4, 22, 26, 80],
 (.seq (.ops [⟨(.var 1), .mov (.c (.bool false)), .none⟩])
 (.seq (.seq (.ops [⟨.tmp, .mov (.v 0), .none⟩,
   ⟨.tmp, .len (.t 0), .none⟩,
   ⟨.tmp, .bin .lss .arith (.t 1) (.c (.int .i64 1)), .none⟩,
   ⟨.tmp, .mov (.t 2), .none⟩,
   ⟨.tmp, .mov (.v 0), (some ((.t 3), false))⟩,
   ⟨.tmp, .len (.t 4), (some ((.t 3), false))⟩,
   ⟨.tmp, .bin .gtr .arith (.t 5) (.c (.int .i64 512)), (some ((.t 3), false))⟩,
   ⟨.tmp, .pick (.t 3) (.c (.bool true)) (.t 6), .none⟩,
   ⟨.tmp, .mov (.t 7), .none⟩,
   ⟨.tmp, .mov (.v 0), (some ((.t 8), false))⟩,
   ⟨.tmp, .mov (.v 0), (some ((.t 8), false))⟩,
   ⟨.tmp, .len (.t 10), (some ((.t 8), false))⟩,
   ⟨.tmp, .bin .sub .arith (.t 11) (.c (.int .i64 1)), (some ((.t 8), false))⟩,
   ⟨.tmp, .iaddr 8 (.t 9) (.t 12), (some ((.t 8), false))⟩,
   ⟨.tmp, .faddr 0 (.t 13), (some ((.t 8), false))⟩,
   ⟨.tmp, .load 1 false (.t 14), (some ((.t 8), false))⟩,
   ⟨.tmp, .bin .neq .arith (.t 15) (.c (.int .i64 3)), (some ((.t 8), false))⟩,
   ⟨(.var 4), .pick (.t 8) (.c (.bool true)) (.t 16), .none⟩])
 (.cond (.v 4)
  (.seq (.ops [⟨(.var 1), .mov (.c (.bool false)), .none⟩])
  .ret)
  .skip))
 (.seq (.seq (.ops [⟨(.var 2), .mov (.c (.int .i64 0)), .none⟩])
 (.block 0 (.loop (.seq (.seq (.ops [⟨.tmp, .mov (.v 2), .none⟩,
     ⟨.tmp, .mov (.v 0), .none⟩,
     ⟨.tmp, .len (.t 1), .none⟩,
     ⟨(.var 5), .bin .lss .arith (.t 0) (.t 2), .none⟩])
   (.cond (.v 5)
    .skip
    (.exit 0)))
   (.seq (.block 1 (.seq (.ops [⟨.tmp, .mov (.v 0), .none⟩,
      ⟨.tmp, .mov (.v 2), .none⟩,
      ⟨.tmp, .iaddr 8 (.t 0) (.t 1), .none⟩,
      ⟨.tmp, .load 8 true (.t 2), .none⟩,
      ⟨(.var 3), .alloc 47 8 true [(.int .i64 0), (.str []), (.int .i64 0), (.int .i64 0), (.bool false), (.int .i64 0), (.int .i64 0), (.int .i64 0)], .none⟩,
      ⟨.no, .store 8 (.v 3) (.t 3), .none⟩])
    (.seq (.ops [⟨.tmp, .faddr 0 (.v 3), .none⟩,
      ⟨.tmp, .load 1 false (.t 0), .none⟩,
      ⟨.tmp, .bin .lss .arith (.t 1) (.c (.int .i64 0)), .none⟩,
      ⟨.tmp, .mov (.t 2), .none⟩,
      ⟨.tmp, .faddr 0 (.v 3), (some ((.t 3), false))⟩,
      ⟨.tmp, .load 1 false (.t 4), (some ((.t 3), false))⟩,
      ⟨.tmp, .bin .gtr .arith (.t 5) (.c (.int .i64 3)), (some ((.t 3), false))⟩,
      ⟨.tmp, .pick (.t 3) (.c (.bool true)) (.t 6), .none⟩,
      ⟨.tmp, .mov (.t 7), .none⟩,
      ⟨.tmp, .faddr 2 (.v 3), (some ((.t 8), false))⟩,
      ⟨.tmp, .load 1 false (.t 9), (some ((.t 8), false))⟩,
      ⟨.tmp, .bin .lss .arith (.t 10) (.c (.int .i64 0)), (some ((.t 8), false))⟩,
      ⟨.tmp, .pick (.t 8) (.c (.bool true)) (.t 11), .none⟩,
      ⟨.tmp, .mov (.t 12), .none⟩,
      ⟨.tmp, .faddr 2 (.v 3), (some ((.t 13), false))⟩,
      ⟨.tmp, .load 1 false (.t 14), (some ((.t 13), false))⟩,
      ⟨.tmp, .bin .gtr .arith (.t 15) (.c (.int .i64 65536)), (some ((.t 13), false))⟩,
      ⟨.tmp, .pick (.t 13) (.c (.bool true)) (.t 16), .none⟩,
      ⟨.tmp, .mov (.t 17), .none⟩,
      ⟨.tmp, .faddr 3 (.v 3), (some ((.t 18), false))⟩,
      ⟨.tmp, .load 1 false (.t 19), (some ((.t 18), false))⟩,
      ⟨.tmp, .bin .lss .arith (.t 20) (.c (.int .i64 0)), (some ((.t 18), false))⟩,
      ⟨.tmp, .pick (.t 18) (.c (.bool true)) (.t 21), .none⟩,
      ⟨.tmp, .mov (.t 22), .none⟩,
      ⟨.tmp, .faddr 3 (.v 3), (some ((.t 23), false))⟩,
      ⟨.tmp, .load 1 false (.t 24), (some ((.t 23), false))⟩,
      ⟨.tmp, .bin .gtr .arith (.t 25) (.c (.int .i64 1048576)), (some ((.t 23), false))⟩,
      ⟨.tmp, .pick (.t 23) (.c (.bool true)) (.t 26), .none⟩,
      ⟨.tmp, .mov (.t 27), .none⟩,
      ⟨.tmp, .faddr 0 (.v 3), (some ((.t 28), false))⟩,
      ⟨.tmp, .load 1 false (.t 29), (some ((.t 28), false))⟩,
      ⟨.tmp, .bin .neq .arith (.t 30) (.c (.int .i64 2)), (some ((.t 28), false))⟩,
      ⟨.tmp, .mov (.t 31), (some ((.t 28), false))⟩,
      ⟨.tmp, .faddr 3 (.v 3), (some ((.t 32), true))⟩,
      ⟨.tmp, .load 1 false (.t 33), (some ((.t 32), true))⟩,
      ⟨.tmp, .bin .gtr .arith (.t 34) (.c (.int .i64 0)), (some ((.t 32), true))⟩,
      ⟨.tmp, .pick (.t 32) (.t 35) (.c (.bool false)), (some ((.t 28), false))⟩,
      ⟨.tmp, .pick (.t 28) (.c (.bool true)) (.t 36), .none⟩,
      ⟨.tmp, .mov (.t 37), .none⟩,
      ⟨.tmp, .faddr 0 (.v 3), (some ((.t 38), false))⟩,
      ⟨.tmp, .load 1 false (.t 39), (some ((.t 38), false))⟩,
      ⟨.tmp, .bin .eql .arith (.t 40) (.c (.int .i64 3)), (some ((.t 38), false))⟩,
      ⟨.tmp, .mov (.t 41), (some ((.t 38), false))⟩,
      ⟨.tmp, .faddr 2 (.v 3), (some ((.t 42), true))⟩,
      ⟨.tmp, .load 1 false (.t 43), (some ((.t 42), true))⟩,
      ⟨.tmp, .bin .gtr .arith (.t 44) (.c (.int .i64 0)), (some ((.t 42), true))⟩,
      ⟨.tmp, .pick (.t 42) (.t 45) (.c (.bool false)), (some ((.t 38), false))⟩,
      ⟨(.var 6), .pick (.t 38) (.c (.bool true)) (.t 46), .none⟩])
    (.cond (.v 6)
     (.seq (.ops [⟨(.var 1), .mov (.c (.bool false)), .none⟩])
     .ret)
     .skip))))
   (.ops [⟨.tmp, .mov (.v 2), .none⟩,
     ⟨.tmp, .bin .add .arith (.t 0) (.c (.int .i64 1)), .none⟩,
     ⟨(.var 2), .mov (.t 1), .none⟩]))))))
 (.seq (.ops [⟨(.var 1), .mov (.c (.bool true)), .none⟩])
 .ret)))),
 [1]⟩
def c27 : AFunc := ⟨[0, 1, 2, 3, 6, 8, 9, 27],
 (.seq (.ops [⟨(.var 4), .box 1 false (.v 2), .none⟩,
   ⟨(.var 5), .mov (.c (.int .i64 0)), .none⟩])
 (.seq (.seq (.ops [⟨.tmp, .mov (.v 0), .none⟩,
   ⟨.tmp, .mov (.v 3), .none⟩,
   ⟨.tmp, .pcall 33 [(.t 0), (.t 1)], .none⟩,
   ⟨.tmp, .un .not (.t 2), .none⟩,
   ⟨.tmp, .mov (.t 3), .none⟩,
   ⟨.tmp, .mov (.v 1), (some ((.t 4), false))⟩,
   ⟨.tmp, .mov (.v 0), (some ((.t 4), false))⟩,
   ⟨.tmp, .len (.t 6), (some ((.t 4), false))⟩,
   ⟨.tmp, .bin .sub .arith (.t 7) (.c (.int .i64 1)), (some ((.t 4), false))⟩,
   ⟨.tmp, .pcall 52 [(.t 5), (.c (.int .i64 0)), (.t 8)], (some ((.t 4), false))⟩,
   ⟨.tmp, .un .not (.t 9), (some ((.t 4), false))⟩,
   ⟨.tmp, .pick (.t 4) (.c (.bool true)) (.t 10), .none⟩,
   ⟨.tmp, .mov (.t 11), .none⟩,
   ⟨.tmp, .mov (.v 0), (some ((.t 12), false))⟩,
   ⟨.tmp, .mov (.v 1), (some ((.t 12), false))⟩,
   ⟨.tmp, .pcall 34 [(.t 13), (.t 14)], (some ((.t 12), false))⟩,
   ⟨.tmp, .un .not (.t 15), (some ((.t 12), false))⟩,
   ⟨(.var 7), .pick (.t 12) (.c (.bool true)) (.t 16), .none⟩])
 (.cond (.v 7)
  (.seq (.ops [⟨(.var 5), .mov (.c (.int .i64 (-1))), .none⟩])
  .ret)
  .skip))
 (.seq (.ops [⟨(.var 6), .alloc 3 1 false [(.int .i64 0)], .none⟩,
   ⟨.no, .store 1 (.v 6) (.c (.int .i64 (-1))), .none⟩])
 (.seq (.ops [⟨.tmp, .mov (.v 0), .none⟩,
   ⟨.tmp, .mov (.v 1), .none⟩,
   ⟨.tmp, .mov (.v 3), .none⟩,
   ⟨.tmp, .clo 53 [(.v 4), (.v 6)], .none⟩,
   ⟨.tmp, .call (.c (.fn 35 [])) [(.t 0), (.t 1), (.t 2), (.t 3)], .none⟩])
 (.seq (.ops [⟨.tmp, .load 1 false (.v 6), .none⟩,
   ⟨(.var 5), .mov (.t 0), .none⟩])
 .ret))))),
 [5]⟩
def c28 : AFunc := ⟨[0, 1, 2, 3, 8, 9, 10, 59, 64, 72, 79, 86],
 (.seq (.ops [⟨(.var 4), .mov (.c (.int .i64 0)), .none⟩])
 (.seq (.seq (.ops [⟨.tmp, .mov (.v 0), .none⟩,
   ⟨.tmp, .mov (.v 3), .none⟩,
   ⟨.tmp, .pcall 38 [(.t 0), (.t 1)], .none⟩,
   ⟨.tmp, .un .not (.t 2), .none⟩,
   ⟨.tmp, .mov (.t 3), .none⟩,
   ⟨.tmp, .mov (.v 1), (some ((.t 4), false))⟩,
   ⟨.tmp, .bin .lss .arith (.t 5) (.c (.int .i64 0)), (some ((.t 4), false))⟩,
   ⟨.tmp, .pick (.t 4) (.c (.bool true)) (.t 6), .none⟩,
   ⟨.tmp, .mov (.t 7), .none⟩,
   ⟨.tmp, .mov (.v 2), (some ((.t 8), false))⟩,
   ⟨.tmp, .mov (.v 1), (some ((.t 8), false))⟩,
   ⟨.tmp, .bin .leq .arith (.t 9) (.t 10), (some ((.t 8), false))⟩,
   ⟨.tmp, .pick (.t 8) (.c (.bool true)) (.t 11), .none⟩,
   ⟨.tmp, .mov (.t 12), .none⟩,
   ⟨.tmp, .mov (.v 2), (some ((.t 13), false))⟩,
   ⟨.tmp, .mov (.v 0), (some ((.t 13), false))⟩,
   ⟨.tmp, .len (.t 15), (some ((.t 13), false))⟩,
   ⟨.tmp, .bin .gtr .arith (.t 14) (.t 16), (some ((.t 13), false))⟩,
   ⟨.tmp, .pick (.t 13) (.c (.bool true)) (.t 17), .none⟩,
   ⟨.tmp, .mov (.t 18), .none⟩,
   ⟨.tmp, .mov (.v 0), (some ((.t 19), false))⟩,
   ⟨.tmp, .mov (.v 1), (some ((.t 19), false))⟩,
   ⟨.tmp, .iaddr 8 (.t 20) (.t 21), (some ((.t 19), false))⟩,
   ⟨.tmp, .faddr 0 (.t 22), (some ((.t 19), false))⟩,
   ⟨.tmp, .load 1 false (.t 23), (some ((.t 19), false))⟩,
   ⟨.tmp, .bin .eql .arith (.t 24) (.c (.int .i64 1)), (some ((.t 19), false))⟩,
   ⟨.tmp, .pick (.t 19) (.c (.bool true)) (.t 25), .none⟩,
   ⟨.tmp, .mov (.t 26), .none⟩,
   ⟨.tmp, .mov (.v 1), (some ((.t 27), false))⟩,
   ⟨.tmp, .bin .gtr .arith (.t 28) (.c (.int .i64 0)), (some ((.t 27), false))⟩,
   ⟨.tmp, .mov (.t 29), (some ((.t 27), false))⟩,
   ⟨.tmp, .mov (.v 0), (some ((.t 30), true))⟩,
   ⟨.tmp, .mov (.v 1), (some ((.t 30), true))⟩,
   ⟨.tmp, .bin .sub .arith (.t 32) (.c (.int .i64 1)), (some ((.t 30), true))⟩,
   ⟨.tmp, .iaddr 8 (.t 31) (.t 33), (some ((.t 30), true))⟩,
   ⟨.tmp, .faddr 0 (.t 34), (some ((.t 30), true))⟩,
   ⟨.tmp, .load 1 false (.t 35), (some ((.t 30), true))⟩,
   ⟨.tmp, .bin .eql .arith (.t 36) (.c (.int .i64 0)), (some ((.t 30), true))⟩,
   ⟨.tmp, .pick (.t 30) (.t 37) (.c (.bool false)), (some ((.t 27), false))⟩,
   ⟨.tmp, .pick (.t 27) (.c (.bool true)) (.t 38), .none⟩,
   ⟨.tmp, .mov (.t 39), .none⟩,
   ⟨.tmp, .mov (.v 0), (some ((.t 40), false))⟩,
   ⟨.tmp, .mov (.v 2), (some ((.t 40), false))⟩,
   ⟨.tmp, .bin .sub .arith (.t 42) (.c (.int .i64 1)), (some ((.t 40), false))⟩,
   ⟨.tmp, .iaddr 8 (.t 41) (.t 43), (some ((.t 40), false))⟩,
   ⟨.tmp, .faddr 0 (.t 44), (some ((.t 40), false))⟩,
   ⟨.tmp, .load 1 false (.t 45), (some ((.t 40), false))⟩,
   ⟨.tmp, .bin .eql .arith (.t 46) (.c (.int .i64 0)), (some ((.t 40), false))⟩,
   ⟨(.var 7), .pick (.t 40) (.c (.bool true)) (.t 47), .none⟩])
 (.cond (.v 7)
  (.seq (.ops [⟨(.var 4), .mov (.c (.int .i64 (-1))), .none⟩])
  .ret)
  .skip))
 (.seq (.seq (.ops [⟨.tmp, .mov (.v 1), .none⟩,
   ⟨(.var 5), .mov (.t 0), .none⟩])
 (.block 0 (.loop (.seq (.seq (.ops [⟨.tmp, .mov (.v 5), .none⟩,
     ⟨.tmp, .mov (.v 2), .none⟩,
     ⟨.tmp, .bin .sub .arith (.t 1) (.c (.int .i64 1)), .none⟩,
     ⟨(.var 8), .bin .lss .arith (.t 0) (.t 2), .none⟩])
   (.cond (.v 8)
    .skip
    (.exit 0)))
   (.seq (.block 1 (.seq (.ops [⟨.tmp, .mov (.v 0), .none⟩,
      ⟨.tmp, .mov (.v 5), .none⟩,
      ⟨.tmp, .iaddr 8 (.t 0) (.t 1), .none⟩,
      ⟨.tmp, .faddr 0 (.t 2), .none⟩,
      ⟨.tmp, .load 1 false (.t 3), .none⟩,
      ⟨(.var 9), .bin .eql .arith (.t 4) (.c (.int .i64 3)), .none⟩])
    (.cond (.v 9)
     (.seq (.ops [⟨(.var 4), .mov (.c (.int .i64 (-1))), .none⟩])
     .ret)
     .skip)))
   (.ops [⟨.tmp, .mov (.v 5), .none⟩,
     ⟨.tmp, .bin .add .arith (.t 0) (.c (.int .i64 1)), .none⟩,
     ⟨(.var 5), .mov (.t 1), .none⟩]))))))
 (.seq (.ops [⟨.tmp, .mov (.v 0), .none⟩,
   ⟨.tmp, .mov (.v 1), .none⟩,
   ⟨.tmp, .mov (.v 2), .none⟩,
   ⟨.tmp, .pcall 31 [(.t 0), (.t 1), (.t 2)], .none⟩,
   ⟨(.var 6), .mov (.t 3), .none⟩])
 (.seq (.seq (.ops [⟨.tmp, .mov (.v 6), .none⟩,
   ⟨.tmp, .mov (.v 3), .none⟩,
   ⟨(.var 10), .bin .gtr .arith (.t 0) (.t 1), .none⟩])
 (.cond (.v 10)
  (.seq (.ops [⟨(.var 4), .mov (.c (.int .i64 (-1))), .none⟩])
  .ret)
  .skip))
 (.seq (.seq (.ops [⟨.tmp, .mov (.v 0), .none⟩,
   ⟨.tmp, .mov (.v 2), .none⟩,
   ⟨.tmp, .bin .sub .arith (.t 1) (.c (.int .i64 1)), .none⟩,
   ⟨.tmp, .iaddr 8 (.t 0) (.t 2), .none⟩,
   ⟨.tmp, .faddr 0 (.t 3), .none⟩,
   ⟨.tmp, .load 1 false (.t 4), .none⟩,
   ⟨(.var 11), .bin .eql .arith (.t 5) (.c (.int .i64 3)), .none⟩])
 (.cond (.v 11)
  (.seq (.ops [⟨(.var 4), .mov (.c (.int .i64 0)), .none⟩])
  .ret)
  .skip))
 (.seq (.ops [⟨.tmp, .mov (.v 3), .none⟩,
   ⟨.tmp, .mov (.v 6), .none⟩,
   ⟨.tmp, .bin .sub .arith (.t 0) (.t 1), .none⟩,
   ⟨.tmp, .mov (.v 3), .none⟩,
   ⟨.tmp, .mov (.v 6), .none⟩,
   ⟨.tmp, .bin .sub .arith (.t 3) (.t 4), .none⟩,
   ⟨.tmp, .bin .mul .arith (.t 2) (.t 5), .none⟩,
   ⟨.tmp, .mov (.v 0), .none⟩,
   ⟨.tmp, .mov (.v 2), .none⟩,
   ⟨.tmp, .bin .sub .arith (.t 8) (.c (.int .i64 1)), .none⟩,
   ⟨.tmp, .iaddr 8 (.t 7) (.t 9), .none⟩,
   ⟨.tmp, .faddr 3 (.t 10), .none⟩,
   ⟨.tmp, .load 1 false (.t 11), .none⟩,
   ⟨.tmp, .bin .add .arith (.t 6) (.t 12), .none⟩,
   ⟨(.var 4), .mov (.t 13), .none⟩])
 .ret))))))),
 [4]⟩
def c29 : AFunc := ⟨[0, 1, 4, 5, 19],
 (.seq (.ops [⟨(.var 2), .mov (.c (.int .i64 0)), .none⟩])
 (.seq (.ops [⟨.tmp, .mov (.v 1), .none⟩,
   ⟨.tmp, .bin .add .arith (.t 0) (.c (.int .i64 1)), .none⟩,
   ⟨(.var 3), .mov (.t 1), .none⟩])
 (.seq (.block 0 (.loop (.seq (.seq (.ops [⟨.tmp, .mov (.v 3), .none⟩,
     ⟨.tmp, .mov (.v 0), .none⟩,
     ⟨.tmp, .len (.t 1), .none⟩,
     ⟨.tmp, .bin .lss .arith (.t 0) (.t 2), .none⟩,
     ⟨.tmp, .mov (.t 3), .none⟩,
     ⟨.tmp, .mov (.v 0), (some ((.t 4), true))⟩,
     ⟨.tmp, .mov (.v 3), (some ((.t 4), true))⟩,
     ⟨.tmp, .iaddr 8 (.t 5) (.t 6), (some ((.t 4), true))⟩,
     ⟨.tmp, .faddr 0 (.t 7), (some ((.t 4), true))⟩,
     ⟨.tmp, .load 1 false (.t 8), (some ((.t 4), true))⟩,
     ⟨.tmp, .bin .eql .arith (.t 9) (.c (.int .i64 1)), (some ((.t 4), true))⟩,
     ⟨(.var 4), .pick (.t 4) (.t 10) (.c (.bool false)), .none⟩])
   (.cond (.v 4)
    .skip
    (.exit 0)))
   (.block 1 (.ops [⟨.tmp, .mov (.v 3), .none⟩,
      ⟨.tmp, .bin .add .arith (.t 0) (.c (.int .i64 1)), .none⟩,
      ⟨(.var 3), .mov (.t 1), .none⟩])))))
 (.seq (.ops [⟨.tmp, .mov (.v 3), .none⟩,
   ⟨(.var 2), .mov (.t 0), .none⟩])
 .ret)))),
 [2]⟩
def c30 : AFunc := ⟨[0, 1, 2, 6, 14],
 (.seq (.ops [⟨(.var 3), .mov (.c (.int .i64 0)), .none⟩])
 (.seq (.seq (.ops [⟨.tmp, .mov (.v 1), .none⟩,
   ⟨.tmp, .bin .lss .arith (.t 0) (.c (.int .i64 0)), .none⟩,
   ⟨.tmp, .mov (.t 1), .none⟩,
   ⟨.tmp, .mov (.v 1), (some ((.t 2), false))⟩,
   ⟨.tmp, .mov (.v 0), (some ((.t 2), false))⟩,
   ⟨.tmp, .len (.t 4), (some ((.t 2), false))⟩,
   ⟨.tmp, .bin .geq .arith (.t 3) (.t 5), (some ((.t 2), false))⟩,
   ⟨(.var 4), .pick (.t 2) (.c (.bool true)) (.t 6), .none⟩])
 (.cond (.v 4)
  (.seq (.ops [⟨(.var 3), .mov (.c (.int .i64 0)), .none⟩])
  .ret)
  .skip))
 (.seq (.ops [⟨.tmp, .mov (.v 0), .none⟩,
   ⟨.tmp, .mov (.v 1), .none⟩,
   ⟨.tmp, .iaddr 1 (.t 0) (.t 1), .none⟩,
   ⟨.tmp, .load 1 false (.t 2), .none⟩,
   ⟨.tmp, .mov (.v 2), .none⟩,
   ⟨.tmp, .pcall 12 [(.t 3), (.t 4)], .none⟩,
   ⟨(.var 3), .mov (.t 5), .none⟩])
 .ret))),
 [3]⟩
def c31 : AFunc := ⟨[0, 1, 2, 6, 7, 8, 13, 21, 35],
 (.seq (.ops [⟨(.var 3), .mov (.c (.int .i64 0)), .none⟩])
 (.seq (.ops [⟨(.var 4), .mov (.c (.int .i64 0)), .none⟩])
 (.seq (.seq (.ops [⟨.tmp, .mov (.v 1), .none⟩,
   ⟨(.var 5), .mov (.t 0), .none⟩])
 (.block 0 (.loop (.seq (.seq (.ops [⟨.tmp, .mov (.v 5), .none⟩,
     ⟨.tmp, .mov (.v 2), .none⟩,
     ⟨.tmp, .bin .sub .arith (.t 1) (.c (.int .i64 1)), .none⟩,
     ⟨(.var 6), .bin .lss .arith (.t 0) (.t 2), .none⟩])
   (.cond (.v 6)
    .skip
    (.exit 0)))
   (.seq (.block 1 (.seq (.ops [⟨.tmp, .mov (.v 0), .none⟩,
      ⟨.tmp, .mov (.v 5), .none⟩,
      ⟨.tmp, .iaddr 8 (.t 0) (.t 1), .none⟩,
      ⟨.tmp, .faddr 0 (.t 2), .none⟩,
      ⟨.tmp, .load 1 false (.t 3), .none⟩,
      ⟨(.var 7), .bin .neq .arith (.t 4) (.c (.int .i64 2)), .none⟩])
    (.cond (.v 7)
     (.ops [⟨.tmp, .mov (.v 4), .none⟩,
       ⟨.tmp, .mov (.v 0), .none⟩,
       ⟨.tmp, .mov (.v 5), .none⟩,
       ⟨.tmp, .iaddr 8 (.t 1) (.t 2), .none⟩,
       ⟨.tmp, .faddr 2 (.t 3), .none⟩,
       ⟨.tmp, .load 1 false (.t 4), .none⟩,
       ⟨.tmp, .bin .add .arith (.t 0) (.t 5), .none⟩,
       ⟨(.var 4), .mov (.t 6), .none⟩])
     .skip)))
   (.ops [⟨.tmp, .mov (.v 5), .none⟩,
     ⟨.tmp, .bin .add .arith (.t 0) (.c (.int .i64 1)), .none⟩,
     ⟨(.var 5), .mov (.t 1), .none⟩]))))))
 (.seq (.seq (.ops [⟨.tmp, .mov (.v 0), .none⟩,
   ⟨.tmp, .mov (.v 2), .none⟩,
   ⟨.tmp, .bin .sub .arith (.t 1) (.c (.int .i64 1)), .none⟩,
   ⟨.tmp, .iaddr 8 (.t 0) (.t 2), .none⟩,
   ⟨.tmp, .faddr 0 (.t 3), .none⟩,
   ⟨.tmp, .load 1 false (.t 4), .none⟩,
   ⟨(.var 8), .bin .eql .arith (.t 5) (.c (.int .i64 2)), .none⟩])
 (.cond (.v 8)
  (.ops [⟨.tmp, .mov (.v 4), .none⟩,
    ⟨.tmp, .mov (.v 0), .none⟩,
    ⟨.tmp, .mov (.v 2), .none⟩,
    ⟨.tmp, .bin .sub .arith (.t 2) (.c (.int .i64 1)), .none⟩,
    ⟨.tmp, .iaddr 8 (.t 1) (.t 3), .none⟩,
    ⟨.tmp, .faddr 2 (.t 4), .none⟩,
    ⟨.tmp, .load 1 false (.t 5), .none⟩,
    ⟨.tmp, .bin .add .arith (.t 0) (.t 6), .none⟩,
    ⟨(.var 4), .mov (.t 7), .none⟩])
  .skip))
 (.seq (.ops [⟨.tmp, .mov (.v 4), .none⟩,
   ⟨(.var 3), .mov (.t 0), .none⟩])
 .ret))))),
 [3]⟩
def c32 : AFunc := ⟨[0, 2, 3, 4, 8, 20],
 (.seq (.ops [⟨(.var 1), .mov (.c (.str [])), .none⟩])
 (.seq (.ops [⟨(.var 2), .mov (.c (.str [])), .none⟩])
 (.seq (.seq (.ops [⟨(.var 3), .mov (.c (.int .i64 0)), .none⟩])
 (.block 0 (.loop (.seq (.seq (.ops [⟨.tmp, .mov (.v 3), .none⟩,
     ⟨.tmp, .mov (.v 0), .none⟩,
     ⟨.tmp, .slen (.t 1), .none⟩,
     ⟨(.var 4), .bin .lss .arith (.t 0) (.t 2), .none⟩])
   (.cond (.v 4)
    .skip
    (.exit 0)))
   (.seq (.block 1 (.seq (.ops [⟨.tmp, .mov (.v 0), .none⟩,
      ⟨.tmp, .mov (.v 3), .none⟩,
      ⟨.tmp, .sidx (.t 0) (.t 1), .none⟩,
      ⟨.tmp, .bin .neq .arith (.t 2) (.c (.int .u8 32)), .none⟩,
      ⟨.tmp, .mov (.t 3), .none⟩,
      ⟨.tmp, .mov (.v 0), (some ((.t 4), true))⟩,
      ⟨.tmp, .mov (.v 3), (some ((.t 4), true))⟩,
      ⟨.tmp, .sidx (.t 5) (.t 6), (some ((.t 4), true))⟩,
      ⟨.tmp, .bin .neq .arith (.t 7) (.c (.int .u8 45)), (some ((.t 4), true))⟩,
      ⟨(.var 5), .pick (.t 4) (.t 8) (.c (.bool false)), .none⟩])
    (.cond (.v 5)
     (.ops [⟨.tmp, .mov (.v 2), .none⟩,
       ⟨.tmp, .mov (.v 0), .none⟩,
       ⟨.tmp, .mov (.v 3), .none⟩,
       ⟨.tmp, .mov (.v 3), .none⟩,
       ⟨.tmp, .bin .add .arith (.t 3) (.c (.int .i64 1)), .none⟩,
       ⟨.tmp, .sslice (.t 1) (some (.t 2)) (some (.t 4)), .none⟩,
       ⟨.tmp, .bin .add .arith (.t 0) (.t 5), .none⟩,
       ⟨(.var 2), .mov (.t 6), .none⟩])
     .skip)))
   (.ops [⟨.tmp, .mov (.v 3), .none⟩,
     ⟨.tmp, .bin .add .arith (.t 0) (.c (.int .i64 1)), .none⟩,
     ⟨(.var 3), .mov (.t 1), .none⟩]))))))
 (.seq (.ops [⟨.tmp, .mov (.v 2), .none⟩,
   ⟨(.var 1), .mov (.t 0), .none⟩])
 .ret)))),
 [1]⟩
def c33 : AFunc := ⟨[0, 1, 4],
 (.seq (.ops [⟨(.var 2), .mov (.c (.bool false)), .none⟩])
 (.seq (.ops [⟨.tmp, .mov (.v 1), .none⟩,
   ⟨.tmp, .pcall 52 [(.t 0), (.c (.int .i64 1)), (.c (.int .i64 65536))], .none⟩,
   ⟨.tmp, .mov (.t 1), .none⟩,
   ⟨.tmp, .mov (.v 0), (some ((.t 2), true))⟩,
   ⟨.tmp, .pcall 25 [(.t 3)], (some ((.t 2), true))⟩,
   ⟨.tmp, .pick (.t 2) (.t 4) (.c (.bool false)), .none⟩,
   ⟨(.var 2), .mov (.t 5), .none⟩])
 .ret)),
 [2]⟩
def c34 : AFunc := ⟨[0, 1, 4],
 (.seq (.ops [⟨(.var 2), .mov (.c (.bool false)), .none⟩])
 (.seq (.ops [⟨.tmp, .mov (.v 0), .none⟩,
   ⟨.tmp, .mov (.v 1), .none⟩,
   ⟨.tmp, .iaddr 8 (.t 0) (.t 1), .none⟩,
   ⟨.tmp, .faddr 0 (.t 2), .none⟩,
   ⟨.tmp, .load 1 false (.t 3), .none⟩,
   ⟨.tmp, .bin .neq .arith (.t 4) (.c (.int .i64 1)), .none⟩,
   ⟨.tmp, .mov (.t 5), .none⟩,
   ⟨.tmp, .mov (.v 1), (some ((.t 6), true))⟩,
   ⟨.tmp, .bin .eql .arith (.t 7) (.c (.int .i64 0)), (some ((.t 6), true))⟩,
   ⟨.tmp, .mov (.t 8), (some ((.t 6), true))⟩,
   ⟨.tmp, .mov (.v 0), (some ((.t 9), false))⟩,
   ⟨.tmp, .mov (.v 1), (some ((.t 9), false))⟩,
   ⟨.tmp, .bin .sub .arith (.t 11) (.c (.int .i64 1)), (some ((.t 9), false))⟩,
   ⟨.tmp, .iaddr 8 (.t 10) (.t 12), (some ((.t 9), false))⟩,
   ⟨.tmp, .faddr 0 (.t 13), (some ((.t 9), false))⟩,
   ⟨.tmp, .load 1 false (.t 14), (some ((.t 9), false))⟩,
   ⟨.tmp, .bin .neq .arith (.t 15) (.c (.int .i64 0)), (some ((.t 9), false))⟩,
   ⟨.tmp, .pick (.t 9) (.c (.bool true)) (.t 16), (some ((.t 6), true))⟩,
   ⟨.tmp, .pick (.t 6) (.t 17) (.c (.bool false)), .none⟩,
   ⟨(.var 2), .mov (.t 18), .none⟩])
 .ret)),
 [2]⟩
def c35 : AFunc := ⟨[0, 1, 2, 3, 8, 9, 10, 11, 16, 24, 25, 31, 35, 54, 62, 80, 84],
 (.seq .skip
 (.seq (.ops [⟨(.var 4), .mov (.c (.int .i64 0)), .none⟩])
 (.seq .skip
 (.seq (.ops [⟨.tmp, .mov (.v 1), .none⟩,
   ⟨(.var 5), .mov (.t 0), .none⟩])
 (.block 0 (.loop (.seq (.seq (.ops [⟨.tmp, .mov (.v 5), .none⟩,
     ⟨.tmp, .mov (.v 0), .none⟩,
     ⟨.tmp, .len (.t 1), .none⟩,
     ⟨(.var 8), .bin .lss .arith (.t 0) (.t 2), .none⟩])
   (.cond (.v 8)
    .skip
    (.exit 0)))
   (.seq (.block 1 (.seq (.ops [⟨.tmp, .mov (.v 0), .none⟩,
      ⟨.tmp, .mov (.v 5), .none⟩,
      ⟨.tmp, .iaddr 8 (.t 0) (.t 1), .none⟩,
      ⟨.tmp, .load 8 true (.t 2), .none⟩,
      ⟨(.var 6), .alloc 47 8 true [(.int .i64 0), (.str []), (.int .i64 0), (.int .i64 0), (.bool false), (.int .i64 0), (.int .i64 0), (.int .i64 0)], .none⟩,
      ⟨.no, .store 8 (.v 6) (.t 3), .none⟩])
    (.seq (.ops [⟨.tmp, .faddr 0 (.v 6), .none⟩,
      ⟨(.var 9), .load 1 false (.t 0), .none⟩])
    (.block 2 (.seq (.ops [⟨.tmp, .bin .eql .arith (.v 9) (.c (.int .i64 0)), .none⟩,
       ⟨(.var 10), .mov (.t 0), .none⟩])
     (.cond (.v 10)
      (.ops [⟨.tmp, .mov (.v 4), .none⟩,
        ⟨.tmp, .faddr 2 (.v 6), .none⟩,
        ⟨.tmp, .load 1 false (.t 1), .none⟩,
        ⟨.tmp, .bin .add .arith (.t 0) (.t 2), .none⟩,
        ⟨(.var 4), .mov (.t 3), .none⟩])
      (.seq (.ops [⟨.tmp, .bin .eql .arith (.v 9) (.c (.int .i64 1)), .none⟩,
        ⟨(.var 11), .mov (.t 0), .none⟩])
      (.cond (.v 11)
       (.seq (.seq (.ops [⟨.tmp, .mov (.v 4), .none⟩,
         ⟨.tmp, .mov (.v 2), .none⟩,
         ⟨(.var 12), .bin .gtr .arith (.t 0) (.t 1), .none⟩])
       (.cond (.v 12)
        (.exit 0)
        .skip))
       (.seq (.ops [⟨.tmp, .mov (.v 3), .none⟩,
         ⟨.tmp, .mov (.v 1), .none⟩,
         ⟨.tmp, .mov (.v 5), .none⟩,
         ⟨.tmp, .bin .add .arith (.t 2) (.c (.int .i64 1)), .none⟩,
         ⟨.tmp, .mov (.v 4), .none⟩,
         ⟨.tmp, .build [(.int .i64 0), (.int .i64 0), (.int .i64 0)] [(0, 1, (.t 1)), (1, 1, (.t 3)), (2, 1, (.t 4))], .none⟩,
         ⟨.tmp, .mov (.v 2), .none⟩,
         ⟨.tmp, .mov (.v 4), .none⟩,
         ⟨.tmp, .bin .sub .arith (.t 6) (.t 7), .none⟩,
         ⟨.tmp, .mov (.v 2), .none⟩,
         ⟨.tmp, .mov (.v 4), .none⟩,
         ⟨.tmp, .bin .sub .arith (.t 9) (.t 10), .none⟩,
         ⟨.tmp, .bin .mul .arith (.t 8) (.t 11), .none⟩,
         ⟨.tmp, .call (.t 0) [(.t 5), (.t 12)], .none⟩])
       (.ops [⟨.tmp, .mov (.v 4), .none⟩,
         ⟨.tmp, .faddr 2 (.v 6), .none⟩,
         ⟨.tmp, .load 1 false (.t 1), .none⟩,
         ⟨.tmp, .bin .add .arith (.t 0) (.t 2), .none⟩,
         ⟨(.var 4), .mov (.t 3), .none⟩])))
       (.seq (.ops [⟨.tmp, .bin .eql .arith (.v 9) (.c (.int .i64 2)), .none⟩,
         ⟨(.var 13), .mov (.t 0), .none⟩])
       (.cond (.v 13)
        (.seq (.ops [⟨.tmp, .mov (.v 4), .none⟩,
          ⟨.tmp, .faddr 2 (.v 6), .none⟩,
          ⟨.tmp, .load 1 false (.t 1), .none⟩,
          ⟨.tmp, .bin .add .arith (.t 0) (.t 2), .none⟩,
          ⟨(.var 7), .mov (.t 3), .none⟩])
        (.seq (.ops [⟨.tmp, .mov (.v 7), .none⟩,
          ⟨.tmp, .mov (.v 2), .none⟩,
          ⟨(.var 14), .bin .leq .arith (.t 0) (.t 1), .none⟩])
        (.cond (.v 14)
         (.ops [⟨.tmp, .mov (.v 3), .none⟩,
           ⟨.tmp, .mov (.v 1), .none⟩,
           ⟨.tmp, .mov (.v 5), .none⟩,
           ⟨.tmp, .bin .add .arith (.t 2) (.c (.int .i64 1)), .none⟩,
           ⟨.tmp, .mov (.v 7), .none⟩,
           ⟨.tmp, .build [(.int .i64 0), (.int .i64 0), (.int .i64 0)] [(0, 1, (.t 1)), (1, 1, (.t 3)), (2, 1, (.t 4))], .none⟩,
           ⟨.tmp, .mov (.v 2), .none⟩,
           ⟨.tmp, .mov (.v 7), .none⟩,
           ⟨.tmp, .bin .sub .arith (.t 6) (.t 7), .none⟩,
           ⟨.tmp, .mov (.v 2), .none⟩,
           ⟨.tmp, .mov (.v 7), .none⟩,
           ⟨.tmp, .bin .sub .arith (.t 9) (.t 10), .none⟩,
           ⟨.tmp, .bin .mul .arith (.t 8) (.t 11), .none⟩,
           ⟨.tmp, .faddr 3 (.v 6), .none⟩,
           ⟨.tmp, .load 1 false (.t 13), .none⟩,
           ⟨.tmp, .bin .add .arith (.t 12) (.t 14), .none⟩,
           ⟨.tmp, .call (.t 0) [(.t 5), (.t 15)], .none⟩])
         .skip)))
        (.seq (.ops [⟨.tmp, .bin .eql .arith (.v 9) (.c (.int .i64 3)), .none⟩,
          ⟨(.var 15), .mov (.t 0), .none⟩])
        (.cond (.v 15)
         (.seq (.seq (.ops [⟨.tmp, .mov (.v 4), .none⟩,
           ⟨.tmp, .mov (.v 2), .none⟩,
           ⟨(.var 16), .bin .leq .arith (.t 0) (.t 1), .none⟩])
         (.cond (.v 16)
          (.ops [⟨.tmp, .mov (.v 3), .none⟩,
            ⟨.tmp, .mov (.v 1), .none⟩,
            ⟨.tmp, .mov (.v 5), .none⟩,
            ⟨.tmp, .bin .add .arith (.t 2) (.c (.int .i64 1)), .none⟩,
            ⟨.tmp, .mov (.v 4), .none⟩,
            ⟨.tmp, .build [(.int .i64 0), (.int .i64 0), (.int .i64 0)] [(0, 1, (.t 1)), (1, 1, (.t 3)), (2, 1, (.t 4))], .none⟩,
            ⟨.tmp, .call (.t 0) [(.t 5), (.c (.int .i64 0))], .none⟩])
          .skip))
         (.exit 0))
         .skip))))))))))))
   (.ops [⟨.tmp, .mov (.v 5), .none⟩,
     ⟨.tmp, .bin .add .arith (.t 0) (.c (.int .i64 1)), .none⟩,
     ⟨(.var 5), .mov (.t 1), .none⟩]))))))))),
 []⟩
def c36 : AFunc := ⟨[0, 1, 2, 3, 4, 5, 7, 8, 9, 58],
 (.seq (.ops [⟨(.var 5), .box 3 true (.v 0), .none⟩])
 (.seq (.ops [⟨.tmp, .load 1 false (.v 2), .none⟩,
   ⟨.tmp, .load 1 false (.v 3), .none⟩,
   ⟨.tmp, .faddr 1 (.v 5), .none⟩,
   ⟨.tmp, .load 1 false (.t 2), .none⟩,
   ⟨.tmp, .bin .sub .arith (.t 3) (.c (.int .i64 1)), .none⟩,
   ⟨.tmp, .pcall 37 [(.t 1), (.t 4)], .none⟩,
   ⟨.tmp, .iaddr 6 (.t 0) (.t 5), .none⟩,
   ⟨.tmp, .load 6 true (.t 6), .none⟩,
   ⟨(.var 6), .alloc 60 6 true [(.bool false), (.int .i64 0), (.int .i64 0), (.int .i64 0), (.int .i64 0), (.int .i64 0)], .none⟩,
   ⟨.no, .store 6 (.v 6) (.t 7), .none⟩])
 (.seq (.ops [⟨.tmp, .mov (.v 1), .none⟩,
   ⟨.tmp, .faddr 1 (.v 6), .none⟩,
   ⟨.tmp, .load 1 false (.t 1), .none⟩,
   ⟨.tmp, .bin .add .arith (.t 0) (.t 2), .none⟩,
   ⟨.tmp, .faddr 2 (.v 6), .none⟩,
   ⟨.tmp, .load 1 false (.t 4), .none⟩,
   ⟨.tmp, .bin .add .arith (.c (.int .i64 1)) (.t 5), .none⟩,
   ⟨.tmp, .load 3 true (.v 5), .none⟩,
   ⟨.tmp, .build [(.bool false), (.int .i64 0), (.int .i64 0), (.int .i64 0), (.int .i64 0), (.int .i64 0)] [(0, 1, (.c (.bool true))), (1, 1, (.t 3)), (2, 1, (.t 6)), (3, 3, (.t 7))], .none⟩,
   ⟨(.var 7), .alloc 60 6 true [(.bool false), (.int .i64 0), (.int .i64 0), (.int .i64 0), (.int .i64 0), (.int .i64 0)], .none⟩,
   ⟨.no, .store 6 (.v 7) (.t 8), .none⟩])
 (.seq (.ops [⟨.tmp, .load 1 false (.v 2), .none⟩,
   ⟨.tmp, .load 1 false (.v 4), .none⟩,
   ⟨.tmp, .iaddr 6 (.t 0) (.t 1), .none⟩,
   ⟨.tmp, .load 6 true (.t 2), .none⟩,
   ⟨(.var 8), .alloc 60 6 true [(.bool false), (.int .i64 0), (.int .i64 0), (.int .i64 0), (.int .i64 0), (.int .i64 0)], .none⟩,
   ⟨.no, .store 6 (.v 8) (.t 3), .none⟩])
 (.seq (.ops [⟨.tmp, .faddr 0 (.v 6), .none⟩,
   ⟨.tmp, .load 1 false (.t 0), .none⟩,
   ⟨.tmp, .mov (.t 1), .none⟩,
   ⟨.tmp, .faddr 0 (.v 8), (some ((.t 2), true))⟩,
   ⟨.tmp, .load 1 false (.t 3), (some ((.t 2), true))⟩,
   ⟨.tmp, .un .not (.t 4), (some ((.t 2), true))⟩,
   ⟨.tmp, .mov (.t 5), (some ((.t 2), true))⟩,
   ⟨.tmp, .faddr 1 (.v 7), (some ((.t 6), false))⟩,
   ⟨.tmp, .load 1 false (.t 7), (some ((.t 6), false))⟩,
   ⟨.tmp, .faddr 1 (.v 8), (some ((.t 6), false))⟩,
   ⟨.tmp, .load 1 false (.t 9), (some ((.t 6), false))⟩,
   ⟨.tmp, .bin .lss .arith (.t 8) (.t 10), (some ((.t 6), false))⟩,
   ⟨.tmp, .pick (.t 6) (.c (.bool true)) (.t 11), (some ((.t 2), true))⟩,
   ⟨.tmp, .mov (.t 12), (some ((.t 2), true))⟩,
   ⟨.tmp, .faddr 1 (.v 7), (some ((.t 13), false))⟩,
   ⟨.tmp, .load 1 false (.t 14), (some ((.t 13), false))⟩,
   ⟨.tmp, .faddr 1 (.v 8), (some ((.t 13), false))⟩,
   ⟨.tmp, .load 1 false (.t 16), (some ((.t 13), false))⟩,
   ⟨.tmp, .bin .eql .arith (.t 15) (.t 17), (some ((.t 13), false))⟩,
   ⟨.tmp, .mov (.t 18), (some ((.t 13), false))⟩,
   ⟨.tmp, .faddr 2 (.v 7), (some ((.t 19), true))⟩,
   ⟨.tmp, .load 1 false (.t 20), (some ((.t 19), true))⟩,
   ⟨.tmp, .faddr 2 (.v 8), (some ((.t 19), true))⟩,
   ⟨.tmp, .load 1 false (.t 22), (some ((.t 19), true))⟩,
   ⟨.tmp, .bin .lss .arith (.t 21) (.t 23), (some ((.t 19), true))⟩,
   ⟨.tmp, .pick (.t 19) (.t 24) (.c (.bool false)), (some ((.t 13), false))⟩,
   ⟨.tmp, .pick (.t 13) (.c (.bool true)) (.t 25), (some ((.t 2), true))⟩,
   ⟨(.var 9), .pick (.t 2) (.t 26) (.c (.bool false)), .none⟩])
 (.cond (.v 9)
  (.ops [⟨.tmp, .load 1 false (.v 2), .none⟩,
    ⟨.tmp, .load 1 false (.v 4), .none⟩,
    ⟨.tmp, .load 6 true (.v 7), .none⟩,
    ⟨.tmp, .iaddr 6 (.t 0) (.t 1), .none⟩,
    ⟨.no, .store 6 (.t 3) (.t 2), .none⟩])
  .skip)))))),
 []⟩
def c37 : AFunc := ⟨[0, 1, 4, 18],
 (.seq (.ops [⟨(.var 2), .mov (.c (.int .i64 0)), .none⟩])
 (.seq (.ops [⟨.tmp, .mov (.v 1), .none⟩,
   ⟨.tmp, .bin .add .arith (.t 0) (.c (.int .i64 1)), .none⟩,
   ⟨(.var 1), .mov (.t 1), .none⟩])
 (.seq (.block 0 (.loop (.seq (.seq (.ops [⟨.tmp, .mov (.v 1), .none⟩,
     ⟨.tmp, .mov (.v 0), .none⟩,
     ⟨.tmp, .len (.t 1), .none⟩,
     ⟨.tmp, .bin .lss .arith (.t 0) (.t 2), .none⟩,
     ⟨.tmp, .mov (.t 3), .none⟩,
     ⟨.tmp, .mov (.v 0), (some ((.t 4), true))⟩,
     ⟨.tmp, .mov (.v 1), (some ((.t 4), true))⟩,
     ⟨.tmp, .iaddr 8 (.t 5) (.t 6), (some ((.t 4), true))⟩,
     ⟨.tmp, .faddr 0 (.t 7), (some ((.t 4), true))⟩,
     ⟨.tmp, .load 1 false (.t 8), (some ((.t 4), true))⟩,
     ⟨.tmp, .bin .eql .arith (.t 9) (.c (.int .i64 1)), (some ((.t 4), true))⟩,
     ⟨(.var 3), .pick (.t 4) (.t 10) (.c (.bool false)), .none⟩])
   (.cond (.v 3)
    .skip
    (.exit 0)))
   (.block 1 (.ops [⟨.tmp, .mov (.v 1), .none⟩,
      ⟨.tmp, .bin .add .arith (.t 0) (.c (.int .i64 1)), .none⟩,
      ⟨(.var 1), .mov (.t 1), .none⟩])))))
 (.seq (.ops [⟨.tmp, .mov (.v 1), .none⟩,
   ⟨(.var 2), .mov (.t 0), .none⟩])
 .ret)))),
 [2]⟩
def c38 : AFunc := ⟨[0, 1, 4],
 (.seq (.ops [⟨(.var 2), .mov (.c (.bool false)), .none⟩])
 (.seq (.ops [⟨.tmp, .mov (.v 0), .none⟩,
   ⟨.tmp, .pcall 26 [(.t 0)], .none⟩,
   ⟨.tmp, .mov (.t 1), .none⟩,
   ⟨.tmp, .mov (.v 1), (some ((.t 2), true))⟩,
   ⟨.tmp, .bin .geq .arith (.t 3) (.c (.int .i64 1)), (some ((.t 2), true))⟩,
   ⟨.tmp, .pick (.t 2) (.t 4) (.c (.bool false)), .none⟩,
   ⟨.tmp, .mov (.t 5), .none⟩,
   ⟨.tmp, .mov (.v 1), (some ((.t 6), true))⟩,
   ⟨.tmp, .bin .leq .arith (.t 7) (.c (.int .i64 65536)), (some ((.t 6), true))⟩,
   ⟨.tmp, .pick (.t 6) (.t 8) (.c (.bool false)), .none⟩,
   ⟨(.var 2), .mov (.t 9), .none⟩])
 .ret)),
 [2]⟩
def c39 : AFunc := ⟨[0, 1, 4, 5, 6, 7, 8, 9, 10, 18, 30, 39, 48, 52, 89],
 (.seq (.ops [⟨(.var 2), .mov (.c (.sl [] .nil)), .none⟩])
 (.seq (.ops [⟨.tmp, .mov (.v 0), .none⟩,
   ⟨.tmp, .len (.t 0), .none⟩,
   ⟨.tmp, .mksl 40 3 true [(.sl [] .nil), (.int .i64 0), (.bool false)] (.t 1) (.t 1), .none⟩,
   ⟨(.var 3), .mov (.t 2), .none⟩])
 (.seq (.seq (.ops [⟨(.var 4), .mov (.c (.int .i64 (-1))), .none⟩])
 (.block 0 (.loop (.seq (.seq (.ops [⟨.tmp, .mov (.v 4), .none⟩,
     ⟨.tmp, .mov (.v 0), .none⟩,
     ⟨.tmp, .len (.t 1), .none⟩,
     ⟨.tmp, .bin .sub .arith (.t 2) (.c (.int .i64 1)), .none⟩,
     ⟨(.var 9), .bin .lss .arith (.t 0) (.t 3), .none⟩])
   (.cond (.v 9)
    .skip
    (.exit 0)))
   (.seq (.block 1 (.seq (.seq (.ops [⟨.tmp, .mov (.v 4), .none⟩,
      ⟨.tmp, .bin .geq .arith (.t 0) (.c (.int .i64 0)), .none⟩,
      ⟨.tmp, .mov (.t 1), .none⟩,
      ⟨.tmp, .mov (.v 3), (some ((.t 2), true))⟩,
      ⟨.tmp, .mov (.v 4), (some ((.t 2), true))⟩,
      ⟨.tmp, .iaddr 3 (.t 3) (.t 4), (some ((.t 2), true))⟩,
      ⟨.tmp, .faddr 2 (.t 5), (some ((.t 2), true))⟩,
      ⟨.tmp, .load 1 false (.t 6), (some ((.t 2), true))⟩,
      ⟨.tmp, .un .not (.t 7), (some ((.t 2), true))⟩,
      ⟨(.var 10), .pick (.t 2) (.t 8) (.c (.bool false)), .none⟩])
    (.cond (.v 10)
     (.exit 1)
     .skip))
    (.seq (.ops [⟨.tmp, .mov (.v 0), .none⟩,
      ⟨.tmp, .mov (.v 4), .none⟩,
      ⟨.tmp, .pcall 29 [(.t 0), (.t 1)], .none⟩,
      ⟨(.var 5), .mov (.t 2), .none⟩])
    (.seq (.ops [⟨.tmp, .mov (.v 5), .none⟩,
      ⟨.tmp, .bin .add .arith (.t 0) (.c (.int .i64 1)), .none⟩,
      ⟨(.var 6), .mov (.t 1), .none⟩])
    (.block 2 (.loop (.seq (.seq (.ops [⟨.tmp, .mov (.v 6), .none⟩,
        ⟨.tmp, .mov (.v 0), .none⟩,
        ⟨.tmp, .len (.t 1), .none⟩,
        ⟨(.var 11), .bin .leq .arith (.t 0) (.t 2), .none⟩])
      (.cond (.v 11)
       .skip
       (.exit 2)))
      (.seq (.block 3 (.seq (.ops [⟨.tmp, .mov (.v 0), .none⟩,
         ⟨.tmp, .mov (.v 5), .none⟩,
         ⟨.tmp, .mov (.v 6), .none⟩,
         ⟨.tmp, .mov (.v 1), .none⟩,
         ⟨.tmp, .pcall 28 [(.t 0), (.t 1), (.t 2), (.t 3)], .none⟩,
         ⟨(.var 7), .mov (.t 4), .none⟩])
       (.seq (.seq (.ops [⟨.tmp, .mov (.v 7), .none⟩,
         ⟨(.var 12), .bin .lss .arith (.t 0) (.c (.int .i64 0)), .none⟩])
       (.cond (.v 12)
        (.exit 3)
        .skip))
       (.seq (.ops [⟨.tmp, .mov (.v 7), .none⟩,
         ⟨.tmp, .build [(.sl [] .nil), (.int .i64 0), (.bool false)] [(1, 1, (.t 0)), (2, 1, (.c (.bool true)))], .none⟩,
         ⟨(.var 8), .alloc 64 3 true [(.sl [] .nil), (.int .i64 0), (.bool false)], .none⟩,
         ⟨.no, .store 3 (.v 8) (.t 1), .none⟩])
       (.seq (.seq (.ops [⟨.tmp, .mov (.v 4), .none⟩,
         ⟨(.var 13), .bin .geq .arith (.t 0) (.c (.int .i64 0)), .none⟩])
       (.cond (.v 13)
        (.seq (.ops [⟨.tmp, .faddr 1 (.v 8), .none⟩,
          ⟨.tmp, .load 1 false (.t 0), .none⟩,
          ⟨.tmp, .mov (.v 3), .none⟩,
          ⟨.tmp, .mov (.v 4), .none⟩,
          ⟨.tmp, .iaddr 3 (.t 2) (.t 3), .none⟩,
          ⟨.tmp, .faddr 1 (.t 4), .none⟩,
          ⟨.tmp, .load 1 false (.t 5), .none⟩,
          ⟨.tmp, .bin .add .arith (.t 1) (.t 6), .none⟩,
          ⟨.tmp, .faddr 1 (.v 8), .none⟩,
          ⟨.no, .store 1 (.t 8) (.t 7), .none⟩])
        (.ops [⟨.tmp, .faddr 0 (.v 8), .none⟩,
          ⟨.tmp, .load 1 false (.t 0), .none⟩,
          ⟨.tmp, .mov (.v 3), .none⟩,
          ⟨.tmp, .mov (.v 4), .none⟩,
          ⟨.tmp, .iaddr 3 (.t 2) (.t 3), .none⟩,
          ⟨.tmp, .faddr 0 (.t 4), .none⟩,
          ⟨.tmp, .load 1 false (.t 5), .none⟩,
          ⟨.tmp, .append false 41 24 3 true (.t 1) (.t 6), .none⟩,
          ⟨.tmp, .faddr 0 (.v 8), .none⟩,
          ⟨.no, .store 1 (.t 8) (.t 7), .none⟩]))
        .skip))
       (.seq (.ops [⟨.tmp, .faddr 0 (.v 8), .none⟩,
         ⟨.tmp, .load 1 false (.t 0), .none⟩,
         ⟨.tmp, .mov (.v 5), .none⟩,
         ⟨.tmp, .mov (.v 6), .none⟩,
         ⟨.tmp, .mov (.v 0), .none⟩,
         ⟨.tmp, .mov (.v 5), .none⟩,
         ⟨.tmp, .mov (.v 6), .none⟩,
         ⟨.tmp, .pcall 31 [(.t 4), (.t 5), (.t 6)], .none⟩,
         ⟨.tmp, .build [(.int .i64 0), (.int .i64 0), (.int .i64 0)] [(0, 1, (.t 2)), (1, 1, (.t 3)), (2, 1, (.t 7))], .none⟩,
         ⟨.tmp, .lit 0 41 1 3 true [(.int .i64 0), (.int .i64 0), (.int .i64 0)] [(0, (.t 8))], .none⟩,
         ⟨.tmp, .append false 41 24 3 true (.t 1) (.t 9), .none⟩,
         ⟨.tmp, .faddr 0 (.v 8), .none⟩,
         ⟨.no, .store 1 (.t 11) (.t 10), .none⟩])
       (.seq (.ops [⟨.tmp, .load 3 true (.v 8), .none⟩,
         ⟨.tmp, .mov (.v 3), .none⟩,
         ⟨.tmp, .mov (.v 6), .none⟩,
         ⟨.tmp, .bin .sub .arith (.t 2) (.c (.int .i64 1)), .none⟩,
         ⟨.tmp, .iaddr 3 (.t 1) (.t 3), .none⟩,
         ⟨.tmp, .load 3 true (.t 4), .none⟩,
         ⟨(.var 14), .pcall 54 [(.t 0), (.t 5)], .none⟩])
       (.cond (.v 14)
        (.ops [⟨.tmp, .mov (.v 3), .none⟩,
          ⟨.tmp, .mov (.v 6), .none⟩,
          ⟨.tmp, .bin .sub .arith (.t 1) (.c (.int .i64 1)), .none⟩,
          ⟨.tmp, .load 3 true (.v 8), .none⟩,
          ⟨.tmp, .iaddr 3 (.t 0) (.t 2), .none⟩,
          ⟨.no, .store 3 (.t 4) (.t 3), .none⟩])
        .skip))))))))
      (.ops [⟨.tmp, .mov (.v 6), .none⟩,
        ⟨.tmp, .bin .add .arith (.t 0) (.c (.int .i64 1)), .none⟩,
        ⟨(.var 6), .mov (.t 1), .none⟩])))))))))
   (.ops [⟨.tmp, .mov (.v 4), .none⟩,
     ⟨.tmp, .bin .add .arith (.t 0) (.c (.int .i64 1)), .none⟩,
     ⟨(.var 4), .mov (.t 1), .none⟩]))))))
 (.seq (.ops [⟨.tmp, .mov (.v 3), .none⟩,
   ⟨(.var 2), .mov (.t 0), .none⟩])
 .ret)))),
 [2]⟩
def c40 : AFunc := ⟨[0, 1, 4, 5, 6, 7, 8, 10, 26, 37],
 (.seq (.ops [⟨(.var 2), .mov (.c (.sl [] .nil)), .none⟩])
 (.seq (.seq (.ops [⟨.tmp, .mov (.v 1), .none⟩,
   ⟨(.var 7), .bin .lss .arith (.t 0) (.c (.int .i64 0)), .none⟩])
 (.cond (.v 7)
  .refuse
  .skip))
 (.seq (.ops [⟨.tmp, .mov (.v 0), .none⟩,
   ⟨.tmp, .len (.t 0), .none⟩,
   ⟨.tmp, .toInt .u64 (.t 1), .none⟩,
   ⟨.tmp, .mov (.v 1), .none⟩,
   ⟨.tmp, .toInt .u64 (.t 3), .none⟩,
   ⟨.tmp, .pcall 55 [(.t 2), (.t 4)], .none⟩,
   ⟨.tmp, .mov (.t 5), .none⟩,
   ⟨.tmp, .ext (.t 6) 0, .none⟩,
   ⟨.tmp, .ext (.t 6) 1, .none⟩,
   ⟨(.var 3), .mov (.t 7), .none⟩,
   ⟨(.var 4), .mov (.t 8), .none⟩])
 (.seq (.seq (.ops [⟨.tmp, .mov (.v 3), .none⟩,
   ⟨.tmp, .bin .gtr .arith (.t 0) (.c (.int .u64 0)), .none⟩,
   ⟨.tmp, .mov (.t 1), .none⟩,
   ⟨.tmp, .mov (.v 4), (some ((.t 2), false))⟩,
   ⟨.tmp, .bin .gtr .arith (.t 3) (.c (.int .u64 9223372036854775807)), (some ((.t 2), false))⟩,
   ⟨(.var 8), .pick (.t 2) (.c (.bool true)) (.t 4), .none⟩])
 (.cond (.v 8)
  .refuse
  .skip))
 (.seq (.ops [⟨.tmp, .mov (.v 4), .none⟩,
   ⟨.tmp, .toInt .i64 (.t 0), .none⟩,
   ⟨.tmp, .mksl 8 1 false [(.int .i64 0)] (.t 1) (.t 1), .none⟩,
   ⟨(.var 5), .mov (.t 2), .none⟩])
 (.seq (.ops [⟨.tmp, .mov (.v 5), .none⟩,
   ⟨.tmp, .mov (.v 0), .none⟩,
   ⟨.tmp, .copy 1 (.t 0) (.t 1), .none⟩,
   ⟨(.var 6), .mov (.t 2), .none⟩])
 (.seq (.block 0 (.loop (.seq (.seq (.ops [⟨.tmp, .mov (.v 6), .none⟩,
     ⟨.tmp, .mov (.v 5), .none⟩,
     ⟨.tmp, .len (.t 1), .none⟩,
     ⟨(.var 9), .bin .lss .arith (.t 0) (.t 2), .none⟩])
   (.cond (.v 9)
    .skip
    (.exit 0)))
   (.block 1 (.ops [⟨.tmp, .mov (.v 6), .none⟩,
      ⟨.tmp, .mov (.v 5), .none⟩,
      ⟨.tmp, .mov (.v 6), .none⟩,
      ⟨.tmp, .slice 1 (.t 1) (some (.t 2)) .none, .none⟩,
      ⟨.tmp, .mov (.v 5), .none⟩,
      ⟨.tmp, .mov (.v 6), .none⟩,
      ⟨.tmp, .slice 1 (.t 4) .none (some (.t 5)), .none⟩,
      ⟨.tmp, .copy 1 (.t 3) (.t 6), .none⟩,
      ⟨.tmp, .bin .add .arith (.t 0) (.t 7), .none⟩,
      ⟨(.var 6), .mov (.t 8), .none⟩])))))
 (.seq (.ops [⟨.tmp, .mov (.v 5), .none⟩,
   ⟨(.var 2), .mov (.t 0), .none⟩])
 .ret)))))))),
 [2]⟩
def c41 : AFunc := ⟨[0, 1, 2, 3, 7, 8, 9, 14, 18, 35],
 (.seq (.ops [⟨(.var 4), .box 1 false (.v 3), .none⟩])
 (.seq (.ops [⟨(.var 5), .mov (.c (.int .i64 (-1))), .none⟩])
 (.block 0 (.loop (.seq (.seq (.ops [⟨.tmp, .mov (.v 5), .none⟩,
     ⟨.tmp, .mov (.v 0), .none⟩,
     ⟨.tmp, .len (.t 1), .none⟩,
     ⟨.tmp, .bin .sub .arith (.t 2) (.c (.int .i64 1)), .none⟩,
     ⟨(.var 7), .bin .lss .arith (.t 0) (.t 3), .none⟩])
   (.cond (.v 7)
    .skip
    (.exit 0)))
   (.seq (.block 1 (.seq (.ops [⟨(.var 6), .alloc 3 1 false [(.int .i64 0)], .none⟩,
      ⟨.no, .store 1 (.v 6) (.c (.int .i64 0)), .none⟩])
    (.seq (.seq (.ops [⟨.tmp, .mov (.v 5), .none⟩,
      ⟨(.var 8), .bin .geq .arith (.t 0) (.c (.int .i64 0)), .none⟩])
    (.cond (.v 8)
     (.ops [⟨.tmp, .mov (.v 2), .none⟩,
       ⟨.tmp, .mov (.v 5), .none⟩,
       ⟨.tmp, .call (.t 0) [(.t 1)], .none⟩,
       ⟨.no, .store 1 (.v 6) (.t 2), .none⟩])
     .skip))
    (.seq (.ops [⟨.tmp, .load 1 false (.v 6), .none⟩,
      ⟨.tmp, .bin .geq .arith (.t 0) (.c (.int .i64 0)), .none⟩,
      ⟨.tmp, .mov (.t 1), .none⟩,
      ⟨.tmp, .mov (.v 5), (some ((.t 2), true))⟩,
      ⟨.tmp, .bin .lss .arith (.t 3) (.c (.int .i64 0)), (some ((.t 2), true))⟩,
      ⟨.tmp, .mov (.t 4), (some ((.t 2), true))⟩,
      ⟨.tmp, .mov (.v 0), (some ((.t 5), false))⟩,
      ⟨.tmp, .mov (.v 5), (some ((.t 5), false))⟩,
      ⟨.tmp, .iaddr 8 (.t 6) (.t 7), (some ((.t 5), false))⟩,
      ⟨.tmp, .faddr 0 (.t 8), (some ((.t 5), false))⟩,
      ⟨.tmp, .load 1 false (.t 9), (some ((.t 5), false))⟩,
      ⟨.tmp, .bin .neq .arith (.t 10) (.c (.int .i64 0)), (some ((.t 5), false))⟩,
      ⟨.tmp, .pick (.t 5) (.c (.bool true)) (.t 11), (some ((.t 2), true))⟩,
      ⟨(.var 9), .pick (.t 2) (.t 12) (.c (.bool false)), .none⟩])
    (.cond (.v 9)
     (.ops [⟨.tmp, .mov (.v 0), .none⟩,
       ⟨.tmp, .mov (.v 0), .none⟩,
       ⟨.tmp, .mov (.v 5), .none⟩,
       ⟨.tmp, .pcall 37 [(.t 1), (.t 2)], .none⟩,
       ⟨.tmp, .mov (.v 1), .none⟩,
       ⟨.tmp, .clo 56 [(.v 4), (.v 6)], .none⟩,
       ⟨.tmp, .call (.c (.fn 35 [])) [(.t 0), (.t 3), (.t 4), (.t 5)], .none⟩])
     .skip)))))
   (.ops [⟨.tmp, .mov (.v 5), .none⟩,
     ⟨.tmp, .bin .add .arith (.t 0) (.c (.int .i64 1)), .none⟩,
     ⟨(.var 5), .mov (.t 1), .none⟩]))))))),
 []⟩
def c42 : AFunc := ⟨[0, 1, 3],
 (.seq (.ops [⟨(.var 2), .mov (.c (.int .i64 0)), .none⟩])
 (.seq (.ops [⟨.tmp, .load 1 false (.v 1), .none⟩,
   ⟨.tmp, .mov (.v 0), .none⟩,
   ⟨.tmp, .iaddr 1 (.t 0) (.t 1), .none⟩,
   ⟨.tmp, .load 1 false (.t 2), .none⟩,
   ⟨(.var 2), .mov (.t 3), .none⟩])
 .ret)),
 [2]⟩
def c43 : AFunc := ⟨[0, 1, 2, 3, 4, 7, 25],
 (.seq (.ops [⟨(.var 4), .box 3 true (.v 0), .none⟩])
 (.seq (.ops [⟨.tmp, .faddr 1 (.v 4), .none⟩,
   ⟨.tmp, .load 1 false (.t 0), .none⟩,
   ⟨.tmp, .bin .sub .arith (.t 1) (.c (.int .i64 1)), .none⟩,
   ⟨(.var 5), .mov (.t 2), .none⟩])
 (.seq (.ops [⟨.tmp, .load 1 false (.v 3), .none⟩,
   ⟨.tmp, .mov (.v 5), .none⟩,
   ⟨.tmp, .iaddr 1 (.t 0) (.t 1), .none⟩,
   ⟨.tmp, .load 1 false (.t 2), .none⟩,
   ⟨.tmp, .bin .lss .arith (.t 3) (.c (.int .i64 0)), .none⟩,
   ⟨.tmp, .mov (.t 4), .none⟩,
   ⟨.tmp, .mov (.v 1), (some ((.t 5), false))⟩,
   ⟨.tmp, .mov (.v 2), (some ((.t 5), false))⟩,
   ⟨.tmp, .bin .add .arith (.t 6) (.t 7), (some ((.t 5), false))⟩,
   ⟨.tmp, .load 1 false (.v 3), (some ((.t 5), false))⟩,
   ⟨.tmp, .mov (.v 5), (some ((.t 5), false))⟩,
   ⟨.tmp, .iaddr 1 (.t 9) (.t 10), (some ((.t 5), false))⟩,
   ⟨.tmp, .load 1 false (.t 11), (some ((.t 5), false))⟩,
   ⟨.tmp, .bin .lss .arith (.t 8) (.t 12), (some ((.t 5), false))⟩,
   ⟨(.var 6), .pick (.t 5) (.c (.bool true)) (.t 13), .none⟩])
 (.cond (.v 6)
  (.ops [⟨.tmp, .load 1 false (.v 3), .none⟩,
    ⟨.tmp, .mov (.v 5), .none⟩,
    ⟨.tmp, .mov (.v 1), .none⟩,
    ⟨.tmp, .mov (.v 2), .none⟩,
    ⟨.tmp, .bin .add .arith (.t 2) (.t 3), .none⟩,
    ⟨.tmp, .iaddr 1 (.t 0) (.t 1), .none⟩,
    ⟨.no, .store 1 (.t 5) (.t 4), .none⟩])
  .skip)))),
 []⟩
def c44 : AFunc := ⟨[0, 1, 2, 6, 7, 8, 10, 11, 12, 13, 14, 15, 30, 38, 50],
 (.seq (.ops [⟨(.var 3), .mov (.c (.int .i64 0)), .none⟩])
 (.seq (.ops [⟨(.var 4), .mov (.c (.int .i64 0)), .none⟩,
   ⟨(.var 5), .mov (.c (.int .i64 (-1))), .none⟩])
 (.seq (.seq (.ops [⟨(.var 8), .mov (.v 2), .none⟩,
   ⟨(.var 9), .len (.v 8), .none⟩,
   ⟨(.var 10), .mov (.c (.int .i64 0)), .none⟩])
 (.block 0 (.loop (.seq (.ops [⟨(.var 11), .bin .lss .arith (.v 10) (.v 9), .none⟩])
   (.seq (.cond (.v 11)
    .skip
    (.exit 0))
   (.seq (.block 1 (.seq (.ops [⟨.tmp, .iaddr 3 (.v 8) (.v 10), .none⟩,
      ⟨.tmp, .load 3 true (.t 0), .none⟩,
      ⟨(.var 6), .alloc 41 3 true [(.int .i64 0), (.int .i64 0), (.int .i64 0)], .none⟩,
      ⟨.no, .store 3 (.v 6) (.t 1), .none⟩])
    (.seq (.ops [⟨(.var 7), .alloc 3 1 false [(.int .i64 0)], .none⟩,
      ⟨.no, .store 1 (.v 7) (.c (.int .i64 (-1))), .none⟩])
    (.seq (.seq (.ops [⟨.tmp, .mov (.v 5), .none⟩,
      ⟨.tmp, .mov (.v 0), .none⟩,
      ⟨.tmp, .len (.t 1), .none⟩,
      ⟨.tmp, .bin .sub .arith (.t 2) (.c (.int .i64 1)), .none⟩,
      ⟨.tmp, .bin .lss .arith (.t 0) (.t 3), .none⟩,
      ⟨.tmp, .mov (.t 4), .none⟩,
      ⟨.tmp, .faddr 0 (.v 6), (some ((.t 5), true))⟩,
      ⟨.tmp, .load 1 false (.t 6), (some ((.t 5), true))⟩,
      ⟨.tmp, .mov (.v 0), (some ((.t 5), true))⟩,
      ⟨.tmp, .mov (.v 5), (some ((.t 5), true))⟩,
      ⟨.tmp, .pcall 37 [(.t 8), (.t 9)], (some ((.t 5), true))⟩,
      ⟨.tmp, .bin .eql .arith (.t 7) (.t 10), (some ((.t 5), true))⟩,
      ⟨(.var 12), .pick (.t 5) (.t 11) (.c (.bool false)), .none⟩])
    (.cond (.v 12)
     (.ops [⟨.tmp, .mov (.v 0), .none⟩,
       ⟨.tmp, .faddr 0 (.v 6), .none⟩,
       ⟨.tmp, .load 1 false (.t 1), .none⟩,
       ⟨.tmp, .mov (.v 1), .none⟩,
       ⟨.tmp, .clo 57 [(.v 6), (.v 7)], .none⟩,
       ⟨.tmp, .call (.c (.fn 35 [])) [(.t 0), (.t 2), (.t 3), (.t 4)], .none⟩])
     .skip))
    (.seq (.seq (.ops [⟨.tmp, .load 1 false (.v 7), .none⟩,
      ⟨(.var 13), .bin .lss .arith (.t 0) (.c (.int .i64 0)), .none⟩])
    (.cond (.v 13)
     (.seq (.ops [⟨(.var 3), .mov (.c (.int .i64 (-1))), .none⟩])
     .ret)
     .skip))
    (.seq (.ops [⟨.tmp, .mov (.v 4), .none⟩,
      ⟨.tmp, .load 1 false (.v 7), .none⟩,
      ⟨.tmp, .bin .add .arith (.t 0) (.t 1), .none⟩,
      ⟨(.var 4), .mov (.t 2), .none⟩])
    (.ops [⟨.tmp, .faddr 1 (.v 6), .none⟩,
      ⟨.tmp, .load 1 false (.t 0), .none⟩,
      ⟨.tmp, .bin .sub .arith (.t 1) (.c (.int .i64 1)), .none⟩,
      ⟨(.var 5), .mov (.t 2), .none⟩])))))))
   (.ops [⟨.tmp, .bin .add .arith (.v 10) (.c (.int .i64 1)), .none⟩,
     ⟨(.var 10), .mov (.t 0), .none⟩])))))))
 (.seq (.seq (.ops [⟨.tmp, .mov (.v 5), .none⟩,
   ⟨.tmp, .mov (.v 0), .none⟩,
   ⟨.tmp, .len (.t 1), .none⟩,
   ⟨.tmp, .bin .sub .arith (.t 2) (.c (.int .i64 1)), .none⟩,
   ⟨(.var 14), .bin .lss .arith (.t 0) (.t 3), .none⟩])
 (.cond (.v 14)
  (.seq (.ops [⟨(.var 3), .mov (.c (.int .i64 (-1))), .none⟩])
  .ret)
  .skip))
 (.seq (.ops [⟨.tmp, .mov (.v 4), .none⟩,
   ⟨(.var 3), .mov (.t 0), .none⟩])
 .ret))))),
 [3]⟩
def c45 : AFunc := ⟨[0, 2, 3, 4, 7, 15],
 (.seq (.ops [⟨(.var 1), .mov (.c (.int .i64 0)), .none⟩])
 (.seq (.seq (.ops [⟨.tmp, .mov (.v 0), .none⟩,
   ⟨.tmp, .len (.t 0), .none⟩,
   ⟨(.var 4), .bin .lss .arith (.t 1) (.c (.int .i64 1)), .none⟩])
 (.cond (.v 4)
  .refuse
  .skip))
 (.seq (.ops [⟨.tmp, .mov (.v 0), .none⟩,
   ⟨.tmp, .iaddr 1 (.t 0) (.c (.int .i64 0)), .none⟩,
   ⟨.tmp, .load 1 false (.t 1), .none⟩,
   ⟨(.var 2), .mov (.t 2), .none⟩])
 (.seq (.seq (.ops [⟨(.var 3), .mov (.c (.int .i64 1)), .none⟩])
 (.block 0 (.loop (.seq (.seq (.ops [⟨.tmp, .mov (.v 3), .none⟩,
     ⟨.tmp, .mov (.v 0), .none⟩,
     ⟨.tmp, .len (.t 1), .none⟩,
     ⟨(.var 5), .bin .lss .arith (.t 0) (.t 2), .none⟩])
   (.cond (.v 5)
    .skip
    (.exit 0)))
   (.seq (.block 1 (.ops [⟨.tmp, .mov (.v 2), .none⟩,
      ⟨.tmp, .mov (.v 0), .none⟩,
      ⟨.tmp, .mov (.v 3), .none⟩,
      ⟨.tmp, .iaddr 1 (.t 1) (.t 2), .none⟩,
      ⟨.tmp, .load 1 false (.t 3), .none⟩,
      ⟨.tmp, .mnx false (.t 0) (.t 4), .none⟩,
      ⟨(.var 2), .mov (.t 5), .none⟩]))
   (.ops [⟨.tmp, .mov (.v 3), .none⟩,
     ⟨.tmp, .bin .add .arith (.t 0) (.c (.int .i64 1)), .none⟩,
     ⟨(.var 3), .mov (.t 1), .none⟩]))))))
 (.seq (.ops [⟨.tmp, .mov (.v 2), .none⟩,
   ⟨(.var 1), .mov (.t 0), .none⟩])
 .ret))))),
 [1]⟩
def c46 : AFunc := ⟨[0, 1, 3],
 (.seq (.ops [⟨(.var 2), .mov (.c (.int .i64 0)), .none⟩])
 (.seq (.ops [⟨.tmp, .load 1 false (.v 1), .none⟩,
   ⟨.tmp, .mov (.v 0), .none⟩,
   ⟨.tmp, .iaddr 1 (.t 0) (.t 1), .none⟩,
   ⟨.tmp, .load 1 false (.t 2), .none⟩,
   ⟨(.var 2), .mov (.t 3), .none⟩])
 .ret)),
 [2]⟩
def c47 : AFunc := ⟨[0, 1, 2, 3, 4, 5, 8, 23],
 (.seq (.ops [⟨(.var 5), .box 3 true (.v 0), .none⟩])
 (.seq (.ops [⟨.tmp, .load 1 false (.v 3), .none⟩,
   ⟨.tmp, .faddr 1 (.v 5), .none⟩,
   ⟨.tmp, .load 1 false (.t 1), .none⟩,
   ⟨.tmp, .bin .sub .arith (.t 2) (.c (.int .i64 1)), .none⟩,
   ⟨.tmp, .iaddr 1 (.t 0) (.t 3), .none⟩,
   ⟨.tmp, .load 1 false (.t 4), .none⟩,
   ⟨(.var 6), .mov (.t 5), .none⟩])
 (.seq (.ops [⟨.tmp, .mov (.v 6), .none⟩,
   ⟨.tmp, .bin .lss .arith (.t 0) (.c (.int .i64 0)), .none⟩,
   ⟨.tmp, .mov (.t 1), .none⟩,
   ⟨.tmp, .mov (.v 6), (some ((.t 2), false))⟩,
   ⟨.tmp, .mov (.v 1), (some ((.t 2), false))⟩,
   ⟨.tmp, .bin .sub .arith (.t 3) (.t 4), (some ((.t 2), false))⟩,
   ⟨.tmp, .mov (.v 2), (some ((.t 2), false))⟩,
   ⟨.tmp, .bin .gtr .arith (.t 5) (.t 6), (some ((.t 2), false))⟩,
   ⟨(.var 7), .pick (.t 2) (.c (.bool true)) (.t 7), .none⟩])
 (.cond (.v 7)
  (.ops [⟨.no, .store 1 (.v 4) (.c (.bool false)), .none⟩])
  .skip)))),
 []⟩
def c48 : AFunc := ⟨[0, 1, 2, 6, 7, 8, 9, 10, 11, 12, 16, 57],
 (.seq (.ops [⟨(.var 3), .mov (.c (.int .i64 0)), .none⟩,
   ⟨(.var 4), .mov (.c (.bool false)), .none⟩])
 (.seq (.ops [⟨(.var 5), .mov (.c (.int .i64 0)), .none⟩])
 (.seq (.ops [⟨(.var 6), .mov (.c (.int .i64 (-1))), .none⟩])
 (.seq (.seq (.ops [⟨(.var 7), .mov (.c (.int .i64 0)), .none⟩])
 (.block 0 (.loop (.seq (.seq (.ops [⟨.tmp, .mov (.v 7), .none⟩,
     ⟨.tmp, .mov (.v 2), .none⟩,
     ⟨.tmp, .len (.t 1), .none⟩,
     ⟨(.var 10), .bin .lss .arith (.t 0) (.t 2), .none⟩])
   (.cond (.v 10)
    .skip
    (.exit 0)))
   (.seq (.block 1 (.seq (.ops [⟨.tmp, .mov (.v 2), .none⟩,
      ⟨.tmp, .mov (.v 7), .none⟩,
      ⟨.tmp, .iaddr 3 (.t 0) (.t 1), .none⟩,
      ⟨.tmp, .load 3 true (.t 2), .none⟩,
      ⟨(.var 8), .alloc 41 3 true [(.int .i64 0), (.int .i64 0), (.int .i64 0)], .none⟩,
      ⟨.no, .store 3 (.v 8) (.t 3), .none⟩])
    (.seq (.ops [⟨.tmp, .mov (.v 0), .none⟩,
      ⟨.tmp, .faddr 0 (.v 8), .none⟩,
      ⟨.tmp, .load 1 false (.t 1), .none⟩,
      ⟨.tmp, .faddr 1 (.v 8), .none⟩,
      ⟨.tmp, .load 1 false (.t 3), .none⟩,
      ⟨.tmp, .mov (.v 1), .none⟩,
      ⟨.tmp, .pcall 28 [(.t 0), (.t 2), (.t 4), (.t 5)], .none⟩,
      ⟨(.var 9), .mov (.t 6), .none⟩])
    (.seq (.seq (.ops [⟨.tmp, .mov (.v 9), .none⟩,
      ⟨.tmp, .bin .lss .arith (.t 0) (.c (.int .i64 0)), .none⟩,
      ⟨.tmp, .mov (.t 1), .none⟩,
      ⟨.tmp, .mov (.v 6), (some ((.t 2), false))⟩,
      ⟨.tmp, .mov (.v 0), (some ((.t 2), false))⟩,
      ⟨.tmp, .len (.t 4), (some ((.t 2), false))⟩,
      ⟨.tmp, .bin .sub .arith (.t 5) (.c (.int .i64 1)), (some ((.t 2), false))⟩,
      ⟨.tmp, .bin .eql .arith (.t 3) (.t 6), (some ((.t 2), false))⟩,
      ⟨.tmp, .pick (.t 2) (.c (.bool true)) (.t 7), .none⟩,
      ⟨.tmp, .mov (.t 8), .none⟩,
      ⟨.tmp, .faddr 0 (.v 8), (some ((.t 9), false))⟩,
      ⟨.tmp, .load 1 false (.t 10), (some ((.t 9), false))⟩,
      ⟨.tmp, .mov (.v 0), (some ((.t 9), false))⟩,
      ⟨.tmp, .mov (.v 6), (some ((.t 9), false))⟩,
      ⟨.tmp, .pcall 29 [(.t 12), (.t 13)], (some ((.t 9), false))⟩,
      ⟨.tmp, .bin .neq .arith (.t 11) (.t 14), (some ((.t 9), false))⟩,
      ⟨.tmp, .pick (.t 9) (.c (.bool true)) (.t 15), .none⟩,
      ⟨.tmp, .mov (.t 16), .none⟩,
      ⟨.tmp, .faddr 2 (.v 8), (some ((.t 17), false))⟩,
      ⟨.tmp, .load 1 false (.t 18), (some ((.t 17), false))⟩,
      ⟨.tmp, .mov (.v 0), (some ((.t 17), false))⟩,
      ⟨.tmp, .faddr 0 (.v 8), (some ((.t 17), false))⟩,
      ⟨.tmp, .load 1 false (.t 21), (some ((.t 17), false))⟩,
      ⟨.tmp, .faddr 1 (.v 8), (some ((.t 17), false))⟩,
      ⟨.tmp, .load 1 false (.t 23), (some ((.t 17), false))⟩,
      ⟨.tmp, .pcall 31 [(.t 20), (.t 22), (.t 24)], (some ((.t 17), false))⟩,
      ⟨.tmp, .bin .neq .arith (.t 19) (.t 25), (some ((.t 17), false))⟩,
      ⟨(.var 11), .pick (.t 17) (.c (.bool true)) (.t 26), .none⟩])
    (.cond (.v 11)
     (.seq (.ops [⟨(.var 3), .mov (.c (.int .i64 0)), .none⟩,
       ⟨(.var 4), .mov (.c (.bool false)), .none⟩])
     .ret)
     .skip))
    (.seq (.ops [⟨.tmp, .mov (.v 5), .none⟩,
      ⟨.tmp, .mov (.v 9), .none⟩,
      ⟨.tmp, .bin .add .arith (.t 0) (.t 1), .none⟩,
      ⟨(.var 5), .mov (.t 2), .none⟩])
    (.ops [⟨.tmp, .faddr 1 (.v 8), .none⟩,
      ⟨.tmp, .load 1 false (.t 0), .none⟩,
      ⟨.tmp, .bin .sub .arith (.t 1) (.c (.int .i64 1)), .none⟩,
      ⟨(.var 6), .mov (.t 2), .none⟩]))))))
   (.ops [⟨.tmp, .mov (.v 7), .none⟩,
     ⟨.tmp, .bin .add .arith (.t 0) (.c (.int .i64 1)), .none⟩,
     ⟨(.var 7), .mov (.t 1), .none⟩]))))))
 (.seq (.ops [⟨.tmp, .mov (.v 5), .none⟩,
   ⟨.tmp, .mov (.v 6), .none⟩,
   ⟨.tmp, .mov (.v 0), .none⟩,
   ⟨.tmp, .len (.t 2), .none⟩,
   ⟨.tmp, .bin .sub .arith (.t 3) (.c (.int .i64 1)), .none⟩,
   ⟨.tmp, .bin .eql .arith (.t 1) (.t 4), .none⟩,
   ⟨(.var 3), .mov (.t 0), .none⟩,
   ⟨(.var 4), .mov (.t 5), .none⟩])
 .ret))))),
 [3, 4]⟩
def c49 : AFunc := ⟨[0, 1, 4, 5],
 (.seq (.ops [⟨(.var 2), .mov (.c (.int .i64 0)), .none⟩,
   ⟨(.var 3), .mov (.c .nilif), .none⟩])
 (.seq (.ops [⟨.tmp, .mov (.v 0), .none⟩,
   ⟨.tmp, .call (.c (.fn 58 [])) [(.t 0)], .none⟩])
 (.seq (.ops [⟨.tmp, .mov (.v 0), .none⟩,
   ⟨.tmp, .mov (.v 0), .none⟩,
   ⟨.tmp, .nilc (.t 1), .none⟩,
   ⟨.tmp, .faddr 1 (.t 2), .none⟩,
   ⟨.tmp, .load 1 false (.t 3), .none⟩,
   ⟨.tmp, .mov (.v 1), .none⟩,
   ⟨.tmp, .append false 5 1 1 false (.t 4) (.t 5), .none⟩,
   ⟨.tmp, .nilc (.t 0), .none⟩,
   ⟨.tmp, .faddr 1 (.t 7), .none⟩,
   ⟨.no, .store 1 (.t 8) (.t 6), .none⟩])
 (.seq (.ops [⟨.tmp, .mov (.v 1), .none⟩,
   ⟨.tmp, .slen (.t 0), .none⟩,
   ⟨(.var 2), .mov (.t 1), .none⟩,
   ⟨(.var 3), .mov (.c .nilif), .none⟩])
 .ret)))),
 [2, 3]⟩
def c50 : AFunc := ⟨[0, 1, 4],
 (.seq (.ops [⟨(.var 2), .mov (.c .nilif), .none⟩])
 (.seq (.ops [⟨.tmp, .mov (.v 0), .none⟩,
   ⟨.tmp, .call (.c (.fn 58 [])) [(.t 0)], .none⟩])
 (.seq (.ops [⟨.tmp, .mov (.v 0), .none⟩,
   ⟨.tmp, .mov (.v 0), .none⟩,
   ⟨.tmp, .nilc (.t 1), .none⟩,
   ⟨.tmp, .faddr 1 (.t 2), .none⟩,
   ⟨.tmp, .load 1 false (.t 3), .none⟩,
   ⟨.tmp, .mov (.v 1), .none⟩,
   ⟨.tmp, .lit 0 5 1 1 false [(.int .u8 0)] [(0, (.t 5))], .none⟩,
   ⟨.tmp, .append false 5 1 1 false (.t 4) (.t 6), .none⟩,
   ⟨.tmp, .nilc (.t 0), .none⟩,
   ⟨.tmp, .faddr 1 (.t 8), .none⟩,
   ⟨.no, .store 1 (.t 9) (.t 7), .none⟩])
 (.seq (.ops [⟨(.var 2), .mov (.c .nilif), .none⟩])
 .ret)))),
 [2]⟩
def c52 : AFunc := ⟨[0, 1, 2, 6],
 (.seq (.ops [⟨(.var 3), .mov (.c (.bool false)), .none⟩])
 (.seq (.ops [⟨.tmp, .mov (.v 1), .none⟩,
   ⟨.tmp, .mov (.v 0), .none⟩,
   ⟨.tmp, .bin .leq .arith (.t 0) (.t 1), .none⟩,
   ⟨.tmp, .mov (.t 2), .none⟩,
   ⟨.tmp, .mov (.v 0), (some ((.t 3), true))⟩,
   ⟨.tmp, .mov (.v 2), (some ((.t 3), true))⟩,
   ⟨.tmp, .bin .leq .arith (.t 4) (.t 5), (some ((.t 3), true))⟩,
   ⟨.tmp, .pick (.t 3) (.t 6) (.c (.bool false)), .none⟩,
   ⟨(.var 3), .mov (.t 7), .none⟩])
 .ret)),
 [3]⟩
def c53 : AFunc := ⟨[0, 1, 2, 3, 4, 9],
 (.seq (.ops [⟨(.var 4), .box 3 true (.v 0), .none⟩])
 (.seq (.ops [⟨.tmp, .faddr 1 (.v 4), .none⟩,
   ⟨.tmp, .load 1 false (.t 0), .none⟩,
   ⟨.tmp, .load 1 false (.v 2), .none⟩,
   ⟨(.var 5), .bin .eql .arith (.t 1) (.t 2), .none⟩])
 (.cond (.v 5)
  (.ops [⟨.tmp, .mov (.v 1), .none⟩,
    ⟨.no, .store 1 (.v 3) (.t 0), .none⟩])
  .skip))),
 []⟩
def c54 : AFunc := ⟨[0, 1, 2, 3, 4, 5, 15, 32, 44, 59],
 (.seq (.ops [⟨(.var 2), .box 3 true (.v 0), .none⟩,
   ⟨(.var 3), .box 3 true (.v 1), .none⟩,
   ⟨(.var 4), .mov (.c (.bool false)), .none⟩])
 (.seq (.seq (.ops [⟨.tmp, .faddr 2 (.v 3), .none⟩,
   ⟨.tmp, .load 1 false (.t 0), .none⟩,
   ⟨.tmp, .un .not (.t 1), .none⟩,
   ⟨.tmp, .mov (.t 2), .none⟩,
   ⟨.tmp, .faddr 1 (.v 2), (some ((.t 3), false))⟩,
   ⟨.tmp, .load 1 false (.t 4), (some ((.t 3), false))⟩,
   ⟨.tmp, .faddr 1 (.v 3), (some ((.t 3), false))⟩,
   ⟨.tmp, .load 1 false (.t 6), (some ((.t 3), false))⟩,
   ⟨.tmp, .bin .neq .arith (.t 5) (.t 7), (some ((.t 3), false))⟩,
   ⟨(.var 6), .pick (.t 3) (.c (.bool true)) (.t 8), .none⟩])
 (.cond (.v 6)
  (.seq (.ops [⟨.tmp, .faddr 2 (.v 3), .none⟩,
    ⟨.tmp, .load 1 false (.t 0), .none⟩,
    ⟨.tmp, .un .not (.t 1), .none⟩,
    ⟨.tmp, .mov (.t 2), .none⟩,
    ⟨.tmp, .faddr 1 (.v 2), (some ((.t 3), false))⟩,
    ⟨.tmp, .load 1 false (.t 4), (some ((.t 3), false))⟩,
    ⟨.tmp, .faddr 1 (.v 3), (some ((.t 3), false))⟩,
    ⟨.tmp, .load 1 false (.t 6), (some ((.t 3), false))⟩,
    ⟨.tmp, .bin .lss .arith (.t 5) (.t 7), (some ((.t 3), false))⟩,
    ⟨.tmp, .pick (.t 3) (.c (.bool true)) (.t 8), .none⟩,
    ⟨(.var 4), .mov (.t 9), .none⟩])
  .ret)
  .skip))
 (.seq (.seq (.ops [⟨.tmp, .faddr 0 (.v 2), .none⟩,
   ⟨.tmp, .load 1 false (.t 0), .none⟩,
   ⟨.tmp, .len (.t 1), .none⟩,
   ⟨.tmp, .faddr 0 (.v 3), .none⟩,
   ⟨.tmp, .load 1 false (.t 3), .none⟩,
   ⟨.tmp, .len (.t 4), .none⟩,
   ⟨(.var 7), .bin .neq .arith (.t 2) (.t 5), .none⟩])
 (.cond (.v 7)
  (.seq (.ops [⟨.tmp, .faddr 0 (.v 2), .none⟩,
    ⟨.tmp, .load 1 false (.t 0), .none⟩,
    ⟨.tmp, .len (.t 1), .none⟩,
    ⟨.tmp, .faddr 0 (.v 3), .none⟩,
    ⟨.tmp, .load 1 false (.t 3), .none⟩,
    ⟨.tmp, .len (.t 4), .none⟩,
    ⟨.tmp, .bin .lss .arith (.t 2) (.t 5), .none⟩,
    ⟨(.var 4), .mov (.t 6), .none⟩])
  .ret)
  .skip))
 (.seq (.seq (.ops [⟨(.var 5), .mov (.c (.int .i64 0)), .none⟩])
 (.block 0 (.loop (.seq (.seq (.ops [⟨.tmp, .mov (.v 5), .none⟩,
     ⟨.tmp, .faddr 0 (.v 2), .none⟩,
     ⟨.tmp, .load 1 false (.t 1), .none⟩,
     ⟨.tmp, .len (.t 2), .none⟩,
     ⟨(.var 8), .bin .lss .arith (.t 0) (.t 3), .none⟩])
   (.cond (.v 8)
    .skip
    (.exit 0)))
   (.seq (.block 1 (.seq (.ops [⟨.tmp, .faddr 0 (.v 2), .none⟩,
      ⟨.tmp, .load 1 false (.t 0), .none⟩,
      ⟨.tmp, .mov (.v 5), .none⟩,
      ⟨.tmp, .iaddr 3 (.t 1) (.t 2), .none⟩,
      ⟨.tmp, .faddr 1 (.t 3), .none⟩,
      ⟨.tmp, .load 1 false (.t 4), .none⟩,
      ⟨.tmp, .faddr 0 (.v 3), .none⟩,
      ⟨.tmp, .load 1 false (.t 6), .none⟩,
      ⟨.tmp, .mov (.v 5), .none⟩,
      ⟨.tmp, .iaddr 3 (.t 7) (.t 8), .none⟩,
      ⟨.tmp, .faddr 1 (.t 9), .none⟩,
      ⟨.tmp, .load 1 false (.t 10), .none⟩,
      ⟨(.var 9), .bin .neq .arith (.t 5) (.t 11), .none⟩])
    (.cond (.v 9)
     (.seq (.ops [⟨.tmp, .faddr 0 (.v 2), .none⟩,
       ⟨.tmp, .load 1 false (.t 0), .none⟩,
       ⟨.tmp, .mov (.v 5), .none⟩,
       ⟨.tmp, .iaddr 3 (.t 1) (.t 2), .none⟩,
       ⟨.tmp, .faddr 1 (.t 3), .none⟩,
       ⟨.tmp, .load 1 false (.t 4), .none⟩,
       ⟨.tmp, .faddr 0 (.v 3), .none⟩,
       ⟨.tmp, .load 1 false (.t 6), .none⟩,
       ⟨.tmp, .mov (.v 5), .none⟩,
       ⟨.tmp, .iaddr 3 (.t 7) (.t 8), .none⟩,
       ⟨.tmp, .faddr 1 (.t 9), .none⟩,
       ⟨.tmp, .load 1 false (.t 10), .none⟩,
       ⟨.tmp, .bin .lss .arith (.t 5) (.t 11), .none⟩,
       ⟨(.var 4), .mov (.t 12), .none⟩])
     .ret)
     .skip)))
   (.ops [⟨.tmp, .mov (.v 5), .none⟩,
     ⟨.tmp, .bin .add .arith (.t 0) (.c (.int .i64 1)), .none⟩,
     ⟨(.var 5), .mov (.t 1), .none⟩]))))))
 (.seq (.ops [⟨(.var 4), .mov (.c (.bool false)), .none⟩])
 .ret))))),
 [4]⟩
def c55 : AFunc := ⟨[0, 1, 4, 5, 6, 7, 8, 9],
 (.seq (.ops [⟨(.var 2), .mov (.c (.int .u64 0)), .none⟩,
   ⟨(.var 3), .mov (.c (.int .u64 0)), .none⟩])
 (.seq (.cond (.c (.bool false))
  (.seq (.ops [⟨.tmp, .mov (.v 0), .none⟩,
    ⟨.tmp, .toInt .u32 (.t 0), .none⟩,
    ⟨.tmp, .mov (.v 1), .none⟩,
    ⟨.tmp, .toInt .u32 (.t 2), .none⟩,
    ⟨.tmp, .pcall 59 [(.t 1), (.t 3)], .none⟩,
    ⟨.tmp, .mov (.t 4), .none⟩,
    ⟨.tmp, .ext (.t 5) 0, .none⟩,
    ⟨.tmp, .ext (.t 5) 1, .none⟩,
    ⟨(.var 4), .mov (.t 6), .none⟩,
    ⟨(.var 5), .mov (.t 7), .none⟩])
  (.seq (.ops [⟨.tmp, .mov (.v 4), .none⟩,
    ⟨.tmp, .toInt .u64 (.t 0), .none⟩,
    ⟨.tmp, .mov (.v 5), .none⟩,
    ⟨.tmp, .toInt .u64 (.t 2), .none⟩,
    ⟨(.var 2), .mov (.t 1), .none⟩,
    ⟨(.var 3), .mov (.t 3), .none⟩])
  .ret))
  .skip)
 (.seq (.ops [⟨.tmp, .mov (.v 0), .none⟩,
   ⟨.tmp, .mov (.v 1), .none⟩,
   ⟨.tmp, .pcall 60 [(.t 0), (.t 1)], .none⟩,
   ⟨.tmp, .mov (.t 2), .none⟩,
   ⟨.tmp, .ext (.t 3) 0, .none⟩,
   ⟨.tmp, .ext (.t 3) 1, .none⟩,
   ⟨(.var 6), .mov (.t 4), .none⟩,
   ⟨(.var 7), .mov (.t 5), .none⟩])
 (.seq (.ops [⟨.tmp, .mov (.v 6), .none⟩,
   ⟨.tmp, .mov (.v 7), .none⟩,
   ⟨(.var 2), .mov (.t 0), .none⟩,
   ⟨(.var 3), .mov (.t 1), .none⟩])
 .ret)))),
 [2, 3]⟩
def c56 : AFunc := ⟨[0, 1, 2, 3, 4],
 (.seq (.ops [⟨(.var 4), .box 3 true (.v 0), .none⟩])
 (.ops [⟨.tmp, .load 1 false (.v 2), .none⟩,
   ⟨.tmp, .load 3 true (.v 4), .none⟩,
   ⟨.tmp, .load 1 false (.v 3), .none⟩,
   ⟨.tmp, .mov (.v 1), .none⟩,
   ⟨.tmp, .call (.t 0) [(.t 1), (.t 2), (.t 3)], .none⟩])),
 []⟩
def c57 : AFunc := ⟨[0, 1, 2, 3, 4, 8],
 (.seq (.ops [⟨(.var 4), .box 3 true (.v 0), .none⟩])
 (.seq (.ops [⟨.tmp, .load 3 true (.v 2), .none⟩,
   ⟨.tmp, .load 3 true (.v 4), .none⟩,
   ⟨(.var 5), .bin .eql (.struct [.int, .int, .int]) (.t 0) (.t 1), .none⟩])
 (.cond (.v 5)
  (.ops [⟨.tmp, .mov (.v 1), .none⟩,
    ⟨.no, .store 1 (.v 3) (.t 0), .none⟩])
  .skip))),
 []⟩
def c59 : AFunc := ⟨[0, 1, 4, 5, 6],
 (.seq (.ops [⟨(.var 2), .mov (.c (.int .u32 0)), .none⟩,
   ⟨(.var 3), .mov (.c (.int .u32 0)), .none⟩])
 (.seq (.ops [⟨.tmp, .mov (.v 0), .none⟩,
   ⟨.tmp, .toInt .u64 (.t 0), .none⟩,
   ⟨.tmp, .mov (.v 1), .none⟩,
   ⟨.tmp, .toInt .u64 (.t 2), .none⟩,
   ⟨.tmp, .bin .mul .arith (.t 1) (.t 3), .none⟩,
   ⟨(.var 4), .mov (.t 4), .none⟩])
 (.seq (.ops [⟨.tmp, .mov (.v 4), .none⟩,
   ⟨.tmp, .bin .shr .arith (.t 0) (.c (.int .u64 32)), .none⟩,
   ⟨.tmp, .toInt .u32 (.t 1), .none⟩,
   ⟨.tmp, .mov (.v 4), .none⟩,
   ⟨.tmp, .toInt .u32 (.t 3), .none⟩,
   ⟨(.var 2), .mov (.t 2), .none⟩,
   ⟨(.var 3), .mov (.t 4), .none⟩])
 .ret))),
 [2, 3]⟩
def c60 : AFunc := ⟨[0, 1, 4, 5, 6, 7, 8, 9, 10, 11, 12, 13],
 (.seq (.ops [⟨(.var 2), .mov (.c (.int .u64 0)), .none⟩,
   ⟨(.var 3), .mov (.c (.int .u64 0)), .none⟩])
 (.seq (.ops [⟨.tmp, .mov (.v 0), .none⟩,
   ⟨.tmp, .bin .and .arith (.t 0) (.c (.int .u64 4294967295)), .none⟩,
   ⟨(.var 4), .mov (.t 1), .none⟩])
 (.seq (.ops [⟨.tmp, .mov (.v 0), .none⟩,
   ⟨.tmp, .bin .shr .arith (.t 0) (.c (.int .u64 32)), .none⟩,
   ⟨(.var 5), .mov (.t 1), .none⟩])
 (.seq (.ops [⟨.tmp, .mov (.v 1), .none⟩,
   ⟨.tmp, .bin .and .arith (.t 0) (.c (.int .u64 4294967295)), .none⟩,
   ⟨(.var 6), .mov (.t 1), .none⟩])
 (.seq (.ops [⟨.tmp, .mov (.v 1), .none⟩,
   ⟨.tmp, .bin .shr .arith (.t 0) (.c (.int .u64 32)), .none⟩,
   ⟨(.var 7), .mov (.t 1), .none⟩])
 (.seq (.ops [⟨.tmp, .mov (.v 4), .none⟩,
   ⟨.tmp, .mov (.v 6), .none⟩,
   ⟨.tmp, .bin .mul .arith (.t 0) (.t 1), .none⟩,
   ⟨(.var 8), .mov (.t 2), .none⟩])
 (.seq (.ops [⟨.tmp, .mov (.v 5), .none⟩,
   ⟨.tmp, .mov (.v 6), .none⟩,
   ⟨.tmp, .bin .mul .arith (.t 0) (.t 1), .none⟩,
   ⟨.tmp, .mov (.v 8), .none⟩,
   ⟨.tmp, .bin .shr .arith (.t 3) (.c (.int .u64 32)), .none⟩,
   ⟨.tmp, .bin .add .arith (.t 2) (.t 4), .none⟩,
   ⟨(.var 9), .mov (.t 5), .none⟩])
 (.seq (.ops [⟨.tmp, .mov (.v 9), .none⟩,
   ⟨.tmp, .bin .and .arith (.t 0) (.c (.int .u64 4294967295)), .none⟩,
   ⟨(.var 10), .mov (.t 1), .none⟩])
 (.seq (.ops [⟨.tmp, .mov (.v 9), .none⟩,
   ⟨.tmp, .bin .shr .arith (.t 0) (.c (.int .u64 32)), .none⟩,
   ⟨(.var 11), .mov (.t 1), .none⟩])
 (.seq (.ops [⟨.tmp, .mov (.v 10), .none⟩,
   ⟨.tmp, .mov (.v 4), .none⟩,
   ⟨.tmp, .mov (.v 7), .none⟩,
   ⟨.tmp, .bin .mul .arith (.t 1) (.t 2), .none⟩,
   ⟨.tmp, .bin .add .arith (.t 0) (.t 3), .none⟩,
   ⟨(.var 10), .mov (.t 4), .none⟩])
 (.seq (.ops [⟨.tmp, .mov (.v 5), .none⟩,
   ⟨.tmp, .mov (.v 7), .none⟩,
   ⟨.tmp, .bin .mul .arith (.t 0) (.t 1), .none⟩,
   ⟨.tmp, .mov (.v 11), .none⟩,
   ⟨.tmp, .bin .add .arith (.t 2) (.t 3), .none⟩,
   ⟨.tmp, .mov (.v 10), .none⟩,
   ⟨.tmp, .bin .shr .arith (.t 5) (.c (.int .u64 32)), .none⟩,
   ⟨.tmp, .bin .add .arith (.t 4) (.t 6), .none⟩,
   ⟨(.var 2), .mov (.t 7), .none⟩])
 (.seq (.ops [⟨.tmp, .mov (.v 0), .none⟩,
   ⟨.tmp, .mov (.v 1), .none⟩,
   ⟨.tmp, .bin .mul .arith (.t 0) (.t 1), .none⟩,
   ⟨(.var 3), .mov (.t 2), .none⟩])
 .ret)))))))))))),
 [2, 3]⟩
theorem c3_ok : compFunc Try.prog hints 3 = some c3 := by kernel_rfl
theorem c4_ok : compFunc Try.prog hints 4 = some c4 := by kernel_rfl
theorem c5_ok : compFunc Try.prog hints 5 = some c5 := by kernel_rfl
theorem c6_ok : compFunc Try.prog hints 6 = some c6 := by kernel_rfl
theorem c7_ok : compFunc Try.prog hints 7 = some c7 := by kernel_rfl
theorem c8_ok : compFunc Try.prog hints 8 = some c8 := by kernel_rfl
theorem c9_ok : compFunc Try.prog hints 9 = some c9 := by kernel_rfl
theorem c10_ok : compFunc Try.prog hints 10 = some c10 := by kernel_rfl
theorem c11_ok : compFunc Try.prog hints 11 = some c11 := by kernel_rfl
theorem c12_ok : compFunc Try.prog hints 12 = some c12 := by kernel_rfl
theorem c13_ok : compFunc Try.prog hints 13 = some c13 := by kernel_rfl
theorem c14_ok : compFunc Try.prog hints 14 = some c14 := by kernel_rfl
theorem c15_ok : compFunc Try.prog hints 15 = some c15 := by kernel_rfl
theorem c16_ok : compFunc Try.prog hints 16 = some c16 := by kernel_rfl
theorem c17_ok : compFunc Try.prog hints 17 = some c17 := by kernel_rfl
theorem c18_ok : compFunc Try.prog hints 18 = some c18 := by kernel_rfl
theorem c19_ok : compFunc Try.prog hints 19 = some c19 := by kernel_rfl
theorem c20_ok : compFunc Try.prog hints 20 = some c20 := by kernel_rfl
theorem c21_ok : compFunc Try.prog hints 21 = some c21 := by kernel_rfl
theorem c22_ok : compFunc Try.prog hints 22 = some c22 := by kernel_rfl
theorem c23_ok : compFunc Try.prog hints 23 = some c23 := by kernel_rfl
theorem c24_ok : compFunc Try.prog hints 24 = some c24 := by kernel_rfl
theorem c25_ok : compFunc Try.prog hints 25 = some c25 := by kernel_rfl
theorem c26_ok : compFunc Try.prog hints 26 = some c26 := by kernel_rfl
theorem c27_ok : compFunc Try.prog hints 27 = some c27 := by kernel_rfl
theorem c28_ok : compFunc Try.prog hints 28 = some c28 := by kernel_rfl
theorem c29_ok : compFunc Try.prog hints 29 = some c29 := by kernel_rfl
theorem c30_ok : compFunc Try.prog hints 30 = some c30 := by kernel_rfl
theorem c31_ok : compFunc Try.prog hints 31 = some c31 := by kernel_rfl
theorem c32_ok : compFunc Try.prog hints 32 = some c32 := by kernel_rfl
theorem c33_ok : compFunc Try.prog hints 33 = some c33 := by kernel_rfl
theorem c34_ok : compFunc Try.prog hints 34 = some c34 := by kernel_rfl
theorem c35_ok : compFunc Try.prog hints 35 = some c35 := by kernel_rfl
theorem c36_ok : compFunc Try.prog hints 36 = some c36 := by kernel_rfl
theorem c37_ok : compFunc Try.prog hints 37 = some c37 := by kernel_rfl
theorem c38_ok : compFunc Try.prog hints 38 = some c38 := by kernel_rfl
theorem c39_ok : compFunc Try.prog hints 39 = some c39 := by kernel_rfl
theorem c40_ok : compFunc Try.prog hints 40 = some c40 := by kernel_rfl
theorem c41_ok : compFunc Try.prog hints 41 = some c41 := by kernel_rfl
theorem c42_ok : compFunc Try.prog hints 42 = some c42 := by kernel_rfl
theorem c43_ok : compFunc Try.prog hints 43 = some c43 := by kernel_rfl
theorem c44_ok : compFunc Try.prog hints 44 = some c44 := by kernel_rfl
theorem c45_ok : compFunc Try.prog hints 45 = some c45 := by kernel_rfl
theorem c46_ok : compFunc Try.prog hints 46 = some c46 := by kernel_rfl
theorem c47_ok : compFunc Try.prog hints 47 = some c47 := by kernel_rfl
theorem c48_ok : compFunc Try.prog hints 48 = some c48 := by kernel_rfl
theorem c49_ok : compFunc Try.prog hints 49 = some c49 := by kernel_rfl
theorem c50_ok : compFunc Try.prog hints 50 = some c50 := by kernel_rfl
theorem c52_ok : compFunc Try.prog hints 52 = some c52 := by kernel_rfl
theorem c53_ok : compFunc Try.prog hints 53 = some c53 := by kernel_rfl
theorem c54_ok : compFunc Try.prog hints 54 = some c54 := by kernel_rfl
theorem c55_ok : compFunc Try.prog hints 55 = some c55 := by kernel_rfl
theorem c56_ok : compFunc Try.prog hints 56 = some c56 := by kernel_rfl
theorem c57_ok : compFunc Try.prog hints 57 = some c57 := by kernel_rfl
theorem c59_ok : compFunc Try.prog hints 59 = some c59 := by kernel_rfl
theorem c60_ok : compFunc Try.prog hints 60 = some c60 := by kernel_rfl
def F : Nat → Option AEnt
  | 3 => some (.comp c3)
  | 4 => some (.comp c4)
  | 5 => some (.comp c5)
  | 6 => some (.comp c6)
  | 7 => some (.comp c7)
  | 8 => some (.comp c8)
  | 9 => some (.comp c9)
  | 10 => some (.comp c10)
  | 11 => some (.comp c11)
  | 12 => some (.comp c12)
  | 13 => some (.comp c13)
  | 14 => some (.comp c14)
  | 15 => some (.comp c15)
  | 16 => some (.comp c16)
  | 17 => some (.comp c17)
  | 18 => some (.comp c18)
  | 19 => some (.comp c19)
  | 20 => some (.comp c20)
  | 21 => some (.comp c21)
  | 22 => some (.comp c22)
  | 23 => some (.comp c23)
  | 24 => some (.comp c24)
  | 25 => some (.comp c25)
  | 26 => some (.comp c26)
  | 27 => some (.comp c27)
  | 28 => some (.comp c28)
  | 29 => some (.comp c29)
  | 30 => some (.comp c30)
  | 31 => some (.comp c31)
  | 32 => some (.comp c32)
  | 33 => some (.comp c33)
  | 34 => some (.comp c34)
  | 35 => some (.comp c35)
  | 36 => some (.comp c36)
  | 37 => some (.comp c37)
  | 38 => some (.comp c38)
  | 39 => some (.comp c39)
  | 40 => some (.comp c40)
  | 41 => some (.comp c41)
  | 42 => some (.comp c42)
  | 43 => some (.comp c43)
  | 44 => some (.comp c44)
  | 45 => some (.comp c45)
  | 46 => some (.comp c46)
  | 47 => some (.comp c47)
  | 48 => some (.comp c48)
  | 49 => some (.comp c49)
  | 50 => some (.comp c50)
  | 52 => some (.comp c52)
  | 53 => some (.comp c53)
  | 54 => some (.comp c54)
  | 55 => some (.comp c55)
  | 56 => some (.comp c56)
  | 57 => some (.comp c57)
  | 59 => some (.comp c59)
  | 60 => some (.comp c60)
  | 51 => some (.hand (stringS 5))
  | 58 => some (.hand (copyCheckS 78))
  | _ => none
end Go.Proofs.Ytcammfdljiingaa
