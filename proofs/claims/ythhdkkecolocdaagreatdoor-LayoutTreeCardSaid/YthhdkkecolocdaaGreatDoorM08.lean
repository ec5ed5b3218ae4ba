/-
  Merged from LvPs LvP0 LvP1 LvP2 LvP3a LvP3b LvP3c LvP3d LvP4 LvLiv LyL1 LyY1 LyT1 LyTc LyTb: States between the pieces of the documented example (printed by wip/bin/pcs.py).
-/
import Derived.Test.YthhdkkecolocdaaGreatDoorM07
import Derived.Test.YthhdkkecolocdaaGreatDoorM06
import Derived.Test.YthhdkkecolocdaaGreatDoorTie
import Derived.Test.YthhdkkecolocdaaGreatDoorCards
set_option linter.unusedSimpArgs false
set_option linter.unusedVariables false
set_option linter.defProp false
set_option linter.constructorNameAsVariable false
/-
 States between the pieces of the documented example (printed by wip/bin/pcs.py).
-/
namespace Go.Proofs.YthhdkkecolocdaaGreatDoor
open Go Go.Abs
noncomputable def pv0 : List AVal := (cv 14).slots.map fun _ => .tup []
def ph0 : Heap := Heap.empty
def pv1 : List AVal := [(.bool false), tN, tN, tN, tN, tN, tN, tN, tN, tN, tN, tN, tN, tN, tN, tN, tN, tN, tN]
def ph1 : Heap := ⟨0, .leaf⟩
def pv2 : List AVal := [(.bool false), (.sl [(.agg [(.str [97]), z6, z6, z6, (i6 5)]), (.agg [(.str [99]), (i6 1), z6, z6, (i6 5)]), (.agg [(.str [101]), (i6 2), z6, z6, (i6 5)]), (.agg [(.str [112]), (i6 3), z6, z6, (i6 5)]), (.agg [(.str [116]), (i6 4), z6, z6, (i6 5)])] .none), tN, tN, tN, tN, tN, tN, tN, tN, tN, tN, tN, tN, tN, tN, tN, tN, tN]
def ph2 : Heap := ⟨0, .leaf⟩
def pv3 : List AVal := [(.bool false), .bad, (.ptr 0 0), tN, tN, tN, tN, tN, tN, tN, tN, tN, tN, tN, tN, tN, tN, tN, tN]
def ph3 : Heap := ⟨1, (.node (some (.row true 1000047 true [(.sl [(.agg [(.str [97]), z6, z6, z6, (i6 5)]), (.agg [(.str [99]), (i6 1), z6, z6, (i6 5)]), (.agg [(.str [101]), (i6 2), z6, z6, (i6 5)]), (.agg [(.str [112]), (i6 3), z6, z6, (i6 5)]), (.agg [(.str [116]), (i6 4), z6, z6, (i6 5)])] .none), nS, nS, nS, nS, nS, nS, nS, nS, (i6 3), (i6 5), (i6 4), (i6 100), nS, (i6 200), z6, z6])) .leaf .leaf)⟩
def pv4 : List AVal := [(.bool false), .bad, (.ptr 0 0), (.ptr 1 0), tN, tN, tN, tN, tN, tN, tN, tN, tN, tN, tN, tN, tN, tN, tN]
def ph4 : Heap := ⟨3, (.node (some (.row true 1000047 true [(.sl [(.agg [(.str [97]), z6, z6, z6, (i6 5)]), (.agg [(.str [99]), (i6 1), z6, z6, (i6 5)]), (.agg [(.str [101]), (i6 2), z6, z6, (i6 5)]), (.agg [(.str [112]), (i6 3), z6, z6, (i6 5)]), (.agg [(.str [116]), (i6 4), z6, z6, (i6 5)])] .none), nS, nS, nS, nS, nS, nS, nS, nS, (i6 3), (i6 5), (i6 4), (i6 100), nS, (i6 200), z6, z6])) (.node (some (.row true 1000031 true [(.sl [(.agg [z6, (i6 1), (i6 8), (.sl [(.agg [(.str [99, 97, 116]), z6, z6, z6, z6, z6, z6])] .none), nS]), (.agg [z6, (i6 1), (i6 9), (.sl [(.agg [(.str [112, 101, 116]), z6, z6, z6, z6, z6, z6])] .none), nS])] .none), (.ref 2 0 4 14), nS, nS, nS, nS, nS])) .leaf .leaf) (.node (some (.row true 14 true [z6, (i6 1), (i6 1), z6, (i6 1), (i6 8), (.sl [(.agg [(.str [97, 32, 112, 101, 116]), z6, z6, z6, z6, z6, z6])] .none), (.sl [(.agg [(.str []), (i6 5), z6, z6, z6, z6, z6])] .none), nS, nS, nS, nS, nS, nS, z6, (i6 1), (i6 2), z6, (i6 1), (i6 8), (.sl [(.agg [(.str [97]), z6, z6, z6, z6, z6, z6])] .none), (.sl [(.agg [(.str []), (i6 4), z6, z6, z6, z6, z6])] .none), nS, nS, nS, nS, nS, nS, z6, (i6 1), (i6 3), z6, (i6 1), (i6 1), (.sl [(.agg [(.str [97]), z6, z6, z6, z6, z6, z6])] .none), (.sl [(.agg [(.str []), z6, z6, z6, z6, z6, z6])] .none), nS, nS, nS, nS, nS, nS, z6, (i6 1), (i6 4), z6, (i6 1), (i6 9), (.sl [(.agg [(.str [97, 32, 99, 97, 116]), z6, z6, z6, z6, z6, z6])] .none), (.sl [(.agg [(.str []), z6, z6, z6, z6, z6, z6])] .none), nS, nS, nS, nS, nS, nS])) .leaf .leaf))⟩
def pv5 : List AVal := [(.bool false), .bad, (.ptr 0 0), (.ptr 1 0), tN, tN, tN, tN, tN, tN, tN, tN, tN, tN, tN, tN, tN, tN, tN]
def ph5 : Heap := ⟨3, (.node (some (.row true 1000047 true [(.sl [(.agg [(.str [97]), z6, z6, z6, (i6 5)]), (.agg [(.str [99]), (i6 1), z6, z6, (i6 5)]), (.agg [(.str [101]), (i6 2), z6, z6, (i6 5)]), (.agg [(.str [112]), (i6 3), z6, z6, (i6 5)]), (.agg [(.str [116]), (i6 4), z6, z6, (i6 5)])] .none), nS, nS, nS, nS, nS, nS, nS, nS, (i6 3), (i6 5), (i6 4), (i6 100), nS, (i6 200), z6, z6])) (.node (some (.row true 1000031 true [(.sl [(.agg [z6, (i6 1), (i6 8), (.sl [(.agg [(.str [99, 97, 116]), z6, z6, z6, z6, z6, z6])] .none), nS]), (.agg [z6, (i6 1), (i6 9), (.sl [(.agg [(.str [112, 101, 116]), z6, z6, z6, z6, z6, z6])] .none), nS])] .none), (.ref 2 0 4 14), nS, nS, nS, nS, nS])) .leaf .leaf) (.node (some (.row true 14 true [z6, (i6 1), (i6 1), z6, (i6 1), (i6 8), (.sl [(.agg [(.str [97, 32, 112, 101, 116]), z6, z6, z6, z6, z6, z6])] .none), (.sl [(.agg [(.str []), (i6 5), z6, z6, z6, z6, z6])] .none), nS, nS, nS, nS, (.sl [(.str [114, 97, 114, 101])] .none), nS, z6, (i6 1), (i6 2), z6, (i6 1), (i6 8), (.sl [(.agg [(.str [97]), z6, z6, z6, z6, z6, z6])] .none), (.sl [(.agg [(.str []), (i6 4), z6, z6, z6, z6, z6])] .none), nS, nS, nS, nS, nS, nS, z6, (i6 1), (i6 3), z6, (i6 1), (i6 1), (.sl [(.agg [(.str [97]), z6, z6, z6, z6, z6, z6])] .none), (.sl [(.agg [(.str []), z6, z6, z6, z6, z6, z6])] .none), nS, nS, nS, nS, nS, nS, z6, (i6 1), (i6 4), z6, (i6 1), (i6 9), (.sl [(.agg [(.str [97, 32, 99, 97, 116]), z6, z6, z6, z6, z6, z6])] .none), (.sl [(.agg [(.str []), z6, z6, z6, z6, z6, z6])] .none), nS, nS, nS, nS, nS, nS])) .leaf .leaf))⟩
def pv6 : List AVal := [(.bool false), .bad, (.ptr 0 0), (.ptr 1 0), tN, tN, tN, tN, tN, tN, tN, tN, tN, tN, tN, tN, tN, tN, tN]
def ph6 : Heap := ⟨3, (.node (some (.row true 1000047 true [(.sl [(.agg [(.str [97]), z6, z6, z6, (i6 5)]), (.agg [(.str [99]), (i6 1), z6, z6, (i6 5)]), (.agg [(.str [101]), (i6 2), z6, z6, (i6 5)]), (.agg [(.str [112]), (i6 3), z6, z6, (i6 5)]), (.agg [(.str [116]), (i6 4), z6, z6, (i6 5)])] .none), nS, nS, nS, nS, nS, nS, nS, nS, (i6 3), (i6 5), (i6 4), (i6 100), nS, (i6 200), z6, z6])) (.node (some (.row true 1000031 true [(.sl [(.agg [z6, (i6 1), (i6 8), (.sl [(.agg [(.str [99, 97, 116]), z6, z6, z6, z6, z6, z6])] .none), nS]), (.agg [z6, (i6 1), (i6 9), (.sl [(.agg [(.str [112, 101, 116]), z6, z6, z6, z6, z6, z6])] .none), nS])] .none), (.ref 2 0 4 14), nS, nS, nS, nS, nS])) .leaf .leaf) (.node (some (.row true 14 true [z6, (i6 1), (i6 1), z6, (i6 1), (i6 8), (.sl [(.agg [(.str [97, 32, 112, 101, 116]), z6, z6, z6, z6, z6, z6])] .none), (.sl [(.agg [(.str []), (i6 5), z6, z6, z6, z6, z6])] .none), nS, nS, nS, nS, (.sl [(.str [114, 97, 114, 101])] .none), (.sl [(.agg [z6, (i6 1), (i6 4)])] .none), z6, (i6 1), (i6 2), z6, (i6 1), (i6 8), (.sl [(.agg [(.str [97]), z6, z6, z6, z6, z6, z6])] .none), (.sl [(.agg [(.str []), (i6 4), z6, z6, z6, z6, z6])] .none), nS, nS, nS, nS, nS, nS, z6, (i6 1), (i6 3), z6, (i6 1), (i6 1), (.sl [(.agg [(.str [97]), z6, z6, z6, z6, z6, z6])] .none), (.sl [(.agg [(.str []), z6, z6, z6, z6, z6, z6])] .none), nS, nS, nS, nS, nS, nS, z6, (i6 1), (i6 4), z6, (i6 1), (i6 9), (.sl [(.agg [(.str [97, 32, 99, 97, 116]), z6, z6, z6, z6, z6, z6])] .none), (.sl [(.agg [(.str []), z6, z6, z6, z6, z6, z6])] .none), nS, nS, nS, nS, nS, nS])) .leaf .leaf))⟩
def pv7 : List AVal := [(.bool false), .bad, (.ptr 0 0), (.ptr 1 0), (.sl [(.agg [z6, (i6 1), (i6 1)]), (.agg [z6, (i6 1), (i6 2)]), (.agg [z6, (i6 1), (i6 3)])] .none), tN, tN, tN, tN, tN, tN, tN, tN, tN, tN, tN, tN, tN, tN]
def ph7 : Heap := ⟨3, (.node (some (.row true 1000047 true [(.sl [(.agg [(.str [97]), z6, z6, z6, (i6 5)]), (.agg [(.str [99]), (i6 1), z6, z6, (i6 5)]), (.agg [(.str [101]), (i6 2), z6, z6, (i6 5)]), (.agg [(.str [112]), (i6 3), z6, z6, (i6 5)]), (.agg [(.str [116]), (i6 4), z6, z6, (i6 5)])] .none), nS, nS, nS, nS, nS, nS, nS, nS, (i6 3), (i6 5), (i6 4), (i6 100), nS, (i6 200), z6, z6])) (.node (some (.row true 1000031 true [(.sl [(.agg [z6, (i6 1), (i6 8), (.sl [(.agg [(.str [99, 97, 116]), z6, z6, z6, z6, z6, z6])] .none), nS]), (.agg [z6, (i6 1), (i6 9), (.sl [(.agg [(.str [112, 101, 116]), z6, z6, z6, z6, z6, z6])] .none), nS])] .none), (.ref 2 0 4 14), nS, nS, nS, nS, nS])) .leaf .leaf) (.node (some (.row true 14 true [z6, (i6 1), (i6 1), z6, (i6 1), (i6 8), (.sl [(.agg [(.str [97, 32, 112, 101, 116]), z6, z6, z6, z6, z6, z6])] .none), (.sl [(.agg [(.str []), (i6 5), z6, z6, z6, z6, z6])] .none), nS, nS, nS, nS, (.sl [(.str [114, 97, 114, 101])] .none), (.sl [(.agg [z6, (i6 1), (i6 4)])] .none), z6, (i6 1), (i6 2), z6, (i6 1), (i6 8), (.sl [(.agg [(.str [97]), z6, z6, z6, z6, z6, z6])] .none), (.sl [(.agg [(.str []), (i6 4), z6, z6, z6, z6, z6])] .none), nS, nS, nS, nS, nS, nS, z6, (i6 1), (i6 3), z6, (i6 1), (i6 1), (.sl [(.agg [(.str [97]), z6, z6, z6, z6, z6, z6])] .none), (.sl [(.agg [(.str []), z6, z6, z6, z6, z6, z6])] .none), nS, nS, nS, nS, nS, nS, z6, (i6 1), (i6 4), z6, (i6 1), (i6 9), (.sl [(.agg [(.str [97, 32, 99, 97, 116]), z6, z6, z6, z6, z6, z6])] .none), (.sl [(.agg [(.str []), z6, z6, z6, z6, z6, z6])] .none), nS, nS, nS, nS, nS, nS])) .leaf .leaf))⟩
def pv8 : List AVal := [(.bool false), .bad, (.ptr 0 0), (.ptr 1 0), (.sl [(.agg [z6, (i6 1), (i6 1)]), (.agg [z6, (i6 1), (i6 2)]), (.agg [z6, (i6 1), (i6 3)])] .none), (.sl [(.agg [z6, (i6 1), (i6 8)])] (.own 2 3)), (.sl [(.sl [(.agg [z6, (i6 1), (i6 2)]), (.agg [z6, (i6 1), (i6 1)]), (.agg [z6, (i6 1), (i6 3)])] .none)] (.own 3 1)), z6, tN, tN, tN, tN, tN, tN, tN, tN, tN, tN, tN]
def ph8 : Heap := ⟨5, (.node (some (.row true 1000047 true [(.sl [(.agg [(.str [97]), z6, z6, z6, (i6 5)]), (.agg [(.str [99]), (i6 1), z6, z6, (i6 5)]), (.agg [(.str [101]), (i6 2), z6, z6, (i6 5)]), (.agg [(.str [112]), (i6 3), z6, z6, (i6 5)]), (.agg [(.str [116]), (i6 4), z6, z6, (i6 5)])] .none), nS, nS, nS, nS, nS, nS, nS, nS, (i6 3), (i6 5), (i6 4), (i6 100), nS, (i6 200), z6, z6])) (.node (some (.row true 1000031 true [(.sl [(.agg [z6, (i6 1), (i6 8), (.sl [(.agg [(.str [99, 97, 116]), z6, z6, z6, z6, z6, z6])] .none), nS]), (.agg [z6, (i6 1), (i6 9), (.sl [(.agg [(.str [112, 101, 116]), z6, z6, z6, z6, z6, z6])] .none), nS])] .none), (.ref 4 0 4 14), nS, nS, nS, nS, nS])) (.node (some (.tok 49)) .leaf .leaf) .leaf) (.node (some (.tok 62)) (.node (some (.row true 14 true [z6, (i6 1), (i6 1), z6, (i6 1), (i6 8), (.sl [(.agg [(.str [97, 32, 112, 101, 116]), z6, z6, z6, z6, z6, z6])] .none), (.sl [(.agg [(.str []), (i6 5), z6, z6, z6, z6, z6])] .none), nS, nS, nS, nS, (.sl [(.str [114, 97, 114, 101])] .none), (.sl [(.agg [z6, (i6 1), (i6 4)])] .none), z6, (i6 1), (i6 2), z6, (i6 1), (i6 8), (.sl [(.agg [(.str [97]), z6, z6, z6, z6, z6, z6])] .none), (.sl [(.agg [(.str []), (i6 4), z6, z6, z6, z6, z6])] .none), nS, nS, nS, nS, nS, nS, z6, (i6 1), (i6 3), z6, (i6 1), (i6 1), (.sl [(.agg [(.str [97]), z6, z6, z6, z6, z6, z6])] .none), (.sl [(.agg [(.str []), z6, z6, z6, z6, z6, z6])] .none), nS, nS, nS, nS, nS, nS, z6, (i6 1), (i6 4), z6, (i6 1), (i6 9), (.sl [(.agg [(.str [97, 32, 99, 97, 116]), z6, z6, z6, z6, z6, z6])] .none), (.sl [(.agg [(.str []), z6, z6, z6, z6, z6, z6])] .none), nS, nS, nS, nS, nS, nS])) .leaf .leaf) .leaf))⟩
def pv9 : List AVal := [(.bool false), .bad, (.ptr 0 0), (.ptr 1 0), (.sl [(.agg [z6, (i6 1), (i6 1)]), (.agg [z6, (i6 1), (i6 2)]), (.agg [z6, (i6 1), (i6 3)])] .none), (.sl [(.agg [z6, (i6 1), (i6 8)])] (.own 2 3)), (.sl [(.sl [(.agg [z6, (i6 1), (i6 2)]), (.agg [z6, (i6 1), (i6 1)]), (.agg [z6, (i6 1), (i6 3)])] .none)] (.own 3 1)), z6, (.bool true), tN, tN, tN, tN, tN, tN, tN, tN, tN, tN]
def ph9 : Heap := ⟨5, (.node (some (.row true 1000047 true [(.sl [(.agg [(.str [97]), z6, z6, z6, (i6 5)]), (.agg [(.str [99]), (i6 1), z6, z6, (i6 5)]), (.agg [(.str [101]), (i6 2), z6, z6, (i6 5)]), (.agg [(.str [112]), (i6 3), z6, z6, (i6 5)]), (.agg [(.str [116]), (i6 4), z6, z6, (i6 5)])] .none), nS, nS, nS, nS, nS, nS, nS, nS, (i6 3), (i6 5), (i6 4), (i6 100), nS, (i6 200), z6, z6])) (.node (some (.row true 1000031 true [(.sl [(.agg [z6, (i6 1), (i6 8), (.sl [(.agg [(.str [99, 97, 116]), z6, z6, z6, z6, z6, z6])] .none), nS]), (.agg [z6, (i6 1), (i6 9), (.sl [(.agg [(.str [112, 101, 116]), z6, z6, z6, z6, z6, z6])] .none), nS])] .none), (.ref 4 0 4 14), nS, nS, nS, nS, nS])) (.node (some (.tok 49)) .leaf .leaf) .leaf) (.node (some (.tok 62)) (.node (some (.row true 14 true [z6, (i6 1), (i6 1), z6, (i6 1), (i6 8), (.sl [(.agg [(.str [97, 32, 112, 101, 116]), z6, z6, z6, z6, z6, z6])] .none), (.sl [(.agg [(.str []), (i6 5), z6, z6, z6, z6, z6])] .none), nS, nS, nS, nS, (.sl [(.str [114, 97, 114, 101])] .none), (.sl [(.agg [z6, (i6 1), (i6 4)])] .none), z6, (i6 1), (i6 2), z6, (i6 1), (i6 8), (.sl [(.agg [(.str [97]), z6, z6, z6, z6, z6, z6])] .none), (.sl [(.agg [(.str []), (i6 4), z6, z6, z6, z6, z6])] .none), nS, nS, nS, nS, nS, nS, z6, (i6 1), (i6 3), z6, (i6 1), (i6 1), (.sl [(.agg [(.str [97]), z6, z6, z6, z6, z6, z6])] .none), (.sl [(.agg [(.str []), z6, z6, z6, z6, z6, z6])] .none), nS, nS, nS, nS, nS, nS, z6, (i6 1), (i6 4), z6, (i6 1), (i6 9), (.sl [(.agg [(.str [97, 32, 99, 97, 116]), z6, z6, z6, z6, z6, z6])] .none), (.sl [(.agg [(.str []), z6, z6, z6, z6, z6, z6])] .none), nS, nS, nS, nS, nS, nS])) .leaf .leaf) .leaf))⟩
def pv10 : List AVal := [(.bool false), .bad, (.ptr 0 0), (.ptr 1 0), (.sl [(.agg [z6, (i6 1), (i6 1)]), (.agg [z6, (i6 1), (i6 2)]), (.agg [z6, (i6 1), (i6 3)])] .none), (.sl [(.agg [z6, (i6 1), (i6 8)])] (.own 2 3)), (.sl [(.sl [(.agg [z6, (i6 1), (i6 2)]), (.agg [z6, (i6 1), (i6 1)]), (.agg [z6, (i6 1), (i6 3)])] .none)] (.own 3 1)), z6, (.bool true), (.bool true), tN, tN, tN, tN, tN, tN, tN, tN, tN]
def ph10 : Heap := ⟨5, (.node (some (.row true 1000047 true [(.sl [(.agg [(.str [97]), z6, z6, z6, (i6 5)]), (.agg [(.str [99]), (i6 1), z6, z6, (i6 5)]), (.agg [(.str [101]), (i6 2), z6, z6, (i6 5)]), (.agg [(.str [112]), (i6 3), z6, z6, (i6 5)]), (.agg [(.str [116]), (i6 4), z6, z6, (i6 5)])] .none), nS, nS, nS, nS, nS, nS, nS, nS, (i6 3), (i6 5), (i6 4), (i6 100), nS, (i6 200), z6, z6])) (.node (some (.row true 1000031 true [(.sl [(.agg [z6, (i6 1), (i6 8), (.sl [(.agg [(.str [99, 97, 116]), z6, z6, z6, z6, z6, z6])] .none), nS]), (.agg [z6, (i6 1), (i6 9), (.sl [(.agg [(.str [112, 101, 116]), z6, z6, z6, z6, z6, z6])] .none), nS])] .none), (.ref 4 0 4 14), nS, nS, nS, nS, nS])) (.node (some (.tok 49)) .leaf .leaf) .leaf) (.node (some (.tok 62)) (.node (some (.row true 14 true [z6, (i6 1), (i6 1), z6, (i6 1), (i6 8), (.sl [(.agg [(.str [97, 32, 112, 101, 116]), z6, z6, z6, z6, z6, z6])] .none), (.sl [(.agg [(.str []), (i6 5), z6, z6, z6, z6, z6])] .none), nS, nS, nS, nS, (.sl [(.str [114, 97, 114, 101])] .none), (.sl [(.agg [z6, (i6 1), (i6 4)])] .none), z6, (i6 1), (i6 2), z6, (i6 1), (i6 8), (.sl [(.agg [(.str [97]), z6, z6, z6, z6, z6, z6])] .none), (.sl [(.agg [(.str []), (i6 4), z6, z6, z6, z6, z6])] .none), nS, nS, nS, nS, nS, nS, z6, (i6 1), (i6 3), z6, (i6 1), (i6 1), (.sl [(.agg [(.str [97]), z6, z6, z6, z6, z6, z6])] .none), (.sl [(.agg [(.str []), z6, z6, z6, z6, z6, z6])] .none), nS, nS, nS, nS, nS, nS, z6, (i6 1), (i6 4), z6, (i6 1), (i6 9), (.sl [(.agg [(.str [97, 32, 99, 97, 116]), z6, z6, z6, z6, z6, z6])] .none), (.sl [(.agg [(.str []), z6, z6, z6, z6, z6, z6])] .none), nS, nS, nS, nS, nS, nS])) .leaf .leaf) .leaf))⟩
def pv11 : List AVal := [(.bool false), .bad, (.ptr 0 0), (.ptr 1 0), (.sl [(.agg [z6, (i6 1), (i6 1)]), (.agg [z6, (i6 1), (i6 2)]), (.agg [z6, (i6 1), (i6 3)])] .none), (.sl [(.agg [z6, (i6 1), (i6 8)])] (.own 2 3)), (.sl [(.sl [(.agg [z6, (i6 1), (i6 2)]), (.agg [z6, (i6 1), (i6 1)]), (.agg [z6, (i6 1), (i6 3)])] .none)] (.own 3 1)), z6, (.bool true), (.bool true), (.ptr 4 0), z6, tN, tN, tN, tN, tN, tN, tN]
def ph11 : Heap := ⟨7, (.node (some (.row true 1000047 true [(.sl [(.agg [(.str [97]), z6, z6, z6, (i6 5)]), (.agg [(.str [99]), (i6 1), z6, z6, (i6 5)]), (.agg [(.str [101]), (i6 2), z6, z6, (i6 5)]), (.agg [(.str [112]), (i6 3), z6, z6, (i6 5)]), (.agg [(.str [116]), (i6 4), z6, z6, (i6 5)])] .none), nS, nS, nS, nS, nS, nS, nS, nS, (i6 3), (i6 5), (i6 4), (i6 100), nS, (i6 200), z6, z6])) (.node (some (.row true 1000031 true [(.sl [(.agg [z6, (i6 1), (i6 8), (.sl [(.agg [(.str [99, 97, 116]), z6, z6, z6, z6, z6, z6])] .none), nS]), (.agg [z6, (i6 1), (i6 9), (.sl [(.agg [(.str [112, 101, 116]), z6, z6, z6, z6, z6, z6])] .none), nS])] .none), (.ref 5 0 4 14), nS, nS, nS, nS, nS])) (.node (some (.tok 49)) .leaf .leaf) (.node (some (.row true 14 true [z6, (i6 1), (i6 1), z6, (i6 1), (i6 8), (.sl [(.agg [(.str [97, 32, 112, 101, 116]), z6, z6, z6, z6, z6, z6])] .none), (.sl [(.agg [(.str []), (i6 5), z6, z6, z6, z6, z6])] .none), nS, nS, nS, nS, (.sl [(.str [114, 97, 114, 101])] .none), (.sl [(.agg [z6, (i6 1), (i6 4)])] .none), z6, (i6 1), (i6 2), z6, (i6 1), (i6 8), (.sl [(.agg [(.str [97]), z6, z6, z6, z6, z6, z6])] .none), (.sl [(.agg [(.str []), (i6 4), z6, z6, z6, z6, z6])] .none), nS, nS, nS, nS, nS, nS, z6, (i6 1), (i6 3), z6, (i6 1), (i6 1), (.sl [(.agg [(.str [97]), z6, z6, z6, z6, z6, z6])] .none), (.sl [(.agg [(.str []), z6, z6, z6, z6, z6, z6])] .none), nS, nS, nS, nS, nS, nS, z6, (i6 1), (i6 4), z6, (i6 1), (i6 9), (.sl [(.agg [(.str [97, 32, 99, 97, 116]), z6, z6, z6, z6, z6, z6])] .none), (.sl [(.agg [(.str []), z6, z6, z6, z6, z6, z6])] .none), nS, nS, nS, nS, nS, nS])) .leaf .leaf)) (.node (some (.tok 62)) (.node (some (.row true 0 true [nS, nS, (.mp 6)])) .leaf .leaf) (.node (some (.map .str 0 [])) .leaf .leaf)))⟩
def pv12 : List AVal := [(.bool false), .bad, (.ptr 0 0), (.ptr 1 0), (.sl [(.agg [z6, (i6 1), (i6 1)]), (.agg [z6, (i6 1), (i6 2)]), (.agg [z6, (i6 1), (i6 3)])] .none), (.sl [(.agg [z6, (i6 1), (i6 8)])] (.own 2 3)), (.sl [(.sl [(.agg [z6, (i6 1), (i6 2)]), (.agg [z6, (i6 1), (i6 1)]), (.agg [z6, (i6 1), (i6 3)])] .none)] (.own 3 1)), z6, (.bool true), (.bool true), (.ptr 4 0), z6, (.ptr 5 0), tN, tN, tN, tN, tN, tN]
def ph12 : Heap := ⟨8, (.node (some (.row true 1000047 true [(.sl [(.agg [(.str [97]), z6, z6, z6, (i6 5)]), (.agg [(.str [99]), (i6 1), z6, z6, (i6 5)]), (.agg [(.str [101]), (i6 2), z6, z6, (i6 5)]), (.agg [(.str [112]), (i6 3), z6, z6, (i6 5)]), (.agg [(.str [116]), (i6 4), z6, z6, (i6 5)])] .none), nS, nS, nS, nS, nS, nS, nS, nS, (i6 3), (i6 5), (i6 4), (i6 100), nS, (i6 200), z6, z6])) (.node (some (.row true 1000031 true [(.sl [(.agg [z6, (i6 1), (i6 8), (.sl [(.agg [(.str [99, 97, 116]), z6, z6, z6, z6, z6, z6])] .none), nS]), (.agg [z6, (i6 1), (i6 9), (.sl [(.agg [(.str [112, 101, 116]), z6, z6, z6, z6, z6, z6])] .none), nS])] .none), (.ref 6 0 4 14), nS, nS, nS, nS, nS])) (.node (some (.tok 49)) (.node (some (.map .str 0 [])) .leaf .leaf) .leaf) (.node (some (.row true 1000120 true [(.sl [(.agg [z6, (i6 1), (i6 1)]), (.agg [z6, (i6 1), (i6 4)])] .none), nS, nS, nS, nS])) .leaf .leaf)) (.node (some (.tok 62)) (.node (some (.row true 0 true [nS, nS, (.mp 7)])) .leaf .leaf) (.node (some (.row true 14 true [z6, (i6 1), (i6 1), z6, (i6 1), (i6 8), (.sl [(.agg [(.str [97, 32, 112, 101, 116]), z6, z6, z6, z6, z6, z6])] .none), (.sl [(.agg [(.str []), (i6 5), z6, z6, z6, z6, z6])] .none), nS, nS, nS, nS, (.sl [(.str [114, 97, 114, 101])] .none), (.sl [(.agg [z6, (i6 1), (i6 4)])] .none), z6, (i6 1), (i6 2), z6, (i6 1), (i6 8), (.sl [(.agg [(.str [97]), z6, z6, z6, z6, z6, z6])] .none), (.sl [(.agg [(.str []), (i6 4), z6, z6, z6, z6, z6])] .none), nS, nS, nS, nS, nS, nS, z6, (i6 1), (i6 3), z6, (i6 1), (i6 1), (.sl [(.agg [(.str [97]), z6, z6, z6, z6, z6, z6])] .none), (.sl [(.agg [(.str []), z6, z6, z6, z6, z6, z6])] .none), nS, nS, nS, nS, nS, nS, z6, (i6 1), (i6 4), z6, (i6 1), (i6 9), (.sl [(.agg [(.str [97, 32, 99, 97, 116]), z6, z6, z6, z6, z6, z6])] .none), (.sl [(.agg [(.str []), z6, z6, z6, z6, z6, z6])] .none), nS, nS, nS, nS, nS, nS])) .leaf .leaf)))⟩
def pv13 : List AVal := [(.bool false), .bad, (.ptr 0 0), (.ptr 1 0), .bad, (.sl [(.agg [z6, (i6 1), (i6 8)])] (.own 2 3)), (.sl [(.sl [(.agg [z6, (i6 1), (i6 2)]), (.agg [z6, (i6 1), (i6 1)]), (.agg [z6, (i6 1), (i6 3)])] .none)] (.own 3 1)), z6, (.bool true), (.bool true), (.ptr 4 0), z6, (.ptr 5 0), (.ptr 6 0), z6, tN, tN, tN, tN]
def ph13 : Heap := ⟨10, (.node (some (.row true 1000047 true [(.sl [(.agg [(.str [97]), z6, z6, z6, (i6 5)]), (.agg [(.str [99]), (i6 1), z6, z6, (i6 5)]), (.agg [(.str [101]), (i6 2), z6, z6, (i6 5)]), (.agg [(.str [112]), (i6 3), z6, z6, (i6 5)]), (.agg [(.str [116]), (i6 4), z6, z6, (i6 5)])] .none), nS, nS, nS, nS, nS, nS, nS, nS, (i6 3), (i6 5), (i6 4), (i6 100), nS, (i6 200), z6, z6])) (.node (some (.row true 1000031 true [(.sl [(.agg [z6, (i6 1), (i6 8), (.sl [(.agg [(.str [99, 97, 116]), z6, z6, z6, z6, z6, z6])] .none), nS]), (.agg [z6, (i6 1), (i6 9), (.sl [(.agg [(.str [112, 101, 116]), z6, z6, z6, z6, z6, z6])] .none), nS])] .none), (.ref 7 0 4 14), nS, nS, nS, nS, nS])) (.node (some (.tok 49)) (.node (some (.row true 14 true [z6, (i6 1), (i6 1), z6, (i6 1), (i6 8), (.sl [(.agg [(.str [97, 32, 112, 101, 116]), z6, z6, z6, z6, z6, z6])] .none), (.sl [(.agg [(.str []), (i6 5), z6, z6, z6, z6, z6])] .none), nS, nS, nS, nS, (.sl [(.str [114, 97, 114, 101])] .none), (.sl [(.agg [z6, (i6 1), (i6 4)])] .none), z6, (i6 1), (i6 2), z6, (i6 1), (i6 8), (.sl [(.agg [(.str [97]), z6, z6, z6, z6, z6, z6])] .none), (.sl [(.agg [(.str []), (i6 4), z6, z6, z6, z6, z6])] .none), nS, nS, nS, nS, nS, nS, z6, (i6 1), (i6 3), z6, (i6 1), (i6 1), (.sl [(.agg [(.str [97]), z6, z6, z6, z6, z6, z6])] .none), (.sl [(.agg [(.str []), z6, z6, z6, z6, z6, z6])] .none), nS, nS, nS, nS, nS, nS, z6, (i6 1), (i6 4), z6, (i6 1), (i6 9), (.sl [(.agg [(.str [97, 32, 99, 97, 116]), z6, z6, z6, z6, z6, z6])] .none), (.sl [(.agg [(.str []), z6, z6, z6, z6, z6, z6])] .none), nS, nS, nS, nS, nS, nS])) .leaf .leaf) .leaf) (.node (some (.row true 1000120 true [(.sl [(.agg [z6, (i6 1), (i6 1)]), (.agg [z6, (i6 1), (i6 4)])] .none), nS, nS, nS, nS])) (.node (some (.tok 202)) .leaf .leaf) .leaf)) (.node (some (.tok 62)) (.node (some (.row true 0 true [nS, nS, (.mp 8)])) (.node (some (.map .str 0 [])) .leaf .leaf) .leaf) (.node (some (.row true 1000123 true [z6, (i6 1), (i6 8), (.str [99, 97, 116]), (.sl [(.agg [z6, (.str [99, 97, 116]), (i6 15), z6, (.bool true), z6, z6, z6]), (.agg [(i6 1), (.str []), (i6 3), z6, (.bool false), z6, z6, z6]), (.agg [z6, (.str [40, 114, 97, 114, 101, 41]), (i6 26), z6, (.bool false), z6, z6, z6]), (.agg [(i6 1), (.str []), (i6 3), z6, (.bool false), z6, z6, z6]), (.agg [z6, (.str [97]), (i6 5), z6, (.bool false), z6, z6, z6]), (.agg [(i6 1), (.str []), (i6 3), z6, (.bool false), z6, z6, z6]), (.agg [z6, (.str [112, 101, 116]), (i6 15), z6, (.bool false), z6, z6, z6]), (.agg [(i6 1), (.str []), (i6 3), z6, (.bool false), z6, z6, z6]), (.agg [z6, (.str [115, 101, 101]), (i6 14), z6, (.bool false), z6, z6, z6]), (.agg [(i6 1), (.str []), (i6 3), z6, (.bool false), z6, z6, z6]), (.agg [z6, (.str [112, 101, 116]), (i6 15), z6, (.bool false), z6, z6, z6]), (.agg [(i6 1), (.str []), (i6 3), z6, (.bool false), z6, z6, z6]), (.agg [z6, (.str [40, 112, 46]), (i6 13), z6, (.bool false), z6, z6, z6]), (.agg [(i6 1), (.str []), (i6 3), z6, (.bool false), z6, z6, z6]), (.agg [z6, (.str [51]), (i6 5), z6, (.bool false), z6, (i6 1), (i6 9)]), (.agg [z6, (.str [41]), (i6 4), z6, (.bool false), z6, z6, z6]), (.agg [(i6 3), (.str []), z6, z6, (.bool false), z6, z6, z6])] (.own 9 8))])) .leaf .leaf)))⟩
def pv14 : List AVal := [(.bool false), .bad, .bad, .bad, .bad, (.sl [(.agg [z6, (i6 1), (i6 8)])] (.own 0 3)), (.sl [(.sl [(.agg [z6, (i6 1), (i6 2)]), (.agg [z6, (i6 1), (i6 1)]), (.agg [z6, (i6 1), (i6 3)])] .none)] (.own 1 1)), z6, (.bool true), (.bool true), .bad, z6, .bad, (.ptr 2 0), z6, (i6 1), z6, tN, tN]
def ph14 : Heap := ⟨4, (.node (some (.tok 62)) (.node (some (.tok 49)) (.node (some (.tok 202)) .leaf .leaf) .leaf) (.node (some (.row true 1000123 true [z6, (i6 1), (i6 8), (.str [99, 97, 116]), (.sl [(.agg [z6, (.str [99, 97, 116]), (i6 15), z6, (.bool true), z6, z6, z6]), (.agg [(i6 1), (.str []), (i6 3), z6, (.bool false), z6, z6, z6]), (.agg [z6, (.str [40, 114, 97, 114, 101, 41]), (i6 26), z6, (.bool false), z6, z6, z6]), (.agg [(i6 1), (.str []), (i6 3), z6, (.bool false), z6, z6, z6]), (.agg [z6, (.str [97]), (i6 5), z6, (.bool false), z6, z6, z6]), (.agg [(i6 1), (.str []), (i6 3), z6, (.bool false), z6, z6, z6]), (.agg [z6, (.str [112, 101, 116]), (i6 15), z6, (.bool false), z6, z6, z6]), (.agg [(i6 1), (.str []), (i6 3), z6, (.bool false), z6, z6, z6]), (.agg [z6, (.str [115, 101, 101]), (i6 14), z6, (.bool false), z6, z6, z6]), (.agg [(i6 1), (.str []), (i6 3), z6, (.bool false), z6, z6, z6]), (.agg [z6, (.str [112, 101, 116]), (i6 15), z6, (.bool false), z6, z6, z6]), (.agg [(i6 1), (.str []), (i6 3), z6, (.bool false), z6, z6, z6]), (.agg [z6, (.str [40, 112, 46]), (i6 13), z6, (.bool false), z6, z6, z6]), (.agg [(i6 1), (.str []), (i6 3), z6, (.bool false), z6, z6, z6]), (.agg [z6, (.str [51]), (i6 5), z6, (.bool false), z6, (i6 1), (i6 9)]), (.agg [z6, (.str [41]), (i6 4), z6, (.bool false), z6, z6, z6]), (.agg [(i6 3), (.str []), z6, z6, (.bool false), z6, z6, z6])] (.own 3 8))])) .leaf .leaf))⟩
noncomputable def pcB (i : Nat) : ACode := tlN i (cv 14).body
end Go.Proofs.YthhdkkecolocdaaGreatDoor

namespace Go.Proofs.YthhdkkecolocdaaGreatDoor
open Go Go.Abs
set_option maxRecDepth 1000000
theorem pc_0 : pieceB F3 5000 (hdA (pcB 0)) [] pv0 ph0 pv1 ph1 = true := by kernel_rfl
theorem pc_1 : pieceB F3 5000 (hdA (pcB 1)) [] pv1 ph1 pv2 ph2 = true := by kernel_rfl
theorem pc_2 : pieceB F3 5000 (hdA (pcB 2)) [0] pv2 ph2 pv3 ph3 = true := by kernel_rfl
theorem pc_3 : pieceB F3 5000 (hdA (pcB 3)) [0, 2, 1] pv3 ph3 pv4 ph4 = true := by kernel_rfl
end Go.Proofs.YthhdkkecolocdaaGreatDoor

namespace Go.Proofs.YthhdkkecolocdaaGreatDoor
open Go Go.Abs
set_option maxRecDepth 1000000
theorem pc_4 : pieceB F3 5000 (hdA (pcB 4)) [0, 1, 2] pv4 ph4 pv5 ph5 = true := by kernel_rfl
theorem pc_5 : pieceB F3 5000 (hdA (pcB 5)) [0, 1, 2] pv5 ph5 pv6 ph6 = true := by kernel_rfl
theorem pc_6 : pieceB F3 5000 (hdA (pcB 6)) [0, 1, 2] pv6 ph6 pv7 ph7 = true := by kernel_rfl
theorem pc_7 : pieceB F3 5000 (hdA (pcB 7)) [0, 1, 23, 187, 2] pv7 ph7 pv8 ph8 = true := by kernel_rfl
end Go.Proofs.YthhdkkecolocdaaGreatDoor

namespace Go.Proofs.YthhdkkecolocdaaGreatDoor
open Go Go.Abs
set_option maxRecDepth 1000000
theorem pc_8 : pieceB F3 5000 (hdA (pcB 8)) [0, 1, 2, 3, 4] pv8 ph8 pv9 ph9 = true := by kernel_rfl
theorem pc_9 : pieceB F3 5000 (hdA (pcB 9)) [0, 1, 2, 3, 4] pv9 ph9 pv10 ph10 = true := by kernel_rfl
theorem pc_10 : pieceB F3 5000 (hdA (pcB 10)) [0, 1, 2, 3, 7, 4, 6] pv10 ph10 pv11 ph11 = true := by kernel_rfl
theorem pc_11 : pieceB F3 5000 (hdA (pcB 11)) [0, 1, 2, 3, 4, 7, 5, 6] pv11 ph11 pv12 ph12 = true := by kernel_rfl
end Go.Proofs.YthhdkkecolocdaaGreatDoor

namespace Go.Proofs.YthhdkkecolocdaaGreatDoor
open Go Go.Abs
set_option maxRecDepth 1000000
theorem pc_12_0 : pieceB F3 5000 (.ops ((altsOfA (hdA (pcB 12))).getD 0 [])) [0, 1, 2, 3, 4, 5, 332, 6, 7, 331] pv12 ph12 pv13 ph13 = true := by kernel_rfl
end Go.Proofs.YthhdkkecolocdaaGreatDoor

namespace Go.Proofs.YthhdkkecolocdaaGreatDoor
open Go Go.Abs
set_option maxRecDepth 1000000
theorem pc_12_1 : pieceB F3 5000 (.ops ((altsOfA (hdA (pcB 12))).getD 1 [])) [0, 1, 2, 3, 4, 5, 9, 6, 7, 332] pv12 ph12 pv13 ph13 = true := by kernel_rfl
end Go.Proofs.YthhdkkecolocdaaGreatDoor

namespace Go.Proofs.YthhdkkecolocdaaGreatDoor
open Go Go.Abs
set_option maxRecDepth 1000000
theorem pc_12_2 : pieceB F3 5000 (.ops ((altsOfA (hdA (pcB 12))).getD 2 [])) [0, 1, 2, 3, 4, 5, 9, 6, 7, 332] pv12 ph12 pv13 ph13 = true := by kernel_rfl
end Go.Proofs.YthhdkkecolocdaaGreatDoor

namespace Go.Proofs.YthhdkkecolocdaaGreatDoor
open Go Go.Abs
set_option maxRecDepth 1000000
theorem pc_12_3 : pieceB F3 5000 (.ops ((altsOfA (hdA (pcB 12))).getD 3 [])) [0, 1, 2, 3, 4, 5, 8, 6, 7, 332] pv12 ph12 pv13 ph13 = true := by kernel_rfl
end Go.Proofs.YthhdkkecolocdaaGreatDoor

namespace Go.Proofs.YthhdkkecolocdaaGreatDoor
open Go Go.Abs
set_option maxRecDepth 1000000
theorem pc_13 : pieceB F3 5000 (hdA (pcB 13)) [2, 3, 6, 9] pv13 ph13 pv14 ph14 = true := by kernel_rfl
end Go.Proofs.YthhdkkecolocdaaGreatDoor

namespace Go.Proofs.YthhdkkecolocdaaGreatDoor
open Go Go.Abs
set_option maxRecDepth 1000000
theorem pc_last : lastB F3 5000 (pcB 14) pv14 ph14 (cv 14).results (.bool true) = true := by kernel_rfl
theorem liv_len : (altsOfA (hdA (pcB 12))).length = 4 := by kernel_rfl
theorem liv_shape : pcShape [false, false, false, false, false, false, false, false, false, false, false, false, true, false] (bodyOf Tryz.prog 14) = true := by kernel_rfl
theorem tlN_succ (n : Nat) : tlA (pcB n) = pcB (n + 1) := by
 unfold pcB
 generalize (cv 14).body = c
 induction n generalizing c with
 | zero => rfl
 | succ n ih => simp only [tlN] at ih ⊢; exact ih _
theorem liv_alts : altsOfA (hdA (pcB 12)) ≠ [] ∧ ∀ l ∈ altsOfA (hdA (pcB 12)), ∃ L, pieceB F3 5000 (.ops l) L pv12 ph12 pv13 ph13 = true := by
 refine alts_of (Ls := [[0, 1, 2, 3, 4, 5, 332, 6, 7, 331] , [0, 1, 2, 3, 4, 5, 9, 6, 7, 332] , [0, 1, 2, 3, 4, 5, 9, 6, 7, 332] , [0, 1, 2, 3, 4, 5, 8, 6, 7, 332]]) liv_len (by decide) fun k hk => ?_
 match k, hk with
 | 0, _ => exact pc_12_0
 | 1, _ => exact pc_12_1
 | 2, _ => exact pc_12_2
 | 3, _ => exact pc_12_3
 | k + 4, hk => omega
theorem liv_chain : Chain F3 (fun e vs h' => (e = .normal ∨ e = .ret) ∧ ∃ r1, resultsA (cv 14).results vs h' = some r1 ∧ purify h' r1 = some (.bool true)) [false, false, false, false, false, false, false, false, false, false, false, false, true, false] (pcB 0) pv0 ph0 := by
 refine .step pc_0 ?_
 rw [tlN_succ]
 refine .step pc_1 ?_
 rw [tlN_succ]
 refine .step pc_2 ?_
 rw [tlN_succ]
 refine .step pc_3 ?_
 rw [tlN_succ]
 refine .step pc_4 ?_
 rw [tlN_succ]
 refine .step pc_5 ?_
 rw [tlN_succ]
 refine .step pc_6 ?_
 rw [tlN_succ]
 refine .step pc_7 ?_
 rw [tlN_succ]
 refine .step pc_8 ?_
 rw [tlN_succ]
 refine .step pc_9 ?_
 rw [tlN_succ]
 refine .step pc_10 ?_
 rw [tlN_succ]
 refine .step pc_11 ?_
 rw [tlN_succ]
 refine .alt liv_alts ?_
 rw [tlN_succ]
 refine .step pc_13 ?_
 rw [tlN_succ]
 exact .of_last pc_last
theorem liv_call : CallRelE Tryz.prog hintsV 14 [] Heap.empty (.bool true) Heap.empty :=
 chain_call mixedV table3 (cv_ok (n := 14) (by kernel_rfl)).1 liv_shape liv_chain
end Go.Proofs.YthhdkkecolocdaaGreatDoor

set_option maxHeartbeats 4000000
namespace Go.Proofs.YthhdkkecolocdaaGreatDoor
open Go Go.Abs Go.Ly
theorem lives_v : PV F 14 [] = some (.bool true) := by
 obtain ⟨r', h1, h2, h3⟩ := told_is (P := Tryz.prog) (Hh := hints) (g := 14) (Spec := Ly.livesSp) (args := []) ⟨rfl, rfl⟩ liv_call
 subst h3
 exact PV_of (gives_hand rfl h1) rfl
theorem brL (x y : AVal) : (bkRow x y).length = 7 := rfl
theorem brA (a b : List AVal) (s t : Abs.Tok) : (bkRow (.sl a s) (.sl b t)).all AVal.one = true := rfl
theorem brT (x y : AVal) : List.take 7 (bkRow x y) = bkRow x y := rfl
theorem br1 (x y : AVal) : List.take 1 (List.drop 1 (bkRow x y)) = [y] := rfl
theorem br0 (x y : AVal) : setCells [.sl [] .nil, .sl [] .nil, .sl [] .nil, .sl [] .nil, .sl [] .nil, .sl [] .nil, .sl [] .nil] 0 (bkRow x y) = bkRow x y := rfl
theorem br_st (b : Bk) (i j s s' : Nat) : strip (.agg (bkRow (.sl (b.es.map En.val) (.own i s)) (.sl (b.ss.map Sn.val) (.own j s')))) = some b.val := by
 simp only [bkRow, strip, stripL]
 rfl
theorem tree_own {b : Bk} (fit : b.Fit) (he : b.es ≠ []) {h : Heap} {ty1 ty2 s1 s2 : Nat} {t1 t2 : Abs.Tok} (g1 : Gr h ty1 s1 b.es t1) (g2 : Gr h ty2 s2 b.ss t2) : (∃ i, t1 = .own i s1) ∧ ∃ j, t2 = .own j s2 := by
 constructor
 ·rcases g1 with ⟨q, _⟩ | ⟨i, q, _⟩
  ·exact absurd q he
  ·exact ⟨i, q⟩
 ·rcases g2 with ⟨q, _⟩ | ⟨i, q, _⟩
  ·have := fit.ss1
   rw [q] at this
   simp at this
  ·exact ⟨i, q⟩
theorem tree_es (l : List Int) : (treeB l).es ≠ [] := by
 show esOf l 2 ≠ []
 rw [esOf_succ]
 simp
end Go.Proofs.YthhdkkecolocdaaGreatDoor

namespace Go.Proofs.YthhdkkecolocdaaGreatDoor
open Go Go.Abs Go.Gt Go.Ly
def leV (b : Bk) (L : List Ly.Id) (e : Ly.Id) : AVal := .sl ((listE b L e).map Ly.Id.val) (tk (listE b L e))
theorem entR_ok {k : Nat} {b : Bk} {L : List Ly.Id} (hk : k ≠ 0) (h : errE b k L = 0) : entR k b L = .tup [.sl ((sortE k b L).map Ly.Id.val) (tk (sortE k b L)), .sl ((sortE k b L).map (leV b L)) (tk (sortE k b L)), .int .i64 0] := by
 unfold entR; rw [if_neg hk, if_pos h]; rfl
theorem entR_bad {k : Nat} {b : Bk} {L : List Ly.Id} (hk : k ≠ 0) (h : errE b k L ≠ 0) : entR k b L = .tup [.sl [] .nil, .sl [] .nil, .int .i64 (errE b k L)] := by
 unfold entR; rw [if_neg hk, if_neg h]; rfl
theorem tree_heads (l : List Int) : ∀ e ∈ (treeB l).es, e.head ∈ headL := by
 intro e he
 obtain ⟨i, _, rfl⟩ := List.mem_map.1 he
 show nth headL (atS l i 4).toNat ∈ headL
 have := at_bound l i (m := 4) (by omega)
 exact nth_mem (by show _ < 4; omega)
theorem ids_len {b : Bk} (L : List Ly.Id) (hL : L.length ≤ 60) (ok : b.Ok) (e : Ly.Id) : (listE b L e).length ≤ 60 := by
 have := (listE_nodup ok L e).length_le_of_subset (l₂ := L) fun x hx => ((mem_listE ok).1 hx).1
 omega
theorem tree_run {l m : List Int} {t u : Abs.Tok} {many : Int} (ht : Pt t) (hu : Pt u) (hl : ∀ x ∈ l, i64 x) (hm : ∀ x ∈ m, i64 x) (h1 : i64 many) : CV F 6 [.sl (l.map (.int .i64)) t, .sl (m.map (.int .i64)) u, .int .i64 many] Heap.empty (fun v _ => v = .bool true) := by
 refine CV_wp (fn := c6) rfl ?_
 simp only [uT, c6]
 have stu := strip_pt hu (xs := m.map (.int .i64))
 replace fx := Dum_eq
 first | refine go ?_ | exact goC
 refine CV_mono (tree_c ht hl _) ?_
 rintro v H1 ⟨t1, t2, rfl, g1, g2, f1⟩
 have fit := tree_fit l
 have sm := tree_small l
 have hds := tree_heads l
 obtain ⟨⟨i1, rfl⟩, i2, rfl⟩ := tree_own fit (tree_es l) g1 g2
 generalize treeB l = b at fit sm g1 g2 hds ⊢
 have ok := fit.ok
 have hb2 := fit.ss
 obtain ⟨hv, hhv, rest, rfl, hr1, hr2, hr3⟩ := house_v hu hm
 have a1 := around_v (n := many) (m := 12) h1 (by omega)
 have c1 := around_bound many (m := 12) (by omega)
 have sv := some_v b fit (t := u) hm (aroundS many 12) 1 (by omega) (by omega)
 have sl := someL_len b m (many := aroundS many 12) 1 (by omega)
 generalize someL b m (aroundS many 12) 1 = L at sv sl
 have hL : L.length ≤ 60 := by omega
 have stL := strip_pt (tk_pt L) (xs := L.map Ly.Id.val)
 have ev := entries_v b fit hds L hL (sm L) (tk_pt L) (u := .none) (.inl rfl) (k := 10) (by omega) hr1 hr2
 rw [show aK 10 = smallL from rfl] at ev
 have hst : strip (.sl (smallL.map Ltr.val) .none) = some (.sl (smallL.map Ltr.val) .none) := rfl
 by_cases he : errE b 10 L = 0
 ·rw [entR_ok (by decide) he] at ev
  replace fx := aI @brL (aI @brA (aI @brT (aI @br0 (aI @br_st (aI @a1 (aI @sv (aI @stu (aI @stL (aI @hhv (aI @hr3 (aI @hst (aI @ev @lives_v))))))))))))
  first | refine go ?_ | exact goC
  have gb : (H1.push (.row true (typed 31) true (bkRow (.sl (b.es.map En.val) (.own i1 5)) (.sl (b.ss.map Sn.val) (.own i2 14))))).get H1.next = some (.row true (typed 31) true (bkRow (.sl (b.es.map En.val) (.own i1 5)) (.sl (b.ss.map Sn.val) (.own i2 14)))) := get_push_eq rfl
  generalize H1.push (.row true (typed 31) true (bkRow (.sl (b.es.map En.val) (.own i1 5)) (.sl (b.ss.map Sn.val) (.own i2 14)))) = Hc at gb ⊢
  generalize H1.next = p5 at gb ⊢
  have hne := fun e => listE_ne ok he (e := e)
  have hEl : (sortE 10 b L).length ≤ 1000 := by
   have := (sortE_nodup 10 b L).length_le_of_subset (l₂ := L.map (entOf b)) fun e h => by
    obtain ⟨x, hx, q⟩ := mem_entsE.1 (mem_sortE.1 h)
    exact List.mem_map.2 ⟨x, hx, q⟩
   rw [List.length_map] at this
   omega
  generalize sortE 10 b L = E at hne hEl ⊢
  generalize tk E = te
  refine w_loop (fun k vs H => ∃ (i : Nat) (x1 x2 x3 x4 x5 x6 x7 x8 x9 x10 x11 x12 x13 x14 x15 x16 x17 : AVal), k = E.length - i ∧ i ≤ E.length ∧ H.get p5 = some (.row true (typed 31) true (bkRow (.sl (b.es.map En.val) (.own i1 5)) (.sl (b.ss.map Sn.val) (.own i2 14)))) ∧
    vs = [.sl (l.map (.int .i64)) t, .sl (m.map (.int .i64)) u, .int .i64 many, .bool false, .ptr p5 0, .sl (L.map Ly.Id.val) (tk L), .sl (E.map (leV b L)) te, .int .i64 0, .int .i64 (i : Int), x1, x2, x3, x4, x5, x6, x7, x8, x9, x10, x11, x12, x13, x14, x15, x16, x17]) E.length
   ⟨0, _, _, _, _, _, _, _, _, _, _, _, _, _, _, _, _, _, rfl, by omega, gb, rfl⟩ ?_
  clear gb Hc
  rintro k vs H ⟨i, x1, x2, x3, x4, x5, x6, x7, x8, x9, x10, x11, x12, x13, x14, x15, x16, x17, rfl, hi, gb, rfl⟩
  by_cases hi2 : i < E.length
  ·obtain ⟨e, hei⟩ : ∃ e, nth E i = e := ⟨_, rfl⟩
   have heE : e ∈ E := by rw [← hei]; exact nth_mem hi2
   have hle := hne e heE
   have hl60 := ids_len L hL ok e
   have leC : (leV b L e).cells = [.sl ((listE b L e).map Ly.Id.val) (tk (listE b L e))] := rfl
   have hmem : ∀ x ∈ listE b L e, x ∈ listE b L e := fun _ h => h
   have hless := fun z l' x => numb_less ok (L := L) (e := e) (z := z) (l := l') (x := x)
   have hpar := fun x p => numb_par ok (L := L) (e := e) (x := x) (p := p)
   have hinj := fun x y => numb_inj ok (L := L) (e := e) (x := x) (y := y)
   have hnn := fun x => numb_ne ok (L := L) (e := e) (x := x)
   have hnd := listE_nodup ok L e
   have htl : tk (listE b L e) = .none := by unfold tk; rw [if_neg (by simpa using hle)]
   rw [htl] at leC
   clear htl
   generalize listE b L e = le at hle hl60 leC hless hpar hinj hnn hnd
   replace fx := Dum_eq
   (first | refine go ?_ | exact goC); repeat' (first | refine gP ?_ | exact gPc)
   refine w_loop (fun q vs H => ∃ (k : Nat) (tn : Abs.Tok) (x1 x2 x3 x4 x5 x6 x7 x8 x9 x10 x11 x12 x13 x14 x15 : AVal), q = le.length - k ∧ k ≤ le.length ∧ H.get p5 = some (.row true (typed 31) true (bkRow (.sl (b.es.map En.val) (.own i1 5)) (.sl (b.ss.map Sn.val) (.own i2 14)))) ∧ Gr H 9 1 ((le.take k).map (Bk.numb b L)) tn ∧
     vs = [.sl (l.map (.int .i64)) t, .sl (m.map (.int .i64)) u, .int .i64 many, .bool false, .ptr p5 0, .sl (L.map Ly.Id.val) (tk L), .sl (E.map (leV b L)) te, .int .i64 0, .int .i64 (i : Int), .sl (((le.take k).map (Bk.numb b L)).map strV) tn, .int .i64 (k : Int), x1, x2, x3, x4, x5, x6, x7, x8, x9, x10, x11, x12, x13, x14, x15]) le.length
    ⟨0, .nil, _, _, _, _, _, _, _, _, _, _, _, _, _, _, _, rfl, by omega, gb, Gr.nil _ _ _, rfl⟩ ?_
   clear gb H
   rintro q vs H ⟨k, tn, x1, x2, x3, x4, x5, x6, x7, x8, x9, x10, x11, x12, x13, x14, x15, rfl, hk, gb, gn, rfl⟩
   by_cases hk2 : k < le.length
   ·obtain ⟨x, hx⟩ : ∃ x, nth le k = x := ⟨_, rfl⟩
    have hxl : x ∈ le := by rw [← hx]; exact nth_mem hk2
    have n1 := fun x => number_v b fit L (by omega) (sm L) (tk_pt L) x
    have pv := parent_v b fit L (by omega) (tk_pt L) x
    have nx := n1 x
    obtain ⟨p, is, pv1, his⟩ : ∃ p is, PV F 20 [b.val, .sl (L.map Ly.Id.val) (tk L), x.val] = some (.tup [p.val, .bool is]) ∧ (is = true → b.par L x = some p) := by
     refine ⟨_, _, pv, fun q => ?_⟩
     cases hp : b.par L x with
     | none => rw [hp] at q; simp at q
     | some p => rfl
    clear pv
    have n2 := n1 p
    have gb1 : ∀ o, (H.push o).get p5 = _ := fun o => get_push_old gb
    have gp : ∀ o, (H.push o).get H.next = some o := fun o => get_push_eq rfl
    have hn0 := hnn x hxl
    have ln1 := numb_len fit hL x
    have ln2 := numb_len fit hL p
    have cat := bin_add_s (Bk.numb b L p) [46] (by simp; omega)
    cases is with
    | false =>
      have hc : True := trivial
      replace fx := aI @gb (aI @gb1 (aI @gp (aI @brL (aI @brA (aI @brT (aI @br1 (aI @br_st (aI @stL (aI @hei (aI @leC (aI @hx (aI @nx (aI @pv1 (aI @n2 (aI @cat (aI @hn0 (aI @hc (aI @idVL (aI @idL (aI @idA (aI @idT (aI @idS0 (aI @id_agg @st_id)))))))))))))))))))))))
      (first | refine go ?_ | exact goC); repeat' (first | refine gP ?_ | exact gPc)
      have hpx := get_push_eq (h := H) (o := .row true (typed 62) true p.cells) rfl
      have gn1 : Gr (H.push (.row true (typed 62) true p.cells)) 9 1 ((le.take k).map (Bk.numb b L)) tn := Gr.fr gn ((Fr.refl (fun _ => False) _).push _) (fun _ _ _ q => q)
      have gb2 := gb1 (.row true (typed 62) true p.cells)
      generalize H.push (.row true (typed 62) true p.cells) = H' at gb2 gn1 ⊢
      generalize H.next = p6
      have hln : ((le.take k).map (Bk.numb b L)).length = k := by simp; omega
      refine w_loop (fun q vs H3 => ∃ (j : Nat) (x1 x2 x3 x4 x5 x6 x7 x8 x9 x10 x11 : AVal), q = k - j ∧ j ≤ k ∧ H3 = H' ∧
        vs = [.sl (l.map (.int .i64)) t, .sl (m.map (.int .i64)) u, .int .i64 many, .bool false, .ptr p5 0, .sl (L.map Ly.Id.val) (tk L), .sl (E.map (leV b L)) te, .int .i64 0, .int .i64 (i : Int), .sl (((le.take k).map (Bk.numb b L)).map strV) tn, .int .i64 (k : Int), .str (Bk.numb b L x), .ptr p6 0, x1, .str (Bk.numb b L p ++ [46]), .int .i64 (j : Int), x2, x3, x4, x5, x6, x7, x8, x9, x10, x11]) k
       ⟨0, _, _, _, _, _, _, _, _, _, _, _, rfl, by omega, rfl, rfl⟩ ?_
      rintro q vs _ ⟨j, x1, x2, x3, x4, x5, x6, x7, x8, x9, x10, x11, rfl, hj, rfl, rfl⟩
      by_cases hj2 : j < k
      ·have hnj : nth ((le.take k).map (Bk.numb b L)) j = Bk.numb b L (nth le j) := by
        rw [nth_eq (by omega), nth_eq (by omega), List.getElem_map, List.getElem_take]
       have hxj : ¬ Bk.numb b L (nth le j) = Bk.numb b L x := fun q => by
        have h2 := hinj _ _ (nth_mem (by omega)) hxl q
        rw [← hx] at h2
        have := nth_inj hnd (by omega) hk2 h2
        omega
       replace fx := aI @hnj (aI @hxj (aI @hln @strV_eq))
       (first | refine go ?_ | exact goC); repeat' (first | refine gP ?_ | exact gPc)
       exact lp_n ⟨_, by omega, j + 1, _, _, _, _, _, _, _, _, _, _, _, rfl, by omega, rfl, by push_cast; rfl⟩
      ·replace fx := Dum_eq
       (first | refine go ?_ | exact goC); repeat' (first | refine gN ?_ | exact gNc)
       refine append_U (f := strV) ((le.take k).map (Bk.numb b L)) [Bk.numb b L x] (fun _ => rfl) (fun _ => rfl) (fun _ => rfl) rfl rfl gn1 (by rw [hln]; simp; omega) (by omega) (by omega) (by omega) fun H5 t5 g5 n5 keep5 => ?_
       have k5 := keep5 _ _ _ _ _ gb2
       have hap : (le.take k).map (Bk.numb b L) ++ [Bk.numb b L x] = (le.take (k + 1)).map (Bk.numb b L) := by
        rw [List.take_succ_eq_append_getElem hk2, ← nth_eq hk2, hx, List.map_append]; rfl
       rw [hap] at g5 ⊢
       replace fx := Dum_eq
       first | refine go ?_ | exact goC
       exact lp_n ⟨_, by omega, k + 1, t5, _, _, _, _, _, _, _, _, _, _, _, _, _, _, _, rfl, by omega, k5, g5, by push_cast; rfl⟩
    | true =>
      have hc : True := trivial
      obtain ⟨tx, htx, hcat⟩ := hpar x p hxl (his rfl)
      have hc1 : (Bk.numb b L p).length + 1 < (Bk.numb b L x).length := by
       rw [hcat]
       have := List.length_pos_iff.2 htx
       simp only [List.length_append, List.length_cons, List.length_nil]
       omega
      have hc2 : (Bk.numb b L x).take ((Bk.numb b L p).length + 1) = Bk.numb b L p ++ [46] := by
       rw [hcat, List.take_left']
       simp
      replace fx := aI @gb (aI @gb1 (aI @gp (aI @brL (aI @brA (aI @brT (aI @br1 (aI @br_st (aI @stL (aI @hei (aI @leC (aI @hx (aI @nx (aI @pv1 (aI @n2 (aI @cat (aI @hn0 (aI @hc (aI @idVL (aI @idL (aI @idA (aI @idT (aI @idS0 (aI @id_agg @st_id)))))))))))))))))))))))
      (first | refine go ?_ | exact goC); repeat' (first | refine gP ?_ | exact gPc | refine gN ?_ | exact gNc)
      have hpx := get_push_eq (h := H) (o := .row true (typed 62) true p.cells) rfl
      have gn1 : Gr (H.push (.row true (typed 62) true p.cells)) 9 1 ((le.take k).map (Bk.numb b L)) tn := Gr.fr gn ((Fr.refl (fun _ => False) _).push _) (fun _ _ _ q => q)
      have gb2 := gb1 (.row true (typed 62) true p.cells)
      generalize H.push (.row true (typed 62) true p.cells) = H' at gb2 gn1 ⊢
      generalize H.next = p6
      have hln : ((le.take k).map (Bk.numb b L)).length = k := by simp; omega
      refine w_loop (fun q vs H3 => ∃ (j : Nat) (x1 x2 x3 x4 x5 x6 x7 x8 x9 x10 x11 : AVal), q = k - j ∧ j ≤ k ∧ H3 = H' ∧
        vs = [.sl (l.map (.int .i64)) t, .sl (m.map (.int .i64)) u, .int .i64 many, .bool false, .ptr p5 0, .sl (L.map Ly.Id.val) (tk L), .sl (E.map (leV b L)) te, .int .i64 0, .int .i64 (i : Int), .sl (((le.take k).map (Bk.numb b L)).map strV) tn, .int .i64 (k : Int), .str (Bk.numb b L x), .ptr p6 0, x1, .str (Bk.numb b L p ++ [46]), .int .i64 (j : Int), x2, x3, x4, x5, x6, x7, x8, x9, x10, x11]) k
       ⟨0, _, _, _, _, _, _, _, _, _, _, _, rfl, by omega, rfl, rfl⟩ ?_
      rintro q vs _ ⟨j, x1, x2, x3, x4, x5, x6, x7, x8, x9, x10, x11, rfl, hj, rfl, rfl⟩
      by_cases hj2 : j < k
      ·have hnj : nth ((le.take k).map (Bk.numb b L)) j = Bk.numb b L (nth le j) := by
        rw [nth_eq (by omega), nth_eq (by omega), List.getElem_map, List.getElem_take]
       have hxj : ¬ Bk.numb b L (nth le j) = Bk.numb b L x := fun q => by
        have h2 := hinj _ _ (nth_mem (by omega)) hxl q
        rw [← hx] at h2
        have := nth_inj hnd (by omega) hk2 h2
        omega
       replace fx := aI @hnj (aI @hxj (aI @hln @strV_eq))
       (first | refine go ?_ | exact goC); repeat' (first | refine gP ?_ | exact gPc)
       exact lp_n ⟨_, by omega, j + 1, _, _, _, _, _, _, _, _, _, _, _, rfl, by omega, rfl, by push_cast; rfl⟩
      ·replace fx := Dum_eq
       (first | refine go ?_ | exact goC); repeat' (first | refine gN ?_ | exact gNc)
       refine append_U (f := strV) ((le.take k).map (Bk.numb b L)) [Bk.numb b L x] (fun _ => rfl) (fun _ => rfl) (fun _ => rfl) rfl rfl gn1 (by rw [hln]; simp; omega) (by omega) (by omega) (by omega) fun H5 t5 g5 n5 keep5 => ?_
       have k5 := keep5 _ _ _ _ _ gb2
       have hap : (le.take k).map (Bk.numb b L) ++ [Bk.numb b L x] = (le.take (k + 1)).map (Bk.numb b L) := by
        rw [List.take_succ_eq_append_getElem hk2, ← nth_eq hk2, hx, List.map_append]; rfl
       rw [hap] at g5 ⊢
       replace fx := Dum_eq
       first | refine go ?_ | exact goC
       exact lp_n ⟨_, by omega, k + 1, t5, _, _, _, _, _, _, _, _, _, _, _, _, _, _, _, rfl, by omega, k5, g5, by push_cast; rfl⟩
   ·have hk3 : k = le.length := by omega
    subst hk3
    rw [List.take_length] at gn ⊢
    have hlp : 1 ≤ le.length := List.length_pos_iff.2 hle
    have sl1 : sliceA 3 (.sl (le.map Ly.Id.val) .none) none (some (.int .i64 ((le.length : Int) - 1))) = some (.sl ((le.take (le.length - 1)).map Ly.Id.val) .none) := by
     rw [slice_sl_b Ly.Id.val le .none .i64 _ (by omega) (by omega) (fun _ => rfl) (by simp)]
     congr 4
     omega
    have hsn := List.dropLast_concat_getLast hle
    rw [List.dropLast_eq_take] at hsn
    have hls := fun x => hless _ _ x hsn.symm
    have hll : (le.take (le.length - 1)).length = le.length - 1 := by simp
    have stl := strip_pt (.inl rfl : Pt .none) (xs := (le.take (le.length - 1)).map Ly.Id.val)
    have hnl : ∀ j, j < le.length → nth (le.map (Bk.numb b L)) j = Bk.numb b L (nth le j) := fun j hj => by
     rw [nth_eq (by simpa using hj), nth_eq hj, List.getElem_map]
    have hnt : ∀ j, j < le.length - 1 → nth (le.take (le.length - 1)) j = nth le j := fun j hj => by
     rw [nth_eq (by simpa using by omega), nth_eq (by omega), List.getElem_take]
    replace fx := aI @gb (aI @hei (aI @leC @sl1))
    (first | refine go ?_ | exact goC); repeat' (first | refine gN ?_ | exact gNc)
    generalize hlt : le.take (le.length - 1) = lt at hls hll stl hnt ⊢
    refine w_loop (fun q vs H' => ∃ (k : Nat) (x1 x2 x3 x4 x5 x6 x7 x8 x9 x10 x11 x12 x13 : AVal), q = lt.length - k ∧ k ≤ lt.length ∧ H' = H ∧
      vs = [.sl (l.map (.int .i64)) t, .sl (m.map (.int .i64)) u, .int .i64 many, .bool false, .ptr p5 0, .sl (L.map Ly.Id.val) (tk L), .sl (E.map (leV b L)) te, .int .i64 0, .int .i64 (i : Int), .sl ((le.map (Bk.numb b L)).map strV) tn, .int .i64 (le.length : Int), x1, x2, x3, x4, x5, .sl (lt.map Ly.Id.val) .none, .int .i64 (k : Int), x6, x7, x8, x9, x10, x11, x12, x13]) lt.length
     ⟨0, _, _, _, _, _, _, _, _, _, _, _, _, _, rfl, by omega, rfl, rfl⟩ ?_
    rintro q vs _ ⟨k, x1, x2, x3, x4, x5, x6, x7, x8, x9, x10, x11, x12, x13, rfl, hk, rfl, rfl⟩
    by_cases hk2 : k < lt.length
    ·have n1 := number_v b fit lt (by omega) (sm lt) (.inl rfl : Pt .none) (nth lt k)
     have n2 := hls (nth lt k) (nth_mem hk2)
     have n3 := hnl k (by omega)
     have n4 := hnt k (by omega)
     rw [← n4] at n3
     rw [n2] at n1
     have hkl : k < le.length := by omega
     have hlm : (le.map (Bk.numb b L)).length = le.length := List.length_map _
     replace fx := aI @gb (aI @hlm (aI @brL (aI @brA (aI @brT (aI @br1 (aI @br_st (aI @stl (aI @n1 (aI @n3 (aI @strV_eq (aI @idVL (aI @idL (aI @idA (aI @idT (aI @idS0 (aI @id_agg @st_id))))))))))))))))
     (first | refine go ?_ | exact goC); repeat' (first | refine gP ?_ | exact gPc)
     exact lp_n ⟨_, by omega, k + 1, _, _, _, _, _, _, _, _, _, _, _, _, _, rfl, by omega, rfl, by push_cast; rfl⟩
    ·replace fx := @gb
     (first | refine go ?_ | exact goC); repeat' (first | refine gN ?_ | exact gNc)
     exact lp_n ⟨_, by omega, i + 1, _, _, _, _, _, _, _, _, _, _, _, _, _, _, _, _, _, rfl, by omega, gb, by push_cast; rfl⟩
  ·replace fx := @lives_v
   (first | refine go ?_ | exact goC); repeat' (first | refine gN ?_ | exact gNc)
 ·rw [entR_bad (by decide) he] at ev
  replace fx := aI @brL (aI @brA (aI @brT (aI @br0 (aI @br_st (aI @a1 (aI @sv (aI @stu (aI @stL (aI @hhv (aI @hr3 (aI @hst (aI @ev @lives_v))))))))))))
  (first | refine go ?_ | exact goC); repeat' (first | refine gN ?_ | exact gNc)
end Go.Proofs.YthhdkkecolocdaaGreatDoor

namespace Go.Proofs.YthhdkkecolocdaaGreatDoor
open Go Go.Abs Go.Ly
theorem tree_go {l m : List Int} {t u : Abs.Tok} {many : Int} (v0 : ArgL l t) (v1 : ArgL m u) (h1 : i64 many) : CV F 6 [.sl (l.map (.int .i64)) t, .sl (m.map (.int .i64)) u, .int .i64 many] Heap.empty (fun v _ => v = .bool true) := tree_run v0.pt v1.pt v0.ok v1.ok h1
end Go.Proofs.YthhdkkecolocdaaGreatDoor

namespace Go.Proofs.YthhdkkecolocdaaGreatDoor
open Go Go.Abs Go.ChangeShapes Go.WideShapes Go.ChangeAt Go.RowKit
set_option maxHeartbeats 40000000 in
theorem layoutTree_closed : joinedFacts Tryz.prog 6 Tryz.f6 Rows.layoutTreeSpec Rows.layoutTreeRow = true := by
 unfold joinedFacts
 simp only [Bool.and_eq_true]
 repeat' apply And.intro
 all_goals (as_aux_lemma => kernel_rfl)
end Go.Proofs.YthhdkkecolocdaaGreatDoor

namespace Go.Proofs.YthhdkkecolocdaaGreatDoor
open Go Go.Abs Go.ChangeShapes Go.WideShapes Go.ChangeAt Go.RowKit
attribute [local irreducible] okA
theorem layoutTree_args (xs : List AVal) (h : ShArgs Tryz.prog 5 [22, 22, 3] xs) : ∃ h', Gives F 6 xs Heap.empty (.bool true) h' := by
 obtain _ | ⟨a0, b0, h⟩ := h
 obtain _ | ⟨a1, b1, h⟩ := h
 obtain _ | ⟨a2, b2, h⟩ := h
 obtain _ | _ := h
 obtain ⟨l0, tk0, rfl, v0⟩ := argL (n := 3) a0 b0
 obtain ⟨l1, tk1, rfl, v1⟩ := argL (n := 3) a1 b1
 obtain ⟨z2, rfl, w2⟩ := argI (n := 4) a2 b2
 obtain ⟨r, h', c, rfl⟩ := tree_go v0 v1 w2
 exact ⟨h', c⟩
set_option maxRecDepth 100000 in
theorem layoutTree_lifted (os : Os) (started : os.Started) (H : Type) (enc : TypeId × Value → H) :
  ReturnsInHanded {} Tryz.checked os 6 .any (fun w args => (Rows.layoutTreeSpec.pre enc Tryz.prog Tryz.f6 [] false w args ∧ laidMetH Tryz.prog laidK w) ∧ sizedMet enc Tryz.prog Tryz.f6 (OpenSpec.ofChange Rows.layoutTreeSpec) false w args)
   (Rows.layoutTreeSpec.post enc Tryz.prog Tryz.f6 false true false false) := by
 refine returnsInHanded_of_change_and (C := Tryz.checked) (X := fun w _ => laidMetH Tryz.prog laidK w) (fun _ _ _ hh h => h.of_heap hh) own started (by kernel_rfl) Tryz.func6
  (ChangeSpec.witness_shaped (enc := enc) (C := Tryz.checked) (os := os) (X := fun w _ => laidMetH Tryz.prog laidK w) false (World.laidAll Tryz.prog os laidK) #[.slice none 0 0, .slice none 0 0, .int .i64 0] 8 (World.laidAll_os _ _ _) (World.shaped_of_ZipB (by kernel_rfl) (by kernel_rfl)) (by kernel_rfl) (by kernel_rfl) (by kernel_rfl) (door_met os _)) ?_
 intro W base args ds gs before hval hW _ _ hL _
 refine row_calls (globs hL) (P := Tryz.prog) (n := 5) (ts := [22, 22, 3]) (tb := 4) mixed table laidOut (congrArg Array.toList Tryz.params6) (fun t ht => ?_) (fun t ht => ?_) rfl Tryz.underlying4 rfl (fun H ds hl => ?_) layoutTree_args base args ds gs before hval hW
 ·simp only [List.mem_cons, List.not_mem_nil, or_false] at ht
  rcases ht with rfl | rfl | rfl
  ·exact ⟨by kernel_rfl, of_decide_eq_true (by kernel_rfl)⟩
  ·exact ⟨by kernel_rfl, of_decide_eq_true (by kernel_rfl)⟩
  ·exact ⟨by kernel_rfl, of_decide_eq_true (by kernel_rfl)⟩
 ·simp only [List.mem_cons, List.not_mem_nil, or_false] at ht
  rcases ht with rfl | rfl | rfl
  ·kernel_rfl
  ·kernel_rfl
  ·kernel_rfl
 ·match ds, hl with
  | [d0, d1, d2], _ => rfl
theorem layoutTreeRow_holds : Rows.LayoutTreeSaid :=
 OpenClaim.holds_of_wide 6 Tryz.f6 rfl rfl rfl rfl rfl rfl rfl ⟨rfl, rfl, rfl, rfl, rfl⟩ rfl rfl rfl rfl rfl (by kernel_rfl) Tryz.func6 layoutTree_closed
  (of_decide_eq_true (by kernel_rfl)) (by unfold Func.isWrapper; first | (rw [if_pos (by decide +kernel)]; kernel_rfl) | (rw [if_neg (by decide +kernel)]; exact ⟨rfl, rfl⟩))
  (fun os started H enc _ => layoutTree_lifted os started H enc)
end Go.Proofs.YthhdkkecolocdaaGreatDoor
