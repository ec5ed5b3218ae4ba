/-
  Merged from LvMemo LvSan LvPs LvP0 LvP1 LvP2 LvP3a LvP3b LvP3c LvP3d LvP4 LvLiv LyL1 LyY1 LyZ2 LyY3 LyU1 LyUc LyUb: Calls of the documented example that are reckoned once (printed by wip/bin/memo.py).
-/
import Derived.Test.YthhdkkecolocdaaGreatDoorM06
import Derived.Test.YthhdkkecolocdaaGreatDoorM04
import Derived.Test.YthhdkkecolocdaaGreatDoorM05
import Derived.Test.YthhdkkecolocdaaGreatDoorTie
import Derived.Test.YthhdkkecolocdaaGreatDoorCards
set_option linter.unusedSimpArgs false
set_option linter.unusedVariables false
set_option linter.defProp false
set_option linter.constructorNameAsVariable false
/-
 Calls of the documented example that are reckoned once (printed by wip/bin/memo.py).
-/
namespace Go.Proofs.YthhdkkecolocdaaGreatDoor
open Go Go.Abs
def mm0:AVal:=(.sl [(.agg [(.str [97]),z6,z6,z6,(i6 5)]),(.agg [(.str [99]),(i6 1),z6,z6,(i6 5)]),(.agg [(.str [101]),(i6 2),z6,z6,(i6 5)]),(.agg [(.str [112]),(i6 3),z6,z6,(i6 5)]),(.agg [(.str [116]),(i6 4),z6,z6,(i6 5)])] .none)
def memo0:List (List AVal×AVal):=[([mm0],(.bool true))]
def memo1:List (List AVal×AVal):=[([mm0,(.str [99,97,116])],(.tup [(.sl [(i6 1),z6,(i6 4)] .none),(i6 (-1))])),
 ([mm0,(.str [40,114,97,114,101,41])],(.tup [nS,z6])),
 ([mm0,(.str [114,97,114,101,41])],(.tup [nS,z6])),
 ([mm0,(.str [97,114,101,41])],(.tup [(.sl [z6] .none),(i6 1)])),
 ([mm0,(.str [114,101,41])],(.tup [nS,z6])),
 ([mm0,(.str [101,41])],(.tup [(.sl [(i6 2)] .none),(i6 1)])),
 ([mm0,(.str [41])],(.tup [nS,z6])),
 ([mm0,(.str [97])],(.tup [(.sl [z6] .none),(i6 (-1))])),
 ([mm0,(.str [112,101,116])],(.tup [(.sl [(i6 3),(i6 2),(i6 4)] .none),(i6 (-1))])),
 ([mm0,(.str [115,101,101])],(.tup [nS,z6])),
 ([mm0,(.str [101,101])],(.tup [(.sl [(i6 2),(i6 2)] .none),(i6 (-1))])),
 ([mm0,(.str [40,112,46])],(.tup [nS,z6])),
 ([mm0,(.str [112,46])],(.tup [(.sl [(i6 3)] .none),(i6 1)])),
 ([mm0,(.str [46])],(.tup [nS,z6]))]
def memo2:List (List AVal×AVal):=[([mm0,(.agg [(i6 3),(i6 5),(i6 4),(i6 100),nS]),(.str [99,97,116]),(.bool true)],(.tup [(i6 15),z6])),
 ([mm0,(.agg [(i6 3),(i6 5),(i6 4),(i6 100),nS]),(.str [32]),(.bool true)],(.tup [(i6 3),z6])),
 ([mm0,(.agg [(i6 3),(i6 5),(i6 4),(i6 100),nS]),(.str [45]),(.bool true)],(.tup [(i6 4),z6])),
 ([mm0,(.agg [(i6 3),(i6 5),(i6 4),(i6 100),nS]),(.str [40,114,97,114,101,41]),(.bool false)],(.tup [(i6 26),z6])),
 ([mm0,(.agg [(i6 3),(i6 5),(i6 4),(i6 100),nS]),(.str [32]),(.bool false)],(.tup [(i6 3),z6])),
 ([mm0,(.agg [(i6 3),(i6 5),(i6 4),(i6 100),nS]),(.str [45]),(.bool false)],(.tup [(i6 4),z6])),
 ([mm0,(.agg [(i6 3),(i6 5),(i6 4),(i6 100),nS]),(.str [97,32,112,101,116]),(.bool false)],(.tup [(i6 23),z6])),
 ([mm0,(.agg [(i6 3),(i6 5),(i6 4),(i6 100),nS]),(.str [97]),(.bool false)],(.tup [(i6 5),z6])),
 ([mm0,(.agg [(i6 3),(i6 5),(i6 4),(i6 100),nS]),(.str [112,101,116]),(.bool false)],(.tup [(i6 15),z6])),
 ([mm0,(.agg [(i6 3),(i6 5),(i6 4),(i6 100),nS]),(.str [115,101,101,32,112,101,116]),(.bool false)],(.tup [(i6 32),z6])),
 ([mm0,(.agg [(i6 3),(i6 5),(i6 4),(i6 100),nS]),(.str [115,101,101]),(.bool false)],(.tup [(i6 14),z6])),
 ([mm0,(.agg [(i6 3),(i6 5),(i6 4),(i6 100),nS]),(.str [40,112,46]),(.bool false)],(.tup [(i6 13),z6])),
 ([mm0,(.agg [(i6 3),(i6 5),(i6 4),(i6 100),nS]),(.str [41]),(.bool false)],(.tup [(i6 4),z6]))]
def memo3:List (List AVal×AVal):=[([(.agg [(.sl [(.agg [z6,(i6 1),(i6 8),(.sl [(.agg [(.str [99,97,116]),z6,z6,z6,z6,z6,z6])] .none),nS]),(.agg [z6,(i6 1),(i6 9),(.sl [(.agg [(.str [112,101,116]),z6,z6,z6,z6,z6,z6])] .none),nS])] .none),(.sl [(.agg [z6,(i6 1),(i6 1),z6,(i6 1),(i6 8),(.sl [(.agg [(.str [97,32,112,101,116]),z6,z6,z6,z6,z6,z6])] .none),(.sl [(.agg [(.str []),(i6 5),z6,z6,z6,z6,z6])] .none),nS,nS,nS,nS,(.sl [(.str [114,97,114,101])] .none),(.sl [(.agg [z6,(i6 1),(i6 4)])] .none)]),(.agg [z6,(i6 1),(i6 2),z6,(i6 1),(i6 8),(.sl [(.agg [(.str [97]),z6,z6,z6,z6,z6,z6])] .none),(.sl [(.agg [(.str []),(i6 4),z6,z6,z6,z6,z6])] .none),nS,nS,nS,nS,nS,nS]),(.agg [z6,(i6 1),(i6 3),z6,(i6 1),(i6 1),(.sl [(.agg [(.str [97]),z6,z6,z6,z6,z6,z6])] .none),(.sl [(.agg [(.str []),z6,z6,z6,z6,z6,z6])] .none),nS,nS,nS,nS,nS,nS]),(.agg [z6,(i6 1),(i6 4),z6,(i6 1),(i6 9),(.sl [(.agg [(.str [97,32,99,97,116]),z6,z6,z6,z6,z6,z6])] .none),(.sl [(.agg [(.str []),z6,z6,z6,z6,z6,z6])] .none),nS,nS,nS,nS,nS,nS])] .none),nS,nS,nS,nS,nS]),(.agg [z6,(i6 1),(i6 1)]),(.agg [z6,(i6 1),(i6 4)])],(.tup [(.agg [z6,(i6 1),(i6 4)]),z6]))]
def memo4:List (List AVal×AVal):=[([(.agg [(.sl [(.agg [z6,(i6 1),(i6 8),(.sl [(.agg [(.str [99,97,116]),z6,z6,z6,z6,z6,z6])] .none),nS]),(.agg [z6,(i6 1),(i6 9),(.sl [(.agg [(.str [112,101,116]),z6,z6,z6,z6,z6,z6])] .none),nS])] .none),(.sl [(.agg [z6,(i6 1),(i6 1),z6,(i6 1),(i6 8),(.sl [(.agg [(.str [97,32,112,101,116]),z6,z6,z6,z6,z6,z6])] .none),(.sl [(.agg [(.str []),(i6 5),z6,z6,z6,z6,z6])] .none),nS,nS,nS,nS,(.sl [(.str [114,97,114,101])] .none),(.sl [(.agg [z6,(i6 1),(i6 4)])] .none)]),(.agg [z6,(i6 1),(i6 2),z6,(i6 1),(i6 8),(.sl [(.agg [(.str [97]),z6,z6,z6,z6,z6,z6])] .none),(.sl [(.agg [(.str []),(i6 4),z6,z6,z6,z6,z6])] .none),nS,nS,nS,nS,nS,nS]),(.agg [z6,(i6 1),(i6 3),z6,(i6 1),(i6 1),(.sl [(.agg [(.str [97]),z6,z6,z6,z6,z6,z6])] .none),(.sl [(.agg [(.str []),z6,z6,z6,z6,z6,z6])] .none),nS,nS,nS,nS,nS,nS]),(.agg [z6,(i6 1),(i6 4),z6,(i6 1),(i6 9),(.sl [(.agg [(.str [97,32,99,97,116]),z6,z6,z6,z6,z6,z6])] .none),(.sl [(.agg [(.str []),z6,z6,z6,z6,z6,z6])] .none),nS,nS,nS,nS,nS,nS])] .none),nS,nS,nS,nS,nS]),(.sl [(.agg [z6,(i6 1),(i6 1)]),(.agg [z6,(i6 1),(i6 2)]),(.agg [z6,(i6 1),(i6 3)])] .none),(.agg [z6,(i6 1),(i6 1)])],(.str [50])),
 ([(.agg [(.sl [(.agg [z6,(i6 1),(i6 8),(.sl [(.agg [(.str [99,97,116]),z6,z6,z6,z6,z6,z6])] .none),nS]),(.agg [z6,(i6 1),(i6 9),(.sl [(.agg [(.str [112,101,116]),z6,z6,z6,z6,z6,z6])] .none),nS])] .none),(.sl [(.agg [z6,(i6 1),(i6 1),z6,(i6 1),(i6 8),(.sl [(.agg [(.str [97,32,112,101,116]),z6,z6,z6,z6,z6,z6])] .none),(.sl [(.agg [(.str []),(i6 5),z6,z6,z6,z6,z6])] .none),nS,nS,nS,nS,(.sl [(.str [114,97,114,101])] .none),(.sl [(.agg [z6,(i6 1),(i6 4)])] .none)]),(.agg [z6,(i6 1),(i6 2),z6,(i6 1),(i6 8),(.sl [(.agg [(.str [97]),z6,z6,z6,z6,z6,z6])] .none),(.sl [(.agg [(.str []),(i6 4),z6,z6,z6,z6,z6])] .none),nS,nS,nS,nS,nS,nS]),(.agg [z6,(i6 1),(i6 3),z6,(i6 1),(i6 1),(.sl [(.agg [(.str [97]),z6,z6,z6,z6,z6,z6])] .none),(.sl [(.agg [(.str []),z6,z6,z6,z6,z6,z6])] .none),nS,nS,nS,nS,nS,nS]),(.agg [z6,(i6 1),(i6 4),z6,(i6 1),(i6 9),(.sl [(.agg [(.str [97,32,99,97,116]),z6,z6,z6,z6,z6,z6])] .none),(.sl [(.agg [(.str []),z6,z6,z6,z6,z6,z6])] .none),nS,nS,nS,nS,nS,nS])] .none),nS,nS,nS,nS,nS]),(.sl [(.agg [z6,(i6 1),(i6 1)]),(.agg [z6,(i6 1),(i6 2)]),(.agg [z6,(i6 1),(i6 3)])] .none),(.agg [z6,(i6 1),(i6 2)])],(.str [49])),
 ([(.agg [(.sl [(.agg [z6,(i6 1),(i6 8),(.sl [(.agg [(.str [99,97,116]),z6,z6,z6,z6,z6,z6])] .none),nS]),(.agg [z6,(i6 1),(i6 9),(.sl [(.agg [(.str [112,101,116]),z6,z6,z6,z6,z6,z6])] .none),nS])] .none),(.sl [(.agg [z6,(i6 1),(i6 1),z6,(i6 1),(i6 8),(.sl [(.agg [(.str [97,32,112,101,116]),z6,z6,z6,z6,z6,z6])] .none),(.sl [(.agg [(.str []),(i6 5),z6,z6,z6,z6,z6])] .none),nS,nS,nS,nS,(.sl [(.str [114,97,114,101])] .none),(.sl [(.agg [z6,(i6 1),(i6 4)])] .none)]),(.agg [z6,(i6 1),(i6 2),z6,(i6 1),(i6 8),(.sl [(.agg [(.str [97]),z6,z6,z6,z6,z6,z6])] .none),(.sl [(.agg [(.str []),(i6 4),z6,z6,z6,z6,z6])] .none),nS,nS,nS,nS,nS,nS]),(.agg [z6,(i6 1),(i6 3),z6,(i6 1),(i6 1),(.sl [(.agg [(.str [97]),z6,z6,z6,z6,z6,z6])] .none),(.sl [(.agg [(.str []),z6,z6,z6,z6,z6,z6])] .none),nS,nS,nS,nS,nS,nS]),(.agg [z6,(i6 1),(i6 4),z6,(i6 1),(i6 9),(.sl [(.agg [(.str [97,32,99,97,116]),z6,z6,z6,z6,z6,z6])] .none),(.sl [(.agg [(.str []),z6,z6,z6,z6,z6,z6])] .none),nS,nS,nS,nS,nS,nS])] .none),nS,nS,nS,nS,nS]),(.sl [(.agg [z6,(i6 1),(i6 1)]),(.agg [z6,(i6 1),(i6 2)]),(.agg [z6,(i6 1),(i6 3)])] .none),(.agg [z6,(i6 1),(i6 3)])],(.str [50,46,97])),
 ([(.agg [(.sl [(.agg [z6,(i6 1),(i6 8),(.sl [(.agg [(.str [99,97,116]),z6,z6,z6,z6,z6,z6])] .none),nS]),(.agg [z6,(i6 1),(i6 9),(.sl [(.agg [(.str [112,101,116]),z6,z6,z6,z6,z6,z6])] .none),nS])] .none),(.sl [(.agg [z6,(i6 1),(i6 1),z6,(i6 1),(i6 8),(.sl [(.agg [(.str [97,32,112,101,116]),z6,z6,z6,z6,z6,z6])] .none),(.sl [(.agg [(.str []),(i6 5),z6,z6,z6,z6,z6])] .none),nS,nS,nS,nS,(.sl [(.str [114,97,114,101])] .none),(.sl [(.agg [z6,(i6 1),(i6 4)])] .none)]),(.agg [z6,(i6 1),(i6 2),z6,(i6 1),(i6 8),(.sl [(.agg [(.str [97]),z6,z6,z6,z6,z6,z6])] .none),(.sl [(.agg [(.str []),(i6 4),z6,z6,z6,z6,z6])] .none),nS,nS,nS,nS,nS,nS]),(.agg [z6,(i6 1),(i6 3),z6,(i6 1),(i6 1),(.sl [(.agg [(.str [97]),z6,z6,z6,z6,z6,z6])] .none),(.sl [(.agg [(.str []),z6,z6,z6,z6,z6,z6])] .none),nS,nS,nS,nS,nS,nS]),(.agg [z6,(i6 1),(i6 4),z6,(i6 1),(i6 9),(.sl [(.agg [(.str [97,32,99,97,116]),z6,z6,z6,z6,z6,z6])] .none),(.sl [(.agg [(.str []),z6,z6,z6,z6,z6,z6])] .none),nS,nS,nS,nS,nS,nS])] .none),nS,nS,nS,nS,nS]),(.sl [(.agg [z6,(i6 1),(i6 2)]),(.agg [z6,(i6 1),(i6 3)])] .none),(.agg [z6,(i6 1),(i6 3)])],(.str [49])),
 ([(.agg [(.sl [(.agg [z6,(i6 1),(i6 8),(.sl [(.agg [(.str [99,97,116]),z6,z6,z6,z6,z6,z6])] .none),nS]),(.agg [z6,(i6 1),(i6 9),(.sl [(.agg [(.str [112,101,116]),z6,z6,z6,z6,z6,z6])] .none),nS])] .none),(.sl [(.agg [z6,(i6 1),(i6 1),z6,(i6 1),(i6 8),(.sl [(.agg [(.str [97,32,112,101,116]),z6,z6,z6,z6,z6,z6])] .none),(.sl [(.agg [(.str []),(i6 5),z6,z6,z6,z6,z6])] .none),nS,nS,nS,nS,(.sl [(.str [114,97,114,101])] .none),(.sl [(.agg [z6,(i6 1),(i6 4)])] .none)]),(.agg [z6,(i6 1),(i6 2),z6,(i6 1),(i6 8),(.sl [(.agg [(.str [97]),z6,z6,z6,z6,z6,z6])] .none),(.sl [(.agg [(.str []),(i6 4),z6,z6,z6,z6,z6])] .none),nS,nS,nS,nS,nS,nS]),(.agg [z6,(i6 1),(i6 3),z6,(i6 1),(i6 1),(.sl [(.agg [(.str [97]),z6,z6,z6,z6,z6,z6])] .none),(.sl [(.agg [(.str []),z6,z6,z6,z6,z6,z6])] .none),nS,nS,nS,nS,nS,nS]),(.agg [z6,(i6 1),(i6 4),z6,(i6 1),(i6 9),(.sl [(.agg [(.str [97,32,99,97,116]),z6,z6,z6,z6,z6,z6])] .none),(.sl [(.agg [(.str []),z6,z6,z6,z6,z6,z6])] .none),nS,nS,nS,nS,nS,nS])] .none),nS,nS,nS,nS,nS]),(.sl [(.agg [z6,(i6 1),(i6 2)]),(.agg [z6,(i6 1),(i6 3)])] .none),(.agg [z6,(i6 1),(i6 2)])],(.str [50]))]
def memo5:List (List AVal×AVal):=[([(.agg [(i6 3),(i6 5),(i6 4),(i6 100),nS]),(i6 3),(.bool false)],(i6 5)),
 ([(.agg [(i6 3),(i6 5),(i6 4),(i6 100),nS]),z6,(.bool false)],(i6 5))]
def memo6:List (List AVal×AVal):=[([(.agg [(.sl [(.agg [z6,(i6 1),(i6 8),(.sl [(.agg [(.str [99,97,116]),z6,z6,z6,z6,z6,z6])] .none),nS]),(.agg [z6,(i6 1),(i6 9),(.sl [(.agg [(.str [112,101,116]),z6,z6,z6,z6,z6,z6])] .none),nS])] .none),(.sl [(.agg [z6,(i6 1),(i6 1),z6,(i6 1),(i6 8),(.sl [(.agg [(.str [97,32,112,101,116]),z6,z6,z6,z6,z6,z6])] .none),(.sl [(.agg [(.str []),(i6 5),z6,z6,z6,z6,z6])] .none),nS,nS,nS,nS,(.sl [(.str [114,97,114,101])] .none),(.sl [(.agg [z6,(i6 1),(i6 4)])] .none)]),(.agg [z6,(i6 1),(i6 2),z6,(i6 1),(i6 8),(.sl [(.agg [(.str [97]),z6,z6,z6,z6,z6,z6])] .none),(.sl [(.agg [(.str []),(i6 4),z6,z6,z6,z6,z6])] .none),nS,nS,nS,nS,nS,nS]),(.agg [z6,(i6 1),(i6 3),z6,(i6 1),(i6 1),(.sl [(.agg [(.str [97]),z6,z6,z6,z6,z6,z6])] .none),(.sl [(.agg [(.str []),z6,z6,z6,z6,z6,z6])] .none),nS,nS,nS,nS,nS,nS]),(.agg [z6,(i6 1),(i6 4),z6,(i6 1),(i6 9),(.sl [(.agg [(.str [97,32,99,97,116]),z6,z6,z6,z6,z6,z6])] .none),(.sl [(.agg [(.str []),z6,z6,z6,z6,z6,z6])] .none),nS,nS,nS,nS,nS,nS])] .none),nS,nS,nS,nS,nS]),(.agg [z6,(i6 1),(i6 2)])],(i6 4)),
 ([(.agg [(.sl [(.agg [z6,(i6 1),(i6 8),(.sl [(.agg [(.str [99,97,116]),z6,z6,z6,z6,z6,z6])] .none),nS]),(.agg [z6,(i6 1),(i6 9),(.sl [(.agg [(.str [112,101,116]),z6,z6,z6,z6,z6,z6])] .none),nS])] .none),(.sl [(.agg [z6,(i6 1),(i6 1),z6,(i6 1),(i6 8),(.sl [(.agg [(.str [97,32,112,101,116]),z6,z6,z6,z6,z6,z6])] .none),(.sl [(.agg [(.str []),(i6 5),z6,z6,z6,z6,z6])] .none),nS,nS,nS,nS,(.sl [(.str [114,97,114,101])] .none),(.sl [(.agg [z6,(i6 1),(i6 4)])] .none)]),(.agg [z6,(i6 1),(i6 2),z6,(i6 1),(i6 8),(.sl [(.agg [(.str [97]),z6,z6,z6,z6,z6,z6])] .none),(.sl [(.agg [(.str []),(i6 4),z6,z6,z6,z6,z6])] .none),nS,nS,nS,nS,nS,nS]),(.agg [z6,(i6 1),(i6 3),z6,(i6 1),(i6 1),(.sl [(.agg [(.str [97]),z6,z6,z6,z6,z6,z6])] .none),(.sl [(.agg [(.str []),z6,z6,z6,z6,z6,z6])] .none),nS,nS,nS,nS,nS,nS]),(.agg [z6,(i6 1),(i6 4),z6,(i6 1),(i6 9),(.sl [(.agg [(.str [97,32,99,97,116]),z6,z6,z6,z6,z6,z6])] .none),(.sl [(.agg [(.str []),z6,z6,z6,z6,z6,z6])] .none),nS,nS,nS,nS,nS,nS])] .none),nS,nS,nS,nS,nS]),(.agg [z6,(i6 1),(i6 1)])],(i6 5)),
 ([(.agg [(.sl [(.agg [z6,(i6 1),(i6 8),(.sl [(.agg [(.str [99,97,116]),z6,z6,z6,z6,z6,z6])] .none),nS]),(.agg [z6,(i6 1),(i6 9),(.sl [(.agg [(.str [112,101,116]),z6,z6,z6,z6,z6,z6])] .none),nS])] .none),(.sl [(.agg [z6,(i6 1),(i6 1),z6,(i6 1),(i6 8),(.sl [(.agg [(.str [97,32,112,101,116]),z6,z6,z6,z6,z6,z6])] .none),(.sl [(.agg [(.str []),(i6 5),z6,z6,z6,z6,z6])] .none),nS,nS,nS,nS,(.sl [(.str [114,97,114,101])] .none),(.sl [(.agg [z6,(i6 1),(i6 4)])] .none)]),(.agg [z6,(i6 1),(i6 2),z6,(i6 1),(i6 8),(.sl [(.agg [(.str [97]),z6,z6,z6,z6,z6,z6])] .none),(.sl [(.agg [(.str []),(i6 4),z6,z6,z6,z6,z6])] .none),nS,nS,nS,nS,nS,nS]),(.agg [z6,(i6 1),(i6 3),z6,(i6 1),(i6 1),(.sl [(.agg [(.str [97]),z6,z6,z6,z6,z6,z6])] .none),(.sl [(.agg [(.str []),z6,z6,z6,z6,z6,z6])] .none),nS,nS,nS,nS,nS,nS]),(.agg [z6,(i6 1),(i6 4),z6,(i6 1),(i6 9),(.sl [(.agg [(.str [97,32,99,97,116]),z6,z6,z6,z6,z6,z6])] .none),(.sl [(.agg [(.str []),z6,z6,z6,z6,z6,z6])] .none),nS,nS,nS,nS,nS,nS])] .none),nS,nS,nS,nS,nS]),(.agg [z6,(i6 1),(i6 3)])],z6)]
end Go.Proofs.YthhdkkecolocdaaGreatDoor

namespace Go.Abs
variable {P:Program} {Hh:Hints} {F:Nat→Option AEnt}
def memoS (l:List (List AVal×AVal)) (args:List AVal) (h:Heap):Option (AVal×Heap) :=
 match h with
 | ⟨0,.leaf⟩=>match l.find? (fun e=>AVal.beqL args e.1) with
   | some e=>some (e.2,⟨0,.leaf⟩)
   | none=>none
 | _=>none
def memoB (F:Nat→Option AEnt) (g n:Nat) (l:List (List AVal×AVal)):Bool:=l.all fun e=>match run F n (.call g e.1 Heap.empty) with
 | some (.val r h0)=>(match purify h0 r with
   | some r'=>AVal.beq r' e.2
   | none=>false)
 | _=>false
theorem memo_ok (hmix:P.follows .mixedOrders=true) (hT:Table P Hh F) {g n:Nat} {l:List (List AVal×AVal)} (hb:memoB F g n l=true) (hen:∀ (args:Array Value) (w:World),(callFunc g args).run P w = .ok (.enter g args) w):HandOkE P Hh g (memoS l):=by
 refine ⟨fun args h r h' e=>?_,hen⟩
 unfold memoS at e
 split at e
 ·split at e
  ·rename_i x hx
   simp only [Option.some.injEq,Prod.mk.injEq] at e
   obtain ⟨rfl,rfl⟩:=e
   have hm:=List.mem_of_find?_eq_some hx
   have hq:=List.find?_some hx
   obtain rfl:=AVal.beqL_eq _ _ hq
   have key:=List.all_eq_true.1 hb _ hm
   split at key
   ·rename_i r0 h0 hr
    split at key
    ·rename_i r' hp
     intro w G cargs hE H hpt
     refine (sound hmix hT hr w G cargs hE H hpt).mono ?_
     rintro e w' ⟨v,G1,he,hX,H1,hv⟩
     obtain ⟨G',q1,q2,q3⟩:=drop_pure H hX H1 hv hp
     rw [AVal.beq_eq _ _ key] at q3
     exact ⟨v,G',he,q1,q2,q3⟩
    ·simp at key
   ·simp at key
  ·simp at e
 ·simp at e
end Go.Abs
namespace Go.Proofs.YthhdkkecolocdaaGreatDoor
open Go Go.Abs
theorem mixedV:Tryz.prog.follows .mixedOrders=true:=by kernel_rfl
set_option maxRecDepth 1000000 in
theorem mb0:memoB FV 26 3000 memo0=true:=by kernel_rfl
noncomputable def F1 (g:Nat):Option AEnt:=if g=26 then some (.hand (memoS memo0)) else FV g
theorem table1:Table Tryz.prog hintsV F1:=by
 intro g
 unfold F1
 split
 ·rename_i e;subst e
  exact ⟨memo_ok mixedV tableV mb0 (fun args w=>callFunc_enter (tableV.comp (show FV 26=some (.comp (cv 26)) from rfl)) args w),fun q=>by simp [hintsV] at q⟩
 ·exact tableV g
set_option maxRecDepth 1000000 in
theorem mb1:memoB F1 28 3000 memo1=true:=by kernel_rfl
set_option maxRecDepth 1000000 in
theorem mb2:memoB F1 117 3000 memo2=true:=by kernel_rfl
set_option maxRecDepth 1000000 in
theorem mb5:memoB F1 163 3000 memo5=true:=by kernel_rfl
set_option maxRecDepth 1000000 in
theorem mb6:memoB F1 108 3000 memo6=true:=by kernel_rfl
noncomputable def F2 (g:Nat):Option AEnt:=if g=28 then some (.hand (memoS memo1)) else if g=117 then some (.hand (memoS memo2)) else if g=163 then some (.hand (memoS memo5)) else if g=108 then some (.hand (memoS memo6)) else F1 g
theorem table2:Table Tryz.prog hintsV F2:=by
 intro g
 unfold F2
 split
 ·rename_i e;subst e
  exact ⟨memo_ok mixedV table1 mb1 (fun args w=>callFunc_enter (tableV.comp (show FV 28=some (.comp (cv 28)) from rfl)) args w),fun q=>by simp [hintsV] at q⟩
 split
 ·rename_i e;subst e
  exact ⟨memo_ok mixedV table1 mb2 (fun args w=>callFunc_enter (tableV.comp (show FV 117=some (.comp (cv 117)) from rfl)) args w),fun q=>by simp [hintsV] at q⟩
 split
 ·rename_i e;subst e
  exact ⟨memo_ok mixedV table1 mb5 (fun args w=>callFunc_enter (tableV.comp (show FV 163=some (.comp (cv 163)) from rfl)) args w),fun q=>by simp [hintsV] at q⟩
 split
 ·rename_i e;subst e
  exact ⟨memo_ok mixedV table1 mb6 (fun args w=>callFunc_enter (tableV.comp (show FV 108=some (.comp (cv 108)) from rfl)) args w),fun q=>by simp [hintsV] at q⟩
 ·exact table1 g
set_option maxRecDepth 1000000 in
theorem mb3:memoB F2 162 3000 memo3=true:=by kernel_rfl
set_option maxRecDepth 1000000 in
theorem mb4:memoB F2 15 3000 memo4=true:=by kernel_rfl
noncomputable def F3 (g:Nat):Option AEnt:=if g=162 then some (.hand (memoS memo3)) else if g=15 then some (.hand (memoS memo4)) else F2 g
theorem table3:Table Tryz.prog hintsV F3:=by
 intro g
 unfold F3
 split
 ·rename_i e;subst e
  exact ⟨memo_ok mixedV table2 mb3 (fun args w=>callFunc_enter (tableV.comp (show FV 162=some (.comp (cv 162)) from rfl)) args w),fun q=>by simp [hintsV] at q⟩
 split
 ·rename_i e;subst e
  exact ⟨memo_ok mixedV table2 mb4 (fun args w=>callFunc_enter (tableV.comp (show FV 15=some (.comp (cv 15)) from rfl)) args w),fun q=>by simp [hintsV] at q⟩
 ·exact table2 g
end Go.Proofs.YthhdkkecolocdaaGreatDoor

namespace Go.Proofs.YthhdkkecolocdaaGreatDoor
open Go Go.Abs
noncomputable def pv0:List AVal:=(cv 14).slots.map fun _ => .tup []
def ph0:Heap:=Heap.empty
def pv1:List AVal:=[(.bool false),tN,tN,tN,tN,tN,tN,tN,tN,tN,tN,tN,tN,tN,tN,tN,tN,tN,tN]
def ph1:Heap:=⟨0,.leaf⟩
def pv2:List AVal:=[(.bool false),(.sl [(.agg [(.str [97]),z6,z6,z6,(i6 5)]),(.agg [(.str [99]),(i6 1),z6,z6,(i6 5)]),(.agg [(.str [101]),(i6 2),z6,z6,(i6 5)]),(.agg [(.str [112]),(i6 3),z6,z6,(i6 5)]),(.agg [(.str [116]),(i6 4),z6,z6,(i6 5)])] .none),tN,tN,tN,tN,tN,tN,tN,tN,tN,tN,tN,tN,tN,tN,tN,tN,tN]
def ph2:Heap:=⟨0,.leaf⟩
def pv3:List AVal:=[(.bool false),.bad,(.ptr 0 0),tN,tN,tN,tN,tN,tN,tN,tN,tN,tN,tN,tN,tN,tN,tN,tN]
def ph3:Heap:=⟨1,(.node (some (.row true 1000047 true [(.sl [(.agg [(.str [97]),z6,z6,z6,(i6 5)]),(.agg [(.str [99]),(i6 1),z6,z6,(i6 5)]),(.agg [(.str [101]),(i6 2),z6,z6,(i6 5)]),(.agg [(.str [112]),(i6 3),z6,z6,(i6 5)]),(.agg [(.str [116]),(i6 4),z6,z6,(i6 5)])] .none),nS,nS,nS,nS,nS,nS,nS,nS,(i6 3),(i6 5),(i6 4),(i6 100),nS,(i6 200),z6,z6])) .leaf .leaf)⟩
def pv4:List AVal:=[(.bool false),.bad,(.ptr 0 0),(.ptr 1 0),tN,tN,tN,tN,tN,tN,tN,tN,tN,tN,tN,tN,tN,tN,tN]
def ph4:Heap:=⟨3,(.node (some (.row true 1000047 true [(.sl [(.agg [(.str [97]),z6,z6,z6,(i6 5)]),(.agg [(.str [99]),(i6 1),z6,z6,(i6 5)]),(.agg [(.str [101]),(i6 2),z6,z6,(i6 5)]),(.agg [(.str [112]),(i6 3),z6,z6,(i6 5)]),(.agg [(.str [116]),(i6 4),z6,z6,(i6 5)])] .none),nS,nS,nS,nS,nS,nS,nS,nS,(i6 3),(i6 5),(i6 4),(i6 100),nS,(i6 200),z6,z6])) (.node (some (.row true 1000031 true [(.sl [(.agg [z6,(i6 1),(i6 8),(.sl [(.agg [(.str [99,97,116]),z6,z6,z6,z6,z6,z6])] .none),nS]),(.agg [z6,(i6 1),(i6 9),(.sl [(.agg [(.str [112,101,116]),z6,z6,z6,z6,z6,z6])] .none),nS])] .none),(.ref 2 0 4 14),nS,nS,nS,nS,nS])) .leaf .leaf) (.node (some (.row true 14 true [z6,(i6 1),(i6 1),z6,(i6 1),(i6 8),(.sl [(.agg [(.str [97,32,112,101,116]),z6,z6,z6,z6,z6,z6])] .none),(.sl [(.agg [(.str []),(i6 5),z6,z6,z6,z6,z6])] .none),nS,nS,nS,nS,nS,nS,z6,(i6 1),(i6 2),z6,(i6 1),(i6 8),(.sl [(.agg [(.str [97]),z6,z6,z6,z6,z6,z6])] .none),(.sl [(.agg [(.str []),(i6 4),z6,z6,z6,z6,z6])] .none),nS,nS,nS,nS,nS,nS,z6,(i6 1),(i6 3),z6,(i6 1),(i6 1),(.sl [(.agg [(.str [97]),z6,z6,z6,z6,z6,z6])] .none),(.sl [(.agg [(.str []),z6,z6,z6,z6,z6,z6])] .none),nS,nS,nS,nS,nS,nS,z6,(i6 1),(i6 4),z6,(i6 1),(i6 9),(.sl [(.agg [(.str [97,32,99,97,116]),z6,z6,z6,z6,z6,z6])] .none),(.sl [(.agg [(.str []),z6,z6,z6,z6,z6,z6])] .none),nS,nS,nS,nS,nS,nS])) .leaf .leaf))⟩
def pv5:List AVal:=[(.bool false),.bad,(.ptr 0 0),(.ptr 1 0),tN,tN,tN,tN,tN,tN,tN,tN,tN,tN,tN,tN,tN,tN,tN]
def ph5:Heap:=⟨3,(.node (some (.row true 1000047 true [(.sl [(.agg [(.str [97]),z6,z6,z6,(i6 5)]),(.agg [(.str [99]),(i6 1),z6,z6,(i6 5)]),(.agg [(.str [101]),(i6 2),z6,z6,(i6 5)]),(.agg [(.str [112]),(i6 3),z6,z6,(i6 5)]),(.agg [(.str [116]),(i6 4),z6,z6,(i6 5)])] .none),nS,nS,nS,nS,nS,nS,nS,nS,(i6 3),(i6 5),(i6 4),(i6 100),nS,(i6 200),z6,z6])) (.node (some (.row true 1000031 true [(.sl [(.agg [z6,(i6 1),(i6 8),(.sl [(.agg [(.str [99,97,116]),z6,z6,z6,z6,z6,z6])] .none),nS]),(.agg [z6,(i6 1),(i6 9),(.sl [(.agg [(.str [112,101,116]),z6,z6,z6,z6,z6,z6])] .none),nS])] .none),(.ref 2 0 4 14),nS,nS,nS,nS,nS])) .leaf .leaf) (.node (some (.row true 14 true [z6,(i6 1),(i6 1),z6,(i6 1),(i6 8),(.sl [(.agg [(.str [97,32,112,101,116]),z6,z6,z6,z6,z6,z6])] .none),(.sl [(.agg [(.str []),(i6 5),z6,z6,z6,z6,z6])] .none),nS,nS,nS,nS,(.sl [(.str [114,97,114,101])] .none),nS,z6,(i6 1),(i6 2),z6,(i6 1),(i6 8),(.sl [(.agg [(.str [97]),z6,z6,z6,z6,z6,z6])] .none),(.sl [(.agg [(.str []),(i6 4),z6,z6,z6,z6,z6])] .none),nS,nS,nS,nS,nS,nS,z6,(i6 1),(i6 3),z6,(i6 1),(i6 1),(.sl [(.agg [(.str [97]),z6,z6,z6,z6,z6,z6])] .none),(.sl [(.agg [(.str []),z6,z6,z6,z6,z6,z6])] .none),nS,nS,nS,nS,nS,nS,z6,(i6 1),(i6 4),z6,(i6 1),(i6 9),(.sl [(.agg [(.str [97,32,99,97,116]),z6,z6,z6,z6,z6,z6])] .none),(.sl [(.agg [(.str []),z6,z6,z6,z6,z6,z6])] .none),nS,nS,nS,nS,nS,nS])) .leaf .leaf))⟩
def pv6:List AVal:=[(.bool false),.bad,(.ptr 0 0),(.ptr 1 0),tN,tN,tN,tN,tN,tN,tN,tN,tN,tN,tN,tN,tN,tN,tN]
def ph6:Heap:=⟨3,(.node (some (.row true 1000047 true [(.sl [(.agg [(.str [97]),z6,z6,z6,(i6 5)]),(.agg [(.str [99]),(i6 1),z6,z6,(i6 5)]),(.agg [(.str [101]),(i6 2),z6,z6,(i6 5)]),(.agg [(.str [112]),(i6 3),z6,z6,(i6 5)]),(.agg [(.str [116]),(i6 4),z6,z6,(i6 5)])] .none),nS,nS,nS,nS,nS,nS,nS,nS,(i6 3),(i6 5),(i6 4),(i6 100),nS,(i6 200),z6,z6])) (.node (some (.row true 1000031 true [(.sl [(.agg [z6,(i6 1),(i6 8),(.sl [(.agg [(.str [99,97,116]),z6,z6,z6,z6,z6,z6])] .none),nS]),(.agg [z6,(i6 1),(i6 9),(.sl [(.agg [(.str [112,101,116]),z6,z6,z6,z6,z6,z6])] .none),nS])] .none),(.ref 2 0 4 14),nS,nS,nS,nS,nS])) .leaf .leaf) (.node (some (.row true 14 true [z6,(i6 1),(i6 1),z6,(i6 1),(i6 8),(.sl [(.agg [(.str [97,32,112,101,116]),z6,z6,z6,z6,z6,z6])] .none),(.sl [(.agg [(.str []),(i6 5),z6,z6,z6,z6,z6])] .none),nS,nS,nS,nS,(.sl [(.str [114,97,114,101])] .none),(.sl [(.agg [z6,(i6 1),(i6 4)])] .none),z6,(i6 1),(i6 2),z6,(i6 1),(i6 8),(.sl [(.agg [(.str [97]),z6,z6,z6,z6,z6,z6])] .none),(.sl [(.agg [(.str []),(i6 4),z6,z6,z6,z6,z6])] .none),nS,nS,nS,nS,nS,nS,z6,(i6 1),(i6 3),z6,(i6 1),(i6 1),(.sl [(.agg [(.str [97]),z6,z6,z6,z6,z6,z6])] .none),(.sl [(.agg [(.str []),z6,z6,z6,z6,z6,z6])] .none),nS,nS,nS,nS,nS,nS,z6,(i6 1),(i6 4),z6,(i6 1),(i6 9),(.sl [(.agg [(.str [97,32,99,97,116]),z6,z6,z6,z6,z6,z6])] .none),(.sl [(.agg [(.str []),z6,z6,z6,z6,z6,z6])] .none),nS,nS,nS,nS,nS,nS])) .leaf .leaf))⟩
def pv7:List AVal:=[(.bool false),.bad,(.ptr 0 0),(.ptr 1 0),(.sl [(.agg [z6,(i6 1),(i6 1)]),(.agg [z6,(i6 1),(i6 2)]),(.agg [z6,(i6 1),(i6 3)])] .none),tN,tN,tN,tN,tN,tN,tN,tN,tN,tN,tN,tN,tN,tN]
def ph7:Heap:=⟨3,(.node (some (.row true 1000047 true [(.sl [(.agg [(.str [97]),z6,z6,z6,(i6 5)]),(.agg [(.str [99]),(i6 1),z6,z6,(i6 5)]),(.agg [(.str [101]),(i6 2),z6,z6,(i6 5)]),(.agg [(.str [112]),(i6 3),z6,z6,(i6 5)]),(.agg [(.str [116]),(i6 4),z6,z6,(i6 5)])] .none),nS,nS,nS,nS,nS,nS,nS,nS,(i6 3),(i6 5),(i6 4),(i6 100),nS,(i6 200),z6,z6])) (.node (some (.row true 1000031 true [(.sl [(.agg [z6,(i6 1),(i6 8),(.sl [(.agg [(.str [99,97,116]),z6,z6,z6,z6,z6,z6])] .none),nS]),(.agg [z6,(i6 1),(i6 9),(.sl [(.agg [(.str [112,101,116]),z6,z6,z6,z6,z6,z6])] .none),nS])] .none),(.ref 2 0 4 14),nS,nS,nS,nS,nS])) .leaf .leaf) (.node (some (.row true 14 true [z6,(i6 1),(i6 1),z6,(i6 1),(i6 8),(.sl [(.agg [(.str [97,32,112,101,116]),z6,z6,z6,z6,z6,z6])] .none),(.sl [(.agg [(.str []),(i6 5),z6,z6,z6,z6,z6])] .none),nS,nS,nS,nS,(.sl [(.str [114,97,114,101])] .none),(.sl [(.agg [z6,(i6 1),(i6 4)])] .none),z6,(i6 1),(i6 2),z6,(i6 1),(i6 8),(.sl [(.agg [(.str [97]),z6,z6,z6,z6,z6,z6])] .none),(.sl [(.agg [(.str []),(i6 4),z6,z6,z6,z6,z6])] .none),nS,nS,nS,nS,nS,nS,z6,(i6 1),(i6 3),z6,(i6 1),(i6 1),(.sl [(.agg [(.str [97]),z6,z6,z6,z6,z6,z6])] .none),(.sl [(.agg [(.str []),z6,z6,z6,z6,z6,z6])] .none),nS,nS,nS,nS,nS,nS,z6,(i6 1),(i6 4),z6,(i6 1),(i6 9),(.sl [(.agg [(.str [97,32,99,97,116]),z6,z6,z6,z6,z6,z6])] .none),(.sl [(.agg [(.str []),z6,z6,z6,z6,z6,z6])] .none),nS,nS,nS,nS,nS,nS])) .leaf .leaf))⟩
def pv8:List AVal:=[(.bool false),.bad,(.ptr 0 0),(.ptr 1 0),(.sl [(.agg [z6,(i6 1),(i6 1)]),(.agg [z6,(i6 1),(i6 2)]),(.agg [z6,(i6 1),(i6 3)])] .none),(.sl [(.agg [z6,(i6 1),(i6 8)])] (.own 2 3)),(.sl [(.sl [(.agg [z6,(i6 1),(i6 2)]),(.agg [z6,(i6 1),(i6 1)]),(.agg [z6,(i6 1),(i6 3)])] .none)] (.own 3 1)),z6,tN,tN,tN,tN,tN,tN,tN,tN,tN,tN,tN]
def ph8:Heap:=⟨5,(.node (some (.row true 1000047 true [(.sl [(.agg [(.str [97]),z6,z6,z6,(i6 5)]),(.agg [(.str [99]),(i6 1),z6,z6,(i6 5)]),(.agg [(.str [101]),(i6 2),z6,z6,(i6 5)]),(.agg [(.str [112]),(i6 3),z6,z6,(i6 5)]),(.agg [(.str [116]),(i6 4),z6,z6,(i6 5)])] .none),nS,nS,nS,nS,nS,nS,nS,nS,(i6 3),(i6 5),(i6 4),(i6 100),nS,(i6 200),z6,z6])) (.node (some (.row true 1000031 true [(.sl [(.agg [z6,(i6 1),(i6 8),(.sl [(.agg [(.str [99,97,116]),z6,z6,z6,z6,z6,z6])] .none),nS]),(.agg [z6,(i6 1),(i6 9),(.sl [(.agg [(.str [112,101,116]),z6,z6,z6,z6,z6,z6])] .none),nS])] .none),(.ref 4 0 4 14),nS,nS,nS,nS,nS])) (.node (some (.tok 49)) .leaf .leaf) .leaf) (.node (some (.tok 62)) (.node (some (.row true 14 true [z6,(i6 1),(i6 1),z6,(i6 1),(i6 8),(.sl [(.agg [(.str [97,32,112,101,116]),z6,z6,z6,z6,z6,z6])] .none),(.sl [(.agg [(.str []),(i6 5),z6,z6,z6,z6,z6])] .none),nS,nS,nS,nS,(.sl [(.str [114,97,114,101])] .none),(.sl [(.agg [z6,(i6 1),(i6 4)])] .none),z6,(i6 1),(i6 2),z6,(i6 1),(i6 8),(.sl [(.agg [(.str [97]),z6,z6,z6,z6,z6,z6])] .none),(.sl [(.agg [(.str []),(i6 4),z6,z6,z6,z6,z6])] .none),nS,nS,nS,nS,nS,nS,z6,(i6 1),(i6 3),z6,(i6 1),(i6 1),(.sl [(.agg [(.str [97]),z6,z6,z6,z6,z6,z6])] .none),(.sl [(.agg [(.str []),z6,z6,z6,z6,z6,z6])] .none),nS,nS,nS,nS,nS,nS,z6,(i6 1),(i6 4),z6,(i6 1),(i6 9),(.sl [(.agg [(.str [97,32,99,97,116]),z6,z6,z6,z6,z6,z6])] .none),(.sl [(.agg [(.str []),z6,z6,z6,z6,z6,z6])] .none),nS,nS,nS,nS,nS,nS])) .leaf .leaf) .leaf))⟩
def pv9:List AVal:=[(.bool false),.bad,(.ptr 0 0),(.ptr 1 0),(.sl [(.agg [z6,(i6 1),(i6 1)]),(.agg [z6,(i6 1),(i6 2)]),(.agg [z6,(i6 1),(i6 3)])] .none),(.sl [(.agg [z6,(i6 1),(i6 8)])] (.own 2 3)),(.sl [(.sl [(.agg [z6,(i6 1),(i6 2)]),(.agg [z6,(i6 1),(i6 1)]),(.agg [z6,(i6 1),(i6 3)])] .none)] (.own 3 1)),z6,(.bool true),tN,tN,tN,tN,tN,tN,tN,tN,tN,tN]
def ph9:Heap:=⟨5,(.node (some (.row true 1000047 true [(.sl [(.agg [(.str [97]),z6,z6,z6,(i6 5)]),(.agg [(.str [99]),(i6 1),z6,z6,(i6 5)]),(.agg [(.str [101]),(i6 2),z6,z6,(i6 5)]),(.agg [(.str [112]),(i6 3),z6,z6,(i6 5)]),(.agg [(.str [116]),(i6 4),z6,z6,(i6 5)])] .none),nS,nS,nS,nS,nS,nS,nS,nS,(i6 3),(i6 5),(i6 4),(i6 100),nS,(i6 200),z6,z6])) (.node (some (.row true 1000031 true [(.sl [(.agg [z6,(i6 1),(i6 8),(.sl [(.agg [(.str [99,97,116]),z6,z6,z6,z6,z6,z6])] .none),nS]),(.agg [z6,(i6 1),(i6 9),(.sl [(.agg [(.str [112,101,116]),z6,z6,z6,z6,z6,z6])] .none),nS])] .none),(.ref 4 0 4 14),nS,nS,nS,nS,nS])) (.node (some (.tok 49)) .leaf .leaf) .leaf) (.node (some (.tok 62)) (.node (some (.row true 14 true [z6,(i6 1),(i6 1),z6,(i6 1),(i6 8),(.sl [(.agg [(.str [97,32,112,101,116]),z6,z6,z6,z6,z6,z6])] .none),(.sl [(.agg [(.str []),(i6 5),z6,z6,z6,z6,z6])] .none),nS,nS,nS,nS,(.sl [(.str [114,97,114,101])] .none),(.sl [(.agg [z6,(i6 1),(i6 4)])] .none),z6,(i6 1),(i6 2),z6,(i6 1),(i6 8),(.sl [(.agg [(.str [97]),z6,z6,z6,z6,z6,z6])] .none),(.sl [(.agg [(.str []),(i6 4),z6,z6,z6,z6,z6])] .none),nS,nS,nS,nS,nS,nS,z6,(i6 1),(i6 3),z6,(i6 1),(i6 1),(.sl [(.agg [(.str [97]),z6,z6,z6,z6,z6,z6])] .none),(.sl [(.agg [(.str []),z6,z6,z6,z6,z6,z6])] .none),nS,nS,nS,nS,nS,nS,z6,(i6 1),(i6 4),z6,(i6 1),(i6 9),(.sl [(.agg [(.str [97,32,99,97,116]),z6,z6,z6,z6,z6,z6])] .none),(.sl [(.agg [(.str []),z6,z6,z6,z6,z6,z6])] .none),nS,nS,nS,nS,nS,nS])) .leaf .leaf) .leaf))⟩
def pv10:List AVal:=[(.bool false),.bad,(.ptr 0 0),(.ptr 1 0),(.sl [(.agg [z6,(i6 1),(i6 1)]),(.agg [z6,(i6 1),(i6 2)]),(.agg [z6,(i6 1),(i6 3)])] .none),(.sl [(.agg [z6,(i6 1),(i6 8)])] (.own 2 3)),(.sl [(.sl [(.agg [z6,(i6 1),(i6 2)]),(.agg [z6,(i6 1),(i6 1)]),(.agg [z6,(i6 1),(i6 3)])] .none)] (.own 3 1)),z6,(.bool true),(.bool true),tN,tN,tN,tN,tN,tN,tN,tN,tN]
def ph10:Heap:=⟨5,(.node (some (.row true 1000047 true [(.sl [(.agg [(.str [97]),z6,z6,z6,(i6 5)]),(.agg [(.str [99]),(i6 1),z6,z6,(i6 5)]),(.agg [(.str [101]),(i6 2),z6,z6,(i6 5)]),(.agg [(.str [112]),(i6 3),z6,z6,(i6 5)]),(.agg [(.str [116]),(i6 4),z6,z6,(i6 5)])] .none),nS,nS,nS,nS,nS,nS,nS,nS,(i6 3),(i6 5),(i6 4),(i6 100),nS,(i6 200),z6,z6])) (.node (some (.row true 1000031 true [(.sl [(.agg [z6,(i6 1),(i6 8),(.sl [(.agg [(.str [99,97,116]),z6,z6,z6,z6,z6,z6])] .none),nS]),(.agg [z6,(i6 1),(i6 9),(.sl [(.agg [(.str [112,101,116]),z6,z6,z6,z6,z6,z6])] .none),nS])] .none),(.ref 4 0 4 14),nS,nS,nS,nS,nS])) (.node (some (.tok 49)) .leaf .leaf) .leaf) (.node (some (.tok 62)) (.node (some (.row true 14 true [z6,(i6 1),(i6 1),z6,(i6 1),(i6 8),(.sl [(.agg [(.str [97,32,112,101,116]),z6,z6,z6,z6,z6,z6])] .none),(.sl [(.agg [(.str []),(i6 5),z6,z6,z6,z6,z6])] .none),nS,nS,nS,nS,(.sl [(.str [114,97,114,101])] .none),(.sl [(.agg [z6,(i6 1),(i6 4)])] .none),z6,(i6 1),(i6 2),z6,(i6 1),(i6 8),(.sl [(.agg [(.str [97]),z6,z6,z6,z6,z6,z6])] .none),(.sl [(.agg [(.str []),(i6 4),z6,z6,z6,z6,z6])] .none),nS,nS,nS,nS,nS,nS,z6,(i6 1),(i6 3),z6,(i6 1),(i6 1),(.sl [(.agg [(.str [97]),z6,z6,z6,z6,z6,z6])] .none),(.sl [(.agg [(.str []),z6,z6,z6,z6,z6,z6])] .none),nS,nS,nS,nS,nS,nS,z6,(i6 1),(i6 4),z6,(i6 1),(i6 9),(.sl [(.agg [(.str [97,32,99,97,116]),z6,z6,z6,z6,z6,z6])] .none),(.sl [(.agg [(.str []),z6,z6,z6,z6,z6,z6])] .none),nS,nS,nS,nS,nS,nS])) .leaf .leaf) .leaf))⟩
def pv11:List AVal:=[(.bool false),.bad,(.ptr 0 0),(.ptr 1 0),(.sl [(.agg [z6,(i6 1),(i6 1)]),(.agg [z6,(i6 1),(i6 2)]),(.agg [z6,(i6 1),(i6 3)])] .none),(.sl [(.agg [z6,(i6 1),(i6 8)])] (.own 2 3)),(.sl [(.sl [(.agg [z6,(i6 1),(i6 2)]),(.agg [z6,(i6 1),(i6 1)]),(.agg [z6,(i6 1),(i6 3)])] .none)] (.own 3 1)),z6,(.bool true),(.bool true),(.ptr 4 0),z6,tN,tN,tN,tN,tN,tN,tN]
def ph11:Heap:=⟨7,(.node (some (.row true 1000047 true [(.sl [(.agg [(.str [97]),z6,z6,z6,(i6 5)]),(.agg [(.str [99]),(i6 1),z6,z6,(i6 5)]),(.agg [(.str [101]),(i6 2),z6,z6,(i6 5)]),(.agg [(.str [112]),(i6 3),z6,z6,(i6 5)]),(.agg [(.str [116]),(i6 4),z6,z6,(i6 5)])] .none),nS,nS,nS,nS,nS,nS,nS,nS,(i6 3),(i6 5),(i6 4),(i6 100),nS,(i6 200),z6,z6])) (.node (some (.row true 1000031 true [(.sl [(.agg [z6,(i6 1),(i6 8),(.sl [(.agg [(.str [99,97,116]),z6,z6,z6,z6,z6,z6])] .none),nS]),(.agg [z6,(i6 1),(i6 9),(.sl [(.agg [(.str [112,101,116]),z6,z6,z6,z6,z6,z6])] .none),nS])] .none),(.ref 5 0 4 14),nS,nS,nS,nS,nS])) (.node (some (.tok 49)) .leaf .leaf) (.node (some (.row true 14 true [z6,(i6 1),(i6 1),z6,(i6 1),(i6 8),(.sl [(.agg [(.str [97,32,112,101,116]),z6,z6,z6,z6,z6,z6])] .none),(.sl [(.agg [(.str []),(i6 5),z6,z6,z6,z6,z6])] .none),nS,nS,nS,nS,(.sl [(.str [114,97,114,101])] .none),(.sl [(.agg [z6,(i6 1),(i6 4)])] .none),z6,(i6 1),(i6 2),z6,(i6 1),(i6 8),(.sl [(.agg [(.str [97]),z6,z6,z6,z6,z6,z6])] .none),(.sl [(.agg [(.str []),(i6 4),z6,z6,z6,z6,z6])] .none),nS,nS,nS,nS,nS,nS,z6,(i6 1),(i6 3),z6,(i6 1),(i6 1),(.sl [(.agg [(.str [97]),z6,z6,z6,z6,z6,z6])] .none),(.sl [(.agg [(.str []),z6,z6,z6,z6,z6,z6])] .none),nS,nS,nS,nS,nS,nS,z6,(i6 1),(i6 4),z6,(i6 1),(i6 9),(.sl [(.agg [(.str [97,32,99,97,116]),z6,z6,z6,z6,z6,z6])] .none),(.sl [(.agg [(.str []),z6,z6,z6,z6,z6,z6])] .none),nS,nS,nS,nS,nS,nS])) .leaf .leaf)) (.node (some (.tok 62)) (.node (some (.row true 0 true [nS,nS,(.mp 6)])) .leaf .leaf) (.node (some (.map .str 0 [])) .leaf .leaf)))⟩
def pv12:List AVal:=[(.bool false),.bad,(.ptr 0 0),(.ptr 1 0),(.sl [(.agg [z6,(i6 1),(i6 1)]),(.agg [z6,(i6 1),(i6 2)]),(.agg [z6,(i6 1),(i6 3)])] .none),(.sl [(.agg [z6,(i6 1),(i6 8)])] (.own 2 3)),(.sl [(.sl [(.agg [z6,(i6 1),(i6 2)]),(.agg [z6,(i6 1),(i6 1)]),(.agg [z6,(i6 1),(i6 3)])] .none)] (.own 3 1)),z6,(.bool true),(.bool true),(.ptr 4 0),z6,(.ptr 5 0),tN,tN,tN,tN,tN,tN]
def ph12:Heap:=⟨8,(.node (some (.row true 1000047 true [(.sl [(.agg [(.str [97]),z6,z6,z6,(i6 5)]),(.agg [(.str [99]),(i6 1),z6,z6,(i6 5)]),(.agg [(.str [101]),(i6 2),z6,z6,(i6 5)]),(.agg [(.str [112]),(i6 3),z6,z6,(i6 5)]),(.agg [(.str [116]),(i6 4),z6,z6,(i6 5)])] .none),nS,nS,nS,nS,nS,nS,nS,nS,(i6 3),(i6 5),(i6 4),(i6 100),nS,(i6 200),z6,z6])) (.node (some (.row true 1000031 true [(.sl [(.agg [z6,(i6 1),(i6 8),(.sl [(.agg [(.str [99,97,116]),z6,z6,z6,z6,z6,z6])] .none),nS]),(.agg [z6,(i6 1),(i6 9),(.sl [(.agg [(.str [112,101,116]),z6,z6,z6,z6,z6,z6])] .none),nS])] .none),(.ref 6 0 4 14),nS,nS,nS,nS,nS])) (.node (some (.tok 49)) (.node (some (.map .str 0 [])) .leaf .leaf) .leaf) (.node (some (.row true 1000120 true [(.sl [(.agg [z6,(i6 1),(i6 1)]),(.agg [z6,(i6 1),(i6 4)])] .none),nS,nS,nS,nS])) .leaf .leaf)) (.node (some (.tok 62)) (.node (some (.row true 0 true [nS,nS,(.mp 7)])) .leaf .leaf) (.node (some (.row true 14 true [z6,(i6 1),(i6 1),z6,(i6 1),(i6 8),(.sl [(.agg [(.str [97,32,112,101,116]),z6,z6,z6,z6,z6,z6])] .none),(.sl [(.agg [(.str []),(i6 5),z6,z6,z6,z6,z6])] .none),nS,nS,nS,nS,(.sl [(.str [114,97,114,101])] .none),(.sl [(.agg [z6,(i6 1),(i6 4)])] .none),z6,(i6 1),(i6 2),z6,(i6 1),(i6 8),(.sl [(.agg [(.str [97]),z6,z6,z6,z6,z6,z6])] .none),(.sl [(.agg [(.str []),(i6 4),z6,z6,z6,z6,z6])] .none),nS,nS,nS,nS,nS,nS,z6,(i6 1),(i6 3),z6,(i6 1),(i6 1),(.sl [(.agg [(.str [97]),z6,z6,z6,z6,z6,z6])] .none),(.sl [(.agg [(.str []),z6,z6,z6,z6,z6,z6])] .none),nS,nS,nS,nS,nS,nS,z6,(i6 1),(i6 4),z6,(i6 1),(i6 9),(.sl [(.agg [(.str [97,32,99,97,116]),z6,z6,z6,z6,z6,z6])] .none),(.sl [(.agg [(.str []),z6,z6,z6,z6,z6,z6])] .none),nS,nS,nS,nS,nS,nS])) .leaf .leaf)))⟩
def pv13:List AVal:=[(.bool false),.bad,(.ptr 0 0),(.ptr 1 0),.bad,(.sl [(.agg [z6,(i6 1),(i6 8)])] (.own 2 3)),(.sl [(.sl [(.agg [z6,(i6 1),(i6 2)]),(.agg [z6,(i6 1),(i6 1)]),(.agg [z6,(i6 1),(i6 3)])] .none)] (.own 3 1)),z6,(.bool true),(.bool true),(.ptr 4 0),z6,(.ptr 5 0),(.ptr 6 0),z6,tN,tN,tN,tN]
def ph13:Heap:=⟨10,(.node (some (.row true 1000047 true [(.sl [(.agg [(.str [97]),z6,z6,z6,(i6 5)]),(.agg [(.str [99]),(i6 1),z6,z6,(i6 5)]),(.agg [(.str [101]),(i6 2),z6,z6,(i6 5)]),(.agg [(.str [112]),(i6 3),z6,z6,(i6 5)]),(.agg [(.str [116]),(i6 4),z6,z6,(i6 5)])] .none),nS,nS,nS,nS,nS,nS,nS,nS,(i6 3),(i6 5),(i6 4),(i6 100),nS,(i6 200),z6,z6])) (.node (some (.row true 1000031 true [(.sl [(.agg [z6,(i6 1),(i6 8),(.sl [(.agg [(.str [99,97,116]),z6,z6,z6,z6,z6,z6])] .none),nS]),(.agg [z6,(i6 1),(i6 9),(.sl [(.agg [(.str [112,101,116]),z6,z6,z6,z6,z6,z6])] .none),nS])] .none),(.ref 7 0 4 14),nS,nS,nS,nS,nS])) (.node (some (.tok 49)) (.node (some (.row true 14 true [z6,(i6 1),(i6 1),z6,(i6 1),(i6 8),(.sl [(.agg [(.str [97,32,112,101,116]),z6,z6,z6,z6,z6,z6])] .none),(.sl [(.agg [(.str []),(i6 5),z6,z6,z6,z6,z6])] .none),nS,nS,nS,nS,(.sl [(.str [114,97,114,101])] .none),(.sl [(.agg [z6,(i6 1),(i6 4)])] .none),z6,(i6 1),(i6 2),z6,(i6 1),(i6 8),(.sl [(.agg [(.str [97]),z6,z6,z6,z6,z6,z6])] .none),(.sl [(.agg [(.str []),(i6 4),z6,z6,z6,z6,z6])] .none),nS,nS,nS,nS,nS,nS,z6,(i6 1),(i6 3),z6,(i6 1),(i6 1),(.sl [(.agg [(.str [97]),z6,z6,z6,z6,z6,z6])] .none),(.sl [(.agg [(.str []),z6,z6,z6,z6,z6,z6])] .none),nS,nS,nS,nS,nS,nS,z6,(i6 1),(i6 4),z6,(i6 1),(i6 9),(.sl [(.agg [(.str [97,32,99,97,116]),z6,z6,z6,z6,z6,z6])] .none),(.sl [(.agg [(.str []),z6,z6,z6,z6,z6,z6])] .none),nS,nS,nS,nS,nS,nS])) .leaf .leaf) .leaf) (.node (some (.row true 1000120 true [(.sl [(.agg [z6,(i6 1),(i6 1)]),(.agg [z6,(i6 1),(i6 4)])] .none),nS,nS,nS,nS])) (.node (some (.tok 202)) .leaf .leaf) .leaf)) (.node (some (.tok 62)) (.node (some (.row true 0 true [nS,nS,(.mp 8)])) (.node (some (.map .str 0 [])) .leaf .leaf) .leaf) (.node (some (.row true 1000123 true [z6,(i6 1),(i6 8),(.str [99,97,116]),(.sl [(.agg [z6,(.str [99,97,116]),(i6 15),z6,(.bool true),z6,z6,z6]),(.agg [(i6 1),(.str []),(i6 3),z6,(.bool false),z6,z6,z6]),(.agg [z6,(.str [40,114,97,114,101,41]),(i6 26),z6,(.bool false),z6,z6,z6]),(.agg [(i6 1),(.str []),(i6 3),z6,(.bool false),z6,z6,z6]),(.agg [z6,(.str [97]),(i6 5),z6,(.bool false),z6,z6,z6]),(.agg [(i6 1),(.str []),(i6 3),z6,(.bool false),z6,z6,z6]),(.agg [z6,(.str [112,101,116]),(i6 15),z6,(.bool false),z6,z6,z6]),(.agg [(i6 1),(.str []),(i6 3),z6,(.bool false),z6,z6,z6]),(.agg [z6,(.str [115,101,101]),(i6 14),z6,(.bool false),z6,z6,z6]),(.agg [(i6 1),(.str []),(i6 3),z6,(.bool false),z6,z6,z6]),(.agg [z6,(.str [112,101,116]),(i6 15),z6,(.bool false),z6,z6,z6]),(.agg [(i6 1),(.str []),(i6 3),z6,(.bool false),z6,z6,z6]),(.agg [z6,(.str [40,112,46]),(i6 13),z6,(.bool false),z6,z6,z6]),(.agg [(i6 1),(.str []),(i6 3),z6,(.bool false),z6,z6,z6]),(.agg [z6,(.str [51]),(i6 5),z6,(.bool false),z6,(i6 1),(i6 9)]),(.agg [z6,(.str [41]),(i6 4),z6,(.bool false),z6,z6,z6]),(.agg [(i6 3),(.str []),z6,z6,(.bool false),z6,z6,z6])] (.own 9 8))])) .leaf .leaf)))⟩
def pv14:List AVal:=[(.bool false),.bad,.bad,.bad,.bad,(.sl [(.agg [z6,(i6 1),(i6 8)])] (.own 0 3)),(.sl [(.sl [(.agg [z6,(i6 1),(i6 2)]),(.agg [z6,(i6 1),(i6 1)]),(.agg [z6,(i6 1),(i6 3)])] .none)] (.own 1 1)),z6,(.bool true),(.bool true),.bad,z6,.bad,(.ptr 2 0),z6,(i6 1),z6,tN,tN]
def ph14:Heap:=⟨4,(.node (some (.tok 62)) (.node (some (.tok 49)) (.node (some (.tok 202)) .leaf .leaf) .leaf) (.node (some (.row true 1000123 true [z6,(i6 1),(i6 8),(.str [99,97,116]),(.sl [(.agg [z6,(.str [99,97,116]),(i6 15),z6,(.bool true),z6,z6,z6]),(.agg [(i6 1),(.str []),(i6 3),z6,(.bool false),z6,z6,z6]),(.agg [z6,(.str [40,114,97,114,101,41]),(i6 26),z6,(.bool false),z6,z6,z6]),(.agg [(i6 1),(.str []),(i6 3),z6,(.bool false),z6,z6,z6]),(.agg [z6,(.str [97]),(i6 5),z6,(.bool false),z6,z6,z6]),(.agg [(i6 1),(.str []),(i6 3),z6,(.bool false),z6,z6,z6]),(.agg [z6,(.str [112,101,116]),(i6 15),z6,(.bool false),z6,z6,z6]),(.agg [(i6 1),(.str []),(i6 3),z6,(.bool false),z6,z6,z6]),(.agg [z6,(.str [115,101,101]),(i6 14),z6,(.bool false),z6,z6,z6]),(.agg [(i6 1),(.str []),(i6 3),z6,(.bool false),z6,z6,z6]),(.agg [z6,(.str [112,101,116]),(i6 15),z6,(.bool false),z6,z6,z6]),(.agg [(i6 1),(.str []),(i6 3),z6,(.bool false),z6,z6,z6]),(.agg [z6,(.str [40,112,46]),(i6 13),z6,(.bool false),z6,z6,z6]),(.agg [(i6 1),(.str []),(i6 3),z6,(.bool false),z6,z6,z6]),(.agg [z6,(.str [51]),(i6 5),z6,(.bool false),z6,(i6 1),(i6 9)]),(.agg [z6,(.str [41]),(i6 4),z6,(.bool false),z6,z6,z6]),(.agg [(i6 3),(.str []),z6,z6,(.bool false),z6,z6,z6])] (.own 3 8))])) .leaf .leaf))⟩
noncomputable def pcB (i:Nat):ACode:=tlN i (cv 14).body
end Go.Proofs.YthhdkkecolocdaaGreatDoor

namespace Go.Proofs.YthhdkkecolocdaaGreatDoor
open Go Go.Abs
set_option maxRecDepth 1000000
theorem pc_0:pieceB F3 5000 (hdA (pcB 0)) [] pv0 ph0 pv1 ph1=true:=by kernel_rfl
theorem pc_1:pieceB F3 5000 (hdA (pcB 1)) [] pv1 ph1 pv2 ph2=true:=by kernel_rfl
theorem pc_2:pieceB F3 5000 (hdA (pcB 2)) [0] pv2 ph2 pv3 ph3=true:=by kernel_rfl
theorem pc_3:pieceB F3 5000 (hdA (pcB 3)) [0,2,1] pv3 ph3 pv4 ph4=true:=by kernel_rfl
end Go.Proofs.YthhdkkecolocdaaGreatDoor

namespace Go.Proofs.YthhdkkecolocdaaGreatDoor
open Go Go.Abs
set_option maxRecDepth 1000000
theorem pc_4:pieceB F3 5000 (hdA (pcB 4)) [0,1,2] pv4 ph4 pv5 ph5=true:=by kernel_rfl
theorem pc_5:pieceB F3 5000 (hdA (pcB 5)) [0,1,2] pv5 ph5 pv6 ph6=true:=by kernel_rfl
theorem pc_6:pieceB F3 5000 (hdA (pcB 6)) [0,1,2] pv6 ph6 pv7 ph7=true:=by kernel_rfl
theorem pc_7:pieceB F3 5000 (hdA (pcB 7)) [0,1,23,187,2] pv7 ph7 pv8 ph8=true:=by kernel_rfl
end Go.Proofs.YthhdkkecolocdaaGreatDoor

namespace Go.Proofs.YthhdkkecolocdaaGreatDoor
open Go Go.Abs
set_option maxRecDepth 1000000
theorem pc_8:pieceB F3 5000 (hdA (pcB 8)) [0,1,2,3,4] pv8 ph8 pv9 ph9=true:=by kernel_rfl
theorem pc_9:pieceB F3 5000 (hdA (pcB 9)) [0,1,2,3,4] pv9 ph9 pv10 ph10=true:=by kernel_rfl
theorem pc_10:pieceB F3 5000 (hdA (pcB 10)) [0,1,2,3,7,4,6] pv10 ph10 pv11 ph11=true:=by kernel_rfl
theorem pc_11:pieceB F3 5000 (hdA (pcB 11)) [0,1,2,3,4,7,5,6] pv11 ph11 pv12 ph12=true:=by kernel_rfl
end Go.Proofs.YthhdkkecolocdaaGreatDoor

namespace Go.Proofs.YthhdkkecolocdaaGreatDoor
open Go Go.Abs
set_option maxRecDepth 1000000
theorem pc_12_0:pieceB F3 5000 (.ops ((altsOfA (hdA (pcB 12))).getD 0 [])) [0,1,2,3,4,5,332,6,7,331] pv12 ph12 pv13 ph13=true:=by kernel_rfl
end Go.Proofs.YthhdkkecolocdaaGreatDoor

namespace Go.Proofs.YthhdkkecolocdaaGreatDoor
open Go Go.Abs
set_option maxRecDepth 1000000
theorem pc_12_1:pieceB F3 5000 (.ops ((altsOfA (hdA (pcB 12))).getD 1 [])) [0,1,2,3,4,5,9,6,7,332] pv12 ph12 pv13 ph13=true:=by kernel_rfl
end Go.Proofs.YthhdkkecolocdaaGreatDoor

namespace Go.Proofs.YthhdkkecolocdaaGreatDoor
open Go Go.Abs
set_option maxRecDepth 1000000
theorem pc_12_2:pieceB F3 5000 (.ops ((altsOfA (hdA (pcB 12))).getD 2 [])) [0,1,2,3,4,5,9,6,7,332] pv12 ph12 pv13 ph13=true:=by kernel_rfl
end Go.Proofs.YthhdkkecolocdaaGreatDoor

namespace Go.Proofs.YthhdkkecolocdaaGreatDoor
open Go Go.Abs
set_option maxRecDepth 1000000
theorem pc_12_3:pieceB F3 5000 (.ops ((altsOfA (hdA (pcB 12))).getD 3 [])) [0,1,2,3,4,5,8,6,7,332] pv12 ph12 pv13 ph13=true:=by kernel_rfl
end Go.Proofs.YthhdkkecolocdaaGreatDoor

namespace Go.Proofs.YthhdkkecolocdaaGreatDoor
open Go Go.Abs
set_option maxRecDepth 1000000
theorem pc_13:pieceB F3 5000 (hdA (pcB 13)) [2,3,6,9] pv13 ph13 pv14 ph14=true:=by kernel_rfl
end Go.Proofs.YthhdkkecolocdaaGreatDoor

namespace Go.Proofs.YthhdkkecolocdaaGreatDoor
open Go Go.Abs
set_option maxRecDepth 1000000
theorem pc_last:lastB F3 5000 (pcB 14) pv14 ph14 (cv 14).results (.bool true)=true:=by kernel_rfl
theorem liv_len:(altsOfA (hdA (pcB 12))).length=4:=by kernel_rfl
theorem liv_shape:pcShape [false,false,false,false,false,false,false,false,false,false,false,false,true,false] (bodyOf Tryz.prog 14)=true:=by kernel_rfl
theorem tlN_succ (n:Nat):tlA (pcB n)=pcB (n+1):=by
 unfold pcB
 generalize (cv 14).body=c
 induction n generalizing c with
 | zero=>rfl
 | succ n ih=>simp only [tlN] at ih ⊢;exact ih _
theorem liv_alts:altsOfA (hdA (pcB 12))≠[]∧∀ l∈altsOfA (hdA (pcB 12)),∃ L,pieceB F3 5000 (.ops l) L pv12 ph12 pv13 ph13=true:=by
 refine alts_of (Ls:=[[0,1,2,3,4,5,332,6,7,331] ,[0,1,2,3,4,5,9,6,7,332] ,[0,1,2,3,4,5,9,6,7,332] ,[0,1,2,3,4,5,8,6,7,332]]) liv_len (by decide) fun k hk=>?_
 match k,hk with
 | 0,_=>exact pc_12_0
 | 1,_=>exact pc_12_1
 | 2,_=>exact pc_12_2
 | 3,_=>exact pc_12_3
 | k+4,hk=>omega
theorem liv_chain:Chain F3 (fun e vs h'=>(e = .normal∨e = .ret)∧∃ r1,resultsA (cv 14).results vs h'=some r1∧purify h' r1=some (.bool true)) [false,false,false,false,false,false,false,false,false,false,false,false,true,false] (pcB 0) pv0 ph0:=by
 refine .step pc_0 ?_
 rw [tlN_succ]
 refine .step pc_1 ?_
 rw [tlN_succ]
 refine .step pc_2 ?_
 rw [tlN_succ]
 refine .step pc_3 ?_
 rw [tlN_succ]
 refine .step pc_4 ?_
 rw [tlN_succ]
 refine .step pc_5 ?_
 rw [tlN_succ]
 refine .step pc_6 ?_
 rw [tlN_succ]
 refine .step pc_7 ?_
 rw [tlN_succ]
 refine .step pc_8 ?_
 rw [tlN_succ]
 refine .step pc_9 ?_
 rw [tlN_succ]
 refine .step pc_10 ?_
 rw [tlN_succ]
 refine .step pc_11 ?_
 rw [tlN_succ]
 refine .alt liv_alts ?_
 rw [tlN_succ]
 refine .step pc_13 ?_
 rw [tlN_succ]
 exact .of_last pc_last
theorem liv_call:CallRelE Tryz.prog hintsV 14 [] Heap.empty (.bool true) Heap.empty :=
 chain_call mixedV table3 (cv_ok (n:=14) (by kernel_rfl)).1 liv_shape liv_chain
end Go.Proofs.YthhdkkecolocdaaGreatDoor

set_option maxHeartbeats 4000000
namespace Go.Proofs.YthhdkkecolocdaaGreatDoor
open Go Go.Abs Go.Ly
theorem lives_v:PV F 14 []=some (.bool true):=by
 obtain ⟨r',h1,h2,h3⟩:=told_is (P:=Tryz.prog) (Hh:=hints) (g:=14) (Spec:=Ly.livesSp) (args:=[]) ⟨rfl,rfl⟩ liv_call
 subst h3
 exact PV_of (gives_hand rfl h1) rfl
theorem brL (x y:AVal):(bkRow x y).length=7:=rfl
theorem brA (a b:List AVal) (s t:Abs.Tok):(bkRow (.sl a s) (.sl b t)).all AVal.one=true:=rfl
theorem brT (x y:AVal):List.take 7 (bkRow x y)=bkRow x y:=rfl
theorem br0 (x y:AVal):setCells [.sl [] .nil,.sl [] .nil,.sl [] .nil,.sl [] .nil,.sl [] .nil,.sl [] .nil,.sl [] .nil] 0 (bkRow x y)=bkRow x y:=rfl
theorem br_st (b:Bk) (i j s s':Nat):strip (.agg (bkRow (.sl (b.es.map En.val) (.own i s)) (.sl (b.ss.map Sn.val) (.own j s'))))=some b.val:=by
 simp only [bkRow,strip,stripL]
 rfl
theorem tree_own {b:Bk} (fit:b.Fit) (he:b.es≠[]) {h:Heap} {ty1 ty2 s1 s2:Nat} {t1 t2:Abs.Tok} (g1:Gr h ty1 s1 b.es t1) (g2:Gr h ty2 s2 b.ss t2):(∃ i,t1 = .own i s1)∧∃ j,t2 = .own j s2:=by
 constructor
 ·rcases g1 with ⟨q,_⟩|⟨i,q,_⟩
  ·exact absurd q he
  ·exact ⟨i,q⟩
 ·rcases g2 with ⟨q,_⟩|⟨i,q,_⟩
  ·have:=fit.ss1
   rw [q] at this
   simp at this
  ·exact ⟨i,q⟩
theorem tree_es (l:List Int):(treeB l).es≠[]:=by
 show esOf l 2≠[]
 rw [esOf_succ]
 simp
end Go.Proofs.YthhdkkecolocdaaGreatDoor

namespace Go.Proofs.YthhdkkecolocdaaGreatDoor
open Go Go.Abs Go.Gt Go.Ly
def leV (b:Bk) (L:List Ly.Id) (e:Ly.Id):AVal := .sl ((listE b L e).map Ly.Id.val) (tk (listE b L e))
theorem leV_eq (b:Bk) (L:List Ly.Id) (e:Ly.Id):leV b L e = .sl ((listE b L e).map Ly.Id.val) (tk (listE b L e)):=rfl
theorem entR_ok {k:Nat} {b:Bk} {L:List Ly.Id} (hk:k≠0) (h:errE b k L=0):entR k b L = .tup [.sl ((sortE k b L).map Ly.Id.val) (tk (sortE k b L)),.sl ((sortE k b L).map (leV b L)) (tk (sortE k b L)),.int .i64 0]:=by
 unfold entR;rw [if_neg hk,if_pos h];rfl
theorem entR_bad {k:Nat} {b:Bk} {L:List Ly.Id} (hk:k≠0) (h:errE b k L≠0):entR k b L = .tup [.sl [] .nil,.sl [] .nil,.int .i64 (errE b k L)]:=by
 unfold entR;rw [if_neg hk,if_neg h];rfl
theorem tree_heads (l:List Int):∀ e∈(treeB l).es,e.head∈headL:=by
 intro e he
 obtain ⟨i,_,rfl⟩:=List.mem_map.1 he
 show nth headL (atS l i 4).toNat∈headL
 have:=at_bound l i (m:=4) (by omega)
 exact nth_mem (by show _<4;omega)
end Go.Proofs.YthhdkkecolocdaaGreatDoor

set_option maxHeartbeats 8000000
set_option maxRecDepth 8000
namespace Go.Proofs.YthhdkkecolocdaaGreatDoor
open Go Go.Abs Go.Gt Go.Ly
theorem chk_ok {b:Bk} {k:Nat} {x:Ly.Id} {y:En} (h:b.entry x=some y):chkE b k x=if rdOk k y.head=true then 0 else 2:=by
 unfold chkE;rw [h]
theorem rentries_v (b:Bk) (fit:b.Fit) (hhd:∀ e∈b.es,e.head∈headL) (L:List Ly.Id) (hL:L.length≤60) {t u:Abs.Tok} (ht:Pt t) (hu:Pt u) {k:Nat} (hk:k≤10) {rest:List AVal} (hrl:rest.length=16) (hra:rest.all AVal.one=true) (hrs:stripL rest=some rest) :
  PV F 12 [.agg (.sl ((aK k).map Ltr.val) u::rest),b.val,.sl (L.map Ly.Id.val) t]=some (entR k b L):=by
 have ok:=fit.ok
 refine PV_wp (fn:=c12) rfl ?_
 simp only [uT,c12]
 have st:=strip_pt ht (xs:=L.map Ly.Id.val)
 have su:=strip_pt hu (xs:=(aK k).map Ltr.val)
 have hal:=aK_len k
 have vv:=rvalid_v (aK k) u hu (by omega) aK_text
 by_cases hk0:k=0
 ·subst hk0
  rw [valid_k0] at vv
  have e:entR 0 b L=errR 1:=rfl
  replace fx:=aI @hrl (aI @hra (aI @bkVL (aI @bkL (aI @bkA (aI @su @vv)))))
  first|refine go ?_|exact goC
  rw [e];rfl
 ·rw [valid_k hk0 hk] at vv
  have eR:entR k b L=if errE b k L=0 then .tup [idsV (sortE k b L),.sl ((sortE k b L).map fun e=>idsV (listE b L e)) (tk (sortE k b L)),.int .i64 0] else errR (errE b k L):=by unfold entR;rw [if_neg hk0]
  replace fx:=aI @hrl (aI @hra (aI @bkVL (aI @bkL (aI @bkA (aI @su @vv)))))
  first|refine go ?_|exact goC
  refine w_loop (fun q vs H=>∃ (i:Nat) (m:List Ly.Id) (rv:AVal) (x1 x2 x3 x4 x5 x6 x7 x8 x9 x10 x11 x12 x13 x14 x15 x16 x17:AVal),q=L.length - i∧i≤L.length∧errE b k L=errE b k (L.drop i)∧2≤H.next∧H.get 0=some (.row true 0 true (.sl ((aK k).map Ltr.val) u::rest))∧H.get 1=some (.row true 0 true (bkC b))∧SV H rv m∧(∀ r a,rv = .ref r 0 a 3→2≤r∧m≠[]) ∧
    m.Nodup∧(∀ e,e∈m↔e∈(L.take i).map (entOf b))∧(∀ e∈m,headB b e∈headL)∧(m.Pairwise fun x y=>eLt (kapE k b) x y=true) ∧
    vs=[.agg (.sl ((aK k).map Ltr.val) u::rest),b.val,.sl (L.map Ly.Id.val) t,.ptr 0 0,.ptr 1 0,.sl [] .nil,.sl [] .nil,.int .i64 0,rv,.int .i64 (i:Int),x1,x2,x3,x4,x5,x6,x7,x8,x9,x10,x11,x12,x13,x14,x15,x16,x17]) L.length
   ⟨0,[],.sl [] .nil,_,_,_,_,_,_,_,_,_,_,_,_,_,_,_,_,_,rfl,by omega,rfl,by simp only [push_next];exact Nat.le_refl 2,get_push_old (get_push_eq rfl),get_push_eq (by simp [push_next,empty_next]),.inl ⟨rfl,rfl⟩,fun r a q=>by simp at q,List.nodup_nil,by simp,by simp,List.Pairwise.nil,rfl⟩ ?_
  rintro q vs H ⟨i,m,rv,x1,x2,x3,x4,x5,x6,x7,x8,x9,x10,x11,x12,x13,x14,x15,x16,x17,rfl,hi,he,hnx,g0,g1,sv,rlo,nd,hmem,hhl,so,rfl⟩
  have ml:m.length≤12:=ents_len fit nd hhl
  by_cases hi2:i<L.length
  ·obtain ⟨x,hx⟩:∃ x,nth L i=x:=⟨_,rfl⟩
   rw [chkE_drop hi2,hx] at he
   have htk:(L.take (i+1)).map (entOf b)=(L.take i).map (entOf b)++[entOf b x]:=by rw [List.take_succ_eq_append_getElem hi2,←nth_eq hi2,hx,List.map_append];rfl
   have ev:=rentry_v b fit x
   unfold entV at ev
   have gx1:∀ o,(H.push o).get 0=_:=fun o=>get_push_old g0
   have gx2:∀ o,(H.push o).get 1=_:=fun o=>get_push_old g1
   have gx3:∀ o,(H.push o).get H.next=some o:=fun o=>get_push_eq rfl
   cases hy:b.entry x with
   | none =>
     rw [hy] at ev
     simp only [zeroEn,Option.isSome_none] at ev
     have hc:chkE b k x=14:=by simp [chkE,hy]
     rw [hc,if_neg (by decide)] at he
     rw [eR,he,if_neg (by decide)]
     replace fx:=aI @g0 (aI @g1 (aI @gx1 (aI @gx2 (aI @gx3 (aI @hx (aI @ev (aI @bkL (aI @bkA (aI @bkT (aI @bk_agg (aI @st_bk (aI @st_id (aI @idVL (aI @idL (aI @idA (aI @idT (aI @id_agg @idS0)))))))))))))))))
     (first|refine go ?_|exact goC);repeat' (first|refine gP ?_|exact gPc)
     rfl
   | some y =>
     obtain ⟨ho1,ho2,ho3,ho4⟩:=entOf_some hy
     rw [hy] at ev
     simp only [Option.isSome_some] at ev
     have hc:=chk_ok (k:=k) hy
     have hhas:b.has y.id x=true:=has_iff.2 ⟨y,hy,rfl⟩
     have bv:=belongs_v b fit x y.id
     rw [hhas] at bv
     obtain ⟨n1,e1,e2⟩:=head_B b y.id
     have hn1:n1=0:=e2.2 (by rw [ho4];rfl)
     subst hn1
     have hd:=rhead_v b fit y.id
     rw [e1,ho2] at hd
     have hyl:y.head∈headL:=hhd y ho3
     have rd:=rread_v (aK k) y.head u hu (by omega) (by have:=head_len8 _ hyl;omega) aK_text
     change PV F _ _=some (.tup [.sl ((rdW k y.head).map intN) (tkE (rdW k y.head)),.int .i64 (rdE k y.head)]) at rd
     have rok:rdOk k y.head=(decide (rdE k y.head = -1) && !(rdW k y.head).isEmpty):=rfl
     rw [rok] at hc
     generalize rdW k y.head=w at rd hc
     generalize rdE k y.head=en at rd hc
     by_cases h1:en = -1
     ·cases w with
      | nil =>
        have hc2:chkE b k x=2:=by rw [hc];simp [h1]
        rw [hc2,if_neg (by decide)] at he
        rw [eR,he,if_neg (by decide)]
        replace fx:=aI @g0 (aI @g1 (aI @gx1 (aI @gx2 (aI @gx3 (aI @hx (aI @ev (aI @bv (aI @hd (aI @rd (aI @su (aI @hrl (aI @hra (aI @bkL (aI @bkA (aI @bkT (aI @bk_agg (aI @st_bk (aI @st_id (aI @idVL (aI @idL (aI @idA (aI @idT (aI @id_agg (aI @idS0 (aI @enVL (aI @enL (aI @enA (aI @enT (aI @enId @enS0)))))))))))))))))))))))))))))
        (first|refine go ?_|exact goC);repeat' (first|refine gP ?_|exact gPc)
        rfl
      | cons w0 w =>
        have hc2:chkE b k x=0:=by rw [hc];simp [h1]
        rw [hc2,if_pos rfl] at he
        replace fx:=aI @g0 (aI @g1 (aI @gx1 (aI @gx2 (aI @gx3 (aI @hx (aI @ev (aI @bv (aI @hd (aI @rd (aI @su (aI @hrl (aI @hra (aI @bkL (aI @bkA (aI @bkT (aI @bk_agg (aI @st_bk (aI @st_id (aI @idVL (aI @idL (aI @idA (aI @idT (aI @id_agg (aI @idS0 (aI @enVL (aI @enL (aI @enA (aI @enT (aI @enId @enS0)))))))))))))))))))))))))))))
        (first|refine go ?_|exact goC);repeat' (first|refine gP ?_|exact gPc|refine gN ?_|exact gNc)
        have n3:3≤(H.push (.row true (typed 70) true y.cells)).next:=by rw [push_next];omega
        have sv1:SV (H.push (.row true (typed 70) true y.cells)) rv m:=sv.fr ((Fr.refl _ _).push _)
        have q0:=gx1 (.row true (typed 70) true y.cells)
        have q1:=gx2 (.row true (typed 70) true y.cells)
        have q2:=gx3 (.row true (typed 70) true y.cells)
        have q3:(H.push (.row true (typed 70) true y.cells)).next=H.next+1:=push_next ..
        have rl1:∀ r a,rv = .ref r 0 a 3→r<H.next:=fun r a q=>by
         rcases sv with ⟨rfl,_⟩|⟨r',rfl,g⟩
         ·simp at q
         ·have:=get_lt g
          simp only [AVal.ref.injEq] at q
          omega
        generalize H.push (.row true (typed 70) true y.cells)=H1 at n3 sv1 q0 q1 q2 q3 ⊢
        generalize hp:H.next=p at q2 q3 rl1 hnx ⊢
        refine has_pc sv1 (by omega) y.id ?_
        by_cases hxm:y.id∈m
        ·rw [decide_eq_true hxm]
         replace fx:=Dum_eq
         first|refine go ?_|exact goC
         refine lp_n ⟨_,by omega,i+1,m,rv,_,_,_,_,_,_,_,_,_,_,_,_,_,_,_,_,_,rfl,by omega,he,by omega,q0,q1,sv1,rlo,nd,fun z=>?_,hhl,so,by push_cast;rfl⟩
         rw [htk,ho1]
         by_cases hz:z=y.id
         ·subst hz;simp [hxm]
         ·simp [hmem z,hz]
        ·rw [decide_eq_false hxm]
         obtain ⟨H2,ap,n2,r2,oth⟩:=append_SV sv1 y.id (ty:=62) (bytes:=24) (by omega) (by omega)
         have k0:=(oth 0 (by omega) (fun r a q=>by have:=(rlo r a q).1;omega)).trans q0
         have k1:=(oth 1 (by omega) (fun r a q=>by have:=(rlo r a q).1;omega)).trans q1
         have k2:=(oth p (by omega) (fun r a q=>by have:=rl1 r a q;omega)).trans q2
         have lnv:valA (.len (.t 0)) rv .bad H1=some (.int .i64 (m.length:Int)):=by
          rcases sv1 with ⟨rfl,rfl⟩|⟨r,rfl,_⟩<;>rfl
         have ilt:chunkO 3 true 1 (stripL y.id.cells)=some [y.id.val]:=rfl
         replace fx:=aI @q2 (aI @idVL (aI @idL (aI @idA (aI @idT (aI @id_agg (aI @idS0 (aI @enL (aI @enT (aI @enId (aI @lnv (aI @ilt @ap)))))))))))
         first|refine go ?_|exact goC
         generalize hp2:H1.next=p2 at r2 n2 q3 ⊢
         rw [←hole_all] at r2
         generalize hL2:(List.cons (intN w0) (w.map intN))=wv
         generalize tkE (w0::w)=wt
         refine w_loop (fun q vs H'=>∃ (c:Nat) (z:Ly.Id) (x1 x2 x3 x4 x5 x6 x7 x8 x9 x10 x11 x12 x13 x14 x15:AVal),q=c+1∧c≤m.length∧H'.next=p2+1∧H'.get 0=some (.row true 0 true (.sl ((aK k).map Ltr.val) u::rest))∧H'.get 1=some (.row true 0 true (bkC b))∧H'.get p=some (.row true (typed 70) true y.cells)∧H'.get p2=some (.row true 3 true (flat ((hole m c z).map Ly.Id.val))) ∧
           (∀ j,c≤j→j<m.length→eLt (kapE k b) y.id (nth m j)=true) ∧
           vs=[.agg (.sl ((aK k).map Ltr.val) u::rest),b.val,.sl (L.map Ly.Id.val) t,.ptr 0 0,.ptr 1 0,.sl [] .nil,.sl [] .nil,.int .i64 0,.ref p2 0 (m.length+1) 3,.int .i64 (i:Int),.ptr p 0,x1,x2,x3,x4,x5,.int .i64 (c:Int),x6,x7,x8,x9,x10,x11,x12,x13,x14,x15]) (m.length+1)
          ⟨m.length,y.id,_,_,_,_,_,_,_,_,_,_,_,_,_,_,_,rfl,by omega,n2,k0,k1,k2,r2,fun j h1 h2=>by omega,rfl⟩ ?_
         clear fx g0 g1 gx1 gx2 gx3 q0 q1 q2 k0 k1 k2 r2 n2 ap oth lnv rlo rl1 sv sv1
         rintro q vs H' ⟨c,z,x18,x19,x20,x21,x22,x23,x24,x25,x26,x27,x28,x29,x30,x31,x32,rfl,hc0,n2,g0,g1,g2,gp,hafter,rfl⟩
         have hhl1:=hole_len m z (k:=c)
         have htot:Tot (eLt (kapE k b)) (m++[y.id]):=eLt_tot _ _
         have hfin:(c=0∨eLt (kapE k b) y.id (nth m (c - 1))=false)→(hole m c y.id).Pairwise (fun x y=>eLt (kapE k b) x y=true):=fun h2=>put_in htot so hxm hc0 hafter h2
         have hperm:(hole m c y.id).Perm (y.id::m):=put_perm
         have hout1:(hole m c y.id).Nodup:=hperm.nodup_iff.2 (List.nodup_cons.2 ⟨hxm,nd⟩)
         have hout2:∀ z,z∈hole m c y.id↔z∈(L.take (i+1)).map (entOf b):=fun z=>by
          rw [hperm.mem_iff,htk,ho1]
          by_cases hz:z=y.id
          ·subst hz;simp
          ·simp [hmem z,hz]
         have hout3:∀ z∈hole m c y.id,headB b z∈headL:=fun z hz=>by
          rcases List.mem_cons.1 (hperm.mem_iff.1 hz) with rfl|h
          ·rw [ho2];exact hyl
          ·exact hhl z h
         have s1:=storeG_flatw (f:=Ly.Id.val) (sz:=3) (fun _=>rfl) (hole m c z) (n:=c) (id:=p2) (h:=H') 3 true y.id (by omega) rfl
         rw [hole_set z y.id hc0] at s1
         have lx:=hole_len m y.id (k:=c)
         have hone:hole m c y.id≠[]:=fun q=>by rw [q] at lx;simp at lx
         by_cases hk2:c=0
         ·subst hk2
          replace fx:=aI @g2 (aI @gp (aI @s1 (aI @idVL (aI @idL (aI @idA (aI @idT (aI @id_agg (aI @enL (aI @enT @enId)))))))))
          (first|refine go ?_|exact goC);repeat' (first|refine gN ?_|exact gNc)
          exact lp_n ⟨_,by omega,i+1,hole m 0 y.id,.ref p2 0 (m.length+1) 3,_,_,_,_,_,_,_,_,_,_,_,_,_,_,_,_,_,rfl,by omega,he,by rw [put_next];omega,by rw [get_put_ne (by omega)];exact g0,by rw [get_put_ne (by omega)];exact g1,.inr ⟨p2,by rw [lx],get_put_old gp⟩,fun r a q=>⟨by simp at q;omega,hone⟩,hout1,hout2,hout3,hfin (.inl rfl),by push_cast;rfl⟩
         ·have hkl:c - 1<m.length:=by omega
          have bf:=before_v b fit hk0 hk hu hrl hra y.id (nth m (c - 1)) (by rw [ho2];exact hyl) (hhl _ (nth_mem hkl))
          have hT:List.take 17 (AVal.sl ((aK k).map Ltr.val) u::rest)=AVal.sl ((aK k).map Ltr.val) u::rest:=List.take_of_length_le (by simp [hrl])
          have hS:strip (.agg (.sl ((aK k).map Ltr.val) u::rest))=some (.agg (.sl ((aK k).map Ltr.val) u::rest)):=by
           show (stripL (.sl ((aK k).map Ltr.val) u::rest)).map AVal.agg=_
           rw [stripL_sc,su,hrs];rfl
          have l2:=loadG_flat0 (f:=Ly.Id.val) (sz:=3) (fun _=>rfl) (hole m c z) (n:=c - 1) (m:=3) true true 3 true (by omega) (by omega)
          rw [hole_lo z (by omega) hc0] at l2
          have s2:=storeG_flatw (f:=Ly.Id.val) (sz:=3) (fun _=>rfl) (hole m c z) (n:=c) (id:=p2) (h:=H') 3 true (nth m (c - 1)) (by omega) rfl
          rw [hole_set z _ hc0,hole_down (by omega) hc0] at s2
          cases hlt:eLt (kapE k b) y.id (nth m (c - 1)) with
          | true =>
            rw [hlt] at bf
            replace fx:=aI @g0 (aI @g1 (aI @g2 (aI @gp (aI @hrl (aI @hT (aI @hS (aI @bf (aI @bkL (aI @bkA (aI @bkT (aI @bk_agg (aI @st_bk (aI @st_id (aI @idVL (aI @idL (aI @idA (aI @idT (aI @id_agg (aI @enL (aI @enT (aI @enId (aI @l2 @s2))))))))))))))))))))))
            (first|refine go ?_|exact goC);repeat' (first|refine gP ?_|exact gPc)
            refine lp_n ⟨_,by omega,c - 1,nth m (c - 1),_,_,_,_,_,_,_,_,_,_,_,_,_,_,_,rfl,by omega,by rw [put_next];exact n2,by rw [get_put_ne (by omega)];exact g0,by rw [get_put_ne (by omega)];exact g1,by rw [get_put_ne (by omega)];exact g2,get_put_old gp,fun j h1 h2=>?_,by rw [show ((c:Int) - 1)=((c - 1:Nat):Int) by omega]⟩
            by_cases hj:j=c - 1
            ·subst hj;exact hlt
            ·exact hafter j (by omega) h2
          | false =>
            rw [hlt] at bf
            replace fx:=aI @g0 (aI @g1 (aI @g2 (aI @gp (aI @hrl (aI @hT (aI @hS (aI @bf (aI @bkL (aI @bkA (aI @bkT (aI @bk_agg (aI @st_bk (aI @st_id (aI @idVL (aI @idL (aI @idA (aI @idT (aI @id_agg (aI @enL (aI @enT (aI @enId (aI @l2 @s1))))))))))))))))))))))
            (first|refine go ?_|exact goC);repeat' (first|refine gP ?_|exact gPc)
            exact lp_n ⟨_,by omega,i+1,hole m c y.id,.ref p2 0 (m.length+1) 3,_,_,_,_,_,_,_,_,_,_,_,_,_,_,_,_,_,rfl,by omega,he,by rw [put_next];omega,by rw [get_put_ne (by omega)];exact g0,by rw [get_put_ne (by omega)];exact g1,.inr ⟨p2,by rw [lx],get_put_old gp⟩,fun r a q=>⟨by simp at q;omega,hone⟩,hout1,hout2,hout3,hfin (.inr hlt),by push_cast;rfl⟩
     ·have hc2:chkE b k x=2:=by rw [hc];simp [h1]
      rw [hc2,if_neg (by decide)] at he
      rw [eR,he,if_neg (by decide)]
      replace fx:=aI @g0 (aI @g1 (aI @gx1 (aI @gx2 (aI @gx3 (aI @hx (aI @ev (aI @bv (aI @hd (aI @rd (aI @su (aI @hrl (aI @hra (aI @bkL (aI @bkA (aI @bkT (aI @bk_agg (aI @st_bk (aI @st_id (aI @idVL (aI @idL (aI @idA (aI @idT (aI @id_agg (aI @idS0 (aI @enVL (aI @enL (aI @enA (aI @enT (aI @enId @enS0)))))))))))))))))))))))))))))
      (first|refine go ?_|exact goC);repeat' (first|refine gP ?_|exact gPc|refine gN ?_|exact gNc)
      rfl
  ·have hi3:i=L.length:=by omega
   subst hi3
   rw [List.drop_length] at he
   rw [List.take_length] at hmem
   have he0:errE b k L=0:=he
   have hm:m=sortE k b L:=isort_eq (eLt_tot _ _) (entsE_nodup b L) (perm_of_mem nd (entsE_nodup b L) fun e=>by rw [hmem,mem_entsE];simp) so
   rw [eR,if_pos he0,←hm]
   clear hm so hmem
   have lnv:∀ H,valA (.len (.t 0)) rv .bad H=some (.int .i64 (m.length:Int)):=fun H=>by
    rcases sv with ⟨rfl,rfl⟩|⟨r,rfl,_⟩<;>rfl
   replace fx:=Dum_eq
   (first|refine go ?_|exact goC);repeat' (first|refine gN ?_|exact gNc)
   refine w_loop (fun q vs H'=>∃ (j:Nat) (tl:Abs.Tok) (x1 x2 x3 x4 x5 x6 x7 x8 x9 x10 x11 x12 x13 x14 x15:AVal),q=m.length - j∧j≤m.length∧H'.get 1=some (.row true 0 true (bkC b))∧SV H' rv m∧Gr H' 49 1 (m.take j) tl∧(m.take j=[]→tl = .nil) ∧
     vs=[.agg (.sl ((aK k).map Ltr.val) u::rest),b.val,.sl (L.map Ly.Id.val) t,.ptr 0 0,.ptr 1 0,.sl [] .nil,.sl [] .nil,.int .i64 0,rv,.int .i64 (L.length:Int),x1,x2,x3,x4,x5,x6,x7,.sl ((m.take j).map (leV b L)) tl,.int .i64 (j:Int),x8,x9,x10,x11,x12,x13,x14,x15]) m.length
    ⟨0,.nil,_,_,_,_,_,_,_,_,_,_,_,_,_,_,_,rfl,by omega,g1,sv,Gr.nil _ _ _,fun _=>rfl,rfl⟩ ?_
   clear fx g0 g1 sv hnx H
   rintro q vs H ⟨j,tl,x18,x19,x20,x21,x22,x23,x24,x25,x26,x27,x28,x29,x30,x31,x32,rfl,hj,g1,sv,gr,grn,rfl⟩
   by_cases hj2:j<m.length
   ·rcases sv with ⟨rfl,rfl⟩|⟨r,rfl,g⟩
    ·simp at hj2
    ·have l2:=loadG_flat0 (f:=Ly.Id.val) (sz:=3) (fun _=>rfl) m (n:=j) (m:=3) true true 3 true hj2 (by omega)
     have srt:=sorted_v b fit L hL ht (nth m j)
     unfold idsV at srt
     have stl:=strip_pt (tk_pt (listE b L (nth m j))) (xs:=(listE b L (nth m j)).map Ly.Id.val)
     replace fx:=aI @lnv (aI @g1 (aI @g (aI @l2 (aI @srt (aI @stl (aI @st (aI @bkL (aI @bkA (aI @bkT (aI @bk_agg (aI @st_bk (aI @st_id (aI @idVL (aI @idL (aI @idA (aI @idT @id_agg))))))))))))))))
     (first|refine go ?_|exact goC);repeat' (first|refine gP ?_|exact gPc)
     have hjs:m.take (j+1)=m.take j++[nth m j]:=by rw [List.take_succ_eq_append_getElem hj2,←nth_eq hj2]
     refine append_U (f:=leV b L) (m.take j) [nth m j] (fun _=>rfl) (fun _=>rfl) (fun x=>by
      show stripL [leV b L x]=some [leV b L x]
      rw [stripL_sc,leV_eq,strip_pt (tk_pt _)];rfl) rfl rfl gr (by rw [List.length_take];simp;omega) (by omega) (by omega) (by omega) fun H5 t5 g5 n5 keep5=>?_
     have k1:=keep5 _ _ _ _ _ g1
     have kr:=keep5 _ _ _ _ _ g
     rw [←hjs] at g5 ⊢
     replace fx:=Dum_eq
     first|refine go ?_|exact goC
     exact lp_n ⟨_,by omega,j+1,t5,_,_,_,_,_,_,_,_,_,_,_,_,_,_,_,rfl,by omega,k1,.inr ⟨r,rfl,kr⟩,g5,fun q=>by rw [hjs] at q;simp at q,by push_cast;rfl⟩
   ·have hj3:j=m.length:=by omega
    subst hj3
    have lnv:∀ H,valA (.len (.t 1)) rv .bad H=some (.int .i64 (m.length:Int)):=fun H=>by
     rcases sv with ⟨rfl,rfl⟩|⟨r,rfl,_⟩<;>rfl
    rw [List.take_length] at gr grn ⊢
    replace fx:=@lnv
    (first|refine go ?_|exact goC);repeat' (first|refine gN ?_|exact gNc)
    have p1:purify H rv=some (idsV m):=by
     rcases sv with ⟨rfl,rfl⟩|⟨r,rfl,g⟩
     ·rfl
     ·rw [pu_ref,readRef_flat (f:=Ly.Id.val) (g:=Ly.Id.val) (fun _=>rfl) (fun _=>rfl) true (fun _=>rfl) (fun _=>rfl) m g (Nat.le_refl _),List.take_length]
      have:tk m = .none:=by unfold tk;rw [if_neg (by simpa using (rlo _ _ rfl).2)]
      unfold idsV
      rw [this];rfl
    rw [p1,gr_pur gr grn]
    rfl
end Go.Proofs.YthhdkkecolocdaaGreatDoor

set_option maxHeartbeats 8000000
set_option maxRecDepth 8000
namespace Go.Proofs.YthhdkkecolocdaaGreatDoor
open Go Go.Abs Go.Gt Go.Ly
theorem entR_form (k:Nat) {b:Bk} {L:List Ly.Id} (hL:L.length≤60):∃ (X:List Ly.Id) (tX:Abs.Tok) (c:Int),Pt tX∧X.length≤60∧entR k b L = .tup [.sl (X.map Ly.Id.val) tX,.sl (X.map (leV b L)) tX,.int .i64 c]:=by
 by_cases hk:k=0
 ·exact ⟨[],.nil,1,.inr rfl,by simp,by unfold entR;rw [if_pos hk];rfl⟩
 ·by_cases he:errE b k L=0
  ·refine ⟨sortE k b L,tk _,0,tk_pt _,?_,entR_ok hk he⟩
   have:=(sortE_nodup k b L).length_le_of_subset (l₂:=L.map (entOf b)) fun e h=>by
    obtain ⟨x,hx,q⟩:=mem_entsE.1 (mem_sortE.1 h)
    exact List.mem_map.2 ⟨x,hx,q⟩
   rw [List.length_map] at this
   omega
  ·exact ⟨[],.nil,errE b k L,.inr rfl,by simp,entR_bad hk he⟩
def hoW (k:Nat) (rest:List AVal):List AVal:=hoR rest++(.sl ((aK k).map Ltr.val) .none::rest)
theorem hwL {rest:List AVal} (h:rest.length=16) (k:Nat):(hoW k rest).length=34:=by simp [hoW,hoR,h]
theorem hw0 {rest:List AVal} (h:rest.length=16) (k:Nat):List.take 17 (hoW k rest)=hoR rest:=by
 rw [hoW,List.take_left'];exact hoL h
theorem hw1 {rest:List AVal} (h:rest.length=16) (k:Nat):List.take 17 (List.drop 17 (hoW k rest)) = .sl ((aK k).map Ltr.val) .none::rest:=by
 rw [hoW,List.drop_left' (hoL h),List.take_of_length_le (by simp [h])]
theorem hwF1 {rest:List AVal} (h:rest.length=16):setCells (hsZ++hsZ) 0 (hoR rest)=hoR rest++hsZ:=by
 match rest,h with
 | [_,_,_,_,_,_,_,_,_,_,_,_,_,_,_,_],_=>rfl
theorem hwF2 {rest:List AVal} (h:rest.length=16):setCells (hoR rest++hsZ) 17 (hoR rest)=hoW 10 rest:=by
 match rest,h with
 | [_,_,_,_,_,_,_,_,_,_,_,_,_,_,_,_],_=>rfl
theorem hwS {rest:List AVal} (h:rest.length=16) (k:Nat):setCells (hoW 10 rest) 17 [.sl ((aK k).map Ltr.val) .none]=hoW k rest:=by
 match rest,h with
 | [_,_,_,_,_,_,_,_,_,_,_,_,_,_,_,_],_=>rfl
theorem hoH {rest:List AVal} (h:rest.length=16):List.take 1 (hoR rest)=[.sl (smallL.map Ltr.val) .none]:=rfl
theorem entries_run {l m:List Int} {t u:Abs.Tok} {many none how:Int} (ht:Pt t) (hu:Pt u) (hl:∀ x∈l,i64 x) (hm:∀ x∈m,i64 x) (h1:i64 many) (h2:i64 none) (h3:i64 how):CV F 3 [.sl (l.map (.int .i64)) t,.sl (m.map (.int .i64)) u,.int .i64 many,.int .i64 none,.int .i64 how] Heap.empty (fun v _=>v = .bool true):=by
 refine CV_wp (fn:=c3) rfl ?_
 simp only [uT,c3]
 have stu:=strip_pt hu (xs:=m.map (.int .i64))
 replace fx:=Dum_eq
 first|refine go ?_|exact goC
 refine CV_mono (tree_c ht hl _) ?_
 rintro v H1 ⟨t1,t2,rfl,g1,g2,f1⟩
 have fit:=tree_fit l
 have sm:=tree_small l
 have hds:=tree_heads l
 obtain ⟨⟨i1,rfl⟩,i2,rfl⟩:=tree_own fit (tree_es l) g1 g2
 generalize treeB l=b at fit sm g1 g2 hds ⊢
 have ok:=fit.ok
 have hb2:=fit.ss
 obtain ⟨hv,hhv,rest,rfl,hr1,hr2,hr3⟩:=house_v hu hm
 have a1:=around_v (n:=many) (m:=12) h1 (by omega)
 have a2:=around_v (n:=none) (m:=5) h2 (by omega)
 have a3:=around_v (n:=how) (m:=11) h3 (by omega)
 have a4:PV F 10 [.int .i64 how,.int .i64 (((10:Nat):Int)+1)]=some (.int .i64 (aroundS how 11)):=a3
 have c1:=around_bound many (m:=12) (by omega)
 have c3:=around_bound how (m:=11) (by omega)
 have sv:=some_v b fit (t:=u) hm (aroundS many 12) (aroundS none 5) (by omega) (by omega)
 have sl:=someL_len b m (many:=aroundS many 12) (aroundS none 5) (by omega)
 generalize someL b m (aroundS many 12) (aroundS none 5)=L at sv sl
 have hL:L.length≤60:=by omega
 have stL:=strip_pt (tk_pt L) (xs:=L.map Ly.Id.val)
 rw [show (AVal.agg (.sl (smallL.map Ltr.val) .none::rest)) = .agg (hoR rest) from rfl] at hhv
 have hst:=hoSt hr3
 have k1:=hoL hr1
 have k2:=hoA hr2
 have k3:=hoT hr1
 have k4:=hoS hr1
 have k5:=hwF1 hr1
 have k6:=hwF2 hr1
 have k7:=hwS hr1 (aroundS how 11).toNat
 have k8:=hwL hr1
 have k9:=hoH hr1
 have hl10:smallL.length=10:=rfl
 have sl3:sliceA 5 (.sl (smallL.map Ltr.val) .none) Option.none (some (.int .i64 (aroundS how 11)))=some (.sl ((aK (aroundS how 11).toNat).map Ltr.val) .none):=slice_sl_b Ltr.val smallL .none .i64 _ c3.1 (by rw [hl10];omega) (fun _=>rfl) (by simp)
 unfold hsZ at k4 k5 k6
 simp only [List.cons_append,List.nil_append] at k5
 replace fx:=aI @brL (aI @brA (aI @brT (aI @br0 (aI @br_st (aI @a1 (aI @a2 (aI @a3 (aI @a4 (aI @sv (aI @stu (aI @stL (aI @hhv (aI @hst (aI @k1 (aI @k2 (aI @k3 (aI @k4 (aI @k5 (aI @k6 (aI @k7 (aI @k8 (aI @k9 (aI @hl10 @sl3)))))))))))))))))))))))
 first|refine go ?_|exact goC
 generalize hka:(aroundS how 11).toNat=ka
 have hka10:ka≤10:=by omega
 have gb0:(((H1.push (.row true (typed 31) true (bkRow (.sl (b.es.map En.val) (.own i1 5)) (.sl (b.ss.map Sn.val) (.own i2 14))))).push (.row true (typed 47) true (hoR rest))).push (.row true 17 true (hoW ka rest))).get H1.next=some (.row true (typed 31) true (bkRow (.sl (b.es.map En.val) (.own i1 5)) (.sl (b.ss.map Sn.val) (.own i2 14)))):=get_push_old (get_push_old (get_push_eq rfl))
 have gw0:(((H1.push (.row true (typed 31) true (bkRow (.sl (b.es.map En.val) (.own i1 5)) (.sl (b.ss.map Sn.val) (.own i2 14))))).push (.row true (typed 47) true (hoR rest))).push (.row true 17 true (hoW ka rest))).get (H1.next+1+1)=some (.row true 17 true (hoW ka rest)):=get_push_eq rfl
 generalize ((H1.push (.row true (typed 31) true (bkRow (.sl (b.es.map En.val) (.own i1 5)) (.sl (b.ss.map Sn.val) (.own i2 14))))).push (.row true (typed 47) true (hoR rest))).push (.row true 17 true (hoW ka rest))=Hc at gb0 gw0 ⊢
 generalize H1.next+1+1=p9 at gw0 ⊢
 generalize H1.next+1=p6
 generalize H1.next=p5 at gb0 ⊢
 refine w_loop (fun q vs H=>∃ (i:Nat) (x1 x2 x3 x4 x5 x6 x7 x8 x9 x10 x11:AVal),q=2 - i∧i≤2∧H.get p5=some (.row true (typed 31) true (bkRow (.sl (b.es.map En.val) (.own i1 5)) (.sl (b.ss.map Sn.val) (.own i2 14))))∧H.get p9=some (.row true 17 true (hoW ka rest)) ∧
   vs=[.sl (l.map (.int .i64)) t,.sl (m.map (.int .i64)) u,.int .i64 many,.int .i64 none,.int .i64 how,.bool false,.ptr p5 0,.ptr p6 0,.sl (L.map Ly.Id.val) (tk L),.ref p9 0 2 17,.int .i64 (i:Int),x1,x2,x3,x4,x5,x6,x7,x8,x9,x10,x11]) 2
  ⟨0,_,_,_,_,_,_,_,_,_,_,_,rfl,by omega,gb0,gw0,rfl⟩ ?_
 clear fx gb0 gw0 Hc
 rintro q vs H ⟨i,x1,x2,x3,x4,x5,x6,x7,x8,x9,x10,x11,rfl,hi,gb,gw,rfl⟩
 by_cases hi2:i<2
 ·obtain ⟨k,hk10,w1⟩:∃ k,k≤10∧List.take 17 (List.drop (i*17) (hoW ka rest)) = .sl ((aK k).map Ltr.val) .none::rest:=by
   rcases (by omega:i=0∨i=1) with rfl|rfl
   ·exact ⟨10,by omega,hw0 hr1 ka⟩
   ·exact ⟨ka,hka10,hw1 hr1 ka⟩
  have w2:=hwL hr1 ka
  have ev:=entries_v b fit hds L (by omega) (sm L) (tk_pt L) (u := .none) (.inl rfl) hk10 hr1 hr2
  have rev:=rentries_v b fit hds L (by omega) (tk_pt L) (u := .none) (.inl rfl) hk10 hr1 hr2 hr3
  have w3:(AVal.sl ((aK k).map Ltr.val) .none::rest).length=17:=by simp [hr1]
  have w4:(AVal.sl ((aK k).map Ltr.val) .none::rest).all AVal.one=true:=by simp only [List.all_cons,hr2];rfl
  have w5:strip (.agg (.sl ((aK k).map Ltr.val) .none::rest))=some (.agg (.sl ((aK k).map Ltr.val) .none::rest)):=by
   show (stripL (.sl ((aK k).map Ltr.val) .none::rest)).map AVal.agg=_
   rw [stripL_sc,strip_pt (.inl rfl),hr3];rfl
  obtain ⟨X,tX,c,htX,hXl,hX⟩:=entR_form k (b:=b) hL
  rw [hX] at ev rev
  have stX:=strip_pt htX (xs:=X.map Ly.Id.val)
  have sX:=same_v X tX tX (by omega)
  replace fx:=aI @gb (aI @gw (aI @w1 (aI @w2 (aI @w3 (aI @w4 (aI @w5 (aI @ev (aI @rev (aI @stX (aI @sX (aI @brL (aI @brA (aI @brT (aI @br0 (aI @br_st @stL)))))))))))))))
  (first|refine go ?_|exact goC);repeat' (first|refine gP ?_|exact gPc)
  refine w_loop (fun q vs H'=>∃ (j:Nat) (x1 x2 x3 x4:AVal),q=X.length - j∧j≤X.length∧H'.get p5=some (.row true (typed 31) true (bkRow (.sl (b.es.map En.val) (.own i1 5)) (.sl (b.ss.map Sn.val) (.own i2 14))))∧H'.get p9=some (.row true 17 true (hoW ka rest)) ∧
    vs=[.sl (l.map (.int .i64)) t,.sl (m.map (.int .i64)) u,.int .i64 many,.int .i64 none,.int .i64 how,.bool false,.ptr p5 0,.ptr p6 0,.sl (L.map Ly.Id.val) (tk L),.ref p9 0 2 17,.int .i64 (i:Int),.sl (X.map Ly.Id.val) tX,.sl (X.map (leV b L)) tX,.int .i64 c,.sl (X.map Ly.Id.val) tX,.sl (X.map (leV b L)) tX,.int .i64 c,.int .i64 (j:Int),x1,x2,x3,x4]) X.length
   ⟨0,_,_,_,_,rfl,by omega,gb,gw,rfl⟩ ?_
  clear fx gb gw H
  rintro q vs H ⟨j,x1,x2,x3,x4,rfl,hj,gb,gw,rfl⟩
  by_cases hj2:j<X.length
  ·obtain ⟨e,he⟩:∃ e,nth X j=e:=⟨_,rfl⟩
   have leC:(leV b L e).cells=[.sl ((listE b L e).map Ly.Id.val) (tk (listE b L e))]:=by
    show [leV b L e]=_
    rw [leV_eq]
   have ll:(listE b L e).length≤60:=by
    have:=(listE_nodup ok L e).length_le_of_subset (l₂:=L) fun x hx=>((mem_listE ok).1 hx).1
    omega
   have stl:=strip_pt (tk_pt (listE b L e)) (xs:=(listE b L e).map Ly.Id.val)
   have sl:=same_v (listE b L e) (tk (listE b L e)) (tk (listE b L e)) (by omega)
   replace fx:=aI @he (aI @leC (aI @stl @sl))
   (first|refine go ?_|exact goC);repeat' (first|refine gP ?_|exact gPc)
   exact lp_n ⟨_,by omega,j+1,_,_,_,_,rfl,by omega,gb,gw,by push_cast;rfl⟩
  ·have hj3:j=X.length:=by omega
   subst hj3
   replace fx:=Dum_eq
   (first|refine go ?_|exact goC);repeat' (first|refine gN ?_|exact gNc)
   exact lp_n ⟨_,by omega,i+1,_,_,_,_,_,_,_,_,_,_,_,rfl,by omega,gb,gw,by push_cast;rfl⟩
 ·have hi3:i=2:=by omega
  subst hi3
  replace fx:=@lives_v
  (first|refine go ?_|exact goC);repeat' (first|refine gN ?_|exact gNc)
end Go.Proofs.YthhdkkecolocdaaGreatDoor

namespace Go.Proofs.YthhdkkecolocdaaGreatDoor
open Go Go.Abs Go.Ly
theorem entries_go {l m:List Int} {t u:Abs.Tok} {many none how:Int} (v0:ArgL l t) (v1:ArgL m u) (h1:i64 many) (h2:i64 none) (h3:i64 how):CV F 3 [.sl (l.map (.int .i64)) t,.sl (m.map (.int .i64)) u,.int .i64 many,.int .i64 none,.int .i64 how] Heap.empty (fun v _=>v = .bool true) :=
 entries_run v0.pt v1.pt v0.ok v1.ok h1 h2 h3
end Go.Proofs.YthhdkkecolocdaaGreatDoor

namespace Go.Proofs.YthhdkkecolocdaaGreatDoor
open Go Go.Abs Go.ChangeShapes Go.WideShapes Go.ChangeAt Go.RowKit
set_option maxHeartbeats 40000000 in
theorem layoutEntries_closed:joinedFacts Tryz.prog 3 Tryz.f3 Rows.layoutEntriesSpec Rows.layoutEntriesRow=true:=by
 unfold joinedFacts
 simp only [Bool.and_eq_true]
 repeat' apply And.intro
 all_goals (as_aux_lemma=>kernel_rfl)
end Go.Proofs.YthhdkkecolocdaaGreatDoor

namespace Go.Proofs.YthhdkkecolocdaaGreatDoor
open Go Go.Abs Go.ChangeShapes Go.WideShapes Go.ChangeAt Go.RowKit
attribute [local irreducible] okA
theorem layoutEntries_args (xs:List AVal) (h:ShArgs Tryz.prog 5 [22,22,3,3,3] xs):∃ h',Gives F 3 xs Heap.empty (.bool true) h':=by
 obtain _|⟨a0,b0,h⟩:=h
 obtain _|⟨a1,b1,h⟩:=h
 obtain _|⟨a2,b2,h⟩:=h
 obtain _|⟨a3,b3,h⟩:=h
 obtain _|⟨a4,b4,h⟩:=h
 obtain _|_:=h
 obtain ⟨l0,tk0,rfl,v0⟩:=argL (n:=3) a0 b0
 obtain ⟨l1,tk1,rfl,v1⟩:=argL (n:=3) a1 b1
 obtain ⟨z2,rfl,w2⟩:=argI (n:=4) a2 b2
 obtain ⟨z3,rfl,w3⟩:=argI (n:=4) a3 b3
 obtain ⟨z4,rfl,w4⟩:=argI (n:=4) a4 b4
 obtain ⟨r,h',c,rfl⟩:=entries_go v0 v1 w2 w3 w4
 exact ⟨h',c⟩
set_option maxRecDepth 100000 in
theorem layoutEntries_lifted (os:Os) (started:os.Started) (H:Type) (enc:TypeId×Value→H) :
  ReturnsInHanded {} Tryz.checked os 3 .any (fun w args=>(Rows.layoutEntriesSpec.pre enc Tryz.prog Tryz.f3 [] false w args∧laidMetH Tryz.prog laidK w)∧sizedMet enc Tryz.prog Tryz.f3 (OpenSpec.ofChange Rows.layoutEntriesSpec) false w args)
   (Rows.layoutEntriesSpec.post enc Tryz.prog Tryz.f3 false true false false):=by
 refine returnsInHanded_of_change_and (C:=Tryz.checked) (X:=fun w _=>laidMetH Tryz.prog laidK w) (fun _ _ _ hh h=>h.of_heap hh) own started (by kernel_rfl) Tryz.func3
  (ChangeSpec.witness_shaped (enc:=enc) (C:=Tryz.checked) (os:=os) (X:=fun w _=>laidMetH Tryz.prog laidK w) false (World.laidAll Tryz.prog os laidK) #[.slice none 0 0,.slice none 0 0,.int .i64 0,.int .i64 0,.int .i64 0] 8 (World.laidAll_os _ _ _) (World.shaped_of_ZipB (by kernel_rfl) (by kernel_rfl)) (by kernel_rfl) (by kernel_rfl) (by kernel_rfl) (door_met os _)) ?_
 intro W base args ds gs before hval hW _ _ hL _
 refine row_calls (globs hL) (P:=Tryz.prog) (n:=5) (ts:=[22,22,3,3,3]) (tb:=4) mixed table laidOut (congrArg Array.toList Tryz.params3) (fun t ht=>?_) (fun t ht=>?_) rfl Tryz.underlying4 rfl (fun H ds hl=>?_) layoutEntries_args base args ds gs before hval hW
 ·simp only [List.mem_cons,List.not_mem_nil,or_false] at ht
  rcases ht with rfl|rfl|rfl|rfl|rfl
  ·exact ⟨by kernel_rfl,of_decide_eq_true (by kernel_rfl)⟩
  ·exact ⟨by kernel_rfl,of_decide_eq_true (by kernel_rfl)⟩
  ·exact ⟨by kernel_rfl,of_decide_eq_true (by kernel_rfl)⟩
  ·exact ⟨by kernel_rfl,of_decide_eq_true (by kernel_rfl)⟩
  ·exact ⟨by kernel_rfl,of_decide_eq_true (by kernel_rfl)⟩
 ·simp only [List.mem_cons,List.not_mem_nil,or_false] at ht
  rcases ht with rfl|rfl|rfl|rfl|rfl
  ·kernel_rfl
  ·kernel_rfl
  ·kernel_rfl
  ·kernel_rfl
  ·kernel_rfl
 ·match ds,hl with
  | [d0,d1,d2,d3,d4],_=>rfl
theorem layoutEntriesRow_holds:Rows.LayoutEntriesSaid :=
 OpenClaim.holds_of_wide 3 Tryz.f3 rfl rfl rfl rfl rfl rfl rfl ⟨rfl,rfl,rfl,rfl,rfl⟩ rfl rfl rfl rfl rfl (by kernel_rfl) Tryz.func3 layoutEntries_closed
  (of_decide_eq_true (by kernel_rfl)) (by unfold Func.isWrapper;first|(rw [if_pos (by decide +kernel)];kernel_rfl)|(rw [if_neg (by decide +kernel)];exact ⟨rfl,rfl⟩))
  (fun os started H enc _=>layoutEntries_lifted os started H enc)
end Go.Proofs.YthhdkkecolocdaaGreatDoor
