/-
  Merged from JsLays_Tryz DkHand JsHand AbsRules AbsSim AbsAuto AbsFlat AbsBundle NumB ShaM ShaF ShaB ShaC: Where the library's functions lie in this program.
-/
import Derived.Shelf.SlIterI.Nil
import Derived.Shelf.SortM.Plain
import Derived.Shelf.SortM.SortNone
import Derived.Shelf.Strings.Repeat
import Derived.Test.YtjofjgflcogklaaGreatDoorProg
import Derived.KernelRfl
import Derived.Test.YtjofjgflcogklaaGreatDoorM02
import Derived.Test.YtjofjgflcogklaaGreatDoorM01
import Derived.Shelf.SlMaps.Clone
import Derived.IntWalk
import Derived.Test.YtjofjgflcogklaaGreatDoorM03
set_option linter.unusedSimpArgs false
set_option linter.unusedVariables false
set_option linter.defProp false
set_option linter.constructorNameAsVariable false
/-
  Where the library's functions lie in this program.
-/
namespace Go.Proofs.YtjofjgflcogklaaGreatDoor
open Go Go.Shelf Go.Proofs
set_option maxHeartbeats 4000000
set_option maxRecDepth 100000
def keysA_ren : Go.Shelf.Ren := ⟨fun | 7 => 84 | 10 => 99 | n => n, fun | 23 => 75 | 26 => 3 | 3 => 86 | 28 => 135 | 0 => 0 | 27 => 134 | 33 => 87 | 4 => 4 | n => n, fun | n => n⟩
theorem keysA : Go.Proofs.SlLaysZI.n7 Tryz.prog keysA_ren where
  mixed := by kernel_rfl
  f7 := ⟨ "maps.Keys[map[int]wordbook/disk.block,int,wordbook/disk.block]", by decide, Tryz.func84.trans (congrArg some (by kernel_rfl))⟩
  f10 := ⟨ "maps.Keys[map[int]wordbook/disk.block,int,wordbook/disk.block]$1", by decide, Tryz.func99.trans (congrArg some (by kernel_rfl))⟩
  t0 := Tryz.underlying0
  a0 := Tryz.isAgg0
  z0 := Tryz.sizeOf0
  v0 := Tryz.zeroValue0
  t4 := Tryz.underlying4
  a4 := Tryz.isAgg4
  z4 := Tryz.sizeOf4
  v4 := Tryz.zeroValue4
  t23 := Tryz.underlying75
  a23 := Tryz.isAgg75
  z23 := Tryz.sizeOf75
  v23 := Tryz.zeroValue75
  t26 := Tryz.underlying3
  a26 := Tryz.isAgg3
  z26 := Tryz.sizeOf3
  v26 := Tryz.zeroValue3
  t27 := Tryz.underlying134
  a27 := Tryz.isAgg134
  z27 := Tryz.sizeOf134
  v27 := Tryz.zeroValue134
  t28 := Tryz.underlying135
  a28 := Tryz.isAgg135
  z28 := Tryz.sizeOf135
  v28 := Tryz.zeroValue135
  t33 := Tryz.underlying87
  a33 := Tryz.isAgg87
  z33 := Tryz.sizeOf87
  v33 := Tryz.zeroValue87
def sortedA_ren : Go.Shelf.Ren := ⟨fun | 6 => 83 | 8 => 97 | 9 => 98 | 11 => 107 | 13 => 109 | 12 => 108 | 23 => 121 | 24 => 122 | 14 => 112 | 15 => 113 | 16 => 114 | 17 => 115 | 18 => 116 | 19 => 117 | 20 => 118 | 21 => 119 | 22 => 120 | 25 => 124 | 26 => 125 | 27 => 126 | 28 => 127 | 29 => 128 | 30 => 129 | 31 => 130 | n => n, fun | 26 => 3 | 28 => 135 | 24 => 51 | 0 => 0 | 3 => 3 | 37 => 47 | 48 => 137 | 50 => 140 | 4 => 4 | 40 => 172 | 39 => 171 | 45 => 177 | 5 => 5 | 9 => 9 | 51 => 181 | 55 => 185 | 57 => 187 | 58 => 188 | 33 => 87 | n => n, fun | n => n⟩
theorem sortedA : Go.Proofs.SlLaysZI.n6 Tryz.prog sortedA_ren where
  mixed := by kernel_rfl
  f6 := ⟨ "slices.Sorted[int]", by decide, Tryz.func83.trans (congrArg some (by kernel_rfl))⟩
  f8 := ⟨ "slices.Collect[int]", by decide, Tryz.func97.trans (congrArg some (by kernel_rfl))⟩
  f11 := ⟨ "slices.AppendSeq[[]int,int]", by decide, Tryz.func107.trans (congrArg some (by kernel_rfl))⟩
  t0 := Tryz.underlying0
  a0 := Tryz.isAgg0
  z0 := Tryz.sizeOf0
  v0 := Tryz.zeroValue0
  t24 := Tryz.underlying51
  a24 := Tryz.isAgg51
  z24 := Tryz.sizeOf51
  v24 := Tryz.zeroValue51
  t26 := Tryz.underlying3
  a26 := Tryz.isAgg3
  z26 := Tryz.sizeOf3
  v26 := Tryz.zeroValue3
  t28 := Tryz.underlying135
  a28 := Tryz.isAgg135
  z28 := Tryz.sizeOf135
  v28 := Tryz.zeroValue135
  i26 := by kernel_rfl
def sortA_ren : Go.Shelf.Ren := ⟨fun | 5 => 98 | 8 => 109 | 7 => 108 | 19 => 121 | 20 => 122 | 10 => 112 | 11 => 113 | 12 => 114 | 13 => 115 | 14 => 116 | 15 => 117 | 16 => 118 | 17 => 119 | 18 => 120 | 30 => 124 | 31 => 125 | 32 => 126 | 33 => 127 | 34 => 128 | 35 => 129 | 40 => 130 | n => n, fun | 23 => 51 | 25 => 3 | 3 => 3 | 32 => 47 | 22 => 51 | 0 => 0 | 44 => 137 | 46 => 140 | 4 => 4 | 36 => 172 | 35 => 171 | 41 => 177 | 5 => 5 | 9 => 9 | 53 => 181 | 57 => 185 | 63 => 187 | 64 => 188 | n => n, fun | n => n⟩
theorem sortA : Go.Proofs.SlLaysM.n5 Tryz.prog sortA_ren where
  mixed := by kernel_rfl
  f5 := ⟨ "slices.Sort[[]int,int]", by decide, Tryz.func98.trans (congrArg some (by kernel_rfl))⟩
  f7 := ⟨ "slices.pdqsortOrdered[int]", by decide, Tryz.func108.trans (congrArg some (by kernel_rfl))⟩
  f8 := Tryz.func109.trans (congrArg some (by kernel_rfl))
  f10 := ⟨ "slices.insertionSortOrdered[int]", by decide, Tryz.func112.trans (congrArg some (by kernel_rfl))⟩
  f11 := ⟨ "slices.heapSortOrdered[int]", by decide, Tryz.func113.trans (congrArg some (by kernel_rfl))⟩
  f12 := ⟨ "slices.breakPatternsOrdered[int]", by decide, Tryz.func114.trans (congrArg some (by kernel_rfl))⟩
  f13 := ⟨ "slices.choosePivotOrdered[int]", by decide, Tryz.func115.trans (congrArg some (by kernel_rfl))⟩
  f14 := ⟨ "slices.reverseRangeOrdered[int]", by decide, Tryz.func116.trans (congrArg some (by kernel_rfl))⟩
  f15 := ⟨ "slices.partialInsertionSortOrdered[int]", by decide, Tryz.func117.trans (congrArg some (by kernel_rfl))⟩
  f16 := ⟨ "cmp.Less[int]", by decide, Tryz.func118.trans (congrArg some (by kernel_rfl))⟩
  f17 := ⟨ "slices.partitionEqualOrdered[int]", by decide, Tryz.func119.trans (congrArg some (by kernel_rfl))⟩
  f18 := ⟨ "slices.partitionOrdered[int]", by decide, Tryz.func120.trans (congrArg some (by kernel_rfl))⟩
  f19 := Tryz.func121.trans (congrArg some (by kernel_rfl))
  f20 := Tryz.func122.trans (congrArg some (by kernel_rfl))
  f30 := ⟨ "slices.siftDownOrdered[int]", by decide, Tryz.func124.trans (congrArg some (by kernel_rfl))⟩
  f31 := Tryz.func125.trans (congrArg some (by kernel_rfl))
  f32 := Tryz.func126.trans (congrArg some (by kernel_rfl))
  f33 := ⟨ "slices.medianAdjacentOrdered[int]", by decide, Tryz.func127.trans (congrArg some (by kernel_rfl))⟩
  f34 := ⟨ "slices.medianOrdered[int]", by decide, Tryz.func128.trans (congrArg some (by kernel_rfl))⟩
  f35 := ⟨ "cmp.isNaN[int]", by decide, Tryz.func129.trans (congrArg some (by kernel_rfl))⟩
  f40 := ⟨ "slices.order2Ordered[int]", by decide, Tryz.func130.trans (congrArg some (by kernel_rfl))⟩
  t0 := Tryz.underlying0
  a0 := Tryz.isAgg0
  z0 := Tryz.sizeOf0
  v0 := Tryz.zeroValue0
  t3 := Tryz.underlying3
  a3 := Tryz.isAgg3
  z3 := Tryz.sizeOf3
  v3 := Tryz.zeroValue3
  t4 := Tryz.underlying4
  a4 := Tryz.isAgg4
  z4 := Tryz.sizeOf4
  v4 := Tryz.zeroValue4
  t5 := Tryz.underlying5
  a5 := Tryz.isAgg5
  z5 := Tryz.sizeOf5
  v5 := Tryz.zeroValue5
  t9 := Tryz.underlying9
  a9 := Tryz.isAgg9
  z9 := Tryz.sizeOf9
  v9 := Tryz.zeroValue9
  t22 := Tryz.underlying51
  a22 := Tryz.isAgg51
  z22 := Tryz.sizeOf51
  v22 := Tryz.zeroValue51
  t23 := Tryz.underlying51
  a23 := Tryz.isAgg51
  z23 := Tryz.sizeOf51
  v23 := Tryz.zeroValue51
  t25 := Tryz.underlying3
  a25 := Tryz.isAgg3
  z25 := Tryz.sizeOf3
  v25 := Tryz.zeroValue3
  t32 := Tryz.underlying47
  a32 := Tryz.isAgg47
  z32 := Tryz.sizeOf47
  v32 := Tryz.zeroValue47
  t35 := Tryz.underlying171
  a35 := Tryz.isAgg171
  z35 := Tryz.sizeOf171
  v35 := Tryz.zeroValue171
  t36 := Tryz.underlying172
  a36 := Tryz.isAgg172
  z36 := Tryz.sizeOf172
  v36 := Tryz.zeroValue172
  t41 := Tryz.underlying177
  a41 := Tryz.isAgg177
  z41 := Tryz.sizeOf177
  v41 := Tryz.zeroValue177
  t44 := Tryz.underlying137
  a44 := Tryz.isAgg137
  z44 := Tryz.sizeOf137
  v44 := Tryz.zeroValue137
  t46 := Tryz.underlying140
  a46 := Tryz.isAgg140
  z46 := Tryz.sizeOf140
  v46 := Tryz.zeroValue140
  t53 := Tryz.underlying181
  a53 := Tryz.isAgg181
  z53 := Tryz.sizeOf181
  v53 := Tryz.zeroValue181
  t57 := Tryz.underlying185
  a57 := Tryz.isAgg185
  z57 := Tryz.sizeOf185
  v57 := Tryz.zeroValue185
  t63 := Tryz.underlying187
  a63 := Tryz.isAgg187
  z63 := Tryz.sizeOf187
  v63 := Tryz.zeroValue187
  t64 := Tryz.underlying188
  a64 := Tryz.isAgg188
  z64 := Tryz.sizeOf188
  v64 := Tryz.zeroValue188
def repeatA_ren : Go.Shelf.Ren := ⟨fun | 105 => 39 | 212 => 68 | 99 => 69 | 165 => 70 | 166 => 71 | 170 => 72 | 169 => 73 | 263 => 85 | 264 => 86 | 206 => 87 | 240 => 88 | 241 => 89 | 276 => 100 | 277 => 101 | n => n, fun | 9 => 9 | 3 => 3 | 4 => 4 | 20 => 20 | 0 => 0 | 46 => 47 | 109 => 110 | 5 => 5 | 72 => 115 | 76 => 118 | 51 => 137 | 146 => 138 | 53 => 140 | 148 => 141 | 70 => 113 | 37 => 81 | 75 => 117 | 127 => 143 | 164 => 155 | 80 => 120 | n => n, fun | n => n⟩
theorem repeatA : Go.Proofs.Lays.n105 Tryz.prog repeatA_ren where
  mixed := by kernel_rfl
  f99 := Tryz.func69.trans (congrArg some (by kernel_rfl))
  f105 := Tryz.func39.trans (congrArg some (by kernel_rfl))
  f165 := Tryz.func70.trans (congrArg some (by kernel_rfl))
  f166 := Tryz.func71.trans (congrArg some (by kernel_rfl))
  f169 := Tryz.func73.trans (congrArg some (by kernel_rfl))
  f170 := Tryz.func72.trans (congrArg some (by kernel_rfl))
  f206 := Tryz.func87.trans (congrArg some (by kernel_rfl))
  f212 := Tryz.func68.trans (congrArg some (by kernel_rfl))
  f240 := Tryz.func88.trans (congrArg some (by kernel_rfl))
  f241 := Tryz.func89.trans (congrArg some (by kernel_rfl))
  f263 := Tryz.func85.trans (congrArg some (by kernel_rfl))
  f264 := Tryz.func86.trans (congrArg some (by kernel_rfl))
  f276 := Tryz.func100.trans (congrArg some (by kernel_rfl))
  f277 := Tryz.func101.trans (congrArg some (by kernel_rfl))
  t0 := Tryz.underlying0
  a0 := Tryz.isAgg0
  z0 := Tryz.sizeOf0
  v0 := Tryz.zeroValue0
  t3 := Tryz.underlying3
  a3 := Tryz.isAgg3
  z3 := Tryz.sizeOf3
  v3 := Tryz.zeroValue3
  t4 := Tryz.underlying4
  a4 := Tryz.isAgg4
  z4 := Tryz.sizeOf4
  v4 := Tryz.zeroValue4
  t5 := Tryz.underlying5
  a5 := Tryz.isAgg5
  z5 := Tryz.sizeOf5
  v5 := Tryz.zeroValue5
  t9 := Tryz.underlying9
  a9 := Tryz.isAgg9
  z9 := Tryz.sizeOf9
  v9 := Tryz.zeroValue9
  t20 := Tryz.underlying20
  a20 := Tryz.isAgg20
  z20 := Tryz.sizeOf20
  v20 := Tryz.zeroValue20
  t37 := Tryz.underlying81
  a37 := Tryz.isAgg81
  z37 := Tryz.sizeOf81
  v37 := Tryz.zeroValue81
  t46 := Tryz.underlying47
  a46 := Tryz.isAgg47
  z46 := Tryz.sizeOf47
  v46 := Tryz.zeroValue47
  t51 := Tryz.underlying137
  a51 := Tryz.isAgg137
  z51 := Tryz.sizeOf137
  v51 := Tryz.zeroValue137
  t53 := Tryz.underlying140
  a53 := Tryz.isAgg140
  z53 := Tryz.sizeOf140
  v53 := Tryz.zeroValue140
  t70 := Tryz.underlying113
  a70 := Tryz.isAgg113
  z70 := Tryz.sizeOf113
  v70 := Tryz.zeroValue113
  t72 := Tryz.underlying115
  a72 := Tryz.isAgg115
  z72 := Tryz.sizeOf115
  v72 := Tryz.zeroValue115
  t75 := Tryz.underlying117
  a75 := Tryz.isAgg117
  z75 := Tryz.sizeOf117
  v75 := Tryz.zeroValue117
  t76 := Tryz.underlying118
  a76 := Tryz.isAgg118
  z76 := Tryz.sizeOf118
  v76 := Tryz.zeroValue118
  t109 := Tryz.underlying110
  a109 := Tryz.isAgg110
  z109 := Tryz.sizeOf110
  v109 := Tryz.zeroValue110
  t127 := Tryz.underlying143
  a127 := Tryz.isAgg143
  z127 := Tryz.sizeOf143
  v127 := Tryz.zeroValue143
  t146 := Tryz.underlying138
  a146 := Tryz.isAgg138
  z146 := Tryz.sizeOf138
  v146 := Tryz.zeroValue138
  t148 := Tryz.underlying141
  a148 := Tryz.isAgg141
  z148 := Tryz.sizeOf141
  v148 := Tryz.zeroValue141
  t164 := Tryz.underlying155
  a164 := Tryz.isAgg155
  z164 := Tryz.sizeOf155
  v164 := Tryz.zeroValue155
end Go.Proofs.YtjofjgflcogklaaGreatDoor

namespace Go.Abs
open Go.Shelf Go.Proofs Go.Maps Go.RowKit
variable {P : Program} {ρ : Ren}
theorem below_ext {w w' : World} {G : Ghost} {h : Heap} (H : HRel w G h) (hB : Below w.heap.size w w') :
    ∃ G', Ext w G h w' G' h ∧ HRel w' G' h ∧ ∀ b, w.heap.size ≤ b → G'.lim b = none := by
  have hX : Ext w G h w' { G with lim := fun b => if b < w.heap.size then G.lim b else none } h :=
    { os := hB.os, tape := hB.tape, out := hB.output, size := hB.size
      keep := fun b hb _ => ⟨hB.block b hb, by simp [hb]⟩
      stable := fun b k hb hs => ⟨by simp [World.cell?, hB.block b hb], by unfold stab; simp [hb]; exact hs⟩
      shape := fun b hb => by simp [World.shape?, hB.block b hb]
      n_le := Nat.le_refl _
      ids := fun id hid => ⟨rfl, rfl⟩
      fresh := fun b hb ho => ho
      env := rfl }
  refine ⟨_, hX, ⟨H.n_eq, fun id o ho => Nat.lt_of_lt_of_le (H.lt id o ho) hB.size, fun id o ho => ?_, H.inj, fun g cs hg => ⟨(H.glob g cs hg).1.mono hX, (H.glob g cs hg).2⟩⟩, fun b hb => by simp [Nat.not_lt.2 hb]⟩
  have hlt := H.lt id o ho
  exact OkObj.mono hX (by rw [H.n_eq]; exact Heap.get_lt ho) hlt (hB.block _ hlt) (by simp [hlt]) (H.obj id o ho)
def cloneMapS (args : List AVal) (h : Heap) : Option (AVal × Heap) :=
  match args with
  | [.nilmp] => some (.nilmp, h)
  | [.mp id] => match h.get id with
    | some (.map kd clock es) => some (.mp h.next, h.push (.map kd clock es))
    | _ => none
  | _ => none
theorem cloneMap_ok (L : SlLaysW.n5 P ρ) (e5 : ∀ args w, (callFunc (ρ.f 5) args).run P w = .ok (.enter (ρ.f 5) args) w) :
    HandOk P (ρ.f 5) cloneMapS := by
  refine ⟨fun args h r h' e w G cargs H hp => ?_, e5⟩
  have hlen := hp.len
  unfold cloneMapS at e
  split at e
  · simp only [Option.some.injEq, Prod.mk.injEq] at e
    obtain ⟨rfl, rfl⟩ := e
    obtain ⟨v0, hv0⟩ : ∃ v, cargs = #[v] := by
      obtain ⟨l⟩ := cargs
      match l, hlen with
      | [v], _ => exact ⟨v, rfl⟩
    subst hv0
    have rv := hp.rel 0 v0 .nilmp (by simp) (by simp)
    cases rv
    refine (AnyW.maps_Clone_nil L w).mono ?_
    rintro e w' ⟨rfl, rfl⟩
    exact ⟨_, G, rfl, Ext.refl _ _ _, H, .nilmp⟩
  · rename_i id
    split at e
    · rename_i kd clock es hg
      simp only [Option.some.injEq, Prod.mk.injEq] at e
      obtain ⟨rfl, rfl⟩ := e
      obtain ⟨v0, hv0⟩ : ∃ v, cargs = #[v] := by
        obtain ⟨l⟩ := cargs
        match l, hlen with
        | [v], _ => exact ⟨v, rfl⟩
      subst hv0
      have rv := hp.rel 0 v0 (.mp id) (by simp) (by simp)
      cases rv
      obtain ⟨entries, h1, h2, h3, h4, h5⟩ := obj_map H hg
      refine (AnyW.maps_Clone L (G.loc id) entries clock w h1).mono ?_
      rintro e w' ⟨rfl, rfl⟩
      obtain ⟨G', x1, x2, x3⟩ := new_map H kd entries clock es h2 h3 h4 h5
      exact ⟨_, G', rfl, x1, x2, x3⟩
    · simp at e
  · simp at e
theorem cloneMap_grow : ∀ args h r h', cloneMapS args h = some (r, h') → TokExt h h' := by
  intro args h r h' e
  unfold cloneMapS at e
  split at e
  · simp only [Option.some.injEq, Prod.mk.injEq] at e
    obtain ⟨rfl, rfl⟩ := e
    exact fun id o ho _ => ho
  · split at e
    · simp only [Option.some.injEq, Prod.mk.injEq] at e
      obtain ⟨rfl, rfl⟩ := e
      exact TokExt.push _ _
    · simp at e
  · simp at e
def keyZ : AVal → Option Int
  | .int .i64 n => if -9223372036854775808 ≤ n ∧ n ≤ 9223372036854775807 then some n else none
  | _ => none
def keysZ : List (Nat × AVal × AVal) → Option (List Int)
  | [] => some []
  | x :: es => match keyZ x.2.1, keysZ es with
    | some n, some ns => some (n :: ns)
    | _, _ => none
def zsl (ns : List Int) : AVal := .sl (ns.map (.int .i64)) (if ns = [] then .nil else .none)
def insZ (x : Int) : List Int → List Int
  | [] => [x]
  | y :: l => if x ≤ y then x :: y :: l else y :: insZ x l
def sortZ : List Int → List Int
  | [] => []
  | x :: l => insZ x (sortZ l)
theorem insZ_perm (x : Int) : ∀ l, (insZ x l).Perm (x :: l)
  | [] => .refl _
  | y :: l => by
    simp only [insZ]
    split
    · exact .refl _
    · exact ((insZ_perm x l).cons y).trans (.swap x y l)
theorem sortZ_perm : ∀ l, (sortZ l).Perm l
  | [] => .refl _
  | x :: l => (insZ_perm x _).trans ((sortZ_perm l).cons x)
theorem insZ_le {x : Int} : ∀ {l : List Int}, l.Pairwise (· ≤ ·) → (insZ x l).Pairwise (· ≤ ·)
  | [], _ => by simp [insZ]
  | y :: l, h => by
    obtain ⟨h1, h2⟩ := List.pairwise_cons.1 h
    simp only [insZ]
    split
    · rename_i hxy
      refine List.pairwise_cons.2 ⟨fun z hz => ?_, h⟩
      rcases List.mem_cons.1 hz with rfl | hz
      · exact hxy
      · exact Int.le_trans hxy (h1 z hz)
    · rename_i hxy
      refine List.pairwise_cons.2 ⟨fun z hz => ?_, insZ_le h2⟩
      rcases List.mem_cons.1 ((insZ_perm x l).mem_iff.1 hz) with rfl | hz
      · omega
      · exact h1 z hz
theorem sortZ_le : ∀ (l : List Int), (sortZ l).Pairwise (· ≤ ·)
  | [] => by simp [sortZ]
  | x :: l => insZ_le (sortZ_le l)
theorem rising_perm {l l' : List Int} (h : l.Perm l') (h1 : l.Pairwise (· ≤ ·)) (h2 : l'.Pairwise (· ≤ ·)) : l = l' :=
  List.Perm.eq_of_pairwise (le := (· ≤ ·)) (fun a b _ _ p q => Int.le_antisymm p q) h1 h2 h
theorem sortZ_eq (ns : List Int) : ns.mergeSort (fun x y => decide (x ≤ y)) = sortZ ns := by
  refine rising_perm ((List.mergeSort_perm ns _).trans (sortZ_perm ns).symm) ?_ (sortZ_le ns)
  have := List.pairwise_mergeSort (le := fun x y : Int => decide (x ≤ y)) (fun a b c h1 h2 => by simp only [decide_eq_true_eq] at *; omega) (fun a b => by simp; omega) ns
  exact this.imp (fun h => by simpa using h)
def sortedS (g1 g2 : Nat) (args : List AVal) (h : Heap) : Option (AVal × Heap) :=
  match args with
  | [.fn g [.ptr rid 0]] =>
    if g = g1 ∨ g = g2 then
      match h.get rid with
      | some (.row _ _ _ [.nilmp]) => some (zsl [], h)
      | some (.row _ _ _ [.mp id]) => match h.get id with
        | some (.map _ _ es) => if es.length ≤ 17592186044416 then (keysZ es).map fun ns => (zsl (sortZ ns), h) else none
        | _ => none
      | _ => none
    else none
  | _ => none
theorem keyZ_ok {x : AVal} {n : Int} (e : keyZ x = some n) : x = .int .i64 n ∧ (Lit.int .i64 n).wf = true := by
  unfold keyZ at e
  split at e
  · split at e
    · rename_i n' hn
      obtain rfl := Option.some.inj e
      refine ⟨rfl, ?_⟩
      simp only [Lit.wf, Bool.and_eq_true, decide_eq_true_eq]
      exact hn
    · simp at e
  · simp at e
theorem keysZ_ok {w : World} {G : Ghost} : ∀ {L : List MapEntry} {es : List (Nat × AVal × AVal)} {ns : List Int}, L.length = es.length →
    (∀ (k : Nat) e x, L[k]? = some e → es[k]? = some x → VRel w G e.key x.2.1) → keysZ es = some ns →
    L.map (·.key) = ns.map encZ ∧ (∀ n ∈ ns, (Lit.int .i64 n).wf = true) ∧ ns.length = es.length
  | [], [], ns, _, _, e => by simp [keysZ] at e; subst e; simp
  | [], _ :: _, ns, h, _, _ => by simp at h
  | _ :: _, [], ns, h, _, _ => by simp at h
  | e :: L, x :: es, ns, hl, hr, h => by
    simp only [keysZ] at h
    split at h
    · rename_i n ns' h1 h2
      simp only [Option.some.injEq] at h
      subst h
      obtain ⟨q1, q2⟩ := keyZ_ok h1
      have hr0 := hr 0 e x rfl rfl
      rw [q1] at hr0
      obtain ⟨r1, r2, r3⟩ := keysZ_ok (by simpa using hl) (fun k e' x' h1 h2 => hr (k + 1) e' x' (by simpa using h1) (by simpa using h2)) h2
      have hk : e.key = encZ n := by generalize e.key = u at hr0; cases hr0; rfl
      refine ⟨by simp [hk, r1], fun m hm => ?_, by simp [r3]⟩
      rcases List.mem_cons.1 hm with rfl | hm
      · exact q2
      · exact r2 m hm
    · simp at h
def Rc : Value → Option (DataW Unit × List MemPlace) := fun _ => some (.nil, [])
theorem rg_Rc {k : TypeId} (hk : P.underlying k = some (.int .i64)) {e : MapEntry} {n : Int} (hn : e.key = encZ n) (hw : (Lit.int .i64 n).wf = true) :
    WideElems.rd P k Rc e = some (.int .i64 n, .nil) := by
  obtain ⟨key, val, born⟩ := e
  simp only at hn
  subst hn
  exact WideElems.rd_mk (R := Rc) (yv := (.nil, [])) (keyOf_int_mk hk hw) rfl
theorem owns_keys {w : World} {k : TypeId} (hk : P.underlying k = some (.int .i64)) {b : Nat} {entries : Array MapEntry} {clock : Nat} {ns : List Int} (hb : w.heap[b]? = some (.map entries clock))
    (hst : MapKept.Stamped entries clock) (hkeys : entries.toList.map (·.key) = ns.map encZ) (hw : ∀ n ∈ ns, (Lit.int .i64 n).wf = true) (hlen : ns.length ≤ maxLen) :
    ∃ D0 : DataW Unit, w.ownsMap P k Rc b ns.length D0 ∧ (intKeys D0).Perm ns ∧ Maps.size D0 = ns.length := by
  have hsz : entries.size = ns.length := by simpa using congrArg List.length hkeys
  have hmem : ∀ e ∈ entries.toList, ∃ n ∈ ns, e.key = encZ n := fun e he => by
    have : e.key ∈ ns.map encZ := hkeys ▸ List.mem_map.2 ⟨e, he, rfl⟩
    obtain ⟨n, hn, hq⟩ := List.mem_map.1 this
    exact ⟨n, hn, hq.symm⟩
  refine ⟨_, ⟨entries, clock, hb, ⟨by omega, hst, fun e he => ?_⟩, by omega, rfl⟩, ?_, ?_⟩
  · obtain ⟨n, hn, hq⟩ := hmem e he
    exact ⟨_, rg_Rc hk hq (hw n hn)⟩
  · show ((List.foldr DataW.insert [] (entries.toList.map (WideElems.rg P k Rc))).map fun p => intOf p.1).Perm ns
    refine ((WideShapes.sorted_perm _).map _).trans ?_
    refine List.Perm.of_eq ?_
    rw [List.map_map]
    have : ns = (ns.map encZ).map (fun v => match v with | .int _ n => n | _ => 0) := by simp [encZ, List.map_map, Function.comp_def]
    rw [this, ← hkeys, List.map_map]
    refine List.map_congr_left fun e he => ?_
    obtain ⟨n, hn, hq⟩ := hmem e he
    simp [WideElems.rg, rg_Rc hk hq (hw n hn), hq, intOf]
  · simp [Maps.size, length_sorted, hsz]
theorem sorted_walk {ρA ρS : Ren} (LA : SlLaysZI.n7 P ρA) (LS : SlLaysZI.n6 P ρS) (hsort : ∀ m, AnyZI.SortsIn P ρS Fence.wide m) (hk : ρA.t 26 = ρS.t 26) (hu : P.underlying (ρS.t 26) = some (.int .i64))
    (e9 : ∀ args w, (callFunc (ρS.f 9) args).run P w = .ok (.enter (ρS.f 9) args) w) (eg : ∀ args w, (callFunc (ρA.f 10) args).run P w = .ok (.enter (ρA.f 10) args) w)
    {w : World} {b m clock : Nat} {entries : Array MapEntry} {ns : List Int} (hB : b < w.heap.size) (hc : w.cell? ⟨b, 0, none⟩ = some (.map (some m))) (hb : w.heap[m]? = some (.map entries clock))
    (hst : MapKept.Stamped entries clock) (hkeys : entries.toList.map (·.key) = ns.map encZ) (hw : ∀ n ∈ ns, (Lit.int .i64 n).wf = true) (hlen : ns.length ≤ 17592186044416) :
    Calls P (ρS.f 6) #[.func (.func (ρA.f 10)) #[] #[.pointer (some ⟨b, 0, none⟩)]] w fun e w' => ∃ (v : Value), e = .returned v ∧
      w'.ownsRow w.heap.size (ρS.t 26) 1 v ns.length ((ns.mergeSort (fun x y => decide (x ≤ y))).map encZ) ∧ (v = .slice none 0 0 ↔ ns = []) ∧ Below w.heap.size w w' := by
  obtain ⟨D0, d1, d2, d3⟩ := owns_keys hu hb hst hkeys hw (Nat.le_trans hlen (by decide))
  rw [← hk] at d1
  have hseq : SeqGives Fence.wide 2 P (ρA.f 10) #[.pointer (some ⟨b, 0, none⟩)] encZ (fun ss => ss.Perm (intKeys D0)) (Maps.size D0) w :=
    AnyZI.keys_gives (ρ := ρA) { LA with } Fence.wide _ trivial rfl (by omega) b m _ D0 _ hB hc d1
  have cS := AnyZI.sorted_in LS Fence.wide 5 trivial trivial trivial trivial rfl (by omega) (hsort _) e9 (ρA.f 10) #[.pointer (some ⟨b, 0, none⟩)] trivial eg _ _ (by rw [d3]; exact Nat.le_trans hlen (by decide)) (by rw [d3]; omega) _ hseq
  refine ((callsIn_wide (n := 5)).1 cS).mono ?_
  rintro e w' ⟨v, ss, rfl, hS, hrow, hnil, hb⟩
  have hp : ss.Perm ns := hS.trans d2
  have hsz : ss.length = ns.length := hp.length_eq
  have hsame : ss.mergeSort (fun x y => decide (x ≤ y)) = ns.mergeSort (fun x y => decide (x ≤ y)) := mergeSort_of_perm_i hp
  rw [hsame, hsz] at hrow
  refine ⟨v, rfl, hrow, hnil.trans ⟨fun q => ?_, fun q => ?_⟩, hb⟩
  · subst q; exact hp.nil_eq.symm ▸ rfl
  · subst q; exact hp.eq_nil
theorem sorted_nil_walk {ρA ρS : Ren} (LA : SlLaysZI.n7 P ρA) (LS : SlLaysZI.n6 P ρS) (hsort : ∀ m, AnyZI.SortsIn P ρS Fence.wide m)
    (e9 : ∀ args w, (callFunc (ρS.f 9) args).run P w = .ok (.enter (ρS.f 9) args) w) (eg : ∀ args w, (callFunc (ρA.f 10) args).run P w = .ok (.enter (ρA.f 10) args) w)
    {w : World} {b : Nat} (hB : b < w.heap.size) (hc : w.cell? ⟨b, 0, none⟩ = some (.map none)) :
    Calls P (ρS.f 6) #[.func (.func (ρA.f 10)) #[] #[.pointer (some ⟨b, 0, none⟩)]] w fun e w' => e = .returned (.slice none 0 0) ∧ Below w.heap.size w w' := by
  have hseq : SeqGives Fence.wide 2 P (ρA.f 10) #[.pointer (some ⟨b, 0, none⟩)] encZ (fun ss : List Int => ss = []) 0 w :=
    AnyZI.keys_gives_nil (ρ := ρA) { LA with } Fence.wide _ trivial rfl b _ hB hc
  have cS := AnyZI.sorted_in LS Fence.wide 5 trivial trivial trivial trivial rfl (by omega) (hsort _) e9 (ρA.f 10) #[.pointer (some ⟨b, 0, none⟩)] trivial eg _ 0 (Nat.zero_le _) (by omega) _ hseq
  refine ((callsIn_wide (n := 5)).1 cS).mono ?_
  rintro e w' ⟨v, ss, rfl, rfl, hrow, hnil, hb⟩
  obtain rfl : v = .slice none 0 0 := hnil.2 rfl
  exact ⟨rfl, hb⟩
theorem flat_zs (ns : List Int) : flat (ns.map (AVal.int .i64)) = ns.map (AVal.int .i64) := by
  induction ns with
  | nil => rfl
  | cons n ns ih => simp only [List.map_cons, flat, List.flatMap_cons] at ih ⊢; rw [ih]; rfl
theorem sorted_ok {ρA ρB ρS : Ren} (LA : SlLaysZI.n7 P ρA) (LB : SlLaysZI.n7 P ρB) (LS : SlLaysZI.n6 P ρS) (hsort : ∀ m, AnyZI.SortsIn P ρS Fence.wide m) (hkA : ρA.t 26 = ρS.t 26) (hkB : ρB.t 26 = ρS.t 26) (hu : P.underlying (ρS.t 26) = some (.int .i64))
    (e6 : ∀ args w, (callFunc (ρS.f 6) args).run P w = .ok (.enter (ρS.f 6) args) w)
    (e9 : ∀ args w, (callFunc (ρS.f 9) args).run P w = .ok (.enter (ρS.f 9) args) w) (eA : ∀ args w, (callFunc (ρA.f 10) args).run P w = .ok (.enter (ρA.f 10) args) w) (eB : ∀ args w, (callFunc (ρB.f 10) args).run P w = .ok (.enter (ρB.f 10) args) w) :
    HandOk P (ρS.f 6) (sortedS (ρA.f 10) (ρB.f 10)) := by
  refine ⟨fun args h r h' e w G cargs H hp => ?_, e6⟩
  have hlen := hp.len
  unfold sortedS at e
  split at e
  · rename_i g rid
    obtain ⟨v0, hv0⟩ : ∃ v, cargs = #[v] := by
      obtain ⟨l⟩ := cargs
      match l, hlen with
      | [v], _ => exact ⟨v, rfl⟩
    subst hv0
    have rv := hp.rel 0 v0 (.fn g [.ptr rid 0]) (by simp) (by simp)
    cases rv with
    | fn _ cs _ hl hrel =>
      obtain ⟨v1, hv1⟩ : ∃ v, cs = #[v] := by
        obtain ⟨l⟩ := cs
        match l, hl with
        | [v], _ => exact ⟨v, rfl⟩
      subst hv1
      have r1 := hrel 0 v1 (.ptr rid 0) (by simp) (by simp)
      cases r1
      split at e
      · rename_i hg12
        split at e
        · -- the nil map
          rename_i mu sz ag hg
          simp only [Option.some.injEq, Prod.mk.injEq] at e
          obtain ⟨rfl, rfl⟩ := e
          obtain ⟨o1, o2, o3, o4, o5⟩ := H.obj rid _ hg
          obtain ⟨u, hu', ru⟩ := o2 0 .nilmp (by simp)
          cases ru
          have hlt := H.lt rid _ hg
          have cC : Calls P (ρS.f 6) #[.func (.func g) #[] #[.pointer (some ⟨G.loc rid, 0, none⟩)]] w fun e w' => e = .returned (.slice none 0 0) ∧ Below w.heap.size w w' := by
            rcases hg12 with rfl | rfl
            · exact sorted_nil_walk LA LS hsort e9 eA hlt hu'
            · exact sorted_nil_walk LB LS hsort e9 eB hlt hu'
          refine cC.mono ?_
          rintro e w' ⟨rfl, hb⟩
          obtain ⟨G', x1, x2, x3⟩ := below_ext H hb
          exact ⟨_, G', rfl, x1, x2, .nilsl _ (.inl rfl)⟩
        · rename_i mu sz ag id hg
          split at e
          · rename_i kd clock es hm
            split at e
            · rename_i hes
              simp only [Option.map_eq_some_iff, Prod.mk.injEq] at e
              obtain ⟨ns, hns, rfl, rfl⟩ := e
              obtain ⟨o1, o2, o3, o4, o5⟩ := H.obj rid _ hg
              obtain ⟨u, hu', ru⟩ := o2 0 (.mp id) (by simp)
              cases ru
              have hlt := H.lt rid _ hg
              obtain ⟨entries, h1, h2, h3, h4, h5⟩ := obj_map H hm
              obtain ⟨k1, k2, k3⟩ := keysZ_ok (w := w) (G := G) (L := entries.toList) (by simpa using h2) (fun k e x q1 q2 => (h3 k e x (by simpa using q1) q2).2.1) hns
              have cC : Calls P (ρS.f 6) #[.func (.func g) #[] #[.pointer (some ⟨G.loc rid, 0, none⟩)]] w fun e w' => ∃ (v : Value), e = .returned v ∧
                  w'.ownsRow w.heap.size (ρS.t 26) 1 v ns.length ((ns.mergeSort (fun x y => decide (x ≤ y))).map encZ) ∧ (v = .slice none 0 0 ↔ ns = []) ∧ Below w.heap.size w w' := by
                rcases hg12 with rfl | rfl
                · exact sorted_walk LA LS hsort hkA hu e9 eA hlt hu' h1 h5 k1 k2 (by omega)
                · exact sorted_walk LB LS hsort hkB hu e9 eB hlt hu' h1 h5 k1 k2 (by omega)
              refine cC.mono ?_
              rintro e w' ⟨v, rfl, hrow, hnil, hb⟩
              obtain ⟨G', x1, x2, x3⟩ := below_ext H hb
              refine ⟨_, G', rfl, x1, x2, ?_⟩
              rw [sortZ_eq] at hrow
              have hsl : (sortZ ns).length = ns.length := (sortZ_perm ns).length_eq
              by_cases hne : ns = []
              · subst hne
                have hs0 : sortZ [] = [] := rfl
                rw [hnil.2 rfl, hs0]
                exact .nilsl _ (.inl rfl)
              · rcases hrow.2 with ⟨rfl, hz⟩ | ⟨gb, cap, cur, rfl, hbase, hgb, q1, q2, q3, q4⟩
                · exact absurd (List.eq_nil_of_length_eq_zero hz) hne
                · have hne' : sortZ ns ≠ [] := by
                    intro q; rw [q] at hsl; exact hne (List.eq_nil_of_length_eq_zero hsl.symm)
                  unfold zsl
                  rw [if_neg hne']
                  have hln : ((sortZ ns).map (AVal.int .i64)).length = ns.length := by simp [hsl]
                  rw [← hln]
                  refine .sl gb 0 cap 1 _ _ (fun k => encZ ((sortZ ns).getD k 0)) ?_ ?_ ?_ ?_ ?_ ?_ ?_ ?_ ?_
                  · intro x hx; obtain ⟨n, _, rfl⟩ := List.mem_map.1 hx; rfl
                  · intro k c hk
                    rw [flat_zs, List.getElem?_map, Option.map_eq_some_iff] at hk
                    obtain ⟨n, hn, rfl⟩ := hk
                    have hkl : k < ns.length := by rw [← hsl]; exact (List.getElem?_eq_some_iff.1 hn).1
                    have hcur : cur.toList[k]? = some (encZ n) := by
                      have : (cur.toList.take (ns.length * 1))[k]? = ((sortZ ns).map encZ)[k]? := by rw [q4]
                      rw [List.getElem?_take_of_lt (by omega), List.getElem?_map, hn] at this
                      exact this
                    simp only [World.cell?, hgb, Nat.zero_add, List.getD_eq_getElem?_getD, hn]
                    rw [← Array.getElem?_toList, hcur]
                    rfl
                  · intro k c hk
                    rw [flat_zs, List.getElem?_map, Option.map_eq_some_iff] at hk
                    obtain ⟨n, hn, rfl⟩ := hk
                    have hn' : (sortZ ns).getD k 0 = n := by simp [List.getD_eq_getElem?_getD, hn]
                    show VRel w' G' (encZ ((sortZ ns).getD k 0)) _
                    rw [hn']
                    exact .int _ _
                  · intro k _ m hm'
                    rw [x3 gb hbase] at hm'
                    simp at hm'
                  · intro c hc
                    rw [flat_zs] at hc
                    obtain ⟨n, _, rfl⟩ := List.mem_map.1 hc; rfl
                  · intro c hc
                    rw [flat_zs] at hc
                    obtain ⟨n, _, rfl⟩ := List.mem_map.1 hc; rfl
                  · rw [hln]; exact q1
                  · exact ⟨by simp, by simp⟩
                  · intro id s q; simp at q
            · simp at e
          · simp at e
        · simp at e
      · simp at e
  · simp at e
theorem sorted_grow (g1 g2 : Nat) : ∀ args h r h', sortedS g1 g2 args h = some (r, h') → h' = h := by
  intro args h r h' e
  unfold sortedS at e
  split at e
  · split at e
    · split at e
      · simp only [Option.some.injEq, Prod.mk.injEq] at e; exact e.2.symm
      · split at e
        · split at e
          · simp only [Option.map_eq_some_iff, Prod.mk.injEq] at e
            obtain ⟨_, _, _, q⟩ := e; exact q.symm
          · simp at e
        · simp at e
      · simp at e
    · simp at e
  · simp at e
end Go.Abs

namespace Go.Abs
open Go.Shelf Go.Proofs Go.Maps Go.RowKit
variable {P : Program} {ρ : Ren}
def repeatS (args : List AVal) (h : Heap) : Option (AVal × Heap) :=
  match args with
  | [.str s, .int .i64 n] => if 0 ≤ n ∧ n ≤ 1000000 ∧ s.length ≤ 1000000 then some (.str (Lib.repeatL s n.toNat), h) else none
  | _ => none
theorem repeat_ok (L : Lays.n105 P ρ) (X : Builder.Extra P ρ) (e105 : ∀ args w, (callFunc (ρ.f 105) args).run P w = .ok (.enter (ρ.f 105) args) w) : HandOk P (ρ.f 105) repeatS := by
  refine ⟨fun args h r h' e w G cargs H hp => ?_, e105⟩
  have hlen := hp.len
  unfold repeatS at e
  split at e
  · rename_i s n
    split at e
    · rename_i hn
      simp only [Option.some.injEq, Prod.mk.injEq] at e
      obtain ⟨rfl, rfl⟩ := e
      obtain ⟨l⟩ := cargs
      match l, hlen with
      | [v0, v1], _ =>
        have r0 := hp.rel 0 v0 (.str s) (by simp) (by simp)
        have r1 := hp.rel 1 v1 (.int .i64 n) (by simp) (by simp)
        cases r0 with
        | str bs =>
        cases r1
        obtain ⟨h0, h1, h2⟩ := hn
        obtain ⟨c, rfl⟩ : ∃ c : Nat, n = (c : Int) := ⟨n.toNat, by omega⟩
        have hsz : bs.size = bs.data.toList.length := rfl
        have hm : bs.data.toList.length * c ≤ 1000000 * 1000000 := Nat.mul_le_mul h2 (by omega)
        refine (Any.strings_Repeat L X bs c w (by omega) (by rw [hsz]; omega)).mono ?_
        rintro e w' ⟨rfl, hB⟩
        obtain ⟨G', q1, q2, q3⟩ := below_ext H hB
        exact ⟨_, G', rfl, q1, q2, .str _⟩
    · simp at e
  · simp at e
end Go.Abs

namespace Go.Abs
variable {F : Nat → Option AEnt} {ev : Opd → AVal} {h : Heap} {K : AVal → Heap → Prop}
theorem wrap_in64 {x : Int} (h1 : -9223372036854775808 ≤ x) (h2 : x < 9223372036854775808) : IntKind.i64.wrap x = x := IntWalk.i64_in x ⟨h1, by omega⟩
theorem x_mov {x : Opd} (q : K (ev x) h) : XW F (.mov x) ev h K := x_eval _ _ rfl q
theorem x_len {x : Opd} {xs : List AVal} {t : Tok} (hx : ev x = .sl xs t) (q : K (.int .i64 xs.length) h) : XW F (.len x) ev h K := x_eval _ _ (by simp only [evalA, hx]) q
theorem x_len_ref {x : Opd} {id off n sz : Nat} (hx : ev x = .ref id off n sz) (q : K (.int .i64 n) h) : XW F (.len x) ev h K := x_eval _ _ (by simp only [evalA, hx]) q
theorem x_slen {x : Opd} {s : List UInt8} (hx : ev x = .str s) (q : K (.int .i64 s.length) h) : XW F (.slen x) ev h K := x_eval _ _ (by simp only [evalA, hx]) q
theorem x_ext {x : Opd} {vs : List AVal} {i : Nat} {r : AVal} (hx : ev x = .tup vs) (hi : vs[i]? = some r) (q : K r h) : XW F (.ext x i) ev h K := x_eval _ _ (by simp only [evalA, hx, hi]; rfl) q
theorem x_add {x y : Opd} {a b : Int} (hx : ev x = .int .i64 a) (hy : ev y = .int .i64 b) (h1 : -9223372036854775808 ≤ a + b) (h2 : a + b < 9223372036854775808) (q : K (.int .i64 (a + b)) h) : XW F (.bin .add .arith x y) ev h K :=
  x_eval _ _ (by simp [evalA, hx, hy, binA, intBin, wrap_in64 h1 h2]) q
theorem x_sub {x y : Opd} {a b : Int} (hx : ev x = .int .i64 a) (hy : ev y = .int .i64 b) (h1 : -9223372036854775808 ≤ a - b) (h2 : a - b < 9223372036854775808) (q : K (.int .i64 (a - b)) h) : XW F (.bin .sub .arith x y) ev h K :=
  x_eval _ _ (by simp [evalA, hx, hy, binA, intBin, wrap_in64 h1 h2]) q
theorem x_mul {x y : Opd} {a b : Int} (hx : ev x = .int .i64 a) (hy : ev y = .int .i64 b) (h1 : -9223372036854775808 ≤ a * b) (h2 : a * b < 9223372036854775808) (q : K (.int .i64 (a * b)) h) : XW F (.bin .mul .arith x y) ev h K :=
  x_eval _ _ (by simp [evalA, hx, hy, binA, intBin, wrap_in64 h1 h2]) q
theorem x_quo {x y : Opd} {a b : Int} (hx : ev x = .int .i64 a) (hy : ev y = .int .i64 b) (h0 : b ≠ 0) (h1 : -9223372036854775808 ≤ a.tdiv b) (h2 : a.tdiv b < 9223372036854775808) (q : K (.int .i64 (a.tdiv b)) h) : XW F (.bin .quo .arith x y) ev h K :=
  x_eval _ _ (by simp [evalA, hx, hy, binA, intBin, wrap_in64 h1 h2, h0]) q
theorem x_rem {x y : Opd} {a b : Int} (hx : ev x = .int .i64 a) (hy : ev y = .int .i64 b) (h0 : b ≠ 0) (q : K (.int .i64 (a.tmod b)) h) : XW F (.bin .rem .arith x y) ev h K :=
  x_eval _ _ (by simp [evalA, hx, hy, binA, intBin, h0]) q
theorem x_neg {x : Opd} {a : Int} (hx : ev x = .int .i64 a) (h1 : -9223372036854775808 ≤ -a) (h2 : -a < 9223372036854775808) (q : K (.int .i64 (-a)) h) : XW F (.un .neg x) ev h K :=
  x_eval _ _ (by simp [evalA, hx, unA, wrap_in64 h1 h2]) q
theorem x_lss {x y : Opd} {k : IntKind} {a b : Int} (hx : ev x = .int k a) (hy : ev y = .int k b) (q : K (.bool (decide (a < b))) h) : XW F (.bin .lss .arith x y) ev h K := x_eval _ _ (by simp [evalA, hx, hy, binA, intBin]) q
theorem x_leq {x y : Opd} {k : IntKind} {a b : Int} (hx : ev x = .int k a) (hy : ev y = .int k b) (q : K (.bool (decide (a ≤ b))) h) : XW F (.bin .leq .arith x y) ev h K := x_eval _ _ (by simp [evalA, hx, hy, binA, intBin]) q
theorem x_gtr {x y : Opd} {k : IntKind} {a b : Int} (hx : ev x = .int k a) (hy : ev y = .int k b) (q : K (.bool (decide (b < a))) h) : XW F (.bin .gtr .arith x y) ev h K := x_eval _ _ (by simp [evalA, hx, hy, binA, intBin]) q
theorem x_geq {x y : Opd} {k : IntKind} {a b : Int} (hx : ev x = .int k a) (hy : ev y = .int k b) (q : K (.bool (decide (b ≤ a))) h) : XW F (.bin .geq .arith x y) ev h K := x_eval _ _ (by simp [evalA, hx, hy, binA, intBin]) q
theorem x_eql {x y : Opd} {k : IntKind} {a b : Int} (hx : ev x = .int k a) (hy : ev y = .int k b) (q : K (.bool (decide (a = b))) h) : XW F (.bin .eql .arith x y) ev h K := x_eval (.bool (decide (a = b))) h (by simp [evalA, hx, hy, binA, intBin]; by_cases e : a = b <;> simp [e]) q
theorem x_neq {x y : Opd} {k : IntKind} {a b : Int} (hx : ev x = .int k a) (hy : ev y = .int k b) (q : K (.bool (decide (a ≠ b))) h) : XW F (.bin .neq .arith x y) ev h K := x_eval (.bool (decide (a ≠ b))) h (by simp [evalA, hx, hy, binA, intBin]; by_cases e : a = b <;> simp [e]) q
theorem x_lss_t {x y : Opd} {k : IntKind} {a b : Int} (hx : ev x = .int k a) (hy : ev y = .int k b) (hc : a < b) (q : K (.bool true) h) : XW F (.bin .lss .arith x y) ev h K := x_lss hx hy (by rw [decide_eq_true hc]; exact q)
theorem x_lss_f {x y : Opd} {k : IntKind} {a b : Int} (hx : ev x = .int k a) (hy : ev y = .int k b) (hc : b ≤ a) (q : K (.bool false) h) : XW F (.bin .lss .arith x y) ev h K := x_lss hx hy (by rw [decide_eq_false (by omega)]; exact q)
theorem x_leq_t {x y : Opd} {k : IntKind} {a b : Int} (hx : ev x = .int k a) (hy : ev y = .int k b) (hc : a ≤ b) (q : K (.bool true) h) : XW F (.bin .leq .arith x y) ev h K := x_leq hx hy (by rw [decide_eq_true hc]; exact q)
theorem x_leq_f {x y : Opd} {k : IntKind} {a b : Int} (hx : ev x = .int k a) (hy : ev y = .int k b) (hc : b < a) (q : K (.bool false) h) : XW F (.bin .leq .arith x y) ev h K := x_leq hx hy (by rw [decide_eq_false (by omega)]; exact q)
theorem x_gtr_t {x y : Opd} {k : IntKind} {a b : Int} (hx : ev x = .int k a) (hy : ev y = .int k b) (hc : b < a) (q : K (.bool true) h) : XW F (.bin .gtr .arith x y) ev h K := x_gtr hx hy (by rw [decide_eq_true hc]; exact q)
theorem x_gtr_f {x y : Opd} {k : IntKind} {a b : Int} (hx : ev x = .int k a) (hy : ev y = .int k b) (hc : a ≤ b) (q : K (.bool false) h) : XW F (.bin .gtr .arith x y) ev h K := x_gtr hx hy (by rw [decide_eq_false (by omega)]; exact q)
theorem x_geq_t {x y : Opd} {k : IntKind} {a b : Int} (hx : ev x = .int k a) (hy : ev y = .int k b) (hc : b ≤ a) (q : K (.bool true) h) : XW F (.bin .geq .arith x y) ev h K := x_geq hx hy (by rw [decide_eq_true hc]; exact q)
theorem x_geq_f {x y : Opd} {k : IntKind} {a b : Int} (hx : ev x = .int k a) (hy : ev y = .int k b) (hc : a < b) (q : K (.bool false) h) : XW F (.bin .geq .arith x y) ev h K := x_geq hx hy (by rw [decide_eq_false (by omega)]; exact q)
theorem x_eql_t {x y : Opd} {k : IntKind} {a b : Int} (hx : ev x = .int k a) (hy : ev y = .int k b) (hc : a = b) (q : K (.bool true) h) : XW F (.bin .eql .arith x y) ev h K := x_eql hx hy (by rw [decide_eq_true hc]; exact q)
theorem x_eql_f {x y : Opd} {k : IntKind} {a b : Int} (hx : ev x = .int k a) (hy : ev y = .int k b) (hc : a ≠ b) (q : K (.bool false) h) : XW F (.bin .eql .arith x y) ev h K := x_eql hx hy (by rw [decide_eq_false (by omega)]; exact q)
theorem x_neq_t {x y : Opd} {k : IntKind} {a b : Int} (hx : ev x = .int k a) (hy : ev y = .int k b) (hc : a ≠ b) (q : K (.bool true) h) : XW F (.bin .neq .arith x y) ev h K := x_neq hx hy (by rw [decide_eq_true hc]; exact q)
theorem x_neq_f {x y : Opd} {k : IntKind} {a b : Int} (hx : ev x = .int k a) (hy : ev y = .int k b) (hc : a = b) (q : K (.bool false) h) : XW F (.bin .neq .arith x y) ev h K := x_neq hx hy (by rw [decide_eq_false (by omega)]; exact q)
theorem x_eql_s {x y : Opd} {a b : List UInt8} (hx : ev x = .str a) (hy : ev y = .str b) (q : K (.bool (decide (a = b))) h) : XW F (.bin .eql .arith x y) ev h K := x_eval (.bool (decide (a = b))) h (by simp [evalA, hx, hy, binA, strBin]; by_cases e : a = b <;> simp [e]) q
theorem x_neq_s {x y : Opd} {a b : List UInt8} (hx : ev x = .str a) (hy : ev y = .str b) (q : K (.bool (decide (a ≠ b))) h) : XW F (.bin .neq .arith x y) ev h K := x_eval (.bool (decide (a ≠ b))) h (by simp [evalA, hx, hy, binA, strBin]; by_cases e : a = b <;> simp [e]) q
theorem x_add_s {x y : Opd} {a b : List UInt8} (hx : ev x = .str a) (hy : ev y = .str b) (hl : a.length + b.length ≤ 9223372036854775807) (q : K (.str (a ++ b)) h) : XW F (.bin .add .arith x y) ev h K := x_eval _ _ (by simp [evalA, hx, hy, binA, strBin, hl]) q
theorem x_not {x : Opd} {a : Bool} (hx : ev x = .bool a) (q : K (.bool (!a)) h) : XW F (.un .not x) ev h K := x_eval _ _ (by simp [evalA, hx, unA]) q
theorem x_pick_t {c a b : Opd} (hc : ev c = .bool true) (q : K (ev a) h) : XW F (.pick c a b) ev h K := x_eval _ _ (by simp [evalA, hc]) q
theorem x_pick_f {c a b : Opd} (hc : ev c = .bool false) (q : K (ev b) h) : XW F (.pick c a b) ev h K := x_eval _ _ (by simp [evalA, hc]) q
theorem x_iaddr {sz : Nat} {x i : Opd} {xs : List AVal} {t : Tok} {k : IntKind} {n : Int} {y : AVal} (hx : ev x = .sl xs t) (hi : ev i = .int k n) (h0 : 0 ≤ n) (hy : xs[n.toNat]? = some y) (hs : y.cells.length = sz) (q : K (.rp y.cells) h) : XW F (.iaddr sz x i) ev h K := by
  have hlt := (List.getElem?_eq_some_iff.1 hy).1
  exact x_eval _ _ (by simp only [evalA, hx, hi]; rw [if_pos ⟨h0, by omega⟩]; simp only [hy, hs, if_true]) q
theorem x_iaddr_ref {sz : Nat} {x i : Opd} {id off len : Nat} {k : IntKind} {n : Int} (hx : ev x = .ref id off len sz) (hi : ev i = .int k n) (h0 : 0 ≤ n) (h1 : n < len) (q : K (.ptr id (off + n.toNat * sz)) h) : XW F (.iaddr sz x i) ev h K :=
  x_eval _ _ (by simp only [evalA, hx, hi, and_true]; rw [if_pos ⟨h0, h1⟩]) q
theorem x_faddr_rp {off : Nat} {x : Opd} {cs : List AVal} (hx : ev x = .rp cs) (q : K (.rp (cs.drop off)) h) : XW F (.faddr off x) ev h K := x_eval _ _ (by simp [evalA, hx]) q
theorem x_faddr_ptr {off : Nat} {x : Opd} {id o : Nat} (hx : ev x = .ptr id o) (q : K (.ptr id (o + off)) h) : XW F (.faddr off x) ev h K := x_eval _ _ (by simp [evalA, hx]) q
theorem x_load_rp {n : Nat} {ag : Bool} {x : Opd} {cs : List AVal} {r : AVal} (hx : ev x = .rp cs) (hn : n ≤ cs.length) (hr : mk ag (cs.take n) = some r) (q : K r h) : XW F (.load n ag x) ev h K :=
  x_eval _ _ (by simp [evalA, hx, loadA, hn, hr]) q
theorem x_load_ptr {n : Nat} {ag : Bool} {x : Opd} {id off : Nat} {mu : Bool} {s : Nat} {a : Bool} {cs : List AVal} {r : AVal} (hx : ev x = .ptr id off) (hg : h.get id = some (.row mu s a cs)) (hn : off + n ≤ cs.length) (hr : mk ag ((cs.drop off).take n) = some r) (q : K r h) : XW F (.load n ag x) ev h K :=
  x_eval _ _ (by simp [evalA, hx, loadA, hg, hn, hr]) q
theorem x_store {n : Nat} {a x : Opd} {id off : Nat} {s : Nat} {ag : Bool} {cs : List AVal} (ha : ev a = .ptr id off) (hg : h.get id = some (.row true s ag cs)) (hl : (ev x).cells.length = n) (ho : (ev x).cells.all AVal.one = true) (hn : off + n ≤ cs.length)
    (q : K (.tup []) (h.put id (some (.row true s ag (setCells cs off (ev x).cells))))) : XW F (.store n a x) ev h K :=
  x_eval _ _ (by simp [evalA, ha, storeA, hg, hl, hn, ho]) q
theorem x_nilc_ptr {x : Opd} {id o : Nat} (hx : ev x = .ptr id o) (q : K (.ptr id o) h) : XW F (.nilc x) ev h K := x_eval _ _ (by simp [evalA, hx]) q
theorem x_nilc_fn {x : Opd} {f : Nat} {c : List AVal} (hx : ev x = .fn f c) (q : K (.fn f c) h) : XW F (.nilc x) ev h K := x_eval _ _ (by simp [evalA, hx]) q
theorem x_field {off n : Nat} {ag : Bool} {x : Opd} {cs : List AVal} {r : AVal} (hx : ev x = .agg cs) (hn : off + n ≤ cs.length) (hr : mk ag ((cs.drop off).take n) = some r) (q : K r h) : XW F (.field off n ag x) ev h K :=
  x_eval _ _ (by simp [evalA, hx, hn, hr]) q
theorem x_sidx {x i : Opd} {s : List UInt8} {k : IntKind} {n : Int} {b : UInt8} (hx : ev x = .str s) (hi : ev i = .int k n) (h0 : 0 ≤ n) (hb : s[n.toNat]? = some b) (q : K (.int .u8 b.toNat) h) : XW F (.sidx x i) ev h K :=
  x_eval _ _ (by simp [evalA, hx, hi, h0, hb]) q
def Elem (ag : Bool) (sz : Nat) (y : AVal) : Prop := mk ag y.cells = some y ∧ y.cells.length = sz ∧ stripL y.cells = some y.cells
theorem stripL_append : ∀ {a b a' b' : List AVal}, stripL a = some a' → stripL b = some b' → stripL (a ++ b) = some (a' ++ b')
  | [], b, a', b', h1, h2 => by simp [stripL] at h1; subst h1; simpa using h2
  | x :: a, b, a', b', h1, h2 => by
    simp only [stripL] at h1
    split at h1
    · rename_i y ys e1 e2
      simp at h1; subst h1
      simp only [List.cons_append, stripL, e1, stripL_append e2 h2]
    · simp at h1
theorem strip_flat {ag : Bool} {sz : Nat} : ∀ {ys : List AVal}, (∀ y ∈ ys, Elem ag sz y) → stripL (flat ys) = some (flat ys)
  | [], _ => rfl
  | y :: ys, hy => by
    simp only [flat, List.flatMap_cons]
    exact stripL_append (hy y (by simp)).2.2 (strip_flat (fun z hz => hy z (by simp [hz])))
theorem flat_length {ag : Bool} {sz : Nat} : ∀ {ys : List AVal}, (∀ y ∈ ys, Elem ag sz y) → (flat ys).length = ys.length * sz
  | [], _ => by simp [flat]
  | y :: ys, hy => by
    have := flat_length (ys := ys) (fun z hz => hy z (by simp [hz]))
    simp only [flat, List.flatMap_cons, List.length_append, List.length_cons] at this ⊢
    rw [this, (hy y (by simp)).2.1, Nat.add_mul]; omega
theorem chunk_flat {ag : Bool} {sz : Nat} : ∀ {ys : List AVal}, (∀ y ∈ ys, Elem ag sz y) → chunk sz ag ys.length (flat ys) = some ys
  | [], _ => rfl
  | y :: ys, hy => by
    have h1 := hy y (by simp)
    have ht : (flat (y :: ys)).take sz = y.cells := by
      simp only [flat, List.flatMap_cons]
      rw [← h1.2.1, List.take_left']; rfl
    have hd : (flat (y :: ys)).drop sz = flat ys := by
      simp only [flat, List.flatMap_cons]
      rw [← h1.2.1, List.drop_left']; rfl
    have hc := chunk_flat (ys := ys) (fun z hz => hy z (by simp [hz]))
    simp only [List.length_cons, chunk, ht, hd, h1.1, hc, h1.2.1, if_true]
def Lst (h : Heap) (ty sz : Nat) (xs : List AVal) (v : AVal) : Prop := (xs = [] ∧ v = .sl [] .nil) ∨ ∃ id, v = .sl xs (.own id sz) ∧ h.get id = some (.tok ty) ∧ id < h.next
def Pt (t : Tok) : Prop := t = .none ∨ t = .nil
theorem strip_pt {t : Tok} (ht : Pt t) {xs : List AVal} : strip (.sl xs t) = some (.sl xs t) := by
  rcases ht with rfl | rfl <;> rfl
theorem purify_pt {t : Tok} (ht : Pt t) {xs : List AVal} {h : Heap} : purify h (.sl xs t) = some (.sl xs t) := by
  rcases ht with rfl | rfl <;> rfl
theorem roomOk_of {n bytes : Nat} (h1 : n ≤ 1000000) (h2 : bytes ≤ 10000) : roomOk n bytes = true := by
  simp only [roomOk, Bool.and_eq_true, decide_eq_true_eq]
  refine ⟨by omega, ?_⟩
  calc (4 * n + 1024) * bytes ≤ (4 * 1000000 + 1024) * 10000 := Nat.mul_le_mul (by omega) h2
    _ ≤ 281474976710656 := by decide
theorem x_append {ty bytes sz : Nat} {ag : Bool} {x y : Opd} {xs ys : List AVal} {t2 : Tok} (hL : Lst h ty sz xs (ev x)) (hy : ev y = .sl ys t2) (he : ∀ e ∈ ys, Elem ag sz e) (room : roomOk (xs.length + ys.length) bytes = true) (hsz : 0 < sz) (hsm : small sz = true)
    (q : ∀ v' h', Lst h' ty sz (xs ++ ys) v' → h.next ≤ h'.next → (∀ j o, h.get j = some o → (∀ xs', ev x ≠ .sl xs' (.own j sz)) → h'.get j = some o) → K v' h') : XW F (.append false ty bytes sz ag x y) ev h K := by
  have hel : elemsA h sz (.sl ys t2) = some (flat ys) := by
    simp only [elemsA]
    rw [if_pos]
    intro e he'
    exact (he e (List.mem_of_head? he')).2.1
  have hst := strip_flat he
  have hch := chunk_flat he
  by_cases hm : ys.length = 0
  · have hys : ys = [] := List.eq_nil_of_length_eq_zero hm
    subst hys
    refine x_eval (ev x) h ?_ (q _ _ (by simpa using hL) (Nat.le_refl _) (fun j o hj _ => hj))
    simp only [evalA, appendA, hy, lenA, hel, List.length_nil]
    rcases hL with ⟨rfl, e⟩ | ⟨id, e, _, _⟩ <;> rw [e] <;> rfl
  · rcases hL with ⟨rfl, e⟩ | ⟨id, e, hg, hid⟩
    · refine x_eval (.sl ys (.own h.next sz)) (h.push (.tok ty)) ?_ (q _ _ (.inr ⟨h.next, rfl, ?_, ?_⟩) ?_ ?_)
      · simp only [evalA, appendA, hy, lenA, hel, e]
        rw [if_neg hm]
        rw [List.length_nil, Nat.zero_add] at room
        simp [room, hsz, hsm, hst, hch]
      · simp [Heap.get, Heap.push]
      · simp [Heap.push]
      · simp [Heap.push]
      · intro j o hj _
        have hlt : j < h.next := by
          unfold Heap.get at hj; split at hj
          · assumption
          · simp at hj
        have e1 : h.next + 1 - 1 - j = (h.next - 1 - j) + 1 := by omega
        simp only [Heap.get, Heap.push, e1, List.getElem?_cons_succ] at hj ⊢
        rw [if_pos hlt] at hj
        rw [if_pos (by omega)]; exact hj
    · refine x_eval (.sl (xs ++ ys) (.own h.next sz)) ((h.put id none).push (.tok ty)) ?_ (q _ _ (.inr ⟨h.next, rfl, ?_, ?_⟩) ?_ ?_)
      · simp only [evalA, appendA, hy, lenA, hel, e]
        rw [if_neg hm]
        simp [room, hsz, hsm, hst, hch, hg]
      · simp [Heap.get, Heap.push, Heap.put, hid]
      · simp [Heap.push, Heap.put, hid]
      · simp only [Heap.push, Heap.put, hid, if_true]; omega
      · intro j o hj hne
        have hji : j ≠ id := fun e' => by subst e'; exact hne xs e
        have hlt : j < h.next := by
          unfold Heap.get at hj; split at hj
          · assumption
          · simp at hj
        have e1 : h.next + 1 - 1 - j = (h.next - 1 - j) + 1 := by omega
        simp only [Heap.get, Heap.push, Heap.put, hid, if_true, e1, List.getElem?_cons_succ] at hj ⊢
        rw [if_pos hlt] at hj
        rw [if_pos (by omega), List.getElem?_set_ne (by omega)]; exact hj
def PF (F : Nat → Option AEnt) (f : Nat) (asx : List AVal) (r : AVal) : Prop := ∃ r0 h', Gives F f asx Heap.empty r0 h' ∧ purify h' r0 = some r
theorem pf_of {f : Nat} {asx : List AVal} {r : AVal} {h' : Heap} (c : Gives F f asx Heap.empty r h') {r' : AVal} (hp : purify h' r = some r') : PF F f asx r' := ⟨r, h', c, hp⟩
theorem x_pf {f : Nat} {args : List Opd} {asx : List AVal} {r : AVal} (hs : stripL (args.map ev) = some asx) (c : PF F f asx r) (q : K r h) : XW F (.pcall f args) ev h K := by
  obtain ⟨r0, h', c1, c2⟩ := c
  exact x_pcall asx hs r0 r h' c1 c2 q
theorem x_pf0 {f : Nat} {r : AVal} (c : PF F f [] r) (q : K r h) : XW F (.pcall f []) ev h K := x_pf rfl c q
theorem x_pf1 {f : Nat} {x1 : Opd} {a1 r : AVal} (h1 : strip (ev x1) = some a1) (c : PF F f [a1] r) (q : K r h) : XW F (.pcall f [x1]) ev h K := x_pf (by simp only [List.map, stripL, h1]) c q
theorem x_pf2 {f : Nat} {x1 x2 : Opd} {a1 a2 r : AVal} (h1 : strip (ev x1) = some a1) (h2 : strip (ev x2) = some a2) (c : PF F f [a1, a2] r) (q : K r h) : XW F (.pcall f [x1, x2]) ev h K := x_pf (by simp only [List.map, stripL, h1, h2]) c q
theorem x_pf3 {f : Nat} {x1 x2 x3 : Opd} {a1 a2 a3 r : AVal} (h1 : strip (ev x1) = some a1) (h2 : strip (ev x2) = some a2) (h3 : strip (ev x3) = some a3) (c : PF F f [a1, a2, a3] r) (q : K r h) : XW F (.pcall f [x1, x2, x3]) ev h K :=
  x_pf (by simp only [List.map, stripL, h1, h2, h3]) c q
theorem x_pf4 {f : Nat} {x1 x2 x3 x4 : Opd} {a1 a2 a3 a4 r : AVal} (h1 : strip (ev x1) = some a1) (h2 : strip (ev x2) = some a2) (h3 : strip (ev x3) = some a3) (h4 : strip (ev x4) = some a4) (c : PF F f [a1, a2, a3, a4] r) (q : K r h) : XW F (.pcall f [x1, x2, x3, x4]) ev h K :=
  x_pf (by simp only [List.map, stripL, h1, h2, h3, h4]) c q
theorem pf_wp {g : Nat} {fn : AFunc} (hf : F g = some (.comp fn)) {args : List AVal} {r : AVal}
    (w : WP F fn.body (fn.slots.map fun s => (args[s]?).getD (.tup [])) Heap.empty (fun e vs h1 => (e = .normal ∨ e = .ret) ∧ resK fn.results vs h1 (fun v h2 => purify h2 v = some r))) : PF F g args r := by
  obtain ⟨r0, h', c, hp⟩ := gives_wp (p := fun v h1 => purify h1 v = some r) hf w
  exact ⟨r0, h', c, hp⟩
theorem get_push (h : Heap) (o : Obj) : (h.push o).get h.next = some o := by simp [Heap.get, Heap.push]
theorem get_push_old {h : Heap} {o o' : Obj} {j : Nat} (hj : h.get j = some o') : (h.push o).get j = some o' := by
  have hlt : j < h.next := by
    unfold Heap.get at hj; split at hj
    · assumption
    · simp at hj
  have e1 : h.next + 1 - 1 - j = (h.next - 1 - j) + 1 := by omega
  simp only [Heap.get, Heap.push, e1, List.getElem?_cons_succ] at hj ⊢
  rw [if_pos hlt] at hj
  rw [if_pos (by omega)]; exact hj
theorem get_lt {h : Heap} {j : Nat} {o : Obj} (hj : h.get j = some o) : j < h.next := by
  unfold Heap.get at hj; split at hj
  · assumption
  · simp at hj
theorem put_push (h : Heap) (o o' : Obj) : (h.push o).put h.next (some o') = h.push o' := by
  simp [Heap.put, Heap.push]
theorem put_push_old {h : Heap} {o : Obj} {j : Nat} (o' : Option Obj) (hj : j < h.next) : (h.push o).put j o' = (h.put j o').push o := by
  have e1 : h.next + 1 - 1 - j = (h.next - 1 - j) + 1 := by omega
  simp only [Heap.put, Heap.push, hj, if_true, e1, List.set_cons_succ]
  rw [if_pos (by omega)]
theorem x_alloc {ty sz : Nat} {ag : Bool} {z : List AVal} (hz : z.length = sz) (ho : z.all AVal.one = true) (q : K (.ptr h.next 0) (h.push (.row true (typed ty) ag z))) : XW F (.alloc ty sz ag z) ev h K :=
  x_eval _ _ (by simp only [evalA]; rw [if_pos ⟨hz, ho⟩]) q
theorem x_box {sz : Nat} {ag : Bool} {x : Opd} (hz : (ev x).cells.length = sz) (ho : (ev x).cells.all AVal.one = true) (q : K (.ptr h.next 0) (h.push (.row true 0 ag (ev x).cells))) : XW F (.box sz ag x) ev h K :=
  x_eval _ _ (by simp only [evalA]; rw [if_pos ⟨hz, ho⟩]) q
theorem x_load_top {n : Nat} {ag : Bool} {x : Opd} {off : Nat} {mu : Bool} {s : Nat} {a : Bool} {cs : List AVal} {r : AVal} (hx : ev x = .ptr h.next off) (hn : off + n ≤ cs.length) (hr : mk ag ((cs.drop off).take n) = some r) (q : K r (h.push (.row mu s a cs))) : XW F (.load n ag x) ev (h.push (.row mu s a cs)) K :=
  x_load_ptr hx (get_push _ _) hn hr q
theorem x_store_top {n : Nat} {a x : Opd} {off : Nat} {s : Nat} {ag : Bool} {cs : List AVal} (ha : ev a = .ptr h.next off) (hl : (ev x).cells.length = n) (ho : (ev x).cells.all AVal.one = true) (hn : off + n ≤ cs.length)
    (q : K (.tup []) (h.push (.row true s ag (setCells cs off (ev x).cells)))) : XW F (.store n a x) ev (h.push (.row true s ag cs)) K :=
  x_store ha (get_push _ _) hl ho hn (by rw [put_push]; exact q)
end Go.Abs

namespace Go.Abs
variable {F : Nat → Option AEnt} {ev : Opd → AVal} {h : Heap} {K : AVal → Heap → Prop}
theorem ev_v (vs ts : List AVal) (i : Nat) : evOpd vs ts (.v i) = (vs[i]?).getD .bad := _root_.id rfl
theorem ev_t (vs ts : List AVal) (i : Nat) : evOpd vs ts (.t i) = (ts[i]?).getD .bad := _root_.id rfl
theorem ev_c (vs ts : List AVal) (x : AVal) : evOpd vs ts (.c x) = x := _root_.id rfl
theorem putV_tmp (vs : List AVal) (r : AVal) : putV .tmp vs r = vs := _root_.id rfl
theorem putV_no (vs : List AVal) (r : AVal) : putV .no vs r = vs := _root_.id rfl
theorem putV_var (vs : List AVal) (r : AVal) (i : Nat) : putV (.var i) vs r = vs.set i r := _root_.id rfl
theorem putT_tmp (r : AVal) : putT .tmp r = r := _root_.id rfl
theorem putT_no (r : AVal) : putT .no r = .bad := _root_.id rfl
theorem putT_var (r : AVal) (i : Nat) : putT (.var i) r = .bad := _root_.id rfl
theorem want_bool (vs ts : List AVal) (x : Opd) (b c : Bool) (hx : evOpd vs ts x = .bool c) : wantA (evOpd vs ts) (some (x, b)) = some (c == b) := by simp [wantA, hx]
def wantV : AVal → Bool → Option Bool
  | .bool c, b => some (c == b)
  | .tup [], _ => some false
  | _, _ => none
theorem want_V (vs ts : List AVal) (x : Opd) (b : Bool) : wantA (evOpd vs ts) (some (x, b)) = wantV (evOpd vs ts x) b := by
  simp only [wantA, wantV]
  cases evOpd vs ts x <;> first | rfl | skip
  rename_i l; cases l <;> rfl
theorem wantV_tt : wantV (.bool true) true = some true := rfl
theorem wantV_tf : wantV (.bool true) false = some false := rfl
theorem wantV_ft : wantV (.bool false) true = some false := rfl
theorem wantV_ff : wantV (.bool false) false = some true := rfl
theorem wantV_tup (b : Bool) : wantV (.tup []) b = some false := rfl
theorem XW_val {op : AOp} (hop : ∀ cf, execA cf op ev h = evalA op ev h) {f : Option AVal} (e : evalA op ev h = f.map (·, h)) : XW F op ev h K ↔ bindK f K h := by
  rw [XW_eval hop, e]
  simp only [Option.map_eq_some_iff, Prod.mk.injEq]
  constructor
  · rintro ⟨r, h', ⟨a, h1, rfl, rfl⟩, h2⟩; exact ⟨a, h1, h2⟩
  · rintro ⟨r, h1, h2⟩; exact ⟨r, h, ⟨r, h1, rfl, rfl⟩, h2⟩
theorem XW_heap {op : AOp} (hop : ∀ cf, execA cf op ev h = evalA op ev h) {p : Prop} [Decidable p] {v : AVal} {h1 : Heap} (e : evalA op ev h = if p then some (v, h1) else none) : XW F op ev h K ↔ p ∧ K v h1 := by
  rw [XW_eval hop, e]
  constructor
  · rintro ⟨r, h', he, q⟩
    split at he
    · rename_i hp
      simp only [Option.some.injEq, Prod.mk.injEq] at he
      obtain ⟨rfl, rfl⟩ := he
      exact ⟨hp, q⟩
    · simp at he
  · rintro ⟨hp, q⟩
    exact ⟨v, h1, if_pos hp, q⟩
theorem XW_mov {x : Opd} : XW F (.mov x) ev h K ↔ bindK (some (ev x)) K h := XW_val (fun _ => rfl) rfl
theorem XW_bin {op : BinOp} {bk : BK} {x y : Opd} : XW F (.bin op bk x y) ev h K ↔ bindK (binA op bk (ev x) (ev y)) K h := by
  exact XW_val (fun _ => rfl) rfl
theorem XW_un {op : UnOp} {x : Opd} : XW F (.un op x) ev h K ↔ bindK (unA op (ev x)) K h := by
  exact XW_val (fun _ => rfl) rfl
theorem XW_load {n : Nat} {ag : Bool} {x : Opd} : XW F (.load n ag x) ev h K ↔ bindK (loadA n ag (ev x) h) K h := by
  exact XW_val (fun _ => rfl) rfl
theorem XW_store {n : Nat} {a x : Opd} : XW F (.store n a x) ev h K ↔ bindH ((storeA n (ev a) (ev x) h).map fun h' => (.tup [], h')) K := by
  rw [XW_eval (fun _ => rfl)]
  rfl
def valA (op : AOp) (a b : AVal) (h : Heap) : Option AVal :=
  match op with
  | .len _ => (match a with
    | .sl xs _ => some (.int .i64 xs.length)
    | .ref _ _ n _ => some (.int .i64 n)
    | _ => none)
  | .slen _ => (match a with
    | .str s => some (.int .i64 s.length)
    | _ => none)
  | .faddr off _ => (match a with
    | .ptr i o => some (.ptr i (o + off))
    | .rp cs => some (.rp (cs.drop off))
    | _ => none)
  | .nilc _ => (match a with
    | .ptr i o => some (.ptr i o)
    | .rp cs => some (.rp cs)
    | .fn f c => some (.fn f c)
    | _ => none)
  | .iaddr sz _ _ => (match a, b with
    | .sl xs _, .int _ n => if 0 ≤ n ∧ n < xs.length then (match xs[n.toNat]? with
      | some y => if y.cells.length = sz then some (.rp y.cells) else none
      | none => none) else none
    | .ref id off len s, .int _ n => if 0 ≤ n ∧ n < len ∧ s = sz then some (.ptr id (off + n.toNat * sz)) else none
    | _, _ => none)
  | .ext _ i => (match a with
    | .tup vs => vs[i]?
    | _ => none)
  | _ => none
theorem XW_len {x : Opd} : XW F (.len x) ev h K ↔ bindK (valA (.len x) (ev x) .bad h) K h := by
  refine XW_val (fun _ => rfl) ?_
  simp only [evalA, valA]
  cases ev x <;> rfl
theorem XW_slen {x : Opd} : XW F (.slen x) ev h K ↔ bindK (valA (.slen x) (ev x) .bad h) K h := by
  refine XW_val (fun _ => rfl) ?_
  simp only [evalA, valA]
  cases ev x <;> rfl
theorem XW_faddr {x : Opd} {off : Nat} : XW F (.faddr off x) ev h K ↔ bindK (valA (.faddr off x) (ev x) .bad h) K h := by
  refine XW_val (fun _ => rfl) ?_
  simp only [evalA, valA]
  cases ev x <;> rfl
theorem XW_nilc {x : Opd} : XW F (.nilc x) ev h K ↔ bindK (valA (.nilc x) (ev x) .bad h) K h := by
  refine XW_val (fun _ => rfl) ?_
  simp only [evalA, valA]
  cases ev x <;> rfl
theorem XW_ext {x : Opd} {i : Nat} : XW F (.ext x i) ev h K ↔ bindK (valA (.ext x i) (ev x) .bad h) K h := by
  refine XW_val (fun _ => rfl) ?_
  simp only [evalA, valA]
  cases ev x <;> rfl
theorem XW_pick {c a b : Opd} : XW F (.pick c a b) ev h K ↔ condB (ev c) (fun t => K (if t then ev a else ev b) h) := by
  rw [XW_eval (fun _ => rfl)]; simp only [evalA]
  constructor
  · rintro ⟨r, h', e, q⟩
    split at e
    · rename_i t ht
      simp only [Option.some.injEq, Prod.mk.injEq] at e
      obtain ⟨rfl, rfl⟩ := e
      exact ⟨t, ht, q⟩
    · simp at e
  · rintro ⟨t, ht, q⟩
    exact ⟨_, _, by rw [ht], q⟩
theorem XW_alloc {ty sz : Nat} {ag : Bool} {z : List AVal} : XW F (.alloc ty sz ag z) ev h K ↔ (z.length = sz ∧ z.all AVal.one = true) ∧ K (.ptr h.next 0) (h.push (.row true (typed ty) ag z)) := by
  exact XW_heap (fun _ => rfl) rfl
theorem XW_box {sz : Nat} {ag : Bool} {x : Opd} : XW F (.box sz ag x) ev h K ↔ ((ev x).cells.length = sz ∧ (ev x).cells.all AVal.one = true) ∧ K (.ptr h.next 0) (h.push (.row true 0 ag (ev x).cells)) := by
  exact XW_heap (fun _ => rfl) rfl
theorem bin_lss (k : IntKind) (a b : Int) : binA .lss .arith (.int k a) (.int k b) = some (.bool (decide (a < b))) := by simp [binA, intBin]
theorem bin_leq (k : IntKind) (a b : Int) : binA .leq .arith (.int k a) (.int k b) = some (.bool (decide (a ≤ b))) := by simp [binA, intBin]
theorem bin_gtr (k : IntKind) (a b : Int) : binA .gtr .arith (.int k a) (.int k b) = some (.bool (decide (b < a))) := by simp [binA, intBin]
theorem bin_geq (k : IntKind) (a b : Int) : binA .geq .arith (.int k a) (.int k b) = some (.bool (decide (b ≤ a))) := by simp [binA, intBin]
theorem bin_eql (k : IntKind) (a b : Int) : binA .eql .arith (.int k a) (.int k b) = some (.bool (decide (a = b))) := by simp [binA, intBin]; by_cases e : a = b <;> simp [e]
theorem bin_neq (k : IntKind) (a b : Int) : binA .neq .arith (.int k a) (.int k b) = some (.bool (decide (a ≠ b))) := by simp [binA, intBin]; by_cases e : a = b <;> simp [e]
theorem bin_add (a b : Int) : binA .add .arith (.int .i64 a) (.int .i64 b) = some (.int .i64 (IntKind.i64.wrap (a + b))) := by simp [binA, intBin]
theorem bin_sub (a b : Int) : binA .sub .arith (.int .i64 a) (.int .i64 b) = some (.int .i64 (IntKind.i64.wrap (a - b))) := by simp [binA, intBin]
theorem bin_mul (a b : Int) : binA .mul .arith (.int .i64 a) (.int .i64 b) = some (.int .i64 (IntKind.i64.wrap (a * b))) := by simp [binA, intBin]
theorem bin_eql_s (a b : List UInt8) : binA .eql .arith (.str a) (.str b) = some (.bool (decide (a = b))) := by simp [binA, strBin]; by_cases e : a = b <;> simp [e]
theorem bin_neq_s (a b : List UInt8) : binA .neq .arith (.str a) (.str b) = some (.bool (decide (a ≠ b))) := by simp [binA, strBin]; by_cases e : a = b <;> simp [e]
theorem bin_rem (a b : Int) (hb : b ≠ 0) : binA .rem .arith (.int .i64 a) (.int .i64 b) = some (.int .i64 (a.tmod b)) := by simp [binA, intBin, hb]
theorem bin_quo (a b : Int) (hb : b ≠ 0) : binA .quo .arith (.int .i64 a) (.int .i64 b) = some (.int .i64 (IntKind.i64.wrap (a.tdiv b))) := by simp [binA, intBin, hb]
theorem un_neg (a : Int) : unA .neg (.int .i64 a) = some (.int .i64 (IntKind.i64.wrap (-a))) := by simp [unA]
theorem un_not (a : Bool) : unA .not (.bool a) = some (.bool (!a)) := _root_.id rfl
theorem load_rp (n : Nat) (ag : Bool) (cs : List AVal) (h : Heap) : loadA n ag (.rp cs) h = if n ≤ cs.length then mk ag (cs.take n) else none := _root_.id rfl
theorem load_top (n off s : Nat) (ag mu a : Bool) (cs : List AVal) (h : Heap) : loadA n ag (.ptr h.next off) (h.push (.row mu s a cs)) = if off + n ≤ cs.length then mk ag ((cs.drop off).take n) else none := by simp [loadA, get_push]
theorem store_top (n off s : Nat) (a : Bool) (cs : List AVal) (x : AVal) (h : Heap) : storeA n (.ptr h.next off) x (h.push (.row true s a cs)) = if x.cells.length = n ∧ off + n ≤ cs.length ∧ x.cells.all AVal.one then some (h.push (.row true s a (setCells cs off x.cells))) else none := by
  simp only [storeA, get_push, put_push]
theorem mk_f (c : AVal) : mk false [c] = some c := _root_.id rfl
theorem mk_t (cs : List AVal) : mk true cs = some (.agg cs) := _root_.id rfl
theorem len_sl (x : Opd) (xs : List AVal) (t : Tok) (h : Heap) (b : AVal) : valA (.len x) (.sl xs t) b h = some (.int .i64 xs.length) := _root_.id rfl
theorem len_ref (x : Opd) (id off n sz : Nat) (h : Heap) (b : AVal) : valA (.len x) (.ref id off n sz) b h = some (.int .i64 n) := _root_.id rfl
theorem slen_str (x : Opd) (s : List UInt8) (h : Heap) (b : AVal) : valA (.slen x) (.str s) b h = some (.int .i64 s.length) := _root_.id rfl
theorem faddr_rp (x : Opd) (off : Nat) (cs : List AVal) (h : Heap) (b : AVal) : valA (.faddr off x) (.rp cs) b h = some (.rp (cs.drop off)) := _root_.id rfl
theorem faddr_ptr (x : Opd) (off i o : Nat) (h : Heap) (b : AVal) : valA (.faddr off x) (.ptr i o) b h = some (.ptr i (o + off)) := _root_.id rfl
theorem nilc_ptr (x : Opd) (i o : Nat) (h : Heap) (b : AVal) : valA (.nilc x) (.ptr i o) b h = some (.ptr i o) := _root_.id rfl
theorem nilc_fn (x : Opd) (f : Nat) (c : List AVal) (h : Heap) (b : AVal) : valA (.nilc x) (.fn f c) b h = some (.fn f c) := _root_.id rfl
theorem ext_tup (x : Opd) (i : Nat) (vs : List AVal) (h : Heap) (b : AVal) : valA (.ext x i) (.tup vs) b h = vs[i]? := _root_.id rfl
theorem XW_iaddr {sz : Nat} {x i : Opd} : XW F (.iaddr sz x i) ev h K ↔ bindK (valA (.iaddr sz x i) (ev x) (ev i) h) K h := by
  refine XW_val (fun _ => rfl) ?_
  simp only [evalA, valA]
  cases ev x <;> cases ev i <;> first | rfl | skip
  · rename_i xs tk k n
    by_cases h0 : 0 ≤ n ∧ n < xs.length
    · simp only [h0, and_self, if_true]
      cases xs[n.toNat]? with
      | none => rfl
      | some y => by_cases h1 : y.cells.length = sz <;> simp [h1]
    · simp only [h0, if_false]; rfl
  · rename_i id off len s k n
    by_cases h0 : 0 ≤ n ∧ n < len ∧ s = sz
    · simp only [h0, and_self, if_true]; rfl
    · simp only [h0, if_false]; rfl
theorem iaddr_sl (x i : Opd) {sz : Nat} {xs : List AVal} {t : Tok} {k : IntKind} {n : Int} {y : AVal} (h : Heap) (h0 : 0 ≤ n) (hy : xs[n.toNat]? = some y) : valA (.iaddr sz x i) (.sl xs t) (.int k n) h = if y.cells.length = sz then some (.rp y.cells) else none := by
  have hlt := (List.getElem?_eq_some_iff.1 hy).1
  simp only [valA]; rw [if_pos ⟨h0, by omega⟩]; simp only [hy]
theorem iaddr_ref (x i : Opd) {sz id off len s : Nat} {k : IntKind} {n : Int} (h : Heap) (h0 : 0 ≤ n) (hy : n < len) : valA (.iaddr sz x i) (.ref id off len s) (.int k n) h = if s = sz then some (.ptr id (off + n.toNat * sz)) else none := by
  simp only [valA, h0, hy, true_and]
theorem stripL_nil : stripL [] = some [] := rfl
theorem stripL_cons (x : AVal) (xs : List AVal) {y : AVal} {ys : List AVal} (h1 : strip x = some y) (h2 : stripL xs = some ys) : stripL (x :: xs) = some (y :: ys) := by simp only [stripL, h1, h2]
def sc (o : Option AVal) (p : Option (List AVal)) : Option (List AVal) := match o, p with
  | some y, some ys => some (y :: ys)
  | _, _ => none
theorem stripL_sc (x : AVal) (xs : List AVal) : stripL (x :: xs) = sc (strip x) (stripL xs) := by
  rfl
theorem sc_some (y : AVal) (ys : List AVal) : sc (some y) (some ys) = some (y :: ys) := rfl
theorem sc_none (p : Option (List AVal)) : sc none p = none := rfl
theorem sc_none' (y : AVal) : sc (some y) none = none := rfl
theorem st_int (k : IntKind) (n : Int) : strip (.int k n) = some (.int k n) := rfl
theorem st_bool (b : Bool) : strip (.bool b) = some (.bool b) := rfl
theorem st_str (s : List UInt8) : strip (.str s) = some (.str s) := rfl
theorem st_none (xs : List AVal) : strip (.sl xs .none) = some (.sl xs .none) := rfl
theorem st_nil (xs : List AVal) : strip (.sl xs .nil) = some (.sl xs .nil) := rfl
theorem st_own (xs : List AVal) (id sz : Nat) : strip (.sl xs (.own id sz)) = some (.sl xs .none) := rfl
theorem st_ref (a b c d : Nat) : strip (.ref a b c d) = none := rfl
theorem st_agg (cs : List AVal) : strip (.agg cs) = (stripL cs).map .agg := by simp only [strip]
theorem map_some' (cs : List AVal) : (some cs).map AVal.agg = some (.agg cs) := rfl
theorem pu_int (h : Heap) (k : IntKind) (n : Int) : purify h (.int k n) = some (.int k n) := rfl
theorem pu_bool (h : Heap) (b : Bool) : purify h (.bool b) = some (.bool b) := rfl
theorem pu_str (h : Heap) (s : List UInt8) : purify h (.str s) = some (.str s) := rfl
theorem pu_none (h : Heap) (xs : List AVal) : purify h (.sl xs .none) = some (.sl xs .none) := rfl
theorem pu_nil (h : Heap) (xs : List AVal) : purify h (.sl xs .nil) = some (.sl xs .nil) := rfl
theorem pu_own (h : Heap) (xs : List AVal) (id sz : Nat) : purify h (.sl xs (.own id sz)) = some (.sl xs .none) := rfl
end Go.Abs

namespace Go.Abs
variable {F : Nat → Option AEnt} {ev : Opd → AVal} {h : Heap} {K : AVal → Heap → Prop}
theorem XW_mono {op : AOp} {K' : AVal → Heap → Prop} (w : XW F op ev h K) (hi : ∀ r h', K r h' → K' r h') : XW F op ev h K' := by
  unfold XW at w ⊢
  obtain ⟨n, r, h', h1, h2⟩ := w
  exact ⟨n, r, h', h1, hi _ _ h2⟩
def Dum : Prop := True
theorem Dum_eq : Dum ↔ True := ⟨fun _ => trivial, fun _ => trivial⟩
@[congr] theorem bindK_congrD {d : Prop} {o o' : Option AVal} (e0 : Dum = d) (e : o = o') : bindK o K h = bindK o' K h := by rw [e]
@[congr] theorem bindH_congrD {d : Prop} {o o' : Option (AVal × Heap)} (e0 : Dum = d) (e : o = o') : bindH o K = bindH o' K := by rw [e]
def nth {α : Type} [Inhabited α] (l : List α) (i : Nat) : α := l.getD i default
theorem nth_eq {α : Type} [Inhabited α] {l : List α} {i : Nat} (h : i < l.length) : nth l i = l[i] := by simp [nth, List.getD_eq_getElem?_getD, List.getElem?_eq_getElem h]
theorem nth_mem {α : Type} [Inhabited α] {l : List α} {i : Nat} (h : i < l.length) : nth l i ∈ l := by rw [nth_eq h]; exact List.getElem_mem h
def ifP (p : Prop) (A B : Prop) : Prop := (p → A) ∧ (¬ p → B)
@[congr] theorem ifP_congr {p q A B : Prop} {d : Prop} (e0 : Dum = d) (e : p = q) : ifP p A B = ifP q A B := by rw [e]
theorem ifP_true (A B : Prop) : ifP True A B = A := by simp [ifP]
theorem ifP_false (A B : Prop) : ifP False A B = B := by simp [ifP]
theorem ifP_not (p A B : Prop) : ifP (¬ p) A B = ifP p B A := by
  apply propext
  constructor
  · rintro ⟨a, b⟩; exact ⟨fun hp => b (fun h => h hp), fun hp => a hp⟩
  · rintro ⟨a, b⟩
    refine ⟨fun hp => b hp, fun hp => ?_⟩
    exact a (Classical.byContradiction hp)
theorem ifP_pos {p A B : Prop} (hp : p) (a : A) : ifP p A B := ⟨fun _ => a, fun h => absurd hp h⟩
theorem ifP_neg {p A B : Prop} (hp : ¬ p) (b : B) : ifP p A B := ⟨fun h => absurd h hp, fun _ => b⟩
theorem ifP_intro {p A B : Prop} (a : p → A) (b : ¬ p → B) : ifP p A B := ⟨a, b⟩
def condP (v : AVal) (A B : Prop) : Prop := ∃ t, v = .bool t ∧ ifP (t = true) A B
@[congr] theorem condP_congr {v w : AVal} {A B : Prop} {d : Prop} (e0 : Dum = d) (e : v = w) : condP v A B = condP w A B := by rw [e]
theorem condP_bool (b : Bool) (A B : Prop) : condP (.bool b) A B = ifP (b = true) A B := by
  apply propext
  constructor
  · rintro ⟨t, e, q⟩; cases e; exact q
  · intro q; exact ⟨b, rfl, q⟩
theorem WP_condP {x : Opd} {a b : ACode} {vs : List AVal} {Q : AExit → List AVal → Heap → Prop} : WP F (.cond x a b) vs h Q ↔ condP (evOpd vs [] x) (WP F a vs h Q) (WP F b vs h Q) := by
  rw [WP_cond]
  constructor
  · rintro ⟨t, e, q⟩
    refine ⟨t, e, fun ht => ?_, fun ht => ?_⟩
    · subst ht; exact q
    · have : t = false := by simpa using ht
      subst this; exact q
  · rintro ⟨t, e, q1, q2⟩
    refine ⟨t, e, ?_⟩
    cases t with
    | true => exact q1 rfl
    | false => exact q2 (by simp)
def guardP (v : AVal) (b : Bool) (A B : Prop) : Prop := ∃ t, wantV v b = some t ∧ ifP (t = true) A B
@[congr] theorem guardP_congr {v w : AVal} {b : Bool} {A B : Prop} {d : Prop} (e0 : Dum = d) (e : v = w) : guardP v b A B = guardP w b A B := by rw [e]
theorem guardP_t (c : Bool) (A B : Prop) : guardP (.bool c) true A B = ifP (c = true) A B := by
  apply propext
  constructor
  · rintro ⟨t, e, q⟩; simp only [wantV, Option.some.injEq] at e; subst e; simpa using q
  · intro q; exact ⟨c == true, rfl, by simpa using q⟩
theorem guardP_f (c : Bool) (A B : Prop) : guardP (.bool c) false A B = ifP (c = true) B A := by
  apply propext
  constructor
  · rintro ⟨t, e, q⟩
    simp only [wantV, Option.some.injEq] at e; subst e
    cases c <;> simpa [ifP] using q
  · intro q
    refine ⟨c == false, rfl, ?_⟩
    cases c <;> simpa [ifP] using q
theorem guardP_tup (b : Bool) (A B : Prop) : guardP (.tup []) b A B = B := by
  apply propext
  constructor
  · rintro ⟨t, e, q⟩; simp only [wantV, Option.some.injEq] at e; subst e; simpa [ifP] using q
  · intro q; exact ⟨false, rfl, by simpa [ifP] using q⟩
theorem RW_guardP {d : ADst} {op : AOp} {x : Opd} {b : Bool} {l : List AOper} {vs ts : List AVal} {K : List AVal → Heap → Prop} :
    RW F (⟨d, op, some (x, b)⟩ :: l) vs ts h K ↔ guardP (evOpd vs ts x) b (RW F (⟨d, op, none⟩ :: l) vs ts h K) (RW F (⟨d, .mov (.c (.tup [])), none⟩ :: l) vs ts h K) := by
  rw [RW_guard, want_V]
  constructor
  · rintro ⟨t, e, q⟩
    refine ⟨t, e, fun ht => ?_, fun ht => ?_⟩
    · subst ht; exact q
    · have : t = false := by simpa using ht
      subst this; exact q
  · rintro ⟨t, e, q1, q2⟩
    refine ⟨t, e, ?_⟩
    cases t with
    | true => exact q1 rfl
    | false => exact q2 (by simp)
theorem XW_pickP {c a b : Opd} : XW F (.pick c a b) ev h K ↔ condP (ev c) (K (ev a) h) (K (ev b) h) := by
  rw [XW_pick]
  constructor
  · rintro ⟨t, e, q⟩
    refine ⟨t, e, fun ht => ?_, fun ht => ?_⟩
    · subst ht; exact q
    · have : t = false := by simpa using ht
      subst this; exact q
  · rintro ⟨t, e, q1, q2⟩
    refine ⟨t, e, ?_⟩
    cases t with
    | true => exact q1 rfl
    | false => exact q2 (by simp)
theorem push_next (h : Heap) (o : Obj) : (h.push o).next = h.next + 1 := _root_.id rfl
theorem put_next (h : Heap) (i : Nat) (o : Option Obj) : (h.put i o).next = h.next := by unfold Heap.put; split <;> rfl
theorem empty_next : Heap.empty.next = 0 := _root_.id rfl
theorem get_push_ne {h : Heap} {o : Obj} {j : Nat} (hj : j ≠ h.next) : (h.push o).get j = h.get j := by
  unfold Heap.get Heap.push
  by_cases hlt : j < h.next
  · have e1 : h.next + 1 - 1 - j = (h.next - 1 - j) + 1 := by omega
    simp only [e1, List.getElem?_cons_succ]
    rw [if_pos (by omega), if_pos hlt]
  · rw [if_neg (by simp; omega), if_neg hlt]
theorem get_put_self {h : Heap} {j : Nat} {o : Option Obj} (hj : j < h.next) (hw : h.l.length = h.next) : (h.put j o).get j = o := by
  unfold Heap.get Heap.put
  rw [if_pos hj]
  simp only [hj, if_true]
  rw [List.getElem?_set_self (by omega)]; rfl
theorem get_put_old {h : Heap} {j : Nat} {o1 : Obj} {o : Option Obj} (hj : h.get j = some o1) : (h.put j o).get j = o := by
  unfold Heap.get at hj
  split at hj
  · rename_i hlt
    have : (h.l[h.next - 1 - j]?).isSome := by
      cases hx : h.l[h.next - 1 - j]? with
      | none => rw [hx] at hj; simp at hj
      | some _ => rfl
    have hl : h.next - 1 - j < h.l.length := by simpa using this
    unfold Heap.get Heap.put
    rw [if_pos hlt]
    simp only [hlt, if_true]
    rw [List.getElem?_set_self hl]; rfl
  · simp at hj
theorem get_put_ne {h : Heap} {i j : Nat} {o : Option Obj} (hj : j ≠ i) : (h.put i o).get j = h.get j := by
  unfold Heap.put
  by_cases hi : i < h.next
  · rw [if_pos hi]
    unfold Heap.get
    show (if j < h.next then ((h.l.set (h.next - 1 - i) o)[h.next - 1 - j]?).join else none) = _
    by_cases hlt : j < h.next
    · rw [if_pos hlt, if_pos hlt, List.getElem?_set_ne (by omega)]
    · rw [if_neg hlt, if_neg hlt]
  · rw [if_neg hi]
theorem put_push_ne {h : Heap} {o : Obj} {j : Nat} (o' : Option Obj) (hj : j < h.next) : (h.push o).put j o' = (h.put j o').push o := put_push_old o' hj
def loadG (n : Nat) (ag : Bool) (off : Nat) : Option Obj → Option AVal
  | some (.row _ _ _ cs) => if off + n ≤ cs.length then mk ag ((cs.drop off).take n) else none
  | _ => none
theorem load_ptr (n : Nat) (ag : Bool) (id off : Nat) (h : Heap) : loadA n ag (.ptr id off) h = loadG n ag off (h.get id) := by
  simp only [loadA, loadG]
  cases h.get id with
  | none => rfl
  | some o => cases o <;> rfl
theorem loadG_row (n : Nat) (ag : Bool) (off : Nat) (mu : Bool) (s : Nat) (a : Bool) (cs : List AVal) : loadG n ag off (some (.row mu s a cs)) = if off + n ≤ cs.length then mk ag ((cs.drop off).take n) else none := rfl
def storeG (n id off : Nat) (x : AVal) (h : Heap) : Option Obj → Option Heap
  | some (.row true s ag cs) => if x.cells.length = n ∧ off + n ≤ cs.length ∧ x.cells.all AVal.one then some (h.put id (some (.row true s ag (setCells cs off x.cells)))) else none
  | _ => none
theorem store_ptr (n id off : Nat) (x : AVal) (h : Heap) : storeA n (.ptr id off) x h = storeG n id off x h (h.get id) := by
  simp only [storeA, storeG]
  cases h.get id with
  | none => rfl
  | some o => cases o with
    | row mu _ _ _ => cases mu <;> rfl
    | tok _ => rfl
    | map _ _ _ => rfl
    | lrec _ _ _ _ _ => rfl
theorem storeG_row (n id off : Nat) (x : AVal) (h : Heap) (s : Nat) (a : Bool) (cs : List AVal) : storeG n id off x h (some (.row true s a cs)) = if x.cells.length = n ∧ off + n ≤ cs.length ∧ x.cells.all AVal.one then some (h.put id (some (.row true s a (setCells cs off x.cells)))) else none := rfl
def Fr (S : Nat → Prop) (h h' : Heap) : Prop := h.next ≤ h'.next ∧ ∀ j, j < h.next → ¬ S j → h'.get j = h.get j
theorem Fr.refl (S : Nat → Prop) (h : Heap) : Fr S h h := ⟨Nat.le_refl _, fun _ _ _ => rfl⟩
theorem extB_fr {h h' : Heap} (a : Fr (fun _ => False) h h') : extB h h' = true := extB_iff.2 ⟨a.1, fun id hid => a.2 id hid (fun q => q)⟩
theorem Fr.trans {S : Nat → Prop} {h h1 h2 : Heap} (a : Fr S h h1) (b : Fr S h1 h2) : Fr S h h2 := ⟨Nat.le_trans a.1 b.1, fun j hj hs => (b.2 j (Nat.lt_of_lt_of_le hj a.1) hs).trans (a.2 j hj hs)⟩
theorem Fr.push {S : Nat → Prop} {h h1 : Heap} (a : Fr S h h1) (o : Obj) : Fr S h (h1.push o) := ⟨Nat.le_trans a.1 (Nat.le_succ _), fun j hj hs => by
  have := a.1
  rw [get_push_ne (by omega)]; exact a.2 j hj hs⟩
theorem Fr.put {S : Nat → Prop} {h h1 : Heap} (a : Fr S h h1) {i : Nat} (hi : S i ∨ h.next ≤ i) (o : Option Obj) : Fr S h (h1.put i o) := ⟨by rw [put_next]; exact a.1, fun j hj hs => by
  rw [get_put_ne]
  · exact a.2 j hj hs
  · rintro rfl
    rcases hi with h' | h'
    · exact hs h'
    · omega⟩
theorem Fr.mono {S T : Nat → Prop} {h h1 : Heap} (a : Fr S h h1) (hi : ∀ j, j < h.next → S j → T j) : Fr T h h1 := ⟨a.1, fun j hj hs => a.2 j hj (fun h' => hs (hi j hj h'))⟩
theorem Fr.get {S : Nat → Prop} {h h1 : Heap} (a : Fr S h h1) {j : Nat} {o : Obj} (hg : h.get j = some o) (hs : ¬ S j) : h1.get j = some o := by rw [a.2 j (get_lt hg) hs]; exact hg
def CV (F : Nat → Option AEnt) (g : Nat) (asx : List AVal) (h : Heap) (K : AVal → Heap → Prop) : Prop := ∃ r h', Gives F g asx h r h' ∧ K r h'
theorem CV_wp {g : Nat} {fn : AFunc} (hf : F g = some (.comp fn)) {args : List AVal} {h : Heap} {K : AVal → Heap → Prop}
    (w : WP F fn.body (fn.slots.map fun s => (args[s]?).getD (.tup [])) h (fun e vs h1 => (e = .normal ∨ e = .ret) ∧ resK fn.results vs h1 K)) : CV F g args h K := gives_wp hf w
theorem CV_mono {g : Nat} {asx : List AVal} {h : Heap} {K K' : AVal → Heap → Prop} (c : CV F g asx h K) (hi : ∀ r h', K r h' → K' r h') : CV F g asx h K' := by
  obtain ⟨r, h', c, k⟩ := c
  exact ⟨r, h', c, hi _ _ k⟩
def callK (F : Nat → Option AEnt) (f : AVal) (asx : List AVal) (h : Heap) (K : AVal → Heap → Prop) : Prop := (∃ g cap, f = .fn g cap ∧ CV F g (asx ++ cap) h K) ∨ ∃ id, f = .yld id ∧ YV F id asx h K
@[congr] theorem callK_congr {f f' : AVal} {asx as' : List AVal} {K : AVal → Heap → Prop} {d : Prop} (e0 : Dum = d) (e : f = f') (e2 : asx = as') : callK F f asx h K = callK F f' as' h K := by rw [e, e2]
@[congr] theorem CV_congr {g : Nat} {asx as' : List AVal} {K : AVal → Heap → Prop} {d : Prop} (e0 : Dum = d) (e2 : asx = as') : CV F g asx h K = CV F g as' h K := by rw [e2]
theorem callK_fn (g : Nat) (cap asx : List AVal) : callK F (.fn g cap) asx h K = CV F g (asx ++ cap) h K := by
  apply propext
  constructor
  · rintro (⟨g', c', e, q⟩ | ⟨_, e, _⟩)
    · cases e; exact q
    · simp at e
  · intro q; exact .inl ⟨g, cap, rfl, q⟩
theorem XW_callK {f : Opd} {args : List Opd} : XW F (.call f args) ev h K ↔ callK F (ev f) (args.map ev) h K := by
  rw [XW_call]
  constructor
  · rintro (⟨g, cap, hf, r, h', e, q⟩ | q)
    · exact .inl ⟨g, cap, hf, r, h', of_GV e, q⟩
    · exact .inr q
  · rintro (⟨g, cap, hf, r, h', e, q⟩ | q)
    · exact .inl ⟨g, cap, hf, r, h', GV_of e, q⟩
    · exact .inr q
theorem callK_yld (id : Nat) (asx : List AVal) (h : Heap) (K : AVal → Heap → Prop) : callK F (.yld id) asx h K = YV F id asx h K := by
  unfold callK
  refine propext ⟨?_, fun q => .inr ⟨id, rfl, q⟩⟩
  rintro (⟨g, cap, e, _⟩ | ⟨i, e, q⟩)
  · simp at e
  · cases e; exact q
theorem w_rf {fid k : Nat} {slots : List Nat} {f : Opd} {vs : List AVal} {Q : AExit → List AVal → Heap → Prop} {g : Nat} {cap : List AVal} (hf : evOpd vs [] f = .fn g cap)
    (c : CV F g (.yld h.next :: cap) (h.push (.lrec .ready fid k slots vs)) (fun _ h2 => afterL h.next vs Q h2)) : WP F (.rfunc fid k slots f) vs h Q := by
  obtain ⟨r, h', c, q⟩ := c
  exact w_rfunc hf c q
def GK (h : Heap) (K : AVal → Heap → Prop) (r : AVal) (h' : Heap) : Prop := extB h h' = true ∧ K r h'
theorem GK_fr {h h' : Heap} {K : AVal → Heap → Prop} {r : AVal} (a : Fr (fun _ => False) h h') (k : K r h') : GK h K r h' := ⟨extB_fr a, k⟩
theorem GK_same (h : Heap) (K : AVal → Heap → Prop) (r : AVal) : GK h K r h = K r h := by
  unfold GK; simp [extB_refl]
theorem XW_gcall {g : Nat} {args : List Opd} : XW F (.gcall g args) ev h K ↔ CV F g (args.map ev) h (GK h K) := by
  constructor
  · intro w
    unfold XW at w
    obtain ⟨n, r, h', hx, hq⟩ := w
    simp only [execA] at hx
    split at hx
    · rename_i r1 h1 hc
      split at hx
      · rename_i he
        simp only [Option.some.injEq, Prod.mk.injEq] at hx
        obtain ⟨rfl, rfl⟩ := hx
        exact ⟨r1, h1, cf_gives hc, he, hq⟩
      · simp at hx
    · simp at hx
  · rintro ⟨r, h', c, he, hq⟩
    exact x_gcall r h' c he hq
theorem PV_cv {g : Nat} {asx : List AVal} {r : AVal} (c : CV F g asx Heap.empty (fun r0 h' => purify h' r0 = some r)) : PV F g asx = some r := by
  obtain ⟨r0, h', c, hp⟩ := c
  exact PV_of c hp
theorem Gives_CV {g : Nat} {asx : List AVal} {r : AVal} {h' : Heap} (c : Gives F g asx h r h') (k : K r h') : CV F g asx h K := ⟨r, h', c, k⟩
theorem XW_build {z : List AVal} {ps : List (Nat × Nat × Opd)} : XW F (.build z ps) ev h K ↔ bindK ((fillA z (ps.map fun p => (p.1, p.2.1, ev p.2.2))).map .agg) K h := by
  refine XW_val (fun _ => rfl) ?_
  simp only [evalA, Option.map_map]; rfl
theorem fillA_nil (z : List AVal) : fillA z [] = some z := rfl
theorem fillA_cons (z : List AVal) (off n : Nat) (v : AVal) (l : List (Nat × Nat × AVal)) : fillA z ((off, n, v) :: l) = if v.cells.length = n ∧ off + n ≤ z.length ∧ v.cells.all AVal.one then fillA (setCells z off v.cells) l else none := rfl
theorem XW_field {off n : Nat} {ag : Bool} {x : Opd} : XW F (.field off n ag x) ev h K ↔ bindK (match ev x with | .agg cs => if off + n ≤ cs.length then mk ag ((cs.drop off).take n) else none | _ => none) K h := by
  refine XW_val (fun _ => rfl) ?_
  simp only [evalA]
  cases ev x <;> first | rfl | skip
  rename_i cs; by_cases h1 : off + n ≤ cs.length <;> simp [h1]
theorem XW_clo {f : Nat} {cap : List Opd} : XW F (.clo f cap) ev h K ↔ bindK (some (.fn f (cap.map ev))) K h := XW_val (fun _ => rfl) rfl
def toIntA (k : IntKind) : AVal → Option AVal
  | .int _ n => some (.int k (k.wrap n))
  | _ => none
theorem toInt_int (k k' : IntKind) (n : Int) : toIntA k (.int k' n) = some (.int k (k.wrap n)) := _root_.id rfl
theorem XW_toInt {k : IntKind} {x : Opd} : XW F (.toInt k x) ev h K ↔ bindK (toIntA k (ev x)) K h := by
  refine XW_val (fun _ => rfl) ?_
  simp only [evalA]; cases ev x <;> rfl
theorem XW_idstr {x : Opd} : XW F (.idstr x) ev h K ↔ bindK (match ev x with | .str s => some (.str s) | _ => none) K h := by
  refine XW_val (fun _ => rfl) ?_
  simp only [evalA]; cases ev x <;> rfl
theorem XW_slice {sz : Nat} {x : Opd} {lo hi : Option Opd} : XW F (.slice sz x lo hi) ev h K ↔ bindK (sliceA sz (ev x) (lo.map ev) (hi.map ev)) K h := XW_val (fun _ => rfl) rfl
theorem XW_sslice {x : Opd} {lo hi : Option Opd} : XW F (.sslice x lo hi) ev h K ↔ bindK (ssliceA (ev x) (lo.map ev) (hi.map ev)) K h := XW_val (fun _ => rfl) rfl
def sidxA (x i : AVal) : Option AVal := match x, i with
  | .str s, .int _ n => if 0 ≤ n then (s[n.toNat]?).map (fun b => .int .u8 b.toNat) else none
  | _, _ => none
theorem XW_sidx {x i : Opd} : XW F (.sidx x i) ev h K ↔ bindK (sidxA (ev x) (ev i)) K h := by
  refine XW_val (fun _ => rfl) ?_
  simp only [evalA, sidxA]
  cases ev x <;> cases ev i <;> first | rfl | skip
  rename_i s k n
  by_cases h0 : 0 ≤ n
  · simp only [h0, if_true]
    cases s[n.toNat]? <;> rfl
  · simp only [h0, if_false]; rfl
theorem sidx_str (s : List UInt8) (k : IntKind) (n : Int) (h0 : 0 ≤ n) (h1 : n < s.length) : sidxA (.str s) (.int k n) = some (.int .u8 (nth s n.toNat).toNat) := by
  have : n.toNat < s.length := by omega
  simp [sidxA, h0, nth, List.getD_eq_getElem?_getD, List.getElem?_eq_getElem this]
theorem boundA_none (d y : Nat) : boundA none d y = some d := rfl
theorem boundA_int (k : IntKind) (i : Int) (d y : Nat) (h0 : 0 ≤ i) (h1 : i ≤ y) : boundA (some (.int k i)) d y = some i.toNat := by simp [boundA, h0, h1]
theorem sslice_str (s : List UInt8) (lo hi : Option AVal) {a b : Nat} (hb : boundA hi s.length s.length = some b) (ha : boundA lo 0 b = some a) : ssliceA (.str s) lo hi = some (.str ((s.drop a).take (b - a))) := by simp only [ssliceA, hb, ha]
theorem XW_appendK {arr : Bool} {ty bytes sz : Nat} {ag : Bool} {x y : Opd} : XW F (.append arr ty bytes sz ag x y) ev h K ↔ bindH (appendA arr ty bytes sz ag (ev x) (ev y) h) K := by
  rw [XW_eval (fun _ => rfl)]; rfl
theorem XW_copyK {sz : Nat} {x y : Opd} : XW F (.copy sz x y) ev h K ↔ bindH (copyA sz (ev x) (ev y) h) K := by
  rw [XW_eval (fun _ => rfl)]; rfl
def mkslA (bytes sz : Nat) (ag : Bool) (z : List AVal) (l c : AVal) (h : Heap) : Option (AVal × Heap) := match l, c with
  | .int _ a, .int _ b => if 0 ≤ a ∧ a ≤ b ∧ b < 9223372036854775808 ∧ bytes * b ≤ 281474976710656 ∧ z.length = sz ∧ z.all AVal.one ∧ small sz then some (.ref h.next 0 a.toNat sz, h.push (.row true sz ag (repl a.toNat z))) else none
  | _, _ => none
theorem XW_mksl {bytes sz : Nat} {ag : Bool} {z : List AVal} {l c : Opd} : XW F (.mksl bytes sz ag z l c) ev h K ↔ bindH (mkslA bytes sz ag z (ev l) (ev c) h) K := by
  rw [XW_eval (fun _ => rfl)]
  have : evalA (.mksl bytes sz ag z l c) ev h = mkslA bytes sz ag z (ev l) (ev c) h := by
    simp only [evalA, mkslA]
    cases ev l <;> cases ev c <;> rfl
  rw [this]; rfl
theorem mksl_int (bytes sz : Nat) (ag : Bool) (z : List AVal) (k k' : IntKind) (a : Int) (h : Heap) (h0 : 0 ≤ a) (h1 : a < 1000000000) (hb : bytes ≤ 100000) (hz : z.length = sz) (ho : z.all AVal.one = true) (hs : small sz = true) : mkslA bytes sz ag z (.int k a) (.int k' a) h = some (.ref h.next 0 a.toNat sz, h.push (.row true sz ag (repl a.toNat z))) := by
  have : (bytes : Int) * a ≤ 281474976710656 := by
    have h2 : (bytes : Int) * a ≤ 100000 * 1000000000 := Int.mul_le_mul (by omega) (by omega) h0 (by omega)
    omega
  have h3 : a < 9223372036854775808 := by omega
  simp [mkslA, h0, h3, this, hz, ho, hs]
def litA (mode ty n sz : Nat) (ag : Bool) (z : List AVal) (fl : Option (List AVal)) (h : Heap) : Option (AVal × Heap) := match fl with
    | some cs =>
      if !(decide (z.length = sz) && z.all AVal.one && decide (n * sz ≤ 16777216) && small sz) then none else
      if mode = 2 then some (.ref h.next 0 n sz, h.push (.row true sz ag cs))
      else if mode = 3 then (match purifyL h cs, freeze h (refIdsL cs) with
        | some cs, some h => match chunk sz ag n cs with
          | none => none
          | some xs => some (.sl xs .none, h)
        | _, _ => none)
      else match stripL cs with
        | none => none
        | some cs => match chunk sz ag n cs with
          | none => none
          | some xs => if mode = 1 then some (.sl xs (.own h.next sz), h.push (.tok ty)) else some (.sl xs .none, h)
    | none => none
theorem XW_lit {mode ty n sz : Nat} {ag : Bool} {z : List AVal} {ps : List (Nat × Opd)} : XW F (.lit mode ty n sz ag z ps) ev h K ↔ bindH (litA mode ty n sz ag z (fillA (repl n z) (ps.map fun p => (p.1 * sz, sz, ev p.2))) h) K := by
  rw [XW_eval (fun _ => rfl)]; rfl
theorem lit_none {mode ty n sz : Nat} {ag : Bool} {z : List AVal} {cs cs' xs : List AVal} {h : Heap} (hs : stripL cs = some cs') (hc : chunk sz ag n cs' = some xs) (hm : mode = 0) (hk : (decide (z.length = sz) && z.all AVal.one && decide (n * sz ≤ 16777216) && small sz) = true) :
    litA mode ty n sz ag z (some cs) h = some (.sl xs .none, h) := by
  subst hm
  simp only [litA, hk, hs, hc]; rfl
theorem lit_own {mode ty n sz : Nat} {ag : Bool} {z : List AVal} {cs cs' xs : List AVal} {h : Heap} (hs : stripL cs = some cs') (hc : chunk sz ag n cs' = some xs) (hm : mode = 1) (hk : (decide (z.length = sz) && z.all AVal.one && decide (n * sz ≤ 16777216) && small sz) = true) :
    litA mode ty n sz ag z (some cs) h = some (.sl xs (.own h.next sz), h.push (.tok ty)) := by
  subst hm
  simp only [litA, hk, hs, hc]; rfl
theorem lit_ref {mode ty n sz : Nat} {ag : Bool} {z : List AVal} {cs : List AVal} {h : Heap} (hm : mode = 2) (hk : (decide (z.length = sz) && z.all AVal.one && decide (n * sz ≤ 16777216) && small sz) = true) :
    litA mode ty n sz ag z (some cs) h = some (.ref h.next 0 n sz, h.push (.row true sz ag cs)) := by
  subst hm
  simp only [litA, hk]; rfl
theorem XW_x {op : XOp} {args : List Opd} : XW F (.x op args) ev h K ↔ bindH (evalX op (args.map ev) h) K := by
  rw [XW_eval (fun _ => rfl)]; rfl
theorem X_mkmap (kd : KD) (h : Heap) : evalX (.mkmap kd) [] h = some (.mp h.next, h.push (.map kd 0 [])) := _root_.id rfl
def lookM (kd : KD) (z : AVal) (ok : Bool) (k : AVal) (h : Heap) : Option Obj → Option (AVal × Heap)
  | some (.map kd' _ es) => if kd' = kd then (match findE kd k es 0 with
        | some (_, v) => some (if ok then .tup [v, .bool true] else v, h)
        | none => some (if ok then .tup [z, .bool false] else z, h)) else none
  | _ => none
theorem X_mlook (kd : KD) (z : AVal) (ok : Bool) (id : Nat) (k : AVal) (h : Heap) (hk : isKey kd k = true) : evalX (.mlook kd z ok) [.mp id, k] h = lookM kd z ok k h (h.get id) := by
  simp only [evalX, hk, if_true, lookM]
  cases h.get id with
  | none => rfl
  | some o => cases o <;> rfl
theorem lookM_some {kd : KD} {k v : AVal} {i : Nat} {es : List (Nat × AVal × AVal)} (e : findE kd k es 0 = some (i, v)) (z : AVal) (ok : Bool) (h : Heap) (c : Nat) : lookM kd z ok k h (some (.map kd c es)) = some (if ok then .tup [v, .bool true] else v, h) := by
  simp [lookM, e]
theorem lookM_none {kd : KD} {k : AVal} {es : List (Nat × AVal × AVal)} (e : findE kd k es 0 = none) (z : AVal) (ok : Bool) (h : Heap) (c : Nat) : lookM kd z ok k h (some (.map kd c es)) = some (if ok then .tup [z, .bool false] else z, h) := by
  simp [lookM, e]
def putM (kd : KD) (id : Nat) (k v : AVal) (h : Heap) : Option Obj → Option (AVal × Heap)
  | some (.map kd' clock es) => if kd' = kd ∧ plain v = true then some (.tup [], h.put id (some (.map kd (mput kd k v clock es).1 (mput kd k v clock es).2))) else none
  | _ => none
theorem X_mput (kd : KD) (id : Nat) (k v : AVal) (h : Heap) (hk : isKey kd k = true) : evalX (.mput kd) [.mp id, k, v] h = putM kd id k v h (h.get id) := by
  simp only [evalX, hk, if_true, putM]
  cases h.get id with
  | none => rfl
  | some o => cases o <;> rfl
theorem putM_map {v : AVal} (hp : plain v = true) (kd : KD) (id : Nat) (k : AVal) (h : Heap) (c : Nat) (es : List (Nat × AVal × AVal)) : putM kd id k v h (some (.map kd c es)) = some (.tup [], h.put id (some (.map kd (mput kd k v c es).1 (mput kd k v c es).2))) := by
  simp [putM, hp]
def mdelE (kd : KD) (k : AVal) (es : List (Nat × AVal × AVal)) : List (Nat × AVal × AVal) := match findE kd k es 0 with
  | some (i, _) => es.eraseIdx i
  | none => es
def delM (kd : KD) (id : Nat) (k : AVal) (h : Heap) : Option Obj → Option (AVal × Heap)
  | some (.map kd' clock es) => if kd' = kd then some (.tup [], h.put id (some (.map kd clock (mdelE kd k es)))) else none
  | _ => none
theorem X_mdel (kd : KD) (id : Nat) (k : AVal) (h : Heap) (hk : isKey kd k = true) : evalX (.mdel kd) [.mp id, k] h = delM kd id k h (h.get id) := by
  simp only [evalX, hk, if_true, delM, mdelE]
  cases h.get id with
  | none => rfl
  | some o => cases o <;> first | rfl | skip
              rename_i kd' c es
              by_cases hkd : kd' = kd
              · simp only [hkd, if_true]; cases findE kd k es 0 <;> rfl
              · simp [hkd]
theorem delM_map {kd : KD} {id : Nat} {k : AVal} {h : Heap} {c : Nat} {es : List (Nat × AVal × AVal)} : delM kd id k h (some (.map kd c es)) = some (.tup [], h.put id (some (.map kd c (mdelE kd k es)))) := by
  simp [delM]
theorem isKey_int (k : IntKind) (n : Int) : isKey (.int k) (.int k n) = true := by simp [isKey]
theorem isKey_str (s : List UInt8) : isKey .str (.str s) = true := rfl
def byteV (b : UInt8) : AVal := .int .u8 b.toNat
theorem X_s2b_f (s : List UInt8) (h : Heap) (hl : s.length ≤ 1000000) : evalX (.s2b false) [.str s] h = some (.sl (s.map byteV) .none, h) := by
  simp only [evalX, hl, if_true]; rfl
theorem X_s2b_t (s : List UInt8) (h : Heap) (hl : s.length ≤ 1000000) : evalX (.s2b true) [.str s] h = some (.ref h.next 0 s.length 1, h.push (.row true 1 false (s.map byteV))) := by
  simp only [evalX, hl, if_true]; rfl
theorem u8cell_byte (b : UInt8) : u8cell (byteV b) = true := by
  have := b.toNat_lt
  simp [u8cell, byteV]; omega
theorem u8all_byte (s : List UInt8) : (s.map byteV).all u8cell = true := by
  simp only [List.all_map, List.all_eq_true, Function.comp_apply]
  exact fun b _ => u8cell_byte b
theorem bytesL_byte : ∀ (s : List UInt8), bytesL (s.map byteV) = some s
  | [] => rfl
  | b :: s => by simp [bytesL, byteV, bytesL_byte s]
theorem flat_byte (s : List UInt8) : flat (s.map byteV) = s.map byteV := by
  induction s with
  | nil => rfl
  | cons b s ih => simp only [flat, List.map_cons, List.flatMap_cons] at ih ⊢; rw [ih]; rfl
theorem X_b2s_sl (s : List UInt8) (t : Tok) (h : Heap) : evalX .b2s [.sl (s.map byteV) t] h = some (.str s, h) := by
  have he : elemsA h 1 (.sl (s.map byteV) t) = some (s.map byteV) := by
    simp only [elemsA]
    rw [if_pos, flat_byte]
    intro y hy
    cases s with
    | nil => simp at hy
    | cons b s => simp at hy; subst hy; rfl
  simp only [evalX, bytesA, he, u8all_byte, if_true, bytesL_byte, Option.map_some]
def b2sM (off len : Nat) (h : Heap) : Option Obj → Option (AVal × Heap)
  | some (.row _ _ _ cs) => if off + len ≤ cs.length ∧ ((cs.drop off).take len).all u8cell = true then (bytesL ((cs.drop off).take len)).map fun s => (.str s, h) else none
  | _ => none
theorem X_b2s_ref (id off len : Nat) (h : Heap) : evalX .b2s [.ref id off len 1] h = b2sM off len h (h.get id) := by
  simp only [evalX, bytesA, elemsA, if_true, b2sM]
  cases h.get id with
  | none => rfl
  | some o =>
    cases o <;> first | rfl | skip
    rename_i mu sz ag cs
    simp only [Nat.mul_one]
    by_cases h1 : off + len ≤ cs.length
    · simp only [h1, if_true, true_and]
    · simp only [h1, if_false, false_and]
theorem b2sM_row {off len : Nat} {h : Heap} {mu : Bool} {sz : Nat} {ag : Bool} {cs : List AVal} {s : List UInt8} (hl : off + len ≤ cs.length) (hs : (cs.drop off).take len = s.map byteV) : b2sM off len h (some (.row mu sz ag cs)) = some (.str s, h) := by
  have h1 := u8all_byte s
  simp only [b2sM, hs, h1, hl, and_self, if_true, bytesL_byte, Option.map_some]
def asM (id off n sz : Nat) (h : Heap) : Option Obj → Option (AVal × Heap)
  | some (.row _ _ _ cs) => if off + n * sz ≤ cs.length ∧ 0 < sz then some (.ref id off n sz, h) else none
  | _ => none
theorem X_as_ff (n sz : Nat) (ag : Bool) (id off : Nat) (h : Heap) : evalX (.aslice n sz ag false false) [.ptr id off] h = asM id off n sz h (h.get id) := by
  simp only [evalX, boundA, asM]
  cases h.get id with
  | none => rfl
  | some o => cases o <;> simp
theorem asM_row {id off n sz : Nat} {h : Heap} {mu : Bool} {s : Nat} {ag : Bool} {cs : List AVal} (hl : off + n * sz ≤ cs.length) (hp : 0 < sz) : asM id off n sz h (some (.row mu s ag cs)) = some (.ref id off n sz, h) := by
  simp [asM, hl, hp]
def asM2 (id off n sz : Nat) (b : Int) (h : Heap) : Option Obj → Option (AVal × Heap)
  | some (.row _ _ _ cs) => if off + n * sz ≤ cs.length ∧ 0 < sz ∧ 0 ≤ b ∧ b ≤ n then some (.ref id off b.toNat sz, h) else none
  | _ => none
theorem X_as_ft (n sz : Nat) (ag : Bool) (id off : Nat) (k : IntKind) (b : Int) (h : Heap) (h0 : 0 ≤ b) (h1 : b ≤ n) : evalX (.aslice n sz ag false true) [.ptr id off, .int k b] h = asM2 id off n sz b h (h.get id) := by
  simp only [evalX, boundA, asM2, if_true, List.head?_cons, h0, h1, and_self, Bool.false_eq_true, if_false]
  cases h.get id with
  | none => rfl
  | some o => cases o <;> simp
theorem asM2_row {id off n sz : Nat} {b : Int} {h : Heap} {mu : Bool} {s : Nat} {ag : Bool} {cs : List AVal} (hl : off + n * sz ≤ cs.length) (hp : 0 < sz) (h0 : 0 ≤ b) (h1 : b ≤ n) : asM2 id off n sz b h (some (.row mu s ag cs)) = some (.ref id off b.toNat sz, h) := by
  simp [asM2, hl, hp, h0, h1]
theorem X_s2ap_sl (n sz : Nat) (s : List UInt8) (t : Tok) (h : Heap) (hl : n ≤ s.length) (hn : 0 < n) (hz : sz = 1) : evalX (.s2ap n sz) [.sl (s.map byteV) t] h = some (.rp ((s.take n).map byteV), h) := by
  subst hz
  simp only [evalX]
  rw [if_pos, flat_byte, Nat.mul_one, List.map_take]
  refine ⟨by simpa using hl, hn, fun y hy => ?_⟩
  cases s with
  | nil => simp at hy
  | cons b s => simp at hy; subst hy; rfl
theorem X_slice30_sl (sz : Nat) (xs : List AVal) (t : Tok) (k k' : IntKind) (h : Heap) : evalX (.slice30 sz) [.sl xs t, .int k 0, .int k' 0] h = some (.sl [] (if t = .nil then .nil else .full), h) := rfl
theorem X_slice30_ref (sz a b c d : Nat) (k k' : IntKind) (h : Heap) : evalX (.slice30 sz) [.ref a b c d, .int k 0, .int k' 0] h = some (.sl [] .full, h) := rfl
theorem iaddr_map {α : Type} [Inhabited α] (x i : Opd) {sz : Nat} {l : List α} {f : α → AVal} {t : Tok} {k : IntKind} {n : Int} (h : Heap) (h0 : 0 ≤ n) (h1 : n < l.length) :
    valA (.iaddr sz x i) (.sl (l.map f) t) (.int k n) h = if (f (nth l n.toNat)).cells.length = sz then some (.rp (f (nth l n.toNat)).cells) else none := by
  have hlt : n.toNat < l.length := by omega
  have : (l.map f)[n.toNat]? = some (f (nth l n.toNat)) := by
    simp [nth, List.getD_eq_getElem?_getD, List.getElem?_eq_getElem hlt]
  simp only [valA]
  rw [if_pos ⟨h0, by simp; omega⟩]
  simp only [this]
theorem iaddr_refP (x i : Opd) {sz id off len s : Nat} {k : IntKind} {n : Int} (h : Heap) (h0 : 0 ≤ n) (hy : n < len) (hs : s = sz) : valA (.iaddr sz x i) (.ref id off len s) (.int k n) h = some (.ptr id (off + n.toNat * sz)) := by
  simp only [valA, h0, hy, true_and, hs, if_true]
theorem pu_agg (h : Heap) (cs : List AVal) : purify h (.agg cs) = (purifyL h cs).map .agg := by simp only [purify]
theorem pu_tup (h : Heap) (cs : List AVal) : purify h (.tup cs) = (purifyL h cs).map .tup := by simp only [purify]
theorem puL_nil (h : Heap) : purifyL h [] = some [] := by simp only [purifyL]
theorem puL_cons (h : Heap) (x : AVal) (xs : List AVal) : purifyL h (x :: xs) = sc (purify h x) (purifyL h xs) := by
  rw [purifyL]; unfold sc; cases purify h x <;> cases purifyL h xs <;> rfl
theorem pu_ref (h : Heap) (id off len sz : Nat) : purify h (.ref id off len sz) = (readRef h id off len sz).map (.sl · .none) := by simp only [purify]
theorem st_tup (cs : List AVal) : strip (.tup cs) = (stripL cs).map .tup := by simp only [strip]
theorem get_push_eq {h : Heap} {o : Obj} {j : Nat} (hj : j = h.next) : (h.push o).get j = some o := by subst hj; exact get_push h o
theorem put_push_eq {h : Heap} {o o' : Obj} {j : Nat} (hj : j = h.next) : (h.push o).put j (some o') = h.push o' := by subst hj; exact put_push h o o'
theorem ifP_notB (b : Bool) (A B : Prop) : ifP ((!b) = true) A B = ifP (b = true) B A := by cases b <;> simp [ifP]
theorem bin_eql_b (a b : Bool) : binA .eql .bool (.bool a) (.bool b) = some (.bool (a == b)) := rfl
theorem bin_neq_b (a b : Bool) : binA .neq .bool (.bool a) (.bool b) = some (.bool (!(a == b))) := rfl
theorem bin_struct_eql (ks : List CK) (xs ys : List AVal) : binA .eql (.struct ks) (.agg xs) (.agg ys) = (cellsEq ks xs ys).map .bool := rfl
theorem bin_struct_neq (ks : List CK) (xs ys : List AVal) : binA .neq (.struct ks) (.agg xs) (.agg ys) = (cellsEq ks xs ys).map (fun b => .bool (!b)) := rfl
theorem bin_add_s (a b : List UInt8) (hl : a.length + b.length ≤ 9223372036854775807) : binA .add .arith (.str a) (.str b) = some (.str (a ++ b)) := by simp [binA, strBin, hl]
theorem bin_and_i (k : IntKind) (a b : Int) : binA .and .arith (.int k a) (.int k b) = some (.int k (k.wrap (BitVec.ofInt k.bits a &&& BitVec.ofInt k.bits b).toNat)) := by simp [binA, intBin]
theorem bin_fn (op : BinOp) (x y : AVal) : binA op .fn x y = cmpA op (fnEq x y) := rfl
theorem bin_sl (op : BinOp) (x y : AVal) : binA op .sl x y = cmpA op (slEq x y) := rfl
theorem bin_ptr (op : BinOp) (x y : AVal) : binA op .ptr x y = cmpA op (ptrEq x y) := rfl
def evS (n : Nat) (vs ts : List AVal) : Opd → AVal
  | .v i => (vs[i]?).getD .bad
  | .t k => if k < n then (ts[n - 1 - k]?).getD .bad else .bad
  | .c x => x
def padT (n : Nat) (ts : List AVal) : List AVal := ts.take n ++ List.replicate (n - ts.length) .bad
theorem padT_length (n : Nat) (ts : List AVal) : (padT n ts).length = n := by simp [padT]; omega
theorem padT_cons (n : Nat) (r : AVal) (ts : List AVal) : padT (n + 1) (r :: ts) = r :: padT n ts := by simp [padT]
theorem padT_get (n i : Nat) (ts : List AVal) (hi : i < n) : ((padT n ts)[i]?).getD .bad = (ts[i]?).getD .bad := by
  unfold padT
  by_cases h1 : i < ts.length
  · rw [List.getElem?_append_left (by simp; omega), List.getElem?_take, if_pos hi]
  · rw [List.getElem?_append_right (by simp; omega), List.getElem?_replicate, List.getElem?_eq_none (by omega : ts.length ≤ i)]
    split <;> rfl
theorem evS_eq {n : Nat} {vs ts : List AVal} : evOpd vs (padT n ts).reverse = evS n vs ts := by
  funext x
  cases x with
  | v i => rfl
  | c x => rfl
  | t k =>
    simp only [evOpd, evS]
    have hn := padT_length n ts
    by_cases hk : k < n
    · rw [if_pos hk, List.getElem?_reverse (by omega), hn, padT_get _ _ _ (by omega)]
    · rw [if_neg hk, List.getElem?_eq_none (by simp; omega)]; rfl
def RV (F : Nat → Option AEnt) (l : List AOper) (n : Nat) (vs ts : List AVal) (h : Heap) (K : List AVal → Heap → Prop) : Prop := RW F l vs (padT n ts).reverse h K
@[congr] theorem RV_congr {l : List AOper} {n n' : Nat} {vs vs' ts ts' : List AVal} {h h' : Heap} {K : List AVal → Heap → Prop} {d : Prop} (e0 : Dum = d) (e1 : n = n') (e2 : vs = vs') (e3 : ts = ts') (e4 : h = h') : RV F l n vs ts h K = RV F l n' vs' ts' h' K := by rw [e1, e2, e3, e4]
@[congr] theorem WP_congr {c : ACode} {vs vs' : List AVal} {h h' : Heap} {Q : AExit → List AVal → Heap → Prop} {d : Prop} (e0 : Dum = d) (e2 : vs = vs') (e4 : h = h') : WP F c vs h Q = WP F c vs' h' Q := by rw [e2, e4]
theorem WP_opsV {l : List AOper} {vs : List AVal} {Q : AExit → List AVal → Heap → Prop} : WP F (.ops l) vs h Q ↔ RV F l 0 vs [] h (Q .normal) := by
  rw [WP_ops]
  exact Iff.rfl
theorem RV_nil {n : Nat} {vs ts : List AVal} {K : List AVal → Heap → Prop} : RV F [] n vs ts h K ↔ K vs h := by
  unfold RV
  rw [RW_nil]
theorem RV_exec {n : Nat} {d : ADst} {op : AOp} {l : List AOper} {vs ts : List AVal} {K : List AVal → Heap → Prop} :
    RV F (⟨d, op, none⟩ :: l) n vs ts h K ↔ XW F op (evS n vs ts) h (fun r h' => RV F l (n + 1) (putV d vs r) (putT d r :: ts) h' K) := by
  unfold RV
  rw [RW_exec, evS_eq]
  simp only [padT_cons, List.reverse_cons]
theorem RV_guardP {n : Nat} {d : ADst} {op : AOp} {x : Opd} {b : Bool} {l : List AOper} {vs ts : List AVal} {K : List AVal → Heap → Prop} :
    RV F (⟨d, op, some (x, b)⟩ :: l) n vs ts h K ↔ guardP (evS n vs ts x) b (RV F (⟨d, op, none⟩ :: l) n vs ts h K) (RV F (⟨d, .mov (.c (.tup [])), none⟩ :: l) n vs ts h K) := by
  unfold RV
  rw [RW_guardP, evS_eq]
theorem evS_v (n : Nat) (vs ts : List AVal) (i : Nat) : evS n vs ts (.v i) = (vs[i]?).getD .bad := _root_.id rfl
theorem evS_t (n : Nat) (vs ts : List AVal) (k : Nat) : evS n vs ts (.t k) = if k < n then (ts[n - 1 - k]?).getD .bad else .bad := _root_.id rfl
theorem evS_c (n : Nat) (vs ts : List AVal) (x : AVal) : evS n vs ts (.c x) = x := _root_.id rfl
attribute [irreducible] RV
theorem toNat_pred (a : Int) : (a - 1).toNat = a.toNat - 1 := by omega
theorem toNat_succ (i : Nat) : ((i : Int) + 1).toNat = i + 1 := by omega
theorem decide_tt {p : Prop} [Decidable p] (h : p) : decide p = true := decide_eq_true h
end Go.Abs

set_option linter.unusedSectionVars false
namespace Go.Abs
variable {α : Type} [Inhabited α] {f : α → AVal} {sz : Nat}
theorem flat_cons (x : AVal) (xs : List AVal) : flat (x :: xs) = x.cells ++ flat xs := rfl
theorem flat_nil : flat [] = [] := rfl
theorem flat_appendF (xs ys : List AVal) : flat (xs ++ ys) = flat xs ++ flat ys := by simp [flat]
theorem flatm_len (hf : ∀ x, (f x).cells.length = sz) : ∀ l : List α, (flat (l.map f)).length = l.length * sz
  | [] => by simp [flat]
  | x :: l => by
    have := flatm_len hf l
    simp only [List.map_cons, flat_cons, List.length_append, hf, this, List.length_cons, Nat.add_mul]
    omega
theorem flatm_drop (hf : ∀ x, (f x).cells.length = sz) : ∀ (l : List α) (n : Nat), (flat (l.map f)).drop (n * sz) = flat ((l.drop n).map f)
  | l, 0 => by simp
  | [], n + 1 => by simp [flat]
  | x :: l, n + 1 => by
    have := flatm_drop hf l n
    simp only [List.map_cons, flat_cons, List.drop_succ_cons]
    rw [← this, Nat.add_mul, Nat.one_mul, Nat.add_comm (n * sz) sz, ← List.drop_drop, List.drop_left' (hf x)]
theorem flatm_get (hf : ∀ x, (f x).cells.length = sz) (l : List α) {n k m : Nat} (hn : n < l.length) (hk : k + m ≤ sz) :
    ((flat (l.map f)).drop (n * sz + k)).take m = ((f (nth l n)).cells.drop k).take m := by
  rw [← List.drop_drop, flatm_drop hf, List.drop_eq_getElem_cons hn, List.map_cons, flat_cons, nth_eq hn]
  have := hf l[n]
  rw [List.drop_append_of_le_length (by omega), List.take_append_of_le_length (by simp; omega)]
theorem flatm_bound (hf : ∀ x, (f x).cells.length = sz) (l : List α) {n k m : Nat} (hn : n < l.length) (hk : k + m ≤ sz) : n * sz + k + m ≤ (flat (l.map f)).length := by
  rw [flatm_len hf]
  have : (n + 1) * sz ≤ l.length * sz := Nat.mul_le_mul_right _ hn
  rw [Nat.add_mul] at this
  omega
theorem loadG_flat (hf : ∀ x, (f x).cells.length = sz) (l : List α) {n k m : Nat} (ag : Bool) (mu : Bool) (s : Nat) (a : Bool) (hn : n < l.length) (hk : k + m ≤ sz) :
    loadG m ag (n * sz + k) (some (.row mu s a (flat (l.map f)))) = mk ag (((f (nth l n)).cells.drop k).take m) := by
  rw [loadG_row, if_pos (flatm_bound hf l hn hk), flatm_get hf l hn hk]
theorem loadG_flat0 (hf : ∀ x, (f x).cells.length = sz) (l : List α) {n m : Nat} (ag : Bool) (mu : Bool) (s : Nat) (a : Bool) (hn : n < l.length) (hk : m ≤ sz) :
    loadG m ag (n * sz) (some (.row mu s a (flat (l.map f)))) = mk ag ((f (nth l n)).cells.take m) := by
  have := loadG_flat hf l ag mu s a hn (k := 0) (m := m) (by omega)
  simpa using this
theorem loadG_flat1 (hf : ∀ x, (f x).cells.length = 1) (l : List α) {n m : Nat} (ag : Bool) (mu : Bool) (s : Nat) (a : Bool) (hn : n < l.length) (hk : m ≤ 1) :
    loadG m ag (n * 1) (some (.row mu s a (flat (l.map f)))) = mk ag ((f (nth l n)).cells.take m) := loadG_flat0 hf l ag mu s a hn hk
theorem setCells_append_right : ∀ (ys a b : List AVal) (k : Nat), setCells (a ++ b) (a.length + k) ys = a ++ setCells b k ys
  | [], a, b, k => by simp [setCells]
  | y :: ys, a, b, k => by
    simp only [setCells]
    rw [List.set_append_right _ _ (by omega), show a.length + k - a.length = k by omega, show a.length + k + 1 = a.length + (k + 1) by omega, setCells_append_right ys]
theorem setCells_append_left : ∀ (ys a b : List AVal) (k : Nat), k + ys.length ≤ a.length → setCells (a ++ b) k ys = setCells a k ys ++ b
  | [], a, b, k, _ => by simp [setCells]
  | y :: ys, a, b, k, h => by
    simp only [setCells, List.length_cons] at h ⊢
    rw [List.set_append_left _ _ (by omega), setCells_append_left ys _ _ _ (by simp; omega)]
theorem setCells_length : ∀ (ys a : List AVal) (k : Nat), (setCells a k ys).length = a.length
  | [], a, k => rfl
  | y :: ys, a, k => by simp only [setCells]; rw [setCells_length ys]; simp
theorem setCells_flat (hf : ∀ x, (f x).cells.length = sz) : ∀ (l : List α) {n k : Nat} {ys : List AVal} {x' : α} (hn : n < l.length) (hk : k + ys.length ≤ sz) (hx : (f x').cells = setCells (f (nth l n)).cells k ys),
    setCells (flat (l.map f)) (n * sz + k) ys = flat ((l.set n x').map f)
  | [], n, k, ys, x', hn, _, _ => by simp at hn
  | x :: l, 0, k, ys, x', hn, hk, hx => by
    have h0 : nth (x :: l) 0 = x := rfl
    rw [h0] at hx
    simp only [List.map_cons, flat_cons, Nat.zero_mul, Nat.zero_add, List.set_cons_zero]
    rw [setCells_append_left _ _ _ _ (by rw [hf]; exact hk), hx]
  | x :: l, n + 1, k, ys, x', hn, hk, hx => by
    have h0 : nth (x :: l) (n + 1) = nth l n := rfl
    rw [h0] at hx
    have ih := setCells_flat hf l (n := n) (k := k) (ys := ys) (x' := x') (by simpa using hn) hk hx
    simp only [List.map_cons, flat_cons, List.set_cons_succ]
    rw [← ih, show (n + 1) * sz + k = (f x).cells.length + (n * sz + k) by rw [hf, Nat.add_mul]; omega, setCells_append_right]
theorem storeG_flat (hf : ∀ x, (f x).cells.length = sz) (l : List α) {n k m id : Nat} {v : AVal} {h : Heap} (s : Nat) (a : Bool) (x' : α) (hn : n < l.length) (hv : v.cells.length = m) (hk : k + m ≤ sz) (ho : v.cells.all AVal.one = true) (hx : (f x').cells = setCells (f (nth l n)).cells k v.cells) :
    storeG m id (n * sz + k) v h (some (.row true s a (flat (l.map f)))) = some (h.put id (some (.row true s a (flat ((l.set n x').map f))))) := by
  rw [storeG_row, if_pos ⟨hv, flatm_bound hf l hn hk, ho⟩, setCells_flat hf l hn (by omega) hx]
theorem storeG_flatw (hf : ∀ x, (f x).cells.length = sz) (l : List α) {n id : Nat} {h : Heap} (s : Nat) (a : Bool) (x' : α) (hn : n < l.length) (ho : (f x').cells.all AVal.one = true) :
    storeG sz id (n * sz) (f x') h (some (.row true s a (flat (l.map f)))) = some (h.put id (some (.row true s a (flat ((l.set n x').map f))))) := by
  have hs : ∀ (ys zs : List AVal), zs.length = ys.length → setCells zs 0 ys = ys := by
    intro ys
    have gen : ∀ (ys pre zs : List AVal), zs.length = ys.length → setCells (pre ++ zs) pre.length ys = pre ++ ys := by
      intro ys
      induction ys with
      | nil => intro pre zs h; simp at h; subst h; simp [setCells]
      | cons y ys ih =>
        intro pre zs h
        cases zs with
        | nil => simp at h
        | cons z zs =>
          simp only [setCells]
          rw [List.set_append_right _ _ (Nat.le_refl _), Nat.sub_self, List.set_cons_zero]
          have := ih (pre ++ [y]) zs (by simpa using h)
          simpa using this
    intro zs hz
    simpa using gen ys [] zs hz
  have := storeG_flat hf l (n := n) (k := 0) (m := sz) (id := id) (v := f x') (h := h) s a x' hn (hf x') (by omega) ho (hs _ _ (by rw [hf, hf])).symm
  simpa using this
theorem chunkm (hf : ∀ x, (f x).cells.length = sz) (ag : Bool) (hm : ∀ x, mk ag (f x).cells = some (f x)) : ∀ (l : List α) (rest : List AVal), chunk sz ag l.length (flat (l.map f) ++ rest) = some (l.map f)
  | [], rest => rfl
  | x :: l, rest => by
    have ht : (flat ((x :: l).map f) ++ rest).take sz = (f x).cells := by
      simp only [List.map_cons, flat_cons, List.append_assoc]
      rw [List.take_left' (hf x)]
    have hd : (flat ((x :: l).map f) ++ rest).drop sz = flat (l.map f) ++ rest := by
      simp only [List.map_cons, flat_cons, List.append_assoc]
      rw [List.drop_left' (hf x)]
    simp only [List.length_cons, chunk, ht, hd, hm, chunkm hf ag hm l rest, hf, if_true]
    rfl
theorem stripm {g : α → AVal} (hs : ∀ x, stripL (f x).cells = some (g x).cells) : ∀ (l : List α), stripL (flat (l.map f)) = some (flat (l.map g))
  | [] => rfl
  | x :: l => by
    simp only [List.map_cons, flat_cons]
    exact stripL_append (hs x) (stripm hs l)
theorem readRef_flat {g : α → AVal} (hf : ∀ x, (f x).cells.length = sz) (hg : ∀ x, (g x).cells.length = sz) (ag : Bool) (hm : ∀ x, mk ag (g x).cells = some (g x)) (hs : ∀ x, stripL (f x).cells = some (g x).cells) {h : Heap} {id n : Nat} {mu : Bool} (l : List α) (hr : h.get id = some (.row mu sz ag (flat (l.map f)))) (hn : n ≤ l.length) :
    readRef h id 0 n sz = some ((l.take n).map g) := by
  have hl := flatm_len hf l
  have hle : 0 + n * sz ≤ (flat (l.map f)).length := by rw [hl, Nat.zero_add]; exact Nat.mul_le_mul_right _ hn
  have hst := stripm hs l
  unfold readRef
  simp only [hr, hle, true_or, and_self, if_true, hst, decide_true, Bool.and_true]
  have e1 : flat (l.map g) = flat ((l.take n).map g) ++ flat ((l.drop n).map g) := by
    rw [← flat_appendF, ← List.map_append, List.take_append_drop]
  have := chunkm hg ag hm (l.take n) (flat ((l.drop n).map g))
  rw [List.length_take, Nat.min_eq_left hn, ← e1] at this
  rw [List.drop_zero]
  exact this
theorem repl_flat {zs : List AVal} (z : α) (hz : (f z).cells = zs) : ∀ n, repl n zs = flat ((List.replicate n z).map f)
  | 0 => rfl
  | n + 1 => by
    have := repl_flat z hz n
    simp only [repl] at this ⊢
    rw [List.replicate_succ, List.replicate_succ, List.flatten_cons, List.map_cons, flat_cons, this, hz]
theorem nth_set_self {l : List α} {i : Nat} {x : α} (h : i < l.length) : nth (l.set i x) i = x := by rw [nth_eq (by simpa using h)]; simp
theorem nth_set_ne {l : List α} {i j : Nat} {x : α} (h : i ≠ j) : nth (l.set i x) j = nth l j := by simp [nth, List.getD_eq_getElem?_getD, List.getElem?_set_ne h]
theorem nth_append_left {l m : List α} {i : Nat} (h : i < l.length) : nth (l ++ m) i = nth l i := by simp [nth, List.getD_eq_getElem?_getD, List.getElem?_append_left h]
theorem nth_append_right {l m : List α} {i : Nat} (h : l.length ≤ i) : nth (l ++ m) i = nth m (i - l.length) := by simp [nth, List.getD_eq_getElem?_getD, List.getElem?_append_right h]
theorem nth_replicate {n i : Nat} {x : α} (h : i < n) : nth (List.replicate n x) i = x := by rw [nth_eq (by simpa using h)]; simp
theorem nth_take {l : List α} {n i : Nat} (h : i < n) : nth (l.take n) i = nth l i := by simp [nth, List.getD_eq_getElem?_getD, List.getElem?_take, h]
def Grow (h : Heap) (ty sz : Nat) (tk : Tok) : Prop := tk = .nil ∨ ∃ id, tk = .own id sz ∧ h.get id = some (.tok ty)
theorem append_own {h : Heap} {ty bytes : Nat} {ag : Bool} {l : List α} {tk : Tok} {y : AVal} {ys : List α} (hf : ∀ x, (f x).cells.length = sz) (hm : ∀ x, mk ag (f x).cells = some (f x)) (hs : ∀ x, stripL (f x).cells = some (f x).cells)
    (hy : lenA y = some ys.length) (hn : elemsA h sz y = some (flat (ys.map f))) (hg : Grow h ty sz tk) (hnil : tk = .nil → l = []) (hlen : l.length + ys.length ≤ 1000000) (hb : bytes ≤ 10000) (h0 : 0 < sz) (h1 : sz < 1000000) (hne : ys ≠ []) :
    ∃ h', appendA false ty bytes sz ag (.sl (l.map f) tk) y h = some (.sl ((l ++ ys).map f) (.own h.next sz), h') ∧ h'.next = h.next + 1 ∧ h'.get h.next = some (.tok ty) ∧ (∀ j, j < h.next → (∀ i s, tk = .own i s → j ≠ i) → h'.get j = h.get j) := by
  have hc := chunkm hf ag hm ys []
  rw [List.append_nil] at hc
  have hst := stripm hs ys
  have hroom := roomOk_of (n := l.length + ys.length) hlen hb
  have hroom2 := roomOk_of (n := 0 + ys.length) (bytes := bytes) (by omega) hb
  have hys : ¬ ys.length = 0 := by simpa using hne
  have hsm : small sz = true := by simp [small, h1]
  rcases hg with rfl | ⟨i, rfl, hg⟩
  · have hl := hnil rfl
    subst hl
    refine ⟨h.push (.tok ty), ?_, rfl, get_push _ _, fun j hj _ => get_push_ne (by omega)⟩
    simp only [appendA, hy, hn, hys, if_false, List.map_nil, List.length_nil, hroom2, h0, hsm, decide_true, Bool.and_self, Bool.not_true, Bool.false_eq_true, hst, hc, if_true, List.nil_append]
  · refine ⟨(h.put i none).push (.tok ty), ?_, by rw [push_next, put_next], get_push_eq (by rw [put_next]), fun j hj hne' => ?_⟩
    · simp only [appendA, hy, hn, hys, if_false, List.length_map, hroom, h0, hsm, decide_true, Bool.and_self, Bool.not_true, Bool.false_eq_true, hst, hc, hg, and_self, if_true, List.map_append]
    · rw [get_push_ne (by rw [put_next]; omega), get_put_ne (hne' i _ rfl)]
theorem elems_sl {h : Heap} {l : List α} {t : Tok} (hf : ∀ x, (f x).cells.length = sz) : elemsA h sz (.sl (l.map f) t) = some (flat (l.map f)) := by
  simp only [elemsA]
  rw [if_pos]
  intro y hy
  cases l with
  | nil => simp at hy
  | cons x l => simp at hy; subst hy; exact hf x
theorem lenA_sl {l : List α} {t : Tok} : lenA (.sl (l.map f) t) = some l.length := by simp [lenA]
theorem append_K {K : AVal → Heap → Prop} {h : Heap} {ty bytes : Nat} {ag : Bool} {tk : Tok} {y : AVal} (l ys : List α) (hf : ∀ x, (f x).cells.length = sz) (hm : ∀ x, mk ag (f x).cells = some (f x)) (hs : ∀ x, stripL (f x).cells = some (f x).cells)
    (hy : lenA y = some ys.length) (hn : elemsA h sz y = some (flat (ys.map f))) (hg : Grow h ty sz tk) (hnil : tk = .nil ↔ l = []) (hlen : l.length + ys.length ≤ 1000000) (hb : bytes ≤ 10000) (h0 : 0 < sz) (h1 : sz < 1000000)
    (q : ∀ h' tk', Grow h' ty sz tk' → (tk' = .nil ↔ l ++ ys = []) → h.next ≤ h'.next → (∀ j mu s a cs, h.get j = some (.row mu s a cs) → h'.get j = some (.row mu s a cs)) → (∀ j, j < h.next → (∀ i s, tk = .own i s → j ≠ i) → h'.get j = h.get j) → (∀ i s, tk' = .own i s → tk = .own i s ∨ i = h.next) → K (.sl ((l ++ ys).map f) tk') h') : bindH (appendA false ty bytes sz ag (.sl (l.map f) tk) y h) K := by
  by_cases hne : ys = []
  · subst hne
    refine ⟨_, h, by simp only [appendA, hy, hn, List.length_nil, if_true]; rfl, ?_⟩
    have := q h tk hg (by simpa using hnil) (Nat.le_refl _) (fun _ _ _ _ _ h => h) (fun _ _ _ => rfl) (fun i s e => .inl e)
    rwa [List.append_nil] at this
  · obtain ⟨h', e, e1, e2, e3⟩ := append_own (bytes := bytes) hf hm hs hy hn hg hnil.1 hlen hb h0 h1 hne
    refine ⟨_, h', e, q h' _ (.inr ⟨_, rfl, e2⟩) (by simp [hne]) (by omega) (fun j mu s a cs hj => ?_) e3 (fun i s e => by simp only [Tok.own.injEq] at e; exact .inr e.1.symm)⟩
    rw [e3 j (get_lt hj)]
    · exact hj
    · rintro i s' rfl rfl
      rcases hg with hg | ⟨i', hg, hg2⟩
      · simp at hg
      · simp at hg; rw [← hg.1] at hg2; rw [hg2] at hj; simp at hj
theorem Grow.put {h : Heap} {ty sz id : Nat} {tk : Tok} {mu : Bool} {s : Nat} {a : Bool} {cs : List AVal} (g : Grow h ty sz tk) (hr : h.get id = some (.row mu s a cs)) (o : Option Abs.Obj) : Grow (h.put id o) ty sz tk := by
  rcases g with g | ⟨i, g1, g2⟩
  · exact .inl g
  · exact .inr ⟨i, g1, by rw [get_put_ne]; exact g2; rintro rfl; rw [g2] at hr; simp at hr⟩
theorem Grow.push {h : Heap} {ty sz : Nat} {tk : Tok} (g : Grow h ty sz tk) (o : Abs.Obj) : Grow (h.push o) ty sz tk := by
  rcases g with g | ⟨i, g1, g2⟩
  · exact .inl g
  · exact .inr ⟨i, g1, get_push_old g2⟩
theorem ite_some {β : Type} {c : Prop} [Decidable c] (a : β) (hc : c) : (if c then some a else none) = some a := if_pos hc
theorem ite_mk {c : Prop} [Decidable c] (ag : Bool) (cs : List AVal) (hc : c) : (if c then mk ag cs else none) = mk ag cs := if_pos hc
theorem set_flat (hf : ∀ x, (f x).cells.length = sz) (l : List α) {n k : Nat} {c : AVal} (x' : α) (hn : n < l.length) (hk : k < sz) (hx : (f x').cells = (f (nth l n)).cells.set k c) : (flat (l.map f)).set (n * sz + k) c = flat ((l.set n x').map f) :=
  setCells_flat hf l (ys := [c]) hn (by simp; omega) hx
theorem ints_pick : ∀ (L : List Int) (j : Nat), j < L.length → ∃ v ∈ L, mk false (List.take 1 (List.drop (j * 1) (L.map (.int .i64)))) = some (.int .i64 v)
  | [], j, h => by simp at h
  | x :: L, 0, _ => ⟨x, by simp, rfl⟩
  | x :: L, j + 1, h => by
    obtain ⟨v, h1, h2⟩ := ints_pick L j (by simpa using h)
    exact ⟨v, by simp [h1], by simpa using h2⟩
theorem sslice_ab (s : List UInt8) (k k' : IntKind) (a b : Int) (h0 : 0 ≤ a) (h1 : a ≤ b) (h2 : b ≤ s.length) : ssliceA (.str s) (some (.int k a)) (some (.int k' b)) = some (.str ((s.drop a.toNat).take (b.toNat - a.toNat))) :=
  sslice_str s _ _ (boundA_int k' b _ _ (by omega) h2) (boundA_int k a _ _ h0 (by omega))
theorem sslice_a (s : List UInt8) (k : IntKind) (a : Int) (h0 : 0 ≤ a) (h2 : a ≤ s.length) : ssliceA (.str s) (some (.int k a)) none = some (.str (s.drop a.toNat)) := by
  rw [sslice_str s _ _ (boundA_none _ _) (boundA_int k a _ _ h0 h2), List.take_of_length_le (by simp)]
theorem sslice_b (s : List UInt8) (k : IntKind) (b : Int) (h0 : 0 ≤ b) (h2 : b ≤ s.length) : ssliceA (.str s) none (some (.int k b)) = some (.str (s.take b.toNat)) := by
  rw [sslice_str s _ _ (boundA_int k b _ _ h0 h2) (boundA_none _ _)]; rfl
theorem slice_sl_b (f : α → AVal) (l : List α) {sz : Nat} (t : Tok) (k : IntKind) (b : Int) (h0 : 0 ≤ b) (h2 : b ≤ l.length) (hf : ∀ x, (f x).cells.length = sz) (ht : t = .nil → l = []) : sliceA sz (.sl (l.map f) t) none (some (.int k b)) = some (.sl ((l.take b.toNat).map f) t.sub) := by
  have hb : boundA (some (.int k b)) l.length l.length = some b.toNat := boundA_int k b _ _ h0 h2
  simp only [sliceA, List.length_map, hb, boundA_none, List.drop_zero, Nat.sub_zero, ← List.map_take]
  rw [if_pos]
  refine ⟨fun x hx => ?_, fun e => by rw [ht e]; rfl⟩
  cases l with
  | nil => simp at hx
  | cons y l => simp at hx; subst hx; exact hf y
theorem slice_ref_b (id off len sz : Nat) (k : IntKind) (b : Int) (h0 : 0 ≤ b) (h2 : b ≤ len) : sliceA sz (.ref id off len sz) none (some (.int k b)) = some (.ref id off b.toNat sz) := by
  have hb : boundA (some (.int k b)) len len = some b.toNat := boundA_int k b _ _ h0 h2
  simp only [sliceA, hb, boundA_none, if_true, Nat.zero_mul, Nat.add_zero, Nat.sub_zero]
theorem slice_ref_a (id off len sz : Nat) (k : IntKind) (a : Int) (h0 : 0 ≤ a) (h2 : a ≤ len) : sliceA sz (.ref id off len sz) (some (.int k a)) none = some (.ref id (off + a.toNat * sz) (len - a.toNat) sz) := by
  have hb : boundA (some (.int k a)) 0 len = some a.toNat := boundA_int k a _ _ h0 h2
  simp only [sliceA, hb, boundA_none, if_true]
theorem repl_zero (z : List AVal) : repl 0 z = [] := rfl
theorem repl_succ (n : Nat) (z : List AVal) : repl (n + 1) z = z ++ repl n z := by simp [repl, List.replicate_succ]
def chunkO (sz : Nat) (ag : Bool) (n : Nat) : Option (List AVal) → Option (List AVal)
  | some cs => chunk sz ag n cs
  | none => none
def consO (sz : Nat) : Option AVal → Option (List AVal) → Option (List AVal)
  | some x, some xs => if x.cells.length = sz then some (x :: xs) else none
  | _, _ => none
theorem chunkO_some (sz : Nat) (ag : Bool) (n : Nat) (cs : List AVal) : chunkO sz ag n (some cs) = chunk sz ag n cs := _root_.id rfl
theorem consO_some (sz : Nat) (x : AVal) (xs : List AVal) : consO sz (some x) (some xs) = if x.cells.length = sz then some (x :: xs) else none := _root_.id rfl
theorem chunk_z (sz : Nat) (ag : Bool) (cs : List AVal) : chunk sz ag 0 cs = some [] := _root_.id rfl
theorem chunk_s (sz : Nat) (ag : Bool) (n : Nat) (cs : List AVal) : chunk sz ag (n + 1) cs = consO sz (mk ag (cs.take sz)) (chunk sz ag n (cs.drop sz)) := by
  rw [chunk]; unfold consO
  cases mk ag (cs.take sz) <;> cases chunk sz ag n (cs.drop sz) <;> rfl
theorem lit0 {ty n sz : Nat} {ag : Bool} {z cs : List AVal} {h : Heap} (hk : (decide (z.length = sz) && z.all AVal.one && decide (n * sz ≤ 16777216) && small sz) = true) :
    litA 0 ty n sz ag z (some cs) h = (chunkO sz ag n (stripL cs)).map (fun xs => (.sl xs .none, h)) := by
  simp only [litA, hk]
  cases stripL cs with
  | none => rfl
  | some cs => simp only [chunkO]; cases chunk sz ag n cs <;> rfl
theorem lit2 {ty n sz : Nat} {ag : Bool} {z cs : List AVal} {h : Heap} (hk : (decide (z.length = sz) && z.all AVal.one && decide (n * sz ≤ 16777216) && small sz) = true) :
    litA 2 ty n sz ag z (some cs) h = some (.ref h.next 0 n sz, h.push (.row true sz ag cs)) := by
  simp only [litA, hk]; rfl
end Go.Abs

namespace Go.Abs
theorem aI {a b : Prop} (x : a) (y : b) : a ∧ b := ⟨x, y⟩
theorem cells_bool (b : Bool) : (AVal.bool b).cells = [(AVal.bool b)] := _root_.id rfl
theorem one_bool (b : Bool) : (AVal.bool b).one = true := _root_.id rfl
theorem cells_int (k : IntKind) (n : Int) : (AVal.int k n).cells = [(AVal.int k n)] := _root_.id rfl
theorem one_int (k : IntKind) (n : Int) : (AVal.int k n).one = true := _root_.id rfl
theorem cells_str (s : List UInt8) : (AVal.str s).cells = [(AVal.str s)] := _root_.id rfl
theorem one_str (s : List UInt8) : (AVal.str s).one = true := _root_.id rfl
theorem cells_sl (xs : List AVal) (t : Tok) : (AVal.sl xs t).cells = [(AVal.sl xs t)] := _root_.id rfl
theorem one_sl (xs : List AVal) (t : Tok) : (AVal.sl xs t).one = true := _root_.id rfl
theorem cells_nilptr : AVal.nilptr.cells = [AVal.nilptr] := _root_.id rfl
theorem one_nilptr : AVal.nilptr.one = true := _root_.id rfl
theorem cells_ptr (i o : Nat) : (AVal.ptr i o).cells = [(AVal.ptr i o)] := _root_.id rfl
theorem one_ptr (i o : Nat) : (AVal.ptr i o).one = true := _root_.id rfl
theorem cells_ref (a b c d : Nat) : (AVal.ref a b c d).cells = [(AVal.ref a b c d)] := _root_.id rfl
theorem one_ref (a b c d : Nat) : (AVal.ref a b c d).one = true := _root_.id rfl
theorem cells_fn (f : Nat) (c : List AVal) : (AVal.fn f c).cells = [(AVal.fn f c)] := _root_.id rfl
theorem one_fn (f : Nat) (c : List AVal) : (AVal.fn f c).one = true := _root_.id rfl
theorem cells_nilfn : AVal.nilfn.cells = [AVal.nilfn] := _root_.id rfl
theorem one_nilfn : AVal.nilfn.one = true := _root_.id rfl
theorem cells_nilif : AVal.nilif.cells = [AVal.nilif] := _root_.id rfl
theorem one_nilif : AVal.nilif.one = true := _root_.id rfl
theorem cells_agg (cs : List AVal) : (AVal.agg cs).cells = cs := _root_.id rfl
theorem set_nil (cs : List AVal) (i : Nat) : setCells cs i [] = cs := _root_.id rfl
theorem set_cons (cs : List AVal) (i : Nat) (x : AVal) (xs : List AVal) : setCells cs i (x :: xs) = setCells (cs.set i x) (i + 1) xs := _root_.id rfl
def pre := aI @WP_block (aI @XW_gcall (aI @XW_callK (aI @WP_seq (aI @WP_opsV (aI @WP_skip (aI @WP_ret (
  aI @WP_exit (aI @WP_condP (aI @sq_normal (aI @sq_ret (aI @sq_exit (aI @bk_normal (
  aI @bk_ret (aI @bk_exit (aI @lp_ret (aI @lp_exit (aI @XW_mov (aI @XW_bin (
  aI @XW_un (aI @XW_load (aI @XW_store (aI @XW_len (aI @XW_slen (aI @XW_faddr (
  aI @XW_nilc (aI @XW_ext (aI @XW_pickP (aI @XW_alloc (aI @XW_box (aI @XW_iaddr (
  aI @XW_pc (aI @XW_build (aI @XW_field (aI @XW_clo (aI @XW_toInt (aI @XW_idstr (
  aI @XW_x (aI @XW_slice (aI @XW_sslice (aI @XW_sidx (aI @XW_appendK (aI @XW_copyK (aI @XW_mksl (
  @XW_lit))))))))))))))))))))))))))))))))))))))))))))
def post := aI @X_mkmap (aI @toInt_int (aI @X_mlook (aI @X_mput (aI @putM_map (aI @X_mdel (aI @delM_map (aI @isKey_int (aI @isKey_str (aI @X_s2b_f (aI @X_s2b_t (aI @X_b2s_sl (aI @X_b2s_ref (aI @X_as_ff (aI @asM_row (aI @X_as_ft (aI @asM2_row (aI @X_s2ap_sl (aI @X_slice30_sl (aI @X_slice30_ref (
  aI @Dum_eq (aI @PC_some (aI @PC_none (aI @stripL_nil (aI @stripL_sc (aI @sc_some (
  aI @sc_none (aI @st_int (aI @st_bool (aI @st_str (aI @st_none (aI @st_nil (
  aI @st_own (aI @st_ref (aI @st_agg (aI @st_tup (aI @strip_pt (aI @map_some' (
  aI @resK_one (aI @resK_nil (aI @resK_two (aI @rvK_v (aI @rvK_c (aI @rvsK_nil (aI @rvsK_cons (aI @callK_yld (aI @GK_same (aI @pu_int (aI @pu_bool (
  aI @pu_str (aI @pu_none (aI @pu_nil (aI @pu_own (aI @pu_agg (aI @pu_tup (
  aI @puL_nil (aI @puL_cons (aI @purify_pt (aI @false_and (aI @and_false (aI @or_true (
  aI @true_or (aI @or_false (aI @false_or (aI @Bool.and_false (aI @Bool.false_and (aI @not_true_eq_false (
  aI @not_false_eq_true (aI @RV_nil (aI @RV_exec (aI @RV_guardP (aI @evS_v (aI @evS_t (
  aI @evS_c (aI @ev_v (aI @ev_t (aI @ev_c (aI @putV_tmp (aI @putV_no (
  aI @putV_var (aI @putT_tmp (aI @putT_no (aI @putT_var (aI @bin_lss (aI @bin_leq (
  aI @bin_gtr (aI @bin_geq (aI @bin_eql (aI @bin_neq (aI @bin_add (aI @bin_sub (
  aI @bin_mul (aI @bin_eql_s (aI @bin_neq_s (aI @bin_add_s (aI @bin_eql_b (aI @bin_neq_b (
  aI @bin_struct_eql (aI @bin_struct_neq (aI @bin_rem (aI @bin_quo (aI @un_not (aI @un_neg (
  aI @load_rp (aI @load_ptr (aI @loadG_row (aI @store_ptr (aI @storeG_row (aI @mk_f (
  aI @mk_t (aI @len_sl (aI @len_ref (aI @slen_str (aI @faddr_rp (aI @faddr_ptr (
  aI @nilc_ptr (aI @nilc_fn (aI @ext_tup (aI @iaddr_map (aI @iaddr_refP (aI @sidx_str (
  aI @boundA_none (aI @boundA_int (aI @ite_some (aI @ite_mk (aI @sslice_ab (aI @sslice_a (
  aI @sslice_b (aI @slice_sl_b (aI @slice_ref_b (aI @slice_ref_a (aI @mksl_int (aI @fillA_nil (
  aI @fillA_cons (aI @callK_fn (aI @condP_bool (aI @guardP_t (aI @guardP_f (aI @guardP_tup (
  aI @ifP_true (aI @ifP_false (aI @ifP_not (aI @ifP_notB (aI @push_next (aI @put_next (
  aI @empty_next (aI @get_push_eq (aI @get_push_ne (aI @get_put_old (aI @get_put_ne (aI @put_push_eq (
  aI @put_push_ne (aI @wrap_in64 (aI @List.length_map.{0, 0} (aI @List.length_append.{0} (aI @List.getElem?_cons_zero.{0} (aI @List.getElem?_cons_succ.{0} (
  aI @List.getElem?_nil.{0} (aI @Option.getD_some.{0} (aI @Option.getD_none.{0} (aI @List.set_cons_zero.{0} (aI @List.set_cons_succ.{0} (aI @List.nil_append.{0} (
  aI @List.cons_append.{0} (aI @List.append_eq.{0} (aI @List.length_cons.{0} (aI @List.length_nil.{0} (aI @List.take_succ_cons.{0} (aI @List.take_zero.{0} (
  aI @List.drop_succ_cons.{0} (aI @List.drop_zero.{0} (aI @List.map_cons.{0, 0} (aI @List.map_nil.{0, 0} (aI @Option.map_some.{0, 0} (aI @Option.map_none.{0, 0} (
  aI @Option.some.injEq.{0} (aI @exists_eq_left.{1} (aI @exists_eq_left'.{1} (aI @AVal.bool.injEq (aI @if_true.{1} (aI @if_false.{1} (
  aI @ite_true.{1} (aI @ite_false.{1} (aI @Bool.false_eq_true (aI @decide_true (aI @decide_false (aI @and_true (
  aI @true_and (aI @List.all_cons.{0} (aI @List.all_nil.{0} (aI @Bool.and_true (aI @Bool.true_and (aI @Bool.and_self (
  aI @Bool.not_true (aI @Bool.not_false (aI @Nat.zero_add (aI @ne_eq.{1} (aI @Nat.le_refl (aI @Nat.add_zero (
  aI @decide_eq_true_eq (aI @Int.toNat_natCast (aI @Int.toNat_zero (aI @repl_zero (aI @repl_succ (aI @chunkO_some (
  aI @consO_some (aI @chunk_z (aI @chunk_s (aI @lit0 (aI @lit2 (aI @List.append_nil.{0} (
  aI @Nat.zero_mul (aI @Nat.one_mul (aI @toNat_pred (aI @toNat_succ (aI @AVal.int.injEq (aI @AVal.str.injEq (
  aI @bindK_some (aI @bindH_some (aI @bindB_some (aI @cells_bool (aI @one_bool (aI @cells_int (
  aI @one_int (aI @cells_str (aI @one_str (aI @cells_sl (aI @one_sl (aI @cells_nilptr (
  aI @one_nilptr (aI @cells_ptr (aI @one_ptr (aI @cells_ref (aI @one_ref (aI @cells_fn (
  aI @one_fn (aI @cells_nilfn (aI @one_nilfn (aI @cells_nilif (aI @one_nilif (aI @cells_agg (
  aI @set_nil (@set_cons))))))))))))))))))))))))))))))))))))))))))))))))))))))))))))))))))))))))))))))))))))))))))))))))))))))))))))))))))))))))))))))))))))))))))))))))))))))))))))))))))))))))))))))))))))))))))))))))))))))))))))))))))))))))))))))))))))))))))))))))))
structure Bx (Q : Prop) : Prop where
  h : Q
theorem go {P Q : Prop} (q : Q) (k : Bx Q → P := by intro q; simp (maxSteps := 4000000) (disch := first | assumption | omega | (simp only [push_next, put_next, empty_next, List.length_cons, List.length_nil] <;> omega) | exact _root_.id rfl | exact _root_.id (fun _ => rfl) | fail) only [↓pre, post, Int.reduceToNat, Int.reduceEq, Int.reduceLT, Int.reduceLE, Int.reduceAdd, Int.reduceSub, Int.reduceMul, Int.reduceNeg, Nat.reduceLT, Nat.reduceSub, Nat.reduceMul, Nat.reduceAdd, Nat.reduceLeDiff, reduceIte, reduceCtorEq, Nat.reduceEqDiff, fx]; exact q.1) : P := k ⟨q⟩
theorem goC {P : Prop} (p : P := by simp (maxSteps := 4000000) (disch := first | assumption | omega | (simp only [push_next, put_next, empty_next, List.length_cons, List.length_nil] <;> omega) | exact _root_.id rfl | exact _root_.id (fun _ => rfl) | fail) only [↓pre, post, Int.reduceToNat, Int.reduceEq, Int.reduceLT, Int.reduceLE, Int.reduceAdd, Int.reduceSub, Int.reduceMul, Int.reduceNeg, Nat.reduceLT, Nat.reduceSub, Nat.reduceMul, Nat.reduceAdd, Nat.reduceLeDiff, reduceIte, reduceCtorEq, Nat.reduceEqDiff, fx]) : P := p
theorem goF {P Q : Prop} (q : Q) (k : Bx Q → P := by intro q; simp (maxSteps := 4000000) (disch := first | assumption | omega | (simp only [push_next, put_next, empty_next, List.length_cons, List.length_nil] <;> omega) | exact _root_.id rfl | exact _root_.id (fun _ => rfl) | fail) only [↓pre, post, Int.reduceToNat, Int.reduceEq, Int.reduceLT, Int.reduceLE, Int.reduceAdd, Int.reduceSub, Int.reduceMul, Int.reduceNeg, Nat.reduceLT, Nat.reduceSub, Nat.reduceMul, Nat.reduceAdd, Nat.reduceLeDiff, reduceIte, reduceCtorEq, Nat.reduceEqDiff, fx, eq_false hyp]; exact q.1) : P := k ⟨q⟩
theorem goFc {P : Prop} (p : P := by simp (maxSteps := 4000000) (disch := first | assumption | omega | (simp only [push_next, put_next, empty_next, List.length_cons, List.length_nil] <;> omega) | exact _root_.id rfl | exact _root_.id (fun _ => rfl) | fail) only [↓pre, post, Int.reduceToNat, Int.reduceEq, Int.reduceLT, Int.reduceLE, Int.reduceAdd, Int.reduceSub, Int.reduceMul, Int.reduceNeg, Nat.reduceLT, Nat.reduceSub, Nat.reduceMul, Nat.reduceAdd, Nat.reduceLeDiff, reduceIte, reduceCtorEq, Nat.reduceEqDiff, fx, eq_false hyp]) : P := p
theorem goT {P Q : Prop} (q : Q) (k : Bx Q → P := by intro q; simp (maxSteps := 4000000) (disch := first | assumption | omega | (simp only [push_next, put_next, empty_next, List.length_cons, List.length_nil] <;> omega) | exact _root_.id rfl | exact _root_.id (fun _ => rfl) | fail) only [↓pre, post, Int.reduceToNat, Int.reduceEq, Int.reduceLT, Int.reduceLE, Int.reduceAdd, Int.reduceSub, Int.reduceMul, Int.reduceNeg, Nat.reduceLT, Nat.reduceSub, Nat.reduceMul, Nat.reduceAdd, Nat.reduceLeDiff, reduceIte, reduceCtorEq, Nat.reduceEqDiff, fx, eq_true hyp]; exact q.1) : P := k ⟨q⟩
theorem goTc {P : Prop} (p : P := by simp (maxSteps := 4000000) (disch := first | assumption | omega | (simp only [push_next, put_next, empty_next, List.length_cons, List.length_nil] <;> omega) | exact _root_.id rfl | exact _root_.id (fun _ => rfl) | fail) only [↓pre, post, Int.reduceToNat, Int.reduceEq, Int.reduceLT, Int.reduceLE, Int.reduceAdd, Int.reduceSub, Int.reduceMul, Int.reduceNeg, Nat.reduceLT, Nat.reduceSub, Nat.reduceMul, Nat.reduceAdd, Nat.reduceLeDiff, reduceIte, reduceCtorEq, Nat.reduceEqDiff, fx, eq_true hyp]) : P := p
theorem gI {p A B : Prop} (a : p → A) (b : ¬ p → B) : ifP p A B := ⟨a, b⟩
theorem gP {p A B Q : Prop} (q : Q) (hp : p := by first | assumption | omega) (k : Bx Q → A := by intro q; try simp (maxSteps := 4000000) (disch := first | assumption | omega | (simp only [push_next, put_next, empty_next, List.length_cons, List.length_nil] <;> omega) | exact _root_.id rfl | exact _root_.id (fun _ => rfl) | fail) only [↓pre, post, Int.reduceToNat, Int.reduceEq, Int.reduceLT, Int.reduceLE, Int.reduceAdd, Int.reduceSub, Int.reduceMul, Int.reduceNeg, Nat.reduceLT, Nat.reduceSub, Nat.reduceMul, Nat.reduceAdd, Nat.reduceLeDiff, reduceIte, reduceCtorEq, Nat.reduceEqDiff, fx]; exact q.1) : ifP p A B := ifP_pos hp (k ⟨q⟩)
theorem gPc {p A B : Prop} (hp : p := by first | assumption | omega) (a : A := by simp (maxSteps := 4000000) (disch := first | assumption | omega | (simp only [push_next, put_next, empty_next, List.length_cons, List.length_nil] <;> omega) | exact _root_.id rfl | exact _root_.id (fun _ => rfl) | fail) only [↓pre, post, Int.reduceToNat, Int.reduceEq, Int.reduceLT, Int.reduceLE, Int.reduceAdd, Int.reduceSub, Int.reduceMul, Int.reduceNeg, Nat.reduceLT, Nat.reduceSub, Nat.reduceMul, Nat.reduceAdd, Nat.reduceLeDiff, reduceIte, reduceCtorEq, Nat.reduceEqDiff, fx]) : ifP p A B := ifP_pos hp a
theorem gN {p A B Q : Prop} (q : Q) (hp : ¬ p := by first | assumption | omega) (k : Bx Q → B := by intro q; try simp (maxSteps := 4000000) (disch := first | assumption | omega | (simp only [push_next, put_next, empty_next, List.length_cons, List.length_nil] <;> omega) | exact _root_.id rfl | exact _root_.id (fun _ => rfl) | fail) only [↓pre, post, Int.reduceToNat, Int.reduceEq, Int.reduceLT, Int.reduceLE, Int.reduceAdd, Int.reduceSub, Int.reduceMul, Int.reduceNeg, Nat.reduceLT, Nat.reduceSub, Nat.reduceMul, Nat.reduceAdd, Nat.reduceLeDiff, reduceIte, reduceCtorEq, Nat.reduceEqDiff, fx]; exact q.1) : ifP p A B := ifP_neg hp (k ⟨q⟩)
theorem gNc {p A B : Prop} (hp : ¬ p := by first | assumption | omega) (a : B := by simp (maxSteps := 4000000) (disch := first | assumption | omega | (simp only [push_next, put_next, empty_next, List.length_cons, List.length_nil] <;> omega) | exact _root_.id rfl | exact _root_.id (fun _ => rfl) | fail) only [↓pre, post, Int.reduceToNat, Int.reduceEq, Int.reduceLT, Int.reduceLE, Int.reduceAdd, Int.reduceSub, Int.reduceMul, Int.reduceNeg, Nat.reduceLT, Nat.reduceSub, Nat.reduceMul, Nat.reduceAdd, Nat.reduceLeDiff, reduceIte, reduceCtorEq, Nat.reduceEqDiff, fx]) : ifP p A B := ifP_neg hp a
end Go.Abs

namespace Go.Abs
variable {F : Nat → Option AEnt} {ev : Opd → AVal} {h : Heap} {K : AVal → Heap → Prop}
def aaddrV (len sz : Nat) (x i : AVal) : Option AVal := match x, i with
  | .ptr id off, .int _ n => if 0 ≤ n ∧ n < len then some (.ptr id (off + n.toNat * sz)) else none
  | .rp cs, .int _ n => if 0 ≤ n ∧ n < len then some (.rp (cs.drop (n.toNat * sz))) else none
  | _, _ => none
theorem XW_aaddrK {len sz : Nat} {x i : Opd} : XW F (.aaddr len sz x i) ev h K ↔ bindK (aaddrV len sz (ev x) (ev i)) K h := by
  refine XW_val (fun _ => rfl) ?_
  simp only [evalA, aaddrV]
  cases ev x <;> cases ev i <;> first | rfl | skip
  · rename_i id off k n
    by_cases hc : 0 ≤ n ∧ n < (len : Int)
    · simp only [hc, and_self, if_true, Option.map_some]
    · simp only [hc, if_false, Option.map_none]
  · rename_i cs k n
    by_cases hc : 0 ≤ n ∧ n < (len : Int)
    · simp only [hc, and_self, if_true, Option.map_some]
    · simp only [hc, if_false, Option.map_none]
theorem aaddr_ptr (len sz id off : Nat) (k : IntKind) (n : Int) (h0 : 0 ≤ n) (h1 : n < len) : aaddrV len sz (.ptr id off) (.int k n) = some (.ptr id (off + n.toNat * sz)) := by
  simp only [aaddrV, h0, h1, and_self, if_true]
theorem aaddr_rp (len sz : Nat) (cs : List AVal) (k : IntKind) (n : Int) (h0 : 0 ≤ n) (h1 : n < len) : aaddrV len sz (.rp cs) (.int k n) = some (.rp (cs.drop (n.toNat * sz))) := by
  simp only [aaddrV, h0, h1, and_self, if_true]
def isInt (o : Option AVal) (k : IntKind) (n : Int) : Bool := match o with
  | some (.int k' m) => decide (k' = k) && decide (m = n)
  | _ => false
theorem isInt_eq {o : Option AVal} {k : IntKind} {n : Int} (h : isInt o k n = true) : o = some (.int k n) := by
  unfold isInt at h
  split at h
  · simp at h; obtain ⟨rfl, rfl⟩ := h; rfl
  · simp at h
theorem all_lt {n : Nat} {p : Nat → Bool} (h : (List.range n).all p = true) {i : Nat} (hi : i < n) : p i = true := List.all_eq_true.1 h i (List.mem_range.2 hi)
theorem nth_map {α β : Type} [Inhabited α] [Inhabited β] (f : α → β) (l : List α) {i : Nat} (hi : i < l.length) : nth (l.map f) i = f (nth l i) := by
  simp [nth, List.getD_eq_getElem?_getD, hi]
theorem drop_take1 (l : List AVal) {i : Nat} (hi : i < l.length) : (l.drop i).take 1 = [nth l i] := by
  rw [List.take_one, List.head?_drop, List.getElem?_eq_getElem hi]
  simp [nth, List.getD_eq_getElem?_getD, hi]
theorem load_map {α : Type} [Inhabited α] {f : α → AVal} (l : List α) (i : Nat) (mu : Bool) (s : Nat) (a : Bool) (hi : i < l.length) : loadG 1 false i (some (.row mu s a (l.map f))) = some (f (nth l i)) := by
  rw [loadG_row, if_pos (by rw [List.length_map]; omega), drop_take1 _ (by rw [List.length_map]; omega), nth_map f l hi]; rfl
theorem store_map {α : Type} [Inhabited α] {f : α → AVal} (l : List α) (id i : Nat) (x : α) (h : Heap) (s : Nat) (a : Bool) (hi : i < l.length) (h1 : (f x).cells = [f x]) (h2 : (f x).one = true) : storeG 1 id i (f x) h (some (.row true s a (l.map f))) = some (h.put id (some (.row true s a ((l.set i x).map f)))) := by
  rw [storeG_row, if_pos ⟨by rw [h1]; rfl, by rw [List.length_map]; omega, by rw [h1]; simp [h2]⟩, h1]
  simp only [setCells, List.map_set]
theorem map_drop_take {α : Type} {f : α → AVal} (l : List α) (a b : Nat) : ((l.map f).drop a).take b = ((l.drop a).take b).map f := by rw [List.map_take, List.map_drop]
theorem slice_sl_ab {α : Type} [Inhabited α] (f : α → AVal) (l : List α) {sz : Nat} (t : Tok) (k k' : IntKind) (a b : Int) (h0 : 0 ≤ a) (h1 : a ≤ b) (h2 : b ≤ l.length) (hf : ∀ x, (f x).cells.length = sz) (ht : t = .nil → l = []) :
    sliceA sz (.sl (l.map f) t) (some (.int k a)) (some (.int k' b)) = some (.sl (((l.drop a.toNat).take (b.toNat - a.toNat)).map f) t.sub) := by
  have hb : boundA (some (.int k' b)) l.length l.length = some b.toNat := boundA_int k' b _ _ (by omega) h2
  have ha : boundA (some (.int k a)) 0 b.toNat = some a.toNat := boundA_int k a _ _ h0 (by omega)
  simp only [sliceA, List.length_map, hb, ha, map_drop_take]
  rw [if_pos]
  refine ⟨fun x hx => ?_, fun e => by rw [ht e]; rfl⟩
  cases l with
  | nil => simp at hx
  | cons y l => simp at hx; subst hx; exact hf y
theorem slice_n_ab {α : Type} [Inhabited α] (f : α → AVal) (l : List α) {sz : Nat} (k k' : IntKind) (a b : Int) (h0 : 0 ≤ a) (h1 : a ≤ b) (h2 : b ≤ l.length) (hf : ∀ x, (f x).cells.length = sz) :
    sliceA sz (.sl (l.map f) .none) (some (.int k a)) (some (.int k' b)) = some (.sl (((l.drop a.toNat).take (b.toNat - a.toNat)).map f) .none) := slice_sl_ab f l .none k k' a b h0 h1 h2 hf (by simp)
theorem slice_n_b {α : Type} [Inhabited α] (f : α → AVal) (l : List α) {sz : Nat} (k' : IntKind) (b : Int) (h1 : 0 ≤ b) (h2 : b ≤ l.length) (hf : ∀ x, (f x).cells.length = sz) :
    sliceA sz (.sl (l.map f) .none) none (some (.int k' b)) = some (.sl ((l.take b.toNat).map f) .none) := slice_sl_b f l .none k' b h1 h2 hf (by simp)
theorem sub_none : Tok.none.sub = .none := rfl
theorem byte_len (b : UInt8) : (byteV b).cells.length = 1 := rfl
theorem byte_cells (b : UInt8) : (byteV b).cells = [byteV b] := _root_.id rfl
theorem byte_one (b : UInt8) : (byteV b).one = true := _root_.id rfl
theorem ld_byte (b : UInt8) : loadA 1 false (.rp (byteV b).cells) h = some (byteV b) := rfl
theorem setCells_all : ∀ (ys zs : List AVal), zs.length = ys.length → setCells zs 0 ys = ys := by
  have gen : ∀ (ys pre zs : List AVal), zs.length = ys.length → setCells (pre ++ zs) pre.length ys = pre ++ ys := by
    intro ys
    induction ys with
    | nil => intro pre zs h; simp at h; subst h; simp [setCells]
    | cons y ys ih =>
      intro pre zs h
      cases zs with
      | nil => simp at h
      | cons z zs =>
        simp only [setCells]
        have := ih (pre ++ [y]) zs (by simpa using h)
        simp at this ⊢
        exact this
  intro ys zs h
  have := gen ys [] zs h
  simpa using this
def aidxV (len n : Nat) (ag : Bool) (x i : AVal) : Option AVal := match x, i with
  | .agg cs, .int _ j => if 0 ≤ j ∧ j < len ∧ j.toNat * n + n ≤ cs.length then mk ag ((cs.drop (j.toNat * n)).take n) else none
  | _, _ => none
theorem XW_aidxK {len n : Nat} {ag : Bool} {x i : Opd} : XW F (.aidx len n ag x i) ev h K ↔ bindK (aidxV len n ag (ev x) (ev i)) K h := by
  refine XW_val (fun _ => rfl) ?_
  simp only [evalA, aidxV]
  cases ev x <;> cases ev i <;> first | rfl | skip
  rename_i cs k j
  by_cases hc : 0 ≤ j ∧ j < (len : Int) ∧ j.toNat * n + n ≤ cs.length
  · simp only [hc, and_self, if_true]
  · simp only [hc, if_false, Option.map_none]
theorem aidx_map {α : Type} [Inhabited α] {f : α → AVal} (l : List α) (len : Nat) (k : IntKind) (j : Int) (h0 : 0 ≤ j) (h1 : j < len) (hl : l.length = len) : aidxV len 1 false (.agg (l.map f)) (.int k j) = some (f (nth l j.toNat)) := by
  have h2 : j.toNat < l.length := by omega
  simp only [aidxV]
  rw [if_pos ⟨h0, h1, by rw [List.length_map]; omega⟩, Nat.mul_one, drop_take1 _ (by rw [List.length_map]; omega), nth_map f l h2]; rfl
theorem X_s2ap_ref (n sz id off len : Nat) (h : Heap) (h1 : n ≤ len) (h2 : 0 < n) : evalX (.s2ap n sz) [.ref id off len sz] h = some (.ptr id off, h) := by
  simp [evalX, h1, h2]
def asM3 (id off n sz : Nat) (a : Int) (h : Heap) : Option Obj → Option (AVal × Heap)
  | some (.row _ _ _ cs) => if off + n * sz ≤ cs.length ∧ 0 < sz then some (.ref id (off + a.toNat * sz) (n - a.toNat) sz, h) else none
  | _ => none
theorem X_as_tf (n sz : Nat) (ag : Bool) (id off : Nat) (k : IntKind) (a : Int) (h : Heap) (h0 : 0 ≤ a) (h1 : a ≤ n) : evalX (.aslice n sz ag true false) [.ptr id off, .int k a] h = asM3 id off n sz a h (h.get id) := by
  simp only [evalX, boundA, asM3, if_true, List.head?_cons, h0, h1, and_self, Bool.false_eq_true, if_false]
  cases h.get id with
  | none => rfl
  | some o => cases o <;> rfl
theorem asM3_row {id off n sz : Nat} {a : Int} {h : Heap} {mu : Bool} {s : Nat} {ag : Bool} {cs : List AVal} (hl : off + n * sz ≤ cs.length) (hp : 0 < sz) : asM3 id off n sz a h (some (.row mu s ag cs)) = some (.ref id (off + a.toNat * sz) (n - a.toNat) sz, h) := by
  simp [asM3, hl, hp]
def asM4 (id off n sz : Nat) (a b : Int) (h : Heap) : Option Obj → Option (AVal × Heap)
  | some (.row _ _ _ cs) => if off + n * sz ≤ cs.length ∧ 0 < sz then some (.ref id (off + a.toNat * sz) (b.toNat - a.toNat) sz, h) else none
  | _ => none
theorem X_as_tt (n sz : Nat) (ag : Bool) (id off : Nat) (k k' : IntKind) (a b : Int) (h : Heap) (h0 : 0 ≤ a) (h1 : a ≤ b) (h2 : b ≤ n) : evalX (.aslice n sz ag true true) [.ptr id off, .int k a, .int k' b] h = asM4 id off n sz a b h (h.get id) := by
  have hb : boundA (some (.int k' b)) n n = some b.toNat := boundA_int k' b _ _ (by omega) h2
  have ha : boundA (some (.int k a)) 0 b.toNat = some a.toNat := boundA_int k a _ _ h0 (by omega)
  simp only [evalX, if_true, List.head?_cons, List.tail_cons, ha, hb, asM4]
  cases h.get id with
  | none => rfl
  | some o => cases o <;> rfl
theorem asM4_row {id off n sz : Nat} {a b : Int} {h : Heap} {mu : Bool} {s : Nat} {ag : Bool} {cs : List AVal} (hl : off + n * sz ≤ cs.length) (hp : 0 < sz) : asM4 id off n sz a b h (some (.row mu s ag cs)) = some (.ref id (off + a.toNat * sz) (b.toNat - a.toNat) sz, h) := by
  simp [asM4, hl, hp]
def aR := And.intro @XW_aaddrK (And.intro @aaddr_ptr (And.intro @XW_aidxK (And.intro @X_as_tf (And.intro @X_as_tt (And.intro @X_s2ap_ref (And.intro @Nat.mul_one @List.length_replicate.{0}))))))
theorem CV_hand {g : Nat} {s : List AVal → Heap → Option (AVal × Heap)} (hf : F g = some (.hand s)) {args : List AVal} {h h' : Heap} {r : AVal} (e : s args h = some (r, h')) {K : AVal → Heap → Prop} (k : K r h') : CV F g args h K := by
  refine ⟨r, h', ?_, k⟩
  unfold Gives
  exact ⟨1, by simp [run, hf, e]⟩
end Go.Abs

namespace Go.Sha
open Go Go.Abs
abbrev W := BitVec 32
def rotr (x : W) (n : Nat) : W := x >>> n ||| x <<< (32 - n)
def sg0 (x : W) : W := rotr x 7 ^^^ rotr x 18 ^^^ x >>> 3
def sg1 (x : W) : W := rotr x 17 ^^^ rotr x 19 ^^^ x >>> 10
def bg0 (x : W) : W := rotr x 2 ^^^ rotr x 13 ^^^ rotr x 22
def bg1 (x : W) : W := rotr x 6 ^^^ rotr x 11 ^^^ rotr x 25
def chW (e f g : W) : W := (e &&& f) ^^^ (~~~e &&& g)
def majW (a b c : W) : W := (a &&& b) ^^^ (a &&& c) ^^^ (b &&& c)
structure S8 where
  a : W
  b : W
  c : W
  d : W
  e : W
  f : W
  g : W
  h : W
  deriving Inhabited, DecidableEq
def rnd (s : S8) (k w : W) : S8 :=
  let x := s.h + bg1 s.e + chW s.e s.f s.g + k + w
  let y := bg0 s.a + majW s.a s.b s.c
  ⟨x + y, s.a, s.b, s.c, s.d + x, s.e, s.f, s.g⟩
def bw (b : UInt8) : W := BitVec.ofNat 32 b.toNat
def word4 (a b c d : UInt8) : W := (((((0 : W) <<< 8 ||| bw a) <<< 8 ||| bw b) <<< 8 ||| bw c) <<< 8) ||| bw d
def partW (l : List UInt8) (t : Nat) : Nat → W
  | 0 => 0
  | i + 1 => partW l t i <<< 8 ||| bw (nth l (4 * t + i))
def word0 (l : List UInt8) (t : Nat) : W := partW l t 4
def next (ws : List W) : W := let t := ws.length; nth ws (t - 16) + sg0 (nth ws (t - 15)) + nth ws (t - 7) + sg1 (nth ws (t - 2))
def sched (l : List UInt8) : Nat → List W
  | 0 => []
  | t + 1 => let ws := sched l t; ws ++ [if t < 16 then word0 l t else next ws]
theorem sched_len (l : List UInt8) : ∀ t, (sched l t).length = t
  | 0 => rfl
  | t + 1 => by simp [sched, sched_len l t]
theorem sched_nth (l : List UInt8) {t u : Nat} (h : t < u) : nth (sched l u) t = if t < 16 then word0 l t else next (sched l t) := by
  induction u with
  | zero => omega
  | succ u ih =>
    simp only [sched]
    by_cases e : t = u
    · subst e
      simp [nth, List.getD_eq_getElem?_getD, sched_len]
    · have := ih (by omega)
      rw [← this]
      simp [nth, List.getD_eq_getElem?_getD, List.getElem?_append_left (show t < (sched l u).length by rw [sched_len]; omega)]
theorem sched_take (l : List UInt8) {t u : Nat} (h : t ≤ u) : (sched l u).take t = sched l t := by
  induction u with
  | zero => have : t = 0 := by omega
            subst this; rfl
  | succ u ih =>
    by_cases e : t = u + 1
    · subst e; exact List.take_of_length_le (by rw [sched_len]; omega)
    · simp only [sched]
      rw [List.take_append_of_le_length (by rw [sched_len]; omega)]
      exact ih (by omega)
def kk : List W := [1116352408,1899447441,3049323471,3921009573,961987163,1508970993,2453635748,2870763221,3624381080,310598401,607225278,1426881987,1925078388,2162078206,2614888103,3248222580,3835390401,4022224774,264347078,604807628,770255983,1249150122,1555081692,1996064986,2554220882,2821834349,2952996808,3210313671,3336571891,3584528711,113926993,338241895,666307205,773529912,1294757372,1396182291,1695183700,1986661051,2177026350,2456956037,2730485921,2820302411,3259730800,3345764771,3516065817,3600352804,4094571909,275423344,430227734,506948616,659060556,883997877,958139571,1322822218,1537002063,1747873779,1955562222,2024104815,2227730452,2361852424,2428436474,2756734187,3204031479,3329325298]
def rounds (s : S8) (ws : List W) : Nat → S8
  | 0 => s
  | t + 1 => rnd (rounds s ws t) (nth kk t) (nth ws t)
def add8 (s t : S8) : S8 := ⟨s.a + t.a, s.b + t.b, s.c + t.c, s.d + t.d, s.e + t.e, s.f + t.f, s.g + t.g, s.h + t.h⟩
def compress (s : S8) (l : List UInt8) : S8 := add8 s (rounds s (sched l 64) 64)
def begin8 : S8 := ⟨0x6a09e667, 0xbb67ae85, 0x3c6ef372, 0xa54ff53a, 0x510e527f, 0x9b05688c, 0x1f83d9ab, 0x5be0cd19⟩
def blocks (l : List UInt8) : Nat → S8
  | 0 => begin8
  | n + 1 => compress (blocks l n) ((l.drop (64 * n)).take 64)
def zeros (n : Nat) : Nat := (119 - n % 64) % 64
def len8 (n : Nat) : List UInt8 := (List.range 8).map fun i => UInt8.ofNat (8 * n % 18446744073709551616 / 2 ^ (56 - 8 * i))
def tailP (n : Nat) : List UInt8 := 128 :: (List.replicate (zeros n) 0 ++ len8 n)
def pad (l : List UInt8) : List UInt8 := l ++ tailP l.length
def S8.nthW (s : S8) : Nat → W
  | 0 => s.a | 1 => s.b | 2 => s.c | 3 => s.d | 4 => s.e | 5 => s.f | 6 => s.g | _ => s.h
def outB (s : S8) : List UInt8 := (List.range 32).map fun i => UInt8.ofNat ((s.nthW (i / 4) >>> (24 - 8 * (i % 4))).toNat)
def sum (l : List UInt8) : List UInt8 := outB (blocks (pad l) ((pad l).length / 64))
theorem outB_len (s : S8) : (outB s).length = 32 := by simp [outB]
theorem sum_len (l : List UInt8) : (sum l).length = 32 := outB_len _
theorem len8_len (n : Nat) : (len8 n).length = 8 := by simp [len8]
theorem zeros_lt (n : Nat) : zeros n < 64 := by unfold zeros; omega
theorem zeros_mod (n : Nat) : (n + 1 + zeros n) % 64 = 56 := by unfold zeros; omega
theorem pad_len (l : List UInt8) : (pad l).length = l.length + 1 + zeros l.length + 8 := by simp [pad, tailP, len8_len]; omega
theorem pad_mod (l : List UInt8) : (pad l).length % 64 = 0 := by rw [pad_len]; have := zeros_mod l.length; omega
theorem blocks_append (l r : List UInt8) : ∀ n, 64 * n ≤ l.length → blocks (l ++ r) n = blocks l n
  | 0, _ => rfl
  | n + 1, h => by
    simp only [blocks]
    rw [blocks_append l r n (by omega), List.drop_append_of_le_length (by omega), List.take_append_of_le_length (by simp; omega)]
def wV (x : W) : AVal := .int .u32 (x.toNat : Int)
theorem u32_wrap (n : Int) : IntKind.u32.wrap n = n % 4294967296 := by
  have h1 : IntKind.u32.bits = 32 := rfl
  have h2 : IntKind.u32.signed = false := rfl
  simp [IntKind.wrap, h1, h2]
theorem u8_wrap (n : Int) : IntKind.u8.wrap n = n % 256 := by
  have h1 : IntKind.u8.bits = 8 := rfl
  have h2 : IntKind.u8.signed = false := rfl
  simp [IntKind.wrap, h1, h2]
theorem u64_wrap (n : Int) : IntKind.u64.wrap n = n % 18446744073709551616 := by
  have h1 : IntKind.u64.bits = 64 := rfl
  have h2 : IntKind.u64.signed = false := rfl
  simp [IntKind.wrap, h1, h2]
theorem w_lt (x : W) : x.toNat < 4294967296 := x.isLt
theorem ofInt_w (x : W) : BitVec.ofInt IntKind.u32.bits (x.toNat : Int) = x := by
  have h1 : IntKind.u32.bits = 32 := rfl
  show BitVec.ofInt 32 (x.toNat : Int) = x
  rw [BitVec.ofInt_natCast]; simp
theorem wrap_w (x : W) : IntKind.u32.wrap ((x.toNat : Nat) : Int) = (x.toNat : Int) := by
  have := w_lt x
  rw [u32_wrap]; omega
theorem b_add (x y : W) : binA .add .arith (wV x) (wV y) = some (wV (x + y)) := by
  simp only [wV, binA, intBin, if_true, u32_wrap]
  simp [BitVec.toNat_add]
theorem b_xor (x y : W) : binA .xor .arith (wV x) (wV y) = some (wV (x ^^^ y)) := by
  simp only [wV, binA, intBin, if_true, ofInt_w]
  exact congrArg (fun n => some (AVal.int .u32 n)) (wrap_w (x ^^^ y))
theorem b_and (x y : W) : binA .and .arith (wV x) (wV y) = some (wV (x &&& y)) := by
  simp only [wV, binA, intBin, if_true, ofInt_w]
  exact congrArg (fun n => some (AVal.int .u32 n)) (wrap_w (x &&& y))
theorem b_or (x y : W) : binA .or .arith (wV x) (wV y) = some (wV (x ||| y)) := by
  simp only [wV, binA, intBin, if_true, ofInt_w]
  exact congrArg (fun n => some (AVal.int .u32 n)) (wrap_w (x ||| y))
theorem b_not (x : W) : unA .xor (wV x) = some (wV (~~~x)) := by
  have h2 : IntKind.u32.signed = false := rfl
  have h3 : IntKind.u32.max = 4294967295 := rfl
  simp only [wV, unA, h2, Bool.false_eq_true, if_false, h3, ofInt_w]
  have : BitVec.ofInt IntKind.u32.bits 4294967295 = (BitVec.allOnes 32 : W) := by rfl
  rw [this]
  refine (congrArg (fun n => some (AVal.int .u32 n)) (wrap_w (BitVec.allOnes 32 ^^^ x))).trans ?_
  rw [BitVec.allOnes_xor]
theorem b_shr (x : W) (k : IntKind) (n : Int) (h0 : 0 ≤ n) (h1 : n ≤ 32) : binA .shr .arith (wV x) (.int k n) = some (wV (x >>> n.toNat)) := by
  have hb : IntKind.u32.bits = 32 := rfl
  simp only [wV, binA, shiftA, if_true, or_true, true_or, reduceCtorEq, if_neg (show ¬ n < 0 by omega), hb]
  rw [show min n.toNat 32 = n.toNat by omega]
  congr 2
  have e : (2 : Int) ^ n.toNat = ((2 ^ n.toNat : Nat) : Int) := (Int.natCast_pow 2 n.toNat).symm
  rw [BitVec.toNat_ushiftRight, Nat.shiftRight_eq_div_pow, e, Int.fdiv_eq_ediv_of_nonneg _ (Int.natCast_nonneg _)]
  exact (Int.natCast_ediv _ _).symm
theorem b_shl (x : W) (k : IntKind) (n : Int) (h0 : 0 ≤ n) (h1 : n ≤ 32) : binA .shl .arith (wV x) (.int k n) = some (wV (x <<< n.toNat)) := by
  have hb : IntKind.u32.bits = 32 := rfl
  simp only [wV, binA, shiftA, if_true, or_true, true_or, reduceCtorEq, if_neg (show ¬ n < 0 by omega), hb, u32_wrap]
  rw [show min n.toNat 32 = n.toNat by omega]
  congr 2
  rw [BitVec.toNat_shiftLeft, Nat.shiftLeft_eq, Int.natCast_emod, Int.natCast_mul, Int.natCast_pow]
  rfl
theorem wV_byte (b : UInt8) : AVal.int .u32 (b.toNat : Int) = wV (bw b) := by
  have := b.toNat_lt
  simp [wV, bw]
theorem toU32 (b : UInt8) : IntKind.u32.wrap (b.toNat : Int) = ((bw b).toNat : Int) := by
  have := b.toNat_lt
  rw [u32_wrap]; simp [bw]; omega
theorem w_cells (x : W) : (wV x).cells = [wV x] := _root_.id rfl
theorem w_one (x : W) : (wV x).one = true := _root_.id rfl
theorem w_st (x : W) : strip (wV x) = some (wV x) := _root_.id rfl
theorem w_pu (h : Heap) (x : W) : purify h (wV x) = some (wV x) := _root_.id rfl
theorem w_get (x y : W) : (wV x = wV y) = (x = y) := by
  simp only [wV, AVal.int.injEq, true_and, eq_iff_iff]
  constructor
  · intro h; exact BitVec.eq_of_toNat_eq (by omega)
  · rintro rfl; rfl
theorem w_all (l : List W) : (l.map wV).all AVal.one = true := by simp [w_one]
theorem w_len (x : W) : (wV x).cells.length = 1 := rfl
theorem w_byte (b : UInt8) : toIntA .u32 (byteV b) = some (wV (bw b)) := by
  simp only [toIntA, byteV, toU32]; rfl
theorem byte_w (x : W) : toIntA .u8 (wV x) = some (byteV (UInt8.ofNat x.toNat)) := by
  simp [toIntA, wV, byteV, u8_wrap]
theorem purifyL_w (h : Heap) : ∀ l : List W, purifyL h (l.map wV) = some (l.map wV)
  | [] => rfl
  | x :: l => by simp only [List.map_cons, purifyL, w_pu, purifyL_w h l]
theorem stripL_w : ∀ l : List W, stripL (l.map wV) = some (l.map wV)
  | [] => rfl
  | x :: l => by simp only [List.map_cons, stripL, w_st, stripL_w l]
def wR := And.intro @w_all (And.intro @w_byte (And.intro @byte_w (And.intro @List.length_replicate.{0} (And.intro @List.length_set.{0} (And.intro @b_add (And.intro @b_xor (And.intro @b_and (And.intro @b_or (And.intro @b_not (And.intro @w_cells (And.intro @w_one (And.intro @w_st (And.intro @w_pu @w_get)))))))))))))
end Go.Sha

namespace Go.Proofs.YtjofjgflcogklaaGreatDoor
open Go Go.Abs Go.Sha
def F0 : Nat → Option AEnt
  | 110 => some (.comp c110)
  | 111 => some (.comp c111)
  | 123 => some (.comp c123)
  | _ => none
theorem table0 : Table Tryz.prog hints F0 := by
  intro g
  unfold F0
  split
  · exact ⟨c110_ok, rfl⟩
  · exact ⟨c111_ok, rfl⟩
  · exact ⟨c123_ok, rfl⟩
  · trivial
theorem shaK_kk : shaK = kk.map wV := by kernel_rfl
theorem zeros_w (n : Nat) : List.replicate n (AVal.int .u32 0) = (List.replicate n (0 : W)).map wV := by rw [List.map_replicate]; rfl
theorem rot_and {n : Nat} (h1 : 1 ≤ n) (h2 : n ≤ 31) : binA .and .arith (.int .u64 (IntKind.u64.wrap (-(n : Int)))) (.int .u64 31) = some (.int .u64 ((32 - n : Nat) : Int)) := by
  have key : (List.range 32).all (fun n => n == 0 || isInt (binA .and .arith (.int .u64 (IntKind.u64.wrap (-(n : Int)))) (.int .u64 31)) .u64 ((32 - n : Nat) : Int)) = true := by kernel_rfl
  have := all_lt key (i := n) (by omega)
  simp only [Bool.or_eq_true, beq_iff_eq] at this
  rcases this with h | h
  · omega
  · exact isInt_eq h
theorem rot_sub {n : Nat} (h1 : 1 ≤ n) (h2 : n ≤ 31) : binA .sub .arith (.int .u64 32) (.int .u64 ((32 - n : Nat) : Int)) = some (.int .u64 (n : Int)) := by
  have key : (List.range 32).all (fun n => isInt (binA .sub .arith (.int .u64 32) (.int .u64 ((32 - n : Nat) : Int))) .u64 (n : Int)) = true := by kernel_rfl
  exact isInt_eq (all_lt key (i := n) (by omega))
theorem rotl_v (x : W) {n : Nat} (h1 : 1 ≤ n) (h2 : n ≤ 31) : PV F0 123 [wV x, .int .i64 (-(n : Int))] = some (wV (rotr x n)) := by
  have q1 := rot_and h1 h2
  have q2 := rot_sub h1 h2
  refine PV_wp (fn := c123) rfl ?_
  dsimp only [c123]
  replace fx := aI @wR (aI @b_shl (aI @b_shr (aI @q1 @q2)))
  (first | refine go ?_ | exact goC | skip); repeat' (first | refine gP ?_ | exact gPc | refine gN ?_ | exact gNc | (refine gI ?_ ?_ <;> intro hyp <;> first | refine goF ?_ | exact goFc | refine goT ?_ | exact goTc | skip))
  rw [rotr, BitVec.or_comm]
theorem mix_v (x : W) {i j k : Nat} (hi : 1 ≤ i ∧ i ≤ 31) (hj : 1 ≤ j ∧ j ≤ 31) (hk : 1 ≤ k ∧ k ≤ 31) : PV F0 111 [wV x, .int .i64 (i : Int), .int .i64 (j : Int), .int .i64 (k : Int)] = some (wV (rotr x i ^^^ rotr x j ^^^ rotr x k)) := by
  have q1 := rotl_v x hi.1 hi.2
  have q2 := rotl_v x hj.1 hj.2
  have q3 := rotl_v x hk.1 hk.2
  refine PV_wp (fn := c111) rfl ?_
  dsimp only [c111]
  replace fx := aI @wR (aI @q1 (aI @q2 @q3))
  (first | refine go ?_ | exact goC | skip); repeat' (first | refine gP ?_ | exact gPc | refine gN ?_ | exact gNc | (refine gI ?_ ?_ <;> intro hyp <;> first | refine goF ?_ | exact goFc | refine goT ?_ | exact goTc | skip))
end Go.Proofs.YtjofjgflcogklaaGreatDoor

namespace Go.Proofs.YtjofjgflcogklaaGreatDoor
open Go Go.Abs Go.Sha
theorem b_shl8 (x : W) (k : IntKind) : binA .shl .arith (wV x) (.int k 8) = some (wV (x <<< 8)) := b_shl x k 8 (by omega) (by omega)
theorem b_shr3 (x : W) (k : IntKind) : binA .shr .arith (wV x) (.int k 3) = some (wV (x >>> 3)) := b_shr x k 3 (by omega) (by omega)
theorem b_shr10 (x : W) (k : IntKind) : binA .shr .arith (wV x) (.int k 10) = some (wV (x >>> 10)) := b_shr x k 10 (by omega) (by omega)
def half (b : List UInt8) (t : Nat) (x : W) : List W := sched b t ++ x :: List.replicate (63 - t) 0
theorem half_len (b : List UInt8) {t : Nat} (x : W) (ht : t < 64) : (half b t x).length = 64 := by simp [half, sched_len]; omega
theorem half_nth (b : List UInt8) (t : Nat) (x : W) : nth (half b t x) t = x := by simp [half, nth, List.getD_eq_getElem?_getD, sched_len]
theorem half_lt (b : List UInt8) {t k : Nat} (x : W) (hk : k < t) : nth (half b t x) k = nth (sched b t) k := nth_append_left (by rw [sched_len]; exact hk)
theorem half_set (b : List UInt8) (t : Nat) (x y : W) : (half b t x).set t y = half b t y := by
  unfold half
  rw [List.set_append_right _ _ (by rw [sched_len]; omega), sched_len, Nat.sub_self, List.set_cons_zero]
theorem half_next (b : List UInt8) {t : Nat} (ht : t < 63) : half b t (if t < 16 then word0 b t else next (sched b t)) = half b (t + 1) 0 := by
  unfold half
  simp only [sched]
  rw [List.append_assoc, show 63 - t = (63 - (t + 1)) + 1 by omega, List.replicate_succ]; rfl
theorem half_last (b : List UInt8) : half b 63 (next (sched b 63)) = sched b 64 := by
  simp [half, sched]
theorem half_0 (b : List UInt8) : List.replicate 64 (0 : W) = half b 0 0 := by rfl
def wordsAt (b : List UInt8) (t : Nat) : List W := if t < 64 then half b t 0 else sched b 64
theorem wordsAt_next (b : List UInt8) {t : Nat} (ht : t < 64) : half b t (if t < 16 then word0 b t else next (sched b t)) = wordsAt b (t + 1) := by
  by_cases h : t < 63
  · have e : wordsAt b (t + 1) = half b (t + 1) 0 := if_pos (by omega)
    rw [e, half_next b h]
  · have : t = 63 := by omega
    subst this
    rw [if_neg (by omega), half_last]; rfl
theorem schedule_v (b : List UInt8) (hb : b.length = 64) : PV F0 110 [.sl (b.map byteV) .none] = some (.agg ((sched b 64).map wV)) := by
  refine PV_wp (fn := c110) rfl ?_
  dsimp only [c110]
  simp only [zeros_w]
  replace fx := @wR
  (first | refine go ?_ | exact goC | skip); repeat' (first | refine gP ?_ | exact gPc | refine gN ?_ | exact gNc | (refine gI ?_ ?_ <;> intro hyp <;> first | refine goF ?_ | exact goFc | refine goT ?_ | exact goTc | skip))
  refine w_loop (fun m vs h => ∃ (t : Nat) (x1 x2 x3 x4 x5 x6 x7 x8 x9 x10 x11 x12 : AVal), m = 64 - t ∧ t ≤ 64 ∧ vs = [.sl (b.map byteV) .none, .ptr 0 0, .ptr 1 0, x1, x2, x3, x4, x5, x6, .int .i64 (t : Int), x7, x8, x9, x10, x11, x12] ∧
    (∃ s a, h.get 0 = some (.row true s a ((List.replicate 64 (0 : W)).map wV))) ∧ ∃ s a, h.get 1 = some (.row true s a ((wordsAt b t).map wV))) 64
    ⟨0, _, _, _, _, _, _, _, _, _, _, _, _, rfl, by omega, rfl, ⟨_, _, get_push_old (get_push_eq rfl)⟩, ⟨_, _, get_push_eq rfl⟩⟩ ?_
  rintro m vs h ⟨t, x1, x2, x3, x4, x5, x6, x7, x8, x9, x10, x11, x12, rfl, ht, rfl, ⟨s0, a0, g0⟩, s1, a1, g1⟩
  by_cases h64 : t < 64
  · have hw : wordsAt b t = half b t 0 := if_pos h64
    rw [hw] at g1
    by_cases h16 : t < 16
    · have T1 : (4 * (t : Int)).toNat = 4 * t := by omega
      have T2 : (4 * (t : Int) + 4).toNat = 4 * t + 4 := by omega
      have hd0 : ((b.drop (4 * t)).take 4).length = 4 := by simp; omega
      have hd : (((b.drop (4 * t)).take 4).length : Int) = 4 := by omega
      replace fx := aI @wR (aI @hd (aI @slice_n_ab (aI @T1 (aI @T2 @Nat.add_sub_cancel_left))))
      (first | refine go ?_ | exact goC | skip); repeat' (first | refine gP ?_ | exact gPc | refine gN ?_ | exact gNc | (refine gI ?_ ?_ <;> intro hyp <;> first | refine goF ?_ | exact goFc | refine goT ?_ | exact goTc | skip))
      refine w_loop (fun m vs h => ∃ (i : Nat) (x1 x2 x3 x4 x5 x6 x7 x8 : AVal), m = 4 - i ∧ i ≤ 4 ∧ vs = [.sl (b.map byteV) .none, .ptr 0 0, .ptr 1 0, .int .i64 (t : Int), x1, x2, x3, x4, x5, .int .i64 (t : Int), x6, x7, .sl (((b.drop (4 * t)).take 4).map byteV) .none, .int .i64 4, .int .i64 (i : Int), x8] ∧
        (∃ s a, h.get 0 = some (.row true s a ((List.replicate 64 (0 : W)).map wV))) ∧ ∃ s a, h.get 1 = some (.row true s a ((half b t (partW b t i)).map wV))) 4
        ⟨0, _, _, _, _, _, _, _, _, rfl, by omega, rfl, ⟨_, _, g0⟩, ⟨_, _, g1⟩⟩ ?_
      rintro m vs h ⟨i, x1, x2, x3, x4, x5, x6, x7, x8, rfl, hi, rfl, ⟨s0, a0, g0⟩, s1, a1, g1⟩
      by_cases hi4 : i < 4
      · have hL := half_len b (partW b t i) h64
        have hn : nth ((b.drop (4 * t)).take 4) i = nth b (4 * t + i) := by simp [nth, List.getD_eq_getElem?_getD, List.getElem?_take, hi4]
        have L1 : ∀ mu s a, loadG 1 false t (some (.row mu s a ((half b t (partW b t i)).map wV))) = some (wV (partW b t i)) := fun mu s a => by rw [load_map _ _ _ _ _ (by omega), half_nth]
        replace fx := aI @wR (aI @hn (aI @hd (aI @g1 (aI @L1 (aI @XW_aaddrK (aI @aaddr_ptr (aI @Nat.mul_one (aI @ld_byte @b_shl8))))))))
        (first | refine go ?_ | exact goC | skip); repeat' (first | refine gP ?_ | exact gPc | refine gN ?_ | exact gNc | (refine gI ?_ ?_ <;> intro hyp <;> first | refine goF ?_ | exact goFc | refine goT ?_ | exact goTc | skip))
        exact lp_n ⟨_, by omega, i + 1, _, _, _, _, _, _, _, _, rfl, by omega, by push_cast; rfl, ⟨_, _, by rw [get_put_ne (by omega)]; exact g0⟩, ⟨_, _, (get_put_old g1).trans (by rw [← List.map_set, half_set]; rfl)⟩⟩
      · have h4 : i = 4 := by omega
        subst h4
        replace fx := @wR
        (first | refine go ?_ | exact goC | skip); repeat' (first | refine gP ?_ | exact gPc | refine gN ?_ | exact gNc | (refine gI ?_ ?_ <;> intro hyp <;> first | refine goF ?_ | exact goFc | refine goT ?_ | exact goTc | skip))
        refine lp_n ⟨_, by omega, t + 1, _, _, _, _, _, _, _, _, _, _, _, _, rfl, by omega, by push_cast; rfl, ⟨_, _, g0⟩, s1, a1, ?_⟩
        rw [← wordsAt_next b h64, if_pos h16]; exact g1
    · have hL := half_len b 0 h64
      have T1 : ((t : Int) - 15).toNat = t - 15 := by omega
      have T2 : ((t : Int) - 2).toNat = t - 2 := by omega
      have T3 : ((t : Int) - 16).toNat = t - 16 := by omega
      have T4 : ((t : Int) - 7).toNat = t - 7 := by omega
      have Ld : ∀ (k : Nat) (mu : Bool) (s : Nat) (a : Bool), k < t → loadG 1 false k (some (.row mu s a ((half b t 0).map wV))) = some (wV (nth (sched b t) k)) := fun k mu s a hk => by rw [load_map _ _ _ _ _ (by omega), half_lt b 0 hk]
      have r7 : ∀ x, PV F0 123 [wV x, .int .i64 (-7)] = some (wV (rotr x 7)) := fun x => rotl_v x (n := 7) (by omega) (by omega)
      have r18 : ∀ x, PV F0 123 [wV x, .int .i64 (-18)] = some (wV (rotr x 18)) := fun x => rotl_v x (n := 18) (by omega) (by omega)
      have r17 : ∀ x, PV F0 123 [wV x, .int .i64 (-17)] = some (wV (rotr x 17)) := fun x => rotl_v x (n := 17) (by omega) (by omega)
      have r19 : ∀ x, PV F0 123 [wV x, .int .i64 (-19)] = some (wV (rotr x 19)) := fun x => rotl_v x (n := 19) (by omega) (by omega)
      have hx : next (sched b t) = nth (sched b t) (t - 16) + sg0 (nth (sched b t) (t - 15)) + nth (sched b t) (t - 7) + sg1 (nth (sched b t) (t - 2)) := by simp only [next, sched_len]
      replace fx := aI @wR (aI @g1 (aI @Ld (aI @XW_aaddrK (aI @aaddr_ptr (aI @Nat.mul_one (aI @T1 (aI @T2 (aI @T3 (aI @T4 (aI @r7 (aI @r17 (aI @r18 (aI @r19 (aI @b_shr3 @b_shr10))))))))))))))
      (first | refine go ?_ | exact goC | skip); repeat' (first | refine gP ?_ | exact gPc | refine gN ?_ | exact gNc | (refine gI ?_ ?_ <;> intro hyp <;> first | refine goF ?_ | exact goFc | refine goT ?_ | exact goTc | skip))
      exact lp_n ⟨_, by omega, t + 1, _, _, _, _, _, _, _, _, _, _, _, _, rfl, by omega, by push_cast; rfl, ⟨_, _, by rw [get_put_ne (by omega)]; exact g0⟩, ⟨_, _, (get_put_old g1).trans (by rw [← List.map_set, half_set, ← wordsAt_next b h64, if_neg h16, hx]; rfl)⟩⟩
  · have h4 : t = 64 := by omega
    subst h4
    have hw : wordsAt b 64 = sched b 64 := if_neg (by omega)
    rw [hw] at g1
    have hl := sched_len b 64
    have ht : ((sched b 64).map wV).take 64 = (sched b 64).map wV := List.take_of_length_le (by rw [List.length_map, hl]; omega)
    have hs : setCells ((List.replicate 64 (0 : W)).map wV) 0 ((sched b 64).map wV) = (sched b 64).map wV := setCells_all _ _ (by simp [hl])
    have hp : ∀ H, purifyL H ((sched b 64).map wV) = some ((sched b 64).map wV) := fun H => purifyL_w H _
    replace fx := aI @wR (aI @g0 (aI @g1 (aI @hl (aI @ht (aI @hs (aI @hp @get_put_old))))))
    (first | refine go ?_ | exact goC | skip); repeat' (first | refine gP ?_ | exact gPc | refine gN ?_ | exact gNc | (refine gI ?_ ?_ <;> intro hyp <;> first | refine goF ?_ | exact goFc | refine goT ?_ | exact goTc | skip))
end Go.Proofs.YtjofjgflcogklaaGreatDoor

namespace Go.Sha
open Go Go.Abs
def S8.list (s : S8) : List W := [s.a, s.b, s.c, s.d, s.e, s.f, s.g, s.h]
def S8.cells (s : S8) : List AVal := [wV s.a, wV s.b, wV s.c, wV s.d, wV s.e, wV s.f, wV s.g, wV s.h]
def addN (s v e : List W) : Nat → List W
  | 0 => s
  | i + 1 => let l := (addN s v e i).set i (nth (addN s v e i) i + nth v i); l.set (i + 4) (nth l (i + 4) + nth e i)
theorem addN_len (s v e : List W) : ∀ i, (addN s v e i).length = s.length
  | 0 => rfl
  | i + 1 => by simp [addN, addN_len s v e i]
theorem addN_4 (s r : S8) : addN s.list [r.a, r.b, r.c, r.d] [r.e, r.f, r.g, r.h] 4 = (add8 s r).list := rfl
theorem mix6 (x : W) : rotr x 6 ^^^ rotr x 11 ^^^ rotr x 25 = bg1 x := rfl
theorem mix2 (x : W) : rotr x 2 ^^^ rotr x 13 ^^^ rotr x 22 = bg0 x := rfl
end Go.Sha
namespace Go.Proofs.YtjofjgflcogklaaGreatDoor
open Go Go.Abs Go.Sha
def Mid (s : S8) (b : List UInt8) (vs : List AVal) (h : Heap) : Prop := ∃ (i5 i6 : Nat) (x1 x2 x3 x4 x5 x6 x7 x8 x9 x10 x11 x12 : AVal), vs = [x11, x12, .ptr 0 0, .ptr 1 0, .ptr 2 0, .ptr i5 0, .ptr i6 0, x1, x2, x3, x4, x5, x6, x7, x8, x9, x10] ∧
  i5 ≠ i6 ∧ 3 ≤ i5 ∧ 3 ≤ i6 ∧ (∃ S a, h.get 0 = some (.row true S a s.cells)) ∧ (∃ S a, h.get 1 = some (.row true S a ((List.replicate 8 (0 : W)).map wV))) ∧
  (∃ S a, h.get 2 = some (.row true S a ((sched b 64).map wV))) ∧ (∃ S a, h.get i5 = some (.row true S a [wV s.a, wV s.b, wV s.c, wV s.d])) ∧ (∃ S a, h.get i6 = some (.row true S a [wV s.e, wV s.f, wV s.g, wV s.h]))
def Mid2 (s R : S8) (vs : List AVal) (h : Heap) : Prop := ∃ (i5 i6 : Nat) (x1 x2 x3 x4 x5 x6 x7 x8 x9 x10 x11 x12 : AVal), vs = [x11, x12, .ptr 0 0, .ptr 1 0, .ptr 2 0, .ptr i5 0, .ptr i6 0, x1, x2, x3, x4, x5, x6, x7, x8, x9, x10] ∧
  i5 ≠ i6 ∧ 3 ≤ i5 ∧ 3 ≤ i6 ∧ (∃ S a, h.get 0 = some (.row true S a s.cells)) ∧ (∃ S a, h.get 1 = some (.row true S a ((List.replicate 8 (0 : W)).map wV))) ∧
  (∃ S a, h.get i5 = some (.row true S a [wV R.a, wV R.b, wV R.c, wV R.d])) ∧ (∃ S a, h.get i6 = some (.row true S a [wV R.e, wV R.f, wV R.g, wV R.h]))
theorem rounds_w (s : S8) (b : List UInt8) {vs : List AVal} {h : Heap} (M : Mid s b vs h) : WP F0 c102_3 vs h (fun e vs' h' => e = .normal ∧ Mid2 s (rounds s (sched b 64) 64) vs' h') := by
  obtain ⟨i5, i6, x1, x2, x3, x4, x5, x6, x7, x8, x9, x10, x11, x12, rfl, hne, h5, h6, ⟨S0, a0, g0⟩, ⟨S1, a1, g1⟩, ⟨S2, a2, g2⟩, ⟨S5, a5, g5⟩, ⟨S6, a6, g6⟩⟩ := M
  obtain ⟨ws, hws⟩ : ∃ ws, ws = sched b 64 := ⟨_, rfl⟩
  have hsl : ws.length = 64 := by rw [hws]; exact sched_len b 64
  rw [← hws] at g2 ⊢
  clear hws
  dsimp only [c102_3]
  rw [shaK_kk]
  have hk : kk.length = 64 := rfl
  have ht : (kk.map wV).take 64 = kk.map wV := List.take_of_length_le (by rw [List.length_map, hk]; omega)
  replace fx := aI @wR (aI @aR (aI @hk @ht))
  (first | refine go ?_ | exact goC | skip); repeat' (first | refine gP ?_ | exact gPc | refine gN ?_ | exact gNc | (refine gI ?_ ?_ <;> intro hyp <;> first | refine goF ?_ | exact goFc | refine goT ?_ | exact goTc | skip))
  refine w_loop (fun m vs h => ∃ (t : Nat) (x1 x2 x3 x4 x5 x6 x7 x8 x9 x10 : AVal), m = 64 - t ∧ t ≤ 64 ∧ vs = [x9, x10, .ptr 0 0, .ptr 1 0, .ptr 2 0, .ptr i5 0, .ptr i6 0, x1, x2, x3, x4, x5, .agg (kk.map wV), .int .i64 (t : Int), x6, x7, x8] ∧
    (∃ S a, h.get 0 = some (.row true S a s.cells)) ∧ (∃ S a, h.get 1 = some (.row true S a ((List.replicate 8 (0 : W)).map wV))) ∧
    (∃ S a, h.get 2 = some (.row true S a ((ws).map wV))) ∧ (∃ S a, h.get i5 = some (.row true S a [wV (rounds s (ws) t).a, wV (rounds s (ws) t).b, wV (rounds s (ws) t).c, wV (rounds s (ws) t).d])) ∧
    (∃ S a, h.get i6 = some (.row true S a [wV (rounds s (ws) t).e, wV (rounds s (ws) t).f, wV (rounds s (ws) t).g, wV (rounds s (ws) t).h]))) 64
    ⟨0, _, _, _, _, _, _, _, _, _, _, rfl, by omega, rfl, ⟨_, _, g0⟩, ⟨_, _, g1⟩, ⟨_, _, g2⟩, ⟨_, _, g5⟩, ⟨_, _, g6⟩⟩ ?_
  clear g0 g1 g2 g5 g6
  rintro m vs h ⟨t, x1, x2, x3, x4, x5, x6, x7, x8, x9, x10, rfl, ht, rfl, ⟨S0, a0, g0⟩, ⟨S1, a1, g1⟩, ⟨S2, a2, g2⟩, ⟨S5, a5, g5⟩, ⟨S6, a6, g6⟩⟩
  by_cases h64 : t < 64
  · have m1 : ∀ x, PV F0 111 [wV x, .int .i64 6, .int .i64 11, .int .i64 25] = some (wV (bg1 x)) := fun x => mix_v x (i := 6) (j := 11) (k := 25) (by omega) (by omega) (by omega)
    have m2 : ∀ x, PV F0 111 [wV x, .int .i64 2, .int .i64 13, .int .i64 22] = some (wV (bg0 x)) := fun x => mix_v x (i := 2) (j := 13) (k := 22) (by omega) (by omega) (by omega)
    have Lw : ∀ (mu : Bool) (s : Nat) (a : Bool), loadG 1 false t (some (.row mu s a ((ws).map wV))) = some (wV (nth (ws) t)) := fun mu s a => load_map _ _ _ _ _ (by omega)
    have Ak := aidx_map (f := wV) kk 64 .i64 (t : Int) (by omega) (by omega) hk
    replace fx := aI @wR (aI @aR (aI @m1 (aI @m2 (aI @Lw (aI @Ak (aI @hsl (aI @g2 (aI @g5 @g6))))))))
    (first | refine go ?_ | exact goC | skip); repeat' (first | refine gP ?_ | exact gPc | refine gN ?_ | exact gNc | (refine gI ?_ ?_ <;> intro hyp <;> first | refine goF ?_ | exact goFc | refine goT ?_ | exact goTc | skip))
    exact lp_n ⟨_, by omega, t + 1, _, _, _, _, _, _, _, _, _, _, rfl, by omega, by push_cast; rfl, ⟨_, _, by rw [get_put_ne (by omega), get_put_ne (by omega)]; exact g0⟩, ⟨_, _, by rw [get_put_ne (by omega), get_put_ne (by omega)]; exact g1⟩, ⟨_, _, by rw [get_put_ne (by omega), get_put_ne (by omega)]; exact g2⟩,
      ⟨_, _, get_put_old (by rw [get_put_ne hne]; exact g5)⟩, ⟨_, _, by rw [get_put_ne (Ne.symm hne)]; exact get_put_old g6⟩⟩
  · have ht : t = 64 := by omega
    subst ht
    replace fx := aI @wR @aR
    (first | refine go ?_ | exact goC | skip); repeat' (first | refine gP ?_ | exact gPc | refine gN ?_ | exact gNc | (refine gI ?_ ?_ <;> intro hyp <;> first | refine goF ?_ | exact goFc | refine goT ?_ | exact goTc | skip))
    exact ⟨i5, i6, _, _, _, _, _, _, _, _, _, _, _, _, rfl, hne, h5, h6, ⟨_, _, g0⟩, ⟨_, _, g1⟩, ⟨_, _, g5⟩, ⟨_, _, g6⟩⟩
theorem last_w (s R : S8) {vs : List AVal} {h : Heap} (M : Mid2 s R vs h) : WP F0 c102_4 vs h (fun e vs h' => (e = .normal ∨ e = .ret) ∧ resK c102_res vs h' (fun v _ => v = .agg (add8 s R).cells)) := by
  obtain ⟨i5, i6, x1, x2, x3, x4, x5, x6, x7, x8, x9, x10, x11, x12, rfl, hne, h5, h6, ⟨S0, a0, g0⟩, ⟨S1, a1, g1⟩, ⟨S5, a5, g5⟩, ⟨S6, a6, g6⟩⟩ := M
  obtain ⟨C, hC⟩ : ∃ C, C = add8 s R := ⟨_, rfl⟩
  rw [← hC]
  dsimp only [c102_4, c102_res]
  replace fx := aI @wR @aR
  (first | refine go ?_ | exact goC | skip); repeat' (first | refine gP ?_ | exact gPc | refine gN ?_ | exact gNc | (refine gI ?_ ?_ <;> intro hyp <;> first | refine goF ?_ | exact goFc | refine goT ?_ | exact goTc | skip))
  obtain ⟨V, hV⟩ : ∃ V, V = [R.a, R.b, R.c, R.d] := ⟨_, rfl⟩
  obtain ⟨E, hE⟩ : ∃ E, E = [R.e, R.f, R.g, R.h] := ⟨_, rfl⟩
  have vl : V.length = 4 := by rw [hV]; rfl
  have el : E.length = 4 := by rw [hE]; rfl
  have g5 : h.get i5 = some (.row true S5 a5 (V.map wV)) := by rw [g5, hV]; rfl
  have g6 : h.get i6 = some (.row true S6 a6 (E.map wV)) := by rw [g6, hE]; rfl
  refine w_loop (fun m vs h => ∃ (i : Nat) (x1 x2 x3 x4 x5 x6 x7 x8 x9 x10 x11 : AVal), m = 4 - i ∧ i ≤ 4 ∧ vs = [x10, x11, .ptr 0 0, .ptr 1 0, .ptr 2 0, .ptr i5 0, .ptr i6 0, x1, x2, x3, x4, x5, x6, x7, x8, .int .i64 (i : Int), x9] ∧
    (∃ S a, h.get 0 = some (.row true S a ((addN s.list V E i).map wV))) ∧ (∃ S a, h.get 1 = some (.row true S a ((List.replicate 8 (0 : W)).map wV))) ∧
    (∃ S a, h.get i5 = some (.row true S a (V.map wV))) ∧ (∃ S a, h.get i6 = some (.row true S a (E.map wV)))) 4
    ⟨0, _, _, _, _, _, _, _, _, _, _, _, rfl, by omega, rfl, ⟨_, _, g0⟩, ⟨_, _, g1⟩, ⟨_, _, g5⟩, ⟨_, _, g6⟩⟩ ?_
  clear g0 g1 g5 g6
  rintro m vs h ⟨i, x1, x2, x3, x4, x5, x6, x7, x8, x9, x10, x11, rfl, hi, rfl, ⟨S0, a0, g0⟩, ⟨S1, a1, g1⟩, ⟨S5, a5, g5⟩, ⟨S6, a6, g6⟩⟩
  by_cases hi4 : i < 4
  · have T4 : ((i : Int) + 4).toNat = i + 4 := by omega
    have hl : (addN s.list V E i).length = 8 := addN_len _ _ _ _
    generalize hA : addN s.list V E i = A at *
    have La : ∀ (k : Nat) (mu : Bool) (S : Nat) (a : Bool), k < 8 → loadG 1 false k (some (.row mu S a (A.map wV))) = some (wV (nth A k)) := fun k mu S a hk => load_map _ _ _ _ _ (by omega)
    have n5 : ∀ mu S a, loadG 1 false i (some (.row mu S a (V.map wV))) = some (wV (nth V i)) := fun mu S a => load_map _ _ _ _ _ (by omega)
    have n6 : ∀ mu S a, loadG 1 false i (some (.row mu S a (E.map wV))) = some (wV (nth E i)) := fun mu S a => load_map _ _ _ _ _ (by omega)
    have ms : ∀ x : W, (A.map wV).set i (wV x) = (A.set i x).map wV := fun x => by rw [List.map_set]
    have Lb : ∀ (x : W) (mu : Bool) (S : Nat) (a : Bool), loadG 1 false (i + 4) (some (.row mu S a ((A.set i x).map wV))) = some (wV (nth (A.set i x) (i + 4))) := fun x mu S a => load_map _ _ _ _ _ (by rw [List.length_set]; omega)
    replace fx := aI @wR (aI @aR (aI @T4 (aI @hl (aI @g0 (aI @La (aI @g5 (aI @n5 (aI @g6 (aI @n6 (aI @ms @Lb))))))))))
    (first | refine go ?_ | exact goC | skip); repeat' (first | refine gP ?_ | exact gPc | refine gN ?_ | exact gNc | (refine gI ?_ ?_ <;> intro hyp <;> first | refine goF ?_ | exact goFc | refine goT ?_ | exact goTc | skip))
    refine lp_n ⟨_, by omega, i + 1, _, _, _, _, _, _, _, _, _, _, _, rfl, by omega, by push_cast; rfl, ⟨S0, a0, (get_put_old (get_put_old g0)).trans ?_⟩, ⟨_, _, by rw [get_put_ne (by omega), get_put_ne (by omega)]; exact g1⟩, ⟨_, _, by rw [get_put_ne (by omega), get_put_ne (by omega)]; exact g5⟩, ⟨_, _, by rw [get_put_ne (by omega), get_put_ne (by omega)]; exact g6⟩⟩
    rw [← List.map_set]
    simp only [addN, hA]
  · have h4 : i = 4 := by omega
    subst h4
    have e4 : addN s.list V E 4 = C.list := by rw [hV, hE, hC]; exact addN_4 s R
    rw [e4] at g0
    have ht : (C.list.map wV).take 8 = C.list.map wV := rfl
    have hl : C.list.length = 8 := rfl
    have hs : setCells ((List.replicate 8 (0 : W)).map wV) 0 (C.list.map wV) = C.list.map wV := setCells_all _ _ rfl
    replace fx := aI @wR (aI @aR (aI @g0 (aI @g1 (aI @ht (aI @hl @hs)))))
    (first | refine go ?_ | exact goC | skip); repeat' (first | refine gP ?_ | exact gPc | refine gN ?_ | exact gNc | (refine gI ?_ ?_ <;> intro hyp <;> first | refine goF ?_ | exact goFc | refine goT ?_ | exact goTc | skip))
    exact rfl
def cargs (s : S8) (b : List UInt8) : List AVal := [.agg s.cells, .sl (b.map byteV) .none]
def cvs (args : List AVal) : List AVal := c102_slots.map fun i => (args[i]?).getD (.tup [])
def Mid0 (s : S8) (b : List UInt8) (vs : List AVal) (h : Heap) : Prop := ∃ (x1 x2 x3 x4 x5 x6 x7 x8 x9 x10 x11 x12 : AVal), vs = [.agg s.cells, .sl (b.map byteV) .none, .ptr 0 0, .ptr 1 0, .ptr 2 0, x1, x2, x3, x4, x5, x6, x7, x8, x9, x10, x11, x12] ∧ h.next = 3 ∧
  (∃ S a, h.get 0 = some (.row true S a s.cells)) ∧ (∃ S a, h.get 1 = some (.row true S a ((List.replicate 8 (0 : W)).map wV))) ∧ (∃ S a, h.get 2 = some (.row true S a ((sched b 64).map wV)))
theorem ini_w (s : S8) (b : List UInt8) : WP F0 c102_0 (cvs (cargs s b)) Heap.empty (fun e vs h => e = .normal ∧ ∃ (x1 x2 x3 x4 x5 x6 x7 x8 x9 x10 x11 x12 x13 : AVal), vs = [.agg s.cells, .sl (b.map byteV) .none, .ptr 0 0, .ptr 1 0, x1, x2, x3, x4, x5, x6, x7, x8, x9, x10, x11, x12, x13] ∧ h.next = 2 ∧
  (∃ S a, h.get 0 = some (.row true S a s.cells)) ∧ (∃ S a, h.get 1 = some (.row true S a ((List.replicate 8 (0 : W)).map wV)))) := by
  dsimp only [c102_0, cvs, cargs, c102_slots]
  replace fx := aI @wR @aR
  (first | refine go ?_ | exact goC | skip); repeat' (first | refine gP ?_ | exact gPc | refine gN ?_ | exact gNc | (refine gI ?_ ?_ <;> intro hyp <;> first | refine goF ?_ | exact goFc | refine goT ?_ | exact goTc | skip))
  exact ⟨⟨rfl, rfl⟩, _, _, _, _, _, _, _, _, _, _, _, _, _, rfl, ⟨_, _, rfl⟩, ⟨_, _, rfl⟩⟩
theorem sch_w (s : S8) (b : List UInt8) (hb : b.length = 64) (x1 x2 x3 x4 x5 x6 x7 x8 x9 x10 x11 x12 x13 : AVal) {h : Heap} (hn : h.next = 2) {S0 S1 : Nat} {a0 a1 : Bool} (g0 : h.get 0 = some (.row true S0 a0 s.cells)) (g1 : h.get 1 = some (.row true S1 a1 ((List.replicate 8 (0 : W)).map wV))) :
    WP F0 c102_1 [.agg s.cells, .sl (b.map byteV) .none, .ptr 0 0, .ptr 1 0, x1, x2, x3, x4, x5, x6, x7, x8, x9, x10, x11, x12, x13] h (fun e vs h => e = .normal ∧ Mid0 s b vs h) := by
  have hs := schedule_v b hb
  have hl := sched_len b 64
  have hz : setCells ((List.replicate 64 (0 : W)).map wV) 0 ((sched b 64).map wV) = (sched b 64).map wV := setCells_all _ _ (by simp [hl])
  dsimp only [c102_1]
  simp only [zeros_w]
  replace fx := aI @wR (aI @aR (aI @hs (aI @hl (aI @hz @hn))))
  (first | refine go ?_ | exact goC | skip); repeat' (first | refine gP ?_ | exact gPc | refine gN ?_ | exact gNc | (refine gI ?_ ?_ <;> intro hyp <;> first | refine goF ?_ | exact goFc | refine goT ?_ | exact goTc | skip))
  exact ⟨_, _, _, _, _, _, _, _, _, _, _, _, rfl, by rw [push_next, hn], ⟨_, _, by rw [get_push_ne (by omega)]; exact g0⟩, ⟨_, _, by rw [get_push_ne (by omega)]; exact g1⟩, ⟨_, _, get_push_eq (by omega)⟩⟩
def MidQ (s : S8) (b : List UInt8) (e : AExit) (vs : List AVal) (h : Heap) : Prop := e = .normal ∧ Mid s b vs h
theorem r_0 (s : S8) (b : List UInt8) {vs : List AVal} {h : Heap} (M : Mid0 s b vs h) : WP F0 (.ops c102_r2_0) vs h (MidQ s b) := by
  obtain ⟨x1, x2, x3, x4, x5, x6, x7, x8, x9, x10, x11, x12, rfl, hn, ⟨S0, a0, g0⟩, ⟨S1, a1, g1⟩, ⟨S2, a2, g2⟩⟩ := M
  have hc : s.cells = [wV s.a, wV s.b, wV s.c, wV s.d, wV s.e, wV s.f, wV s.g, wV s.h] := rfl
  rw [hc] at g0
  dsimp only [c102_r2_0]
  replace fx := aI @wR (aI @aR (aI @g0 (aI @asM2_row (aI @asM3_row @hn))))
  (first | refine go ?_ | exact goC | skip); repeat' (first | refine gP ?_ | exact gPc | refine gN ?_ | exact gNc | (refine gI ?_ ?_ <;> intro hyp <;> first | refine goF ?_ | exact goFc | refine goT ?_ | exact goTc | skip))
  exact ⟨rfl, 3, 4, _, _, _, _, _, _, _, _, _, _, _, _, rfl, by omega, by omega, by omega, ⟨_, _, by rw [get_push_ne (by simp only [push_next]; omega), get_push_ne (by omega)]; exact g0⟩, ⟨_, _, by rw [get_push_ne (by simp only [push_next]; omega), get_push_ne (by omega)]; exact g1⟩, ⟨_, _, by rw [get_push_ne (by simp only [push_next]; omega), get_push_ne (by omega)]; exact g2⟩, ⟨_, _, by rw [get_push_ne (by simp only [push_next]; omega)]; exact get_push_eq (by omega)⟩, ⟨_, _, get_push_eq (by simp only [push_next]; omega)⟩⟩
theorem r_1 (s : S8) (b : List UInt8) {vs : List AVal} {h : Heap} (M : Mid0 s b vs h) : WP F0 (.ops c102_r2_1) vs h (MidQ s b) := by
  obtain ⟨x1, x2, x3, x4, x5, x6, x7, x8, x9, x10, x11, x12, rfl, hn, ⟨S0, a0, g0⟩, ⟨S1, a1, g1⟩, ⟨S2, a2, g2⟩⟩ := M
  have hc : s.cells = [wV s.a, wV s.b, wV s.c, wV s.d, wV s.e, wV s.f, wV s.g, wV s.h] := rfl
  rw [hc] at g0
  dsimp only [c102_r2_1]
  replace fx := aI @wR (aI @aR (aI @g0 (aI @asM2_row (aI @asM3_row @hn))))
  (first | refine go ?_ | exact goC | skip); repeat' (first | refine gP ?_ | exact gPc | refine gN ?_ | exact gNc | (refine gI ?_ ?_ <;> intro hyp <;> first | refine goF ?_ | exact goFc | refine goT ?_ | exact goTc | skip))
  exact ⟨rfl, 4, 3, _, _, _, _, _, _, _, _, _, _, _, _, rfl, by omega, by omega, by omega, ⟨_, _, by rw [get_push_ne (by simp only [push_next]; omega), get_push_ne (by omega)]; exact g0⟩, ⟨_, _, by rw [get_push_ne (by simp only [push_next]; omega), get_push_ne (by omega)]; exact g1⟩, ⟨_, _, by rw [get_push_ne (by simp only [push_next]; omega), get_push_ne (by omega)]; exact g2⟩, ⟨_, _, get_push_eq (by simp only [push_next]; omega)⟩, ⟨_, _, by rw [get_push_ne (by simp only [push_next]; omega)]; exact get_push_eq (by omega)⟩⟩
theorem r_2 (s : S8) (b : List UInt8) {vs : List AVal} {h : Heap} (M : Mid0 s b vs h) : WP F0 (.ops c102_r2_2) vs h (MidQ s b) := by
  obtain ⟨x1, x2, x3, x4, x5, x6, x7, x8, x9, x10, x11, x12, rfl, hn, ⟨S0, a0, g0⟩, ⟨S1, a1, g1⟩, ⟨S2, a2, g2⟩⟩ := M
  have hc : s.cells = [wV s.a, wV s.b, wV s.c, wV s.d, wV s.e, wV s.f, wV s.g, wV s.h] := rfl
  rw [hc] at g0
  dsimp only [c102_r2_2]
  replace fx := aI @wR (aI @aR (aI @g0 (aI @asM2_row (aI @asM3_row @hn))))
  (first | refine go ?_ | exact goC | skip); repeat' (first | refine gP ?_ | exact gPc | refine gN ?_ | exact gNc | (refine gI ?_ ?_ <;> intro hyp <;> first | refine goF ?_ | exact goFc | refine goT ?_ | exact goTc | skip))
  exact ⟨rfl, 3, 4, _, _, _, _, _, _, _, _, _, _, _, _, rfl, by omega, by omega, by omega, ⟨_, _, by rw [get_push_ne (by simp only [push_next]; omega), get_push_ne (by omega)]; exact g0⟩, ⟨_, _, by rw [get_push_ne (by simp only [push_next]; omega), get_push_ne (by omega)]; exact g1⟩, ⟨_, _, by rw [get_push_ne (by simp only [push_next]; omega), get_push_ne (by omega)]; exact g2⟩, ⟨_, _, by rw [get_push_ne (by simp only [push_next]; omega)]; exact get_push_eq (by omega)⟩, ⟨_, _, get_push_eq (by simp only [push_next]; omega)⟩⟩
theorem r_3 (s : S8) (b : List UInt8) {vs : List AVal} {h : Heap} (M : Mid0 s b vs h) : WP F0 (.ops c102_r2_3) vs h (MidQ s b) := by
  obtain ⟨x1, x2, x3, x4, x5, x6, x7, x8, x9, x10, x11, x12, rfl, hn, ⟨S0, a0, g0⟩, ⟨S1, a1, g1⟩, ⟨S2, a2, g2⟩⟩ := M
  have hc : s.cells = [wV s.a, wV s.b, wV s.c, wV s.d, wV s.e, wV s.f, wV s.g, wV s.h] := rfl
  rw [hc] at g0
  dsimp only [c102_r2_3]
  replace fx := aI @wR (aI @aR (aI @g0 (aI @asM2_row (aI @asM3_row @hn))))
  (first | refine go ?_ | exact goC | skip); repeat' (first | refine gP ?_ | exact gPc | refine gN ?_ | exact gNc | (refine gI ?_ ?_ <;> intro hyp <;> first | refine goF ?_ | exact goFc | refine goT ?_ | exact goTc | skip))
  exact ⟨rfl, 4, 3, _, _, _, _, _, _, _, _, _, _, _, _, rfl, by omega, by omega, by omega, ⟨_, _, by rw [get_push_ne (by simp only [push_next]; omega), get_push_ne (by omega)]; exact g0⟩, ⟨_, _, by rw [get_push_ne (by simp only [push_next]; omega), get_push_ne (by omega)]; exact g1⟩, ⟨_, _, by rw [get_push_ne (by simp only [push_next]; omega), get_push_ne (by omega)]; exact g2⟩, ⟨_, _, get_push_eq (by simp only [push_next]; omega)⟩, ⟨_, _, by rw [get_push_ne (by simp only [push_next]; omega)]; exact get_push_eq (by omega)⟩⟩
theorem r_4 (s : S8) (b : List UInt8) {vs : List AVal} {h : Heap} (M : Mid0 s b vs h) : WP F0 (.ops c102_r2_4) vs h (MidQ s b) := by
  obtain ⟨x1, x2, x3, x4, x5, x6, x7, x8, x9, x10, x11, x12, rfl, hn, ⟨S0, a0, g0⟩, ⟨S1, a1, g1⟩, ⟨S2, a2, g2⟩⟩ := M
  have hc : s.cells = [wV s.a, wV s.b, wV s.c, wV s.d, wV s.e, wV s.f, wV s.g, wV s.h] := rfl
  rw [hc] at g0
  dsimp only [c102_r2_4]
  replace fx := aI @wR (aI @aR (aI @g0 (aI @asM2_row (aI @asM3_row @hn))))
  (first | refine go ?_ | exact goC | skip); repeat' (first | refine gP ?_ | exact gPc | refine gN ?_ | exact gNc | (refine gI ?_ ?_ <;> intro hyp <;> first | refine goF ?_ | exact goFc | refine goT ?_ | exact goTc | skip))
  exact ⟨rfl, 3, 4, _, _, _, _, _, _, _, _, _, _, _, _, rfl, by omega, by omega, by omega, ⟨_, _, by rw [get_push_ne (by simp only [push_next]; omega), get_push_ne (by omega)]; exact g0⟩, ⟨_, _, by rw [get_push_ne (by simp only [push_next]; omega), get_push_ne (by omega)]; exact g1⟩, ⟨_, _, by rw [get_push_ne (by simp only [push_next]; omega), get_push_ne (by omega)]; exact g2⟩, ⟨_, _, by rw [get_push_ne (by simp only [push_next]; omega)]; exact get_push_eq (by omega)⟩, ⟨_, _, get_push_eq (by simp only [push_next]; omega)⟩⟩
theorem r_5 (s : S8) (b : List UInt8) {vs : List AVal} {h : Heap} (M : Mid0 s b vs h) : WP F0 (.ops c102_r2_5) vs h (MidQ s b) := by
  obtain ⟨x1, x2, x3, x4, x5, x6, x7, x8, x9, x10, x11, x12, rfl, hn, ⟨S0, a0, g0⟩, ⟨S1, a1, g1⟩, ⟨S2, a2, g2⟩⟩ := M
  have hc : s.cells = [wV s.a, wV s.b, wV s.c, wV s.d, wV s.e, wV s.f, wV s.g, wV s.h] := rfl
  rw [hc] at g0
  dsimp only [c102_r2_5]
  replace fx := aI @wR (aI @aR (aI @g0 (aI @asM2_row (aI @asM3_row @hn))))
  (first | refine go ?_ | exact goC | skip); repeat' (first | refine gP ?_ | exact gPc | refine gN ?_ | exact gNc | (refine gI ?_ ?_ <;> intro hyp <;> first | refine goF ?_ | exact goFc | refine goT ?_ | exact goTc | skip))
  exact ⟨rfl, 4, 3, _, _, _, _, _, _, _, _, _, _, _, _, rfl, by omega, by omega, by omega, ⟨_, _, by rw [get_push_ne (by simp only [push_next]; omega), get_push_ne (by omega)]; exact g0⟩, ⟨_, _, by rw [get_push_ne (by simp only [push_next]; omega), get_push_ne (by omega)]; exact g1⟩, ⟨_, _, by rw [get_push_ne (by simp only [push_next]; omega), get_push_ne (by omega)]; exact g2⟩, ⟨_, _, get_push_eq (by simp only [push_next]; omega)⟩, ⟨_, _, by rw [get_push_ne (by simp only [push_next]; omega)]; exact get_push_eq (by omega)⟩⟩
def reps : List (List Nat) := [[0, 1, 2, 3, 4, 5, 6, 7, 8, 9], [0, 1, 2, 3, 4, 5, 7, 6, 8, 9], [0, 1, 2, 6, 7, 8, 3, 4, 5, 9], [0, 1, 2, 7, 6, 8, 3, 4, 5, 9], [0, 1, 2, 3, 6, 7, 8, 4, 5, 9], [0, 1, 2, 3, 7, 6, 8, 4, 5, 9]]
theorem reps_w (s : S8) (b : List UInt8) {vs : List AVal} {h : Heap} (M : Mid0 s b vs h) : ∀ r ∈ reps, ∃ l, renOpers r c102_r2 r = some l ∧ WP F0 (.ops l) vs h (MidQ s b) := by
  intro r hr
  simp only [reps, List.mem_cons, List.not_mem_nil, or_false] at hr
  rcases hr with rfl | rfl | rfl | rfl | rfl | rfl
  · exact ⟨_, c102_r2_0_ok, r_0 s b M⟩
  · exact ⟨_, c102_r2_1_ok, r_1 s b M⟩
  · exact ⟨_, c102_r2_2_ok, r_2 s b M⟩
  · exact ⟨_, c102_r2_3_ok, r_3 s b M⟩
  · exact ⟨_, c102_r2_4_ok, r_4 s b M⟩
  · exact ⟨_, c102_r2_5_ok, r_5 s b M⟩
end Go.Proofs.YtjofjgflcogklaaGreatDoor
