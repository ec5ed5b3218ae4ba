/-
  copyCheck of this seat, walked; the table of functions is sound.
-/
import Derived.Test.YtcammfdljiingaaLbTab
namespace Go.Proofs
open Go.Shelf Go.RowKit

theorem Ytcammfdljiingaa.sizeBuilder : (Try.prog.info? 78).map (·.size) = some 2 := by kernel_rfl
theorem Ytcammfdljiingaa.liesBuilder : liesAt Try.prog Try.prog.depth 78 (2 / Try.prog.cellsOf 78) 0 78 1 = true := by kernel_rfl

set_option maxHeartbeats 1000000 in
set_option maxRecDepth 100000 in
theorem Ytcammfdljiingaa.cc_used (b : Nat) (w : World) (h0 : w.cell? ⟨b, 0, none⟩ = some (.pointer (some ⟨b, 0, none⟩))) :
    Calls Try.prog 58 #[.pointer (some ⟨b, 0, none⟩)] w fun e w' => e = .returned (.tuple #[]) ∧ w' = w := by
  obtain ⟨j, hj, _⟩ := Option.map_eq_some_iff.1 Ytcammfdljiingaa.sizeBuilder
  have mixed : Try.prog.follows .mixedOrders = true := by kernel_rfl
  have t72 := Try.underlying78; have a72 := Try.isAgg78; have z72 := Try.sizeOf78; have v72 := Try.zeroValue78; have u72 := run_underlying Try.underlying78
  have t70 := Try.underlying75; have a70 := Try.isAgg75; have z70 := Try.sizeOf75; have v70 := Try.zeroValue75; have u70 := run_underlying Try.underlying75
  have t4 := Try.underlying4; have a4 := Try.isAgg4; have z4 := Try.sizeOf4; have v4 := Try.zeroValue4; have u4 := run_underlying Try.underlying4
  have t164 := Try.underlying97; have a164 := Try.isAgg97; have z164 := Try.sizeOf97; have v164 := Try.zeroValue97; have u164 := run_underlying Try.underlying97
  go_enter Try.func58, Try.ntmps58
  go_wp2
  rw [Lib.run_neq_ptr_same w _ Try.underlying75 hj]
  go_wp2
  go_end0
  exact ⟨rfl, rfl⟩

set_option maxHeartbeats 1000000 in
set_option maxRecDepth 100000 in
theorem Ytcammfdljiingaa.cc_fresh (b : Nat) (w : World) (h0 : w.cell? ⟨b, 0, none⟩ = some (.pointer none)) (hsh : w.shape? b = some (78, 2)) (hfz : w.frozen? ⟨b, 0, none⟩ = false) :
    Calls Try.prog 58 #[.pointer (some ⟨b, 0, none⟩)] w fun e w' => e = .returned (.tuple #[]) ∧ w' = w.setCell ⟨b, 0, none⟩ (.pointer (some ⟨b, 0, none⟩)) := by
  obtain ⟨j, hj, hjs⟩ := Option.map_eq_some_iff.1 Ytcammfdljiingaa.sizeBuilder
  have mixed : Try.prog.follows .mixedOrders = true := by kernel_rfl
  have t72 := Try.underlying78; have a72 := Try.isAgg78; have z72 := Try.sizeOf78; have v72 := Try.zeroValue78; have u72 := run_underlying Try.underlying78
  have t70 := Try.underlying75; have a70 := Try.isAgg75; have z70 := Try.sizeOf75; have v70 := Try.zeroValue75; have u70 := run_underlying Try.underlying75
  have t4 := Try.underlying4; have a4 := Try.isAgg4; have z4 := Try.sizeOf4; have v4 := Try.zeroValue4; have u4 := run_underlying Try.underlying4
  have t164 := Try.underlying97; have a164 := Try.isAgg97; have z164 := Try.sizeOf97; have v164 := Try.zeroValue97; have u164 := run_underlying Try.underlying97
  go_enter Try.func58, Try.ntmps58
  go_wp2
  rw [Lib.run_to_unsafe w ⟨b, 0, none⟩ Try.underlying75 Try.underlying97 hj (by rw [hjs]; decide) hsh (Nat.zero_lt_succ 1)]
  simp only [Result.andThen]
  rw [Oper.upon_value]
  go_wp2
  rw [run_callFunc_extern Try.func61 (by kernel_rfl) (by kernel_rfl) (by kernel_rfl) (e := Extern.AbiNoEscape.same) (by kernel_rfl)]
  rw [Lib.run_noEscape]
  simp only [Result.andThen]
  rw [Oper.upon_value]
  go_wp2
  rw [Lib.run_from_unsafe w ⟨b, 0, none⟩ Try.underlying97 Try.underlying75 hj hsh Ytcammfdljiingaa.liesBuilder]
  simp only [Result.andThen]
  rw [Oper.upon_value]
  go_wp2
  go_end0
  exact ⟨rfl, rfl⟩

def Ytcammfdljiingaa.ren169 : Go.Shelf.Ren := ⟨fun | 169 => 51 | n => n, fun | 70 => 75 | 9 => 9 | 0 => 0 | 72 => 78 | 37 => 76 | 127 => 90 | 3 => 3 | 5 => 5 | n => n, fun | n => n⟩
theorem Ytcammfdljiingaa.lays169 : Go.Proofs.Lays.n169 Try.prog Ytcammfdljiingaa.ren169 := {
  mixed := by kernel_rfl
  f169 := Try.func51.trans (congrArg some (by kernel_rfl))
  t0 := Try.underlying0
  a0 := Try.isAgg0
  z0 := Try.sizeOf0
  v0 := Try.zeroValue0
  t3 := Try.underlying3
  a3 := Try.isAgg3
  z3 := Try.sizeOf3
  v3 := Try.zeroValue3
  t9 := Try.underlying9
  a9 := Try.isAgg9
  z9 := Try.sizeOf9
  v9 := Try.zeroValue9
  t37 := Try.underlying76
  a37 := Try.isAgg76
  z37 := Try.sizeOf76
  v37 := Try.zeroValue76
  t70 := Try.underlying75
  a70 := Try.isAgg75
  z70 := Try.sizeOf75
  v70 := Try.zeroValue75
  t72 := Try.underlying78
  a72 := Try.isAgg78
  z72 := Try.sizeOf78
  v72 := Try.zeroValue78
  t127 := Try.underlying90
  a127 := Try.isAgg90
  z127 := Try.sizeOf90
  v127 := Try.zeroValue90 }
theorem Ytcammfdljiingaa.extra169 : Builder.Extra Try.prog Ytcammfdljiingaa.ren169 := {
  sizeBuilder := by kernel_rfl
  liesBuilder := by kernel_rfl
  t5 := Try.underlying5
  a5 := Try.isAgg5
  z5 := Try.sizeOf5
  v5 := Try.zeroValue5
  infoByte := by kernel_rfl
  cellsByte := by kernel_rfl
  sizeByte := by kernel_rfl
  neB5 := by decide }

open Go.Abs in
theorem Ytcammfdljiingaa.table : Table Try.prog Ytcammfdljiingaa.hints Ytcammfdljiingaa.F := by
  intro g
  unfold Ytcammfdljiingaa.F
  split
  · exact Ytcammfdljiingaa.c3_ok
  · exact Ytcammfdljiingaa.c4_ok
  · exact Ytcammfdljiingaa.c5_ok
  · exact Ytcammfdljiingaa.c6_ok
  · exact Ytcammfdljiingaa.c7_ok
  · exact Ytcammfdljiingaa.c8_ok
  · exact Ytcammfdljiingaa.c9_ok
  · exact Ytcammfdljiingaa.c10_ok
  · exact Ytcammfdljiingaa.c11_ok
  · exact Ytcammfdljiingaa.c12_ok
  · exact Ytcammfdljiingaa.c13_ok
  · exact Ytcammfdljiingaa.c14_ok
  · exact Ytcammfdljiingaa.c15_ok
  · exact Ytcammfdljiingaa.c16_ok
  · exact Ytcammfdljiingaa.c17_ok
  · exact Ytcammfdljiingaa.c18_ok
  · exact Ytcammfdljiingaa.c19_ok
  · exact Ytcammfdljiingaa.c20_ok
  · exact Ytcammfdljiingaa.c21_ok
  · exact Ytcammfdljiingaa.c22_ok
  · exact Ytcammfdljiingaa.c23_ok
  · exact Ytcammfdljiingaa.c24_ok
  · exact Ytcammfdljiingaa.c25_ok
  · exact Ytcammfdljiingaa.c26_ok
  · exact Ytcammfdljiingaa.c27_ok
  · exact Ytcammfdljiingaa.c28_ok
  · exact Ytcammfdljiingaa.c29_ok
  · exact Ytcammfdljiingaa.c30_ok
  · exact Ytcammfdljiingaa.c31_ok
  · exact Ytcammfdljiingaa.c32_ok
  · exact Ytcammfdljiingaa.c33_ok
  · exact Ytcammfdljiingaa.c34_ok
  · exact Ytcammfdljiingaa.c35_ok
  · exact Ytcammfdljiingaa.c36_ok
  · exact Ytcammfdljiingaa.c37_ok
  · exact Ytcammfdljiingaa.c38_ok
  · exact Ytcammfdljiingaa.c39_ok
  · exact Ytcammfdljiingaa.c40_ok
  · exact Ytcammfdljiingaa.c41_ok
  · exact Ytcammfdljiingaa.c42_ok
  · exact Ytcammfdljiingaa.c43_ok
  · exact Ytcammfdljiingaa.c44_ok
  · exact Ytcammfdljiingaa.c45_ok
  · exact Ytcammfdljiingaa.c46_ok
  · exact Ytcammfdljiingaa.c47_ok
  · exact Ytcammfdljiingaa.c48_ok
  · exact Ytcammfdljiingaa.c49_ok
  · exact Ytcammfdljiingaa.c50_ok
  · exact Ytcammfdljiingaa.c52_ok
  · exact Ytcammfdljiingaa.c53_ok
  · exact Ytcammfdljiingaa.c54_ok
  · exact Ytcammfdljiingaa.c55_ok
  · exact Ytcammfdljiingaa.c56_ok
  · exact Ytcammfdljiingaa.c57_ok
  · exact Ytcammfdljiingaa.c59_ok
  · exact Ytcammfdljiingaa.c60_ok
  · exact string_ok Ytcammfdljiingaa.lays169 Ytcammfdljiingaa.extra169
  · exact copyCheck_ok (enters_of Try.func58 (by kernel_rfl) rfl) Ytcammfdljiingaa.cc_used Ytcammfdljiingaa.cc_fresh
  · trivial

theorem Ytcammfdljiingaa.mix : Try.prog.follows .mixedOrders = true := by kernel_rfl

open Go.Abs in
theorem Ytcammfdljiingaa.sound {n g : Nat} {args : List AVal} {h h' : Heap} {r : AVal} (e : run Ytcammfdljiingaa.F n (.call g args h) = some (.val r h')) : CallRel Try.prog g args h r h' := Go.Abs.sound Ytcammfdljiingaa.mix Ytcammfdljiingaa.table e

end Go.Proofs
