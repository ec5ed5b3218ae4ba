/-
  Merged from AbsDisp AbsBeq AbsDraw AbsPerm AbsRen: Every operation but a call: the translation and the abstract machine together.
-/
import Derived.Test.YthhdkkecolocdaaGreatDoorM01
import Derived.Test.YthhdkkecolocdaaGreatDoorM00
set_option linter.unusedSimpArgs false
set_option linter.unusedVariables false
set_option linter.defProp false
set_option linter.constructorNameAsVariable false
/-
 Every operation but a call: the translation and the abstract machine together.
-/
namespace Go.Abs
section
variable {P : Program} {o : Oper} {a : Act} {w : World} {G : Ghost} {h : Heap} {c : Operand → Option Opd} {ev : Opd → AVal} {r : AVal} {h' : Heap} {Hh : Hints} {fid dst : Nat}
theorem list1 {α : Type} {a : Array α} {x : α} (h : a.toList = [x]) : a = #[x] := by cases a; simp_all
theorem list2 {α : Type} {a : Array α} {x y : α} (h : a.toList = [x, y]) : a = #[x, y] := by cases a; simp_all
theorem builtin_ok (H : HRel w G h) (hc : Ops a w G c ev) {k : Call} {b : Builtin} {aop : AOp} (hop : o.op = .call k) (hb : k.callee = .builtin b) (hcomp : compBuiltin P Hh fid c dst b k.args.toList k.argTypes.toList = some aop)
  (e : evalA aop ev h = some (r, h')) : OpRes P o a w G h r h' := by
 obtain ⟨cal, args, ts⟩ := k
 simp only at hb hcomp
 subst hb
 unfold compBuiltin at hcomp
 split at hcomp
 ·rename_i x t ha ht
  have := list1 ha; have := list1 ht; subst_vars
  split at hcomp
  ·rename_i el x' hu hx; obtain rfl := Option.some.inj hcomp; exact op_len H hc hx hu hop e
  ·rename_i x' hu hx; obtain rfl := Option.some.inj hcomp; exact op_slen H hc hx hu hop e
  ·rename_i kt et x' hu hx; obtain rfl := Option.some.inj hcomp; exact op_mlen H hc hx hu hop e
  ·simp at hcomp
 ·rename_i x y t ts' ha ht
  have := list2 ha; subst_vars
  split at hcomp
  ·rename_i kt et x' y' hu hx hy
   simp only [Option.map_eq_some_iff] at hcomp
   obtain ⟨kd, hkd, rfl⟩ := hcomp
   exact op_mdel H hc hx hy hu (by rw [← Array.getElem?_toList, ht]; rfl) hkd hop e
  ·simp at hcomp
 ·rename_i x y t u ha ht
  have := list2 ha; have := list2 ht; subst_vars
  split at hcomp
  ·rename_i el ud x' y' hu hu' hx hy
   split at hcomp
   ·rename_i e' b s ag z h1 h2 h3 h4
    split at hcomp
    ·rename_i hzl
     obtain rfl := Option.some.inj hcomp
     split at e
     ·exact op_afresh H hc hx hy hu (.inl ⟨_, hu'⟩) h1 h2 h4 hzl hop e
     ·exact op_append H hc hx hy hu (.inl ⟨_, hu'⟩) h1 h2 h4 hzl hop e
    ·simp at hcomp
   ·rename_i b s ag z h1 h2 h3 h4
    split at hcomp
    ·rename_i hzl
     obtain rfl := Option.some.inj hcomp
     split at e
     ·exact op_afresh H hc hx hy hu (.inr hu') h1 h2 h4 hzl hop e
     ·exact op_append H hc hx hy hu (.inr hu') h1 h2 h4 hzl hop e
    ·simp at hcomp
   ·simp at hcomp
  ·simp at hcomp
 ·rename_i x y t u ha ht
  have := list2 ha; have := list2 ht; subst_vars
  split at hcomp
  ·rename_i el x' y' hu hx hy
   simp only [Option.map_eq_some_iff] at hcomp
   obtain ⟨s, hs, rfl⟩ := hcomp
   exact op_copy H hc hx hy hu hs hop e
  ·simp at hcomp
 ·rename_i x y ts' ha
  have := list2 ha; subst_vars
  split at hcomp
  ·rename_i x' y' hx hy; obtain rfl := Option.some.inj hcomp; exact op_mnx (mx := false) H hc hx hy hop e
  ·simp at hcomp
 ·rename_i x y ts' ha
  have := list2 ha; subst_vars
  split at hcomp
  ·rename_i x' y' hx hy; obtain rfl := Option.some.inj hcomp; exact op_mnx (mx := true) H hc hx hy hop e
  ·simp at hcomp
 ·simp at hcomp
def isCall : AOp → Bool
 | .call _ _ | .pcall _ _ | .gcall _ _ | .vcall _ _ => true
 | _ => false
theorem op_ok (H : HRel w G h) (hc : Ops a w G c ev) {aop : AOp} (hcomp : compOp P Hh fid c dst o.op = some aop) (hnc : isCall aop = false) (e : evalA aop ev h = some (r, h')) : OpRes P o a w G h r h' := by
 generalize hop : o.op = op at hcomp
 cases op <;> simp only [compOp, Option.map_eq_some_iff] at hcomp
 case move x => obtain ⟨x', hx, rfl⟩ := hcomp; exact op_mov H hc hx (.inl hop) e
 case assign x => obtain ⟨x', hx, rfl⟩ := hcomp; exact op_mov H hc hx (.inr hop) e
 case pick x y z =>
  split at hcomp
  ·rename_i x' y' z' hx hy hz; obtain rfl := Option.some.inj hcomp; exact op_pick H hc hx hy hz hop e
  ·simp at hcomp
 case alloc t =>
  split at hcomp
  ·rename_i s ag z hs ha hz; obtain rfl := Option.some.inj hcomp; exact op_alloc H hs hz hop e
  ·simp at hcomp
 case box t x =>
  split at hcomp
  ·rename_i s ag x' hs ha hx; obtain rfl := Option.some.inj hcomp; exact op_box H hc hx hs hop e
  ·simp at hcomp
 case build t ps =>
  split at hcomp
  ·rename_i fs z qs ht hz hp
   split at hcomp
   ·rename_i hall
    simp only [Option.map_eq_some_iff] at hcomp
    obtain ⟨qs', hq, rfl⟩ := hcomp
    exact op_build_struct H hc ht hz hp hall (by simpa using hq) hop e
   ·simp at hcomp
  ·rename_i n el z qs ht hz hp
   simp only [Option.map_eq_some_iff] at hcomp
   obtain ⟨s, hs, rfl⟩ := hcomp
   exact op_build_array H hc ht hz hs hp hop e
  ·simp at hcomp
 case buildSlice t n ps =>
  split at hcomp
  ·rename_i el qs ht hp
   have ht' : P.underlying t = some (.slice el) := by
    unfold tElem at ht; split at ht
    ·simp at ht; subst ht; assumption
    ·simp at ht
   split at hcomp
   ·rename_i s ag z hs ha hz
    split at hcomp
    ·rename_i hcond
     simp only [Bool.and_eq_true, decide_eq_true_eq] at hcond
     obtain rfl := Option.some.inj hcomp
     have h0 := hcond.1.1.1.1.1
     have hzl := hcond.1.1.1.2
     have hq : qs = [] := by have := hcond.1.1.1.1.2; simpa using this
     subst hq
     rw [h0] at hop
     exact op_elit H hc ht' hs hz hzl hp hop e
    ·obtain rfl := Option.some.inj hcomp; exact op_lit H hc ht' hs hz hp hop e
   ·simp at hcomp
  ·simp at hcomp
 case load t x =>
  split at hcomp
  ·rename_i s ag x' hs ha hx; obtain rfl := Option.some.inj hcomp; exact op_load H hc hx hs ha hop e
  ·simp at hcomp
 case store t x y =>
  split at hcomp
  ·rename_i s x' y' hs hx hy; obtain rfl := Option.some.inj hcomp; exact op_store H hc hx hy hs hop e
  ·simp at hcomp
 case nilCheck x => obtain ⟨x', hx, rfl⟩ := hcomp; exact op_nilc H hc hx hop e
 case binOp op t x y yt =>
  split at hcomp
  ·rename_i k x' y' ht hx hy; obtain rfl := Option.some.inj hcomp; exact op_bin H hc (bk := .arith) hx hy trivial hop e
  ·rename_i x' y' ht hx hy; obtain rfl := Option.some.inj hcomp; exact op_bin H hc (bk := .arith) hx hy trivial hop e
  ·rename_i x' y' ht hx hy; obtain rfl := Option.some.inj hcomp; exact op_bin H hc (bk := .bool) hx hy ht hop e
  ·rename_i fs x' y' ht hx hy
   simp only [Option.map_eq_some_iff] at hcomp
   obtain ⟨ks, hks, rfl⟩ := hcomp
   exact op_bin H hc (bk := .struct ks) hx hy (.inl hks) hop e
  ·rename_i n0 e0 x' y' ht hx hy
   simp only [Option.map_eq_some_iff] at hcomp
   obtain ⟨ks, hks, rfl⟩ := hcomp
   exact op_bin H hc (bk := .struct ks) hx hy (.inr hks) hop e
  ·rename_i el x' y' ht hx hy; obtain rfl := Option.some.inj hcomp; exact op_bin H hc (bk := .ptr) hx hy ⟨_, ht⟩ hop e
  ·rename_i el x' y' ht hx hy; obtain rfl := Option.some.inj hcomp; exact op_bin H hc (bk := .sl) hx hy ⟨_, ht⟩ hop e
  ·rename_i p1 p2 p3 x' y' ht hx hy; obtain rfl := Option.some.inj hcomp; exact op_bin H hc (bk := .fn) hx hy ⟨_, _, _, ht⟩ hop e
  ·rename_i p1 p2 x' y' ht hx hy; obtain rfl := Option.some.inj hcomp; exact op_bin H hc (bk := .mp) hx hy ⟨_, _, ht⟩ hop e
  ·simp at hcomp
 case unOp op t x => obtain ⟨x', hx, rfl⟩ := hcomp; exact op_un H hc hx hop e
 case convert s d x =>
  split at hcomp
  ·rename_i k0 k x' hs hd hx; obtain rfl := Option.some.inj hcomp; exact op_toInt H hc hx hs hd hop e
  ·rename_i x' hs hd hx; obtain rfl := Option.some.inj hcomp; exact op_idstr H hc hx hs hd hop e
  ·rename_i el x' hs hd hx
   split at hcomp
   ·rename_i he hsz; obtain rfl := Option.some.inj hcomp; exact op_s2b H hc hx hs hd he hsz hop e
   ·simp at hcomp
  ·rename_i el x' hs hd hx
   split at hcomp
   ·rename_i he; obtain rfl := Option.some.inj hcomp; exact op_b2s H hc hx hs hd he hop e
   ·simp at hcomp
  ·simp at hcomp
 case makeMap t r0 =>
  split at hcomp
  ·rename_i kt et ht
   simp only [Option.map_eq_some_iff] at hcomp
   obtain ⟨kd, hkd, rfl⟩ := hcomp
   exact op_mkmap (kt := kt) (et := et) H hop e
  ·rename_i kt et n ht
   split at hcomp
   ·rename_i n' kd hn hkd; obtain rfl := Option.some.inj hcomp; exact op_mkmap1 H hc hn ht hop e
   ·simp at hcomp
  ·simp at hcomp
 case mapEntry t x y =>
  split at hcomp
  ·rename_i kt et x' y' ht hx hy
   split at hcomp
   ·rename_i kd z hkd hz; obtain rfl := Option.some.inj hcomp; exact op_mentry H hc hx hy ht hkd hz hop e
   ·simp at hcomp
  ·simp at hcomp
 case entryStore t x y z =>
  split at hcomp
  ·rename_i x' y' z' hx hy hz; obtain rfl := Option.some.inj hcomp; exact op_mestore H hc hx hy hz hop e
  ·simp at hcomp
 case range t x =>
  split at hcomp
  ·rename_i kt et x' ht hx; obtain rfl := Option.some.inj hcomp; exact op_mrange H hc hx ht hop e
  ·simp at hcomp
 case next it b =>
  split at hcomp
  ·simp at hcomp
  ·rename_i hb
   simp only [Option.map_eq_some_iff] at hcomp
   obtain ⟨x', hx, rfl⟩ := hcomp
   exact op_mnext H hc hx (by simpa using hb) hop e
 case entry it =>
  obtain ⟨x', hx, rfl⟩ := hcomp
  exact op_mstep H hc hx hop e
 case lookup t x y ok =>
  split at hcomp
  ·rename_i kt et x' y' ht hx hy
   split at hcomp
   ·rename_i n sk z hkd hz; obtain rfl := Option.some.inj hcomp; exact op_mlook0 H hc hx hy ht hkd hz hop e
   ·rename_i z _ hz
    simp only [Option.map_eq_some_iff] at hcomp
    obtain ⟨kd, hkd, rfl⟩ := hcomp
    exact op_mlook H hc hx hy ht hkd hz hop e
   ·simp at hcomp
  ·simp at hcomp
 case mapUpdate t x y z =>
  split at hcomp
  ·rename_i kt et x' y' z' ht hx hy hz
   simp only [Option.map_eq_some_iff] at hcomp
   obtain ⟨kd, hkd, rfl⟩ := hcomp
   exact op_mput H hc hx hy hz ht hkd (.inl hop) e
  ·simp at hcomp
 case insert t x y z =>
  split at hcomp
  ·rename_i kt et x' y' z' ht hx hy hz
   simp only [Option.map_eq_some_iff] at hcomp
   obtain ⟨kd, hkd, rfl⟩ := hcomp
   exact op_mput H hc hx hy hz ht hkd (.inr hop) e
  ·simp at hcomp
 case sliceToArrayPointer t x =>
  split at hcomp
  ·rename_i n el x' ht hx
   simp only [Option.map_eq_some_iff] at hcomp
   obtain ⟨s, hs, rfl⟩ := hcomp
   exact op_s2ap H hc hx ht hs hop e
  ·simp at hcomp
 case makeFunc fn first cap =>
  cases fn <;> simp only [Option.map_eq_some_iff] at hcomp
  case func f =>
   split at hcomp
   ·rename_i hz
    simp only [Option.map_eq_some_iff] at hcomp
    obtain ⟨cs, hcs, rfl⟩ := hcomp
    have : first = #[] := Array.eq_empty_of_size_eq_zero hz
    subst this
    exact op_clo H hc hcs hop e
   ·simp at hcomp
  all_goals simp at hcomp
 case makeSlice t l m =>
  split at hcomp
  ·rename_i el l' m' ht hl hm
   have ht' : P.underlying t = some (.slice el) := by
    unfold tElem at ht; split at ht
    ·simp at ht; subst ht; assumption
    ·simp at ht
   split at hcomp
   ·rename_i b s ag z h1 h2 h3 h4
    have hc' := Option.some.inj hcomp
    split at hc'
    ·subst hc'; exact op_mkown H hc hl hm ht' h1 h2 h4 hop e
    ·subst hc'; exact op_mksl H hc hl hm ht' h1 h2 h4 hop e
   ·simp at hcomp
  ·simp at hcomp
 case slice t x lo hi mx =>
  cases mx with
  | some q =>
    cases lo with
    | some q2 => simp at hcomp
    | none =>
      cases hi with
      | none => simp at hcomp
      | some q3 =>
        simp only at hcomp
        split at hcomp
        ·rename_i el x' hi' mx' ht hx hhi hmx
         simp only [Option.map_eq_some_iff] at hcomp
         obtain ⟨s, hs, rfl⟩ := hcomp
         exact op_slice30 H hc hx hhi hmx ht hs hop e
        ·simp at hcomp
  | none =>
    simp only at hcomp
    split at hcomp
    ·rename_i el x' lo' hi' ht hx hlo hhi
     simp only [Option.map_eq_some_iff] at hcomp
     obtain ⟨s, hs, rfl⟩ := hcomp
     exact op_slice H hc hx hlo hhi ht hs hop e
    ·rename_i x' lo' hi' ht hx hlo hhi; obtain rfl := Option.some.inj hcomp; exact op_sslice H hc hx hlo hhi ht hop e
    ·rename_i n el x' lo' hi' ht hx hlo hhi
     split at hcomp
     ·rename_i s ag hs ha; obtain rfl := Option.some.inj hcomp; exact op_aslice H hc hx hlo hhi ht hs hop e
     ·simp at hcomp
    ·simp at hcomp
 case fieldAddr t x i =>
  split at hcomp
  ·rename_i fs x' ht hx
   split at hcomp
   ·rename_i f hf
    split at hcomp
    ·rename_i n hn
     split at hcomp
     ·simp at hcomp
     ·rename_i hne; obtain rfl := Option.some.inj hcomp; exact op_faddr H hc hx ht hf hn hne hop e
    ·simp at hcomp
   ·simp at hcomp
  ·simp at hcomp
 case field t x i =>
  split at hcomp
  ·rename_i fs x' ht hx
   split at hcomp
   ·rename_i f hf
    split at hcomp
    ·rename_i s ag hs ha; obtain rfl := Option.some.inj hcomp; exact op_field H hc hx ht hf hs ha hop e
    ·simp at hcomp
   ·simp at hcomp
  ·simp at hcomp
 case indexAddr t x i =>
  split at hcomp
  ·rename_i el x' i' ht hx hi
   simp only [Option.map_eq_some_iff] at hcomp
   obtain ⟨s, hs, rfl⟩ := hcomp
   exact op_iaddr H hc hx hi ht hs hop e
  ·rename_i n el x' i' ht hx hi
   simp only [Option.map_eq_some_iff] at hcomp
   obtain ⟨s, hs, rfl⟩ := hcomp
   exact op_aaddr H hc hx hi ht hs hop e
  ·simp at hcomp
 case index t x i =>
  split at hcomp
  ·rename_i x' i' ht hx hi; obtain rfl := Option.some.inj hcomp; exact op_sidx H hc hx hi ht hop e
  ·rename_i n el x' i' ht hx hi
   split at hcomp
   ·rename_i s ag hs ha; obtain rfl := Option.some.inj hcomp; exact op_aidx H hc hx hi ht hs ha hop e
   ·simp at hcomp
  ·simp at hcomp
 case extract x i => obtain ⟨x', hx, rfl⟩ := hcomp; exact op_ext H hc hx hop e
 case call k =>
  unfold compCall at hcomp
  split at hcomp
  ·rename_i b hb; exact builtin_ok H hc hop hb hcomp e
  ·split at hcomp
   ·repeat' split at hcomp
    all_goals (obtain rfl := Option.some.inj hcomp; simp [isCall] at hnc)
   ·simp only [Option.map_eq_some_iff] at hcomp
    obtain ⟨_, _, rfl⟩ := hcomp; split at hnc <;> simp [isCall] at hnc
   ·simp at hcomp
  ·simp at hcomp
 all_goals simp at hcomp
theorem call_of_comp {aop : AOp} (hcomp : compOp P Hh fid c dst o.op = some aop) (hic : isCall aop = true) :
  ∃ f args asx ts, o.op = .call { callee := .value f, args := args, argTypes := ts } ∧ optL c args.toList = some asx ∧
    ((∃ g, f = .func g ∧ aop = .pcall g asx) ∨ (∃ f', (c f = some f' ∨ ∃ g, f = .func g ∧ f' = .c (.fn g [])) ∧ aop = .call f' asx) ∨ (∃ g, f = .func g ∧ aop = .gcall g asx) ∨ ∃ f', c f = some f' ∧ aop = .vcall f' asx) := by
 generalize hop : o.op = op at hcomp
 cases op
 case call k =>
  obtain ⟨cal, args, ts⟩ := k
  simp only [compOp, compCall] at hcomp
  split at hcomp
  ·rename_i b
   unfold compBuiltin at hcomp
   repeat' split at hcomp
   all_goals first
    | (simp at hcomp; done)
    | (simp only [Option.map_eq_some_iff] at hcomp; obtain ⟨_, _, rfl⟩ := hcomp; simp [isCall] at hic; done)
    | (obtain rfl := Option.some.inj hcomp; simp [isCall] at hic)
  ·rename_i f
   split at hcomp
   ·rename_i g asx ha
    split at hcomp
    ·obtain rfl := Option.some.inj hcomp; exact ⟨_, args, asx, ts, rfl, ha, .inl ⟨g, rfl, rfl⟩⟩
    ·split at hcomp
     ·obtain rfl := Option.some.inj hcomp; exact ⟨_, args, asx, ts, rfl, ha, .inr (.inr (.inl ⟨g, rfl, rfl⟩))⟩
     ·obtain rfl := Option.some.inj hcomp; exact ⟨_, args, asx, ts, rfl, ha, .inr (.inl ⟨_, .inr ⟨g, rfl, rfl⟩, rfl⟩)⟩
   ·rename_i f asx _ ha
    simp only [Option.map_eq_some_iff] at hcomp
    obtain ⟨f', hf, rfl⟩ := hcomp
    split
    ·exact ⟨_, args, asx, ts, rfl, ha, .inr (.inr (.inr ⟨f', hf, rfl⟩))⟩
    ·exact ⟨_, args, asx, ts, rfl, ha, .inr (.inl ⟨f', .inl hf, rfl⟩)⟩
   ·simp at hcomp
  ·simp at hcomp
 all_goals
  exfalso
  simp only [compOp] at hcomp
  repeat' split at hcomp
  all_goals first
   | contradiction
   | (simp at hcomp; done)
   | (simp only [Option.map_eq_some_iff] at hcomp; obtain ⟨_, _, rfl⟩ := hcomp; simp [isCall] at hic; done)
   | (obtain rfl := Option.some.inj hcomp; simp [isCall] at hic)
end
end Go.Abs

namespace Go.Abs
mutual
theorem AVal.beq_eq : ∀ (x y : AVal), AVal.beq x y = true → x = y
 | .bool a, y, h => by cases y <;> simp_all [AVal.beq]
 | .int k a, y, h => by cases y <;> simp_all [AVal.beq]
 | .str a, y, h => by cases y <;> simp_all [AVal.beq]
 | .sl xs t, y, h => by
   cases y <;> simp [AVal.beq] at h
   rename_i ys t'
   rw [AVal.beqL_eq xs ys h.1, h.2]
 | .nilptr, y, h => by cases y <;> simp_all [AVal.beq]
 | .ptr a b, y, h => by cases y <;> simp_all [AVal.beq]
 | .rp xs, y, h => by
   cases y <;> simp [AVal.beq] at h
   rename_i ys
   rw [AVal.beqL_eq xs ys h]
 | .ref a b c d, y, h => by cases y <;> simp_all [AVal.beq]
 | .fn f xs, y, h => by
   cases y <;> simp [AVal.beq] at h
   rename_i g ys
   rw [AVal.beqL_eq xs ys h.2, h.1]
 | .nilfn, y, h => by cases y <;> simp_all [AVal.beq]
 | .nilif, y, h => by cases y <;> simp_all [AVal.beq]
 | .agg xs, y, h => by
   cases y <;> simp [AVal.beq] at h
   rename_i ys
   rw [AVal.beqL_eq xs ys h]
 | .tup xs, y, h => by
   cases y <;> simp [AVal.beq] at h
   rename_i ys
   rw [AVal.beqL_eq xs ys h]
 | .mp a, y, h => by cases y <;> simp_all [AVal.beq]
 | .nilmp, y, h => by cases y <;> simp_all [AVal.beq]
 | .yld a, y, h => by cases y <;> simp_all [AVal.beq]
 | .bad, y, h => by cases y <;> simp_all [AVal.beq]
theorem AVal.beqL_eq : ∀ (xs ys : List AVal), AVal.beqL xs ys = true → xs = ys
 | [], ys, h => by cases ys <;> simp_all [AVal.beqL]
 | x :: xs, ys, h => by
   cases ys with
   | nil => simp [AVal.beqL] at h
   | cons y ys =>
     simp [AVal.beqL] at h
     rw [AVal.beq_eq x y h.1, AVal.beqL_eq xs ys h.2]
end
mutual
theorem AVal.beq_refl : ∀ (x : AVal), AVal.beq x x = true
 | .bool a => by simp [AVal.beq]
 | .int k a => by simp [AVal.beq]
 | .str a => by simp [AVal.beq]
 | .sl xs t => by simp [AVal.beq, AVal.beqL_refl xs]
 | .nilptr => by simp [AVal.beq]
 | .ptr a b => by simp [AVal.beq]
 | .rp xs => by simp [AVal.beq, AVal.beqL_refl xs]
 | .ref a b c d => by simp [AVal.beq]
 | .fn f xs => by simp [AVal.beq, AVal.beqL_refl xs]
 | .nilfn => by simp [AVal.beq]
 | .nilif => by simp [AVal.beq]
 | .agg xs => by simp [AVal.beq, AVal.beqL_refl xs]
 | .tup xs => by simp [AVal.beq, AVal.beqL_refl xs]
 | .mp a => by simp [AVal.beq]
 | .nilmp => by simp [AVal.beq]
 | .yld a => by simp [AVal.beq]
 | .bad => by simp [AVal.beq]
theorem AVal.beqL_refl : ∀ (xs : List AVal), AVal.beqL xs xs = true
 | [] => by simp [AVal.beqL]
 | x :: xs => by simp [AVal.beqL, AVal.beq_refl x, AVal.beqL_refl xs]
end
theorem beqEs_eq : ∀ (xs ys : List (Nat × AVal × AVal)), beqEs xs ys = true → xs = ys
 | [], ys, h => by cases ys <;> simp_all [beqEs]
 | x :: xs, ys, h => by
   cases ys with
   | nil => simp [beqEs] at h
   | cons y ys =>
     simp only [beqEs, Bool.and_eq_true, beq_iff_eq] at h
     obtain ⟨⟨⟨h1, h2⟩, h3⟩, h4⟩ := h
     obtain ⟨a, b, c⟩ := x
     obtain ⟨a', b', c'⟩ := y
     simp only at h1 h2 h3
     rw [h1, AVal.beq_eq _ _ h2, AVal.beq_eq _ _ h3, beqEs_eq xs ys h4]
theorem beqEs_refl : ∀ (xs : List (Nat × AVal × AVal)), beqEs xs xs = true
 | [] => rfl
 | x :: xs => by simp [beqEs, AVal.beq_refl, beqEs_refl xs]
theorem Obj.beq_eq {a b : Obj} (h : a.beq b = true) : a = b := by
 cases a <;> cases b <;> simp [Obj.beq] at h
 ·obtain ⟨⟨⟨h1, h2⟩, h3⟩, h4⟩ := h
  rw [h1, h2, h3, AVal.beqL_eq _ _ h4]
 ·rw [h]
 ·obtain ⟨⟨h1, h2⟩, h3⟩ := h
  rw [h1, h2, beqEs_eq _ _ h3]
 ·obtain ⟨⟨⟨⟨h1, h2⟩, h3⟩, h4⟩, h5⟩ := h
  rw [h1, h2, h3, h4, AVal.beqL_eq _ _ h5]
 ·obtain ⟨⟨⟨h1, h2⟩, h3⟩, h4⟩ := h
  rw [h1, h2, h3, h4]
theorem Obj.beq_refl (a : Obj) : a.beq a = true := by
 cases a <;> simp [Obj.beq, AVal.beqL_refl, beqEs_refl]
theorem beqO_eq {a b : Option Obj} (h : beqO a b = true) : a = b := by
 cases a <;> cases b <;> simp [beqO] at h
 ·rfl
 ·rw [Obj.beq_eq h]
theorem beqO_refl (a : Option Obj) : beqO a a = true := by cases a <;> simp [beqO, Obj.beq_refl]
theorem extB_iff {h h' : Heap} : extB h h' = true ↔ h.next ≤ h'.next ∧ ∀ id, id < h.next → h'.get id = h.get id := by
 unfold extB
 simp only [Bool.and_eq_true, decide_eq_true_eq, List.all_eq_true, List.mem_range]
 exact ⟨fun ⟨h1, h2⟩ => ⟨h1, fun id hid => beqO_eq (h2 id hid)⟩, fun ⟨h1, h2⟩ => ⟨h1, fun id hid => by rw [h2 id hid]; exact beqO_refl _⟩⟩
theorem extB_refl (h : Heap) : extB h h = true := extB_iff.2 ⟨Nat.le_refl _, fun _ _ => rfl⟩
theorem HT.beq_eq : ∀ {a b : HT}, HT.beq a b = true → a = b
 | .leaf, b, h => by cases b <;> simp_all [HT.beq]
 | .node v l r, b, h => by
   cases b with
   | leaf => simp [HT.beq] at h
   | node v' l' r' =>
     simp only [HT.beq, Bool.and_eq_true] at h
     rw [beqO_eq h.1.1, HT.beq_eq h.1.2, HT.beq_eq h.2]
theorem HT.beq_refl : ∀ (a : HT), HT.beq a a = true
 | .leaf => rfl
 | .node v l r => by simp [HT.beq, beqO_refl, HT.beq_refl l, HT.beq_refl r]
theorem heapBeq_eq {a b : Heap} (h : heapBeq a b = true) : a = b := by
 obtain ⟨n, l⟩ := a
 obtain ⟨n', l'⟩ := b
 simp only [heapBeq, Bool.and_eq_true, beq_iff_eq] at h
 rw [h.1, HT.beq_eq h.2]
theorem heapBeq_refl (a : Heap) : heapBeq a a = true := by simp [heapBeq, HT.beq_refl]
theorem altsA_iff {cf : CallF} {vs : List AVal} {h : Heap} {r : List AVal × Heap} : ∀ {ls : List (List AOper)}, altsA cf vs h ls = some r ↔ ls ≠ [] ∧ ∀ l ∈ ls, ∃ s, foldA cf l 0 ⟨vs, List.replicate l.length .bad, h⟩ = some s ∧ s.vs = r.1 ∧ s.h = r.2
 | [] => by simp [altsA]
 | [l] => by
   simp only [altsA]
   cases hf : foldA cf l 0 ⟨vs, List.replicate l.length .bad, h⟩ with
   | none => simp [hf]
   | some s =>
     simp only [Option.some.injEq, ne_eq, reduceCtorEq, not_false_eq_true, List.mem_singleton, forall_eq, hf, exists_eq_left', true_and]
     constructor
     ·rintro rfl; exact ⟨rfl, rfl⟩
     ·rintro ⟨h1, h2⟩
      obtain ⟨r1, r2⟩ := r
      simp only at h1 h2
      rw [h1, h2]
 | l :: l' :: ls => by
   have ih := altsA_iff (cf := cf) (vs := vs) (h := h) (r := r) (ls := l' :: ls)
   rw [altsA]
   cases hf : foldA cf l 0 ⟨vs, List.replicate l.length .bad, h⟩ with
   | none => simp [hf]
   | some s =>
     simp only []
     constructor
     ·intro e
      split at e
      ·rename_i r' hr'
       split at e
       ·rename_i hb
        simp only [Option.some.injEq] at e
        subst e
        simp only [Bool.and_eq_true] at hb
        obtain ⟨_, h2⟩ := ih.1 hr'
        refine ⟨by simp, fun x hx => ?_⟩
        rcases List.mem_cons.1 hx with rfl | hx
        ·exact ⟨s, hf, AVal.beqL_eq _ _ hb.1, heapBeq_eq hb.2⟩
        ·exact h2 x hx
       ·simp at e
      ·simp at e
     ·rintro ⟨_, h2⟩
      have hr' := ih.2 ⟨by simp, fun x hx => h2 x (by simp [hx])⟩
      obtain ⟨s', e1, e2, e3⟩ := h2 l (by simp)
      rw [hf] at e1
      simp only [Option.some.injEq] at e1
      subst e1
      rw [hr']
      simp only [e2, e3, AVal.beqL_refl, heapBeq_refl, Bool.and_self, if_true]
end Go.Abs

namespace Go.Abs
theorem evalA_congr {op : AOp} {ev ev' : Opd → AVal} {h : Heap} (hx : ∀ x ∈ opdsOf op, ev x = ev' x) : evalA op ev h = evalA op ev' h := by
 cases op with
 | build z ps =>
   simp only [evalA]
   have : (ps.map fun p => (p.1, p.2.1, ev p.2.2)) = ps.map fun p => (p.1, p.2.1, ev' p.2.2) := List.map_congr_left fun p hp => by rw [hx p.2.2 (by simp only [opdsOf]; exact List.mem_map_of_mem (f := fun p : Nat × Nat × Opd => p.2.2) hp)]
   rw [this]
 | lit mode ty n sz ag z ps =>
   simp only [evalA]
   have : (ps.map fun p => (p.1 * sz, sz, ev p.2)) = ps.map fun p => (p.1 * sz, sz, ev' p.2) := List.map_congr_left fun p hp => by rw [hx p.2 (by simp only [opdsOf]; exact List.mem_map_of_mem (f := fun p : Nat × Opd => p.2) hp)]
   rw [this]
 | clo f cap =>
   simp only [evalA]
   rw [List.map_congr_left (f := ev) (g := ev') (l := cap) (fun x hx' => hx x hx')]
 | slice sz x lo hi =>
   simp only [evalA]
   rw [hx x (by simp [opdsOf])]
   have h1 : lo.map ev = lo.map ev' := by cases lo with
    | none => rfl
    | some y => simp [hx y (by simp [opdsOf])]
   have h2 : hi.map ev = hi.map ev' := by cases hi with
    | none => rfl
    | some y => simp [hx y (by simp [opdsOf])]
   rw [h1, h2]
 | sslice x lo hi =>
   simp only [evalA]
   rw [hx x (by simp [opdsOf])]
   have h1 : lo.map ev = lo.map ev' := by cases lo with
    | none => rfl
    | some y => simp [hx y (by simp [opdsOf])]
   have h2 : hi.map ev = hi.map ev' := by cases hi with
    | none => rfl
    | some y => simp [hx y (by simp [opdsOf])]
   rw [h1, h2]
 | pick a b c => simp only [evalA]; rw [hx a (by simp [opdsOf]), hx b (by simp [opdsOf]), hx c (by simp [opdsOf])]
 | x op args => simp only [evalA]; rw [List.map_congr_left (fun x hx' => hx x (by simpa [opdsOf] using hx'))]
 | alloc => rfl
 | call => rfl
 | pcall => rfl
 | gcall => rfl
 | vcall => rfl
 | mov x => simp only [evalA]; rw [hx x (by simp [opdsOf])]
 | box _ _ x => simp only [evalA]; rw [hx x (by simp [opdsOf])]
 | load _ _ x => simp only [evalA]; rw [hx x (by simp [opdsOf])]
 | nilc x => simp only [evalA]; rw [hx x (by simp [opdsOf])]
 | un _ x => simp only [evalA]; rw [hx x (by simp [opdsOf])]
 | toInt _ x => simp only [evalA]; rw [hx x (by simp [opdsOf])]
 | idstr x => simp only [evalA]; rw [hx x (by simp [opdsOf])]
 | faddr _ x => simp only [evalA]; rw [hx x (by simp [opdsOf])]
 | field _ _ _ x => simp only [evalA]; rw [hx x (by simp [opdsOf])]
 | len x => simp only [evalA]; rw [hx x (by simp [opdsOf])]
 | slen x => simp only [evalA]; rw [hx x (by simp [opdsOf])]
 | ext x _ => simp only [evalA]; rw [hx x (by simp [opdsOf])]
 | store _ x y => simp only [evalA]; rw [hx x (by simp [opdsOf]), hx y (by simp [opdsOf])]
 | bin _ _ x y => simp only [evalA]; rw [hx x (by simp [opdsOf]), hx y (by simp [opdsOf])]
 | mksl _ _ _ _ x y => simp only [evalA]; rw [hx x (by simp [opdsOf]), hx y (by simp [opdsOf])]
 | iaddr _ x y => simp only [evalA]; rw [hx x (by simp [opdsOf]), hx y (by simp [opdsOf])]
 | aaddr _ _ x y => simp only [evalA]; rw [hx x (by simp [opdsOf]), hx y (by simp [opdsOf])]
 | sidx x y => simp only [evalA]; rw [hx x (by simp [opdsOf]), hx y (by simp [opdsOf])]
 | aidx _ _ _ x y => simp only [evalA]; rw [hx x (by simp [opdsOf]), hx y (by simp [opdsOf])]
 | append _ _ _ _ _ x y => simp only [evalA]; rw [hx x (by simp [opdsOf]), hx y (by simp [opdsOf])]
 | copy _ x y => simp only [evalA]; rw [hx x (by simp [opdsOf]), hx y (by simp [opdsOf])]
 | mnx _ x y => simp only [evalA]; rw [hx x (by simp [opdsOf]), hx y (by simp [opdsOf])]
theorem execA_congr {cf : CallF} {op : AOp} {ev ev' : Opd → AVal} {h : Heap} (hx : ∀ x ∈ opdsOf op, ev x = ev' x) : execA cf op ev h = execA cf op ev' h := by
 cases op with
 | call f args =>
   simp only [execA]
   rw [hx f (by simp [opdsOf]), List.map_congr_left (fun x hx' => hx x (by simp [opdsOf, hx']))]
 | pcall f args =>
   simp only [execA]
   rw [List.map_congr_left (fun x hx' => hx x (by simp [opdsOf, hx']))]
 | gcall f args =>
   simp only [execA]
   rw [List.map_congr_left (fun x hx' => hx x (by simp [opdsOf, hx']))]
 | vcall f args =>
   simp only [execA]
   rw [hx f (by simp [opdsOf]), List.map_congr_left (fun x hx' => hx x (by simp [opdsOf, hx']))]
 | _ => simp only [execA]; exact evalA_congr hx
def TokExt (h h2 : Heap) : Prop := ∀ id o, h.get id = some o → (∀ ty, o ≠ .tok ty) → h2.get id = some o
theorem TokExt.push (h : Heap) (ob : Obj) : TokExt h (h.push ob) := fun id o hg _ => by rw [Heap.get_push_old _ (Heap.get_lt hg)]; exact hg
theorem elemsA_ext {h h2 : Heap} (hT : TokExt h h2) {sz : Nat} {x : AVal} {c : List AVal} (e : elemsA h sz x = some c) : elemsA h2 sz x = some c := by
 unfold elemsA at e ⊢
 split at e
 ·exact e
 ·split at e
  ·rename_i hs
   rw [if_pos hs]
   split at e
   ·rename_i hg
    rw [hT _ _ hg (by intro ty hh; cases hh)]; exact e
   ·simp at e
  ·simp at e
 ·exact e
 ·simp at e
mutual
theorem purify_ext {h h2 : Heap} (hT : TokExt h h2) : ∀ (x : AVal) {y : AVal}, purify h x = some y → purify h2 x = some y
 | .bool _, _, e => by simpa [purify] using e
 | .int _ _, _, e => by simpa [purify] using e
 | .str _, _, e => by simpa [purify] using e
 | .sl xs (.own _ _), _, e => by simpa [purify] using e
 | .sl xs .nil, _, e => by simpa [purify] using e
 | .sl xs .none, _, e => by simpa [purify] using e
 | .sl xs .full, _, e => by simpa [purify] using e
 | .nilptr, _, e => by simpa [purify] using e
 | .ptr _ _, _, e => by simp [purify] at e
 | .rp _, _, e => by simp [purify] at e
 | .ref id off len sz, y, e => by
   simp only [purify, Option.map_eq_some_iff] at e ⊢
   obtain ⟨xs, hx, rfl⟩ := e
   refine ⟨xs, ?_, rfl⟩
   unfold readRef at hx ⊢
   split at hx
   ·rename_i hg
    rw [hT _ _ hg (by intro ty hh; cases hh)]; exact hx
   ·simp at hx
 | .fn f cap, y, e => by
   simp only [purify, Option.map_eq_some_iff] at e ⊢
   obtain ⟨c, hc, rfl⟩ := e
   exact ⟨c, purifyL_ext hT cap hc, rfl⟩
 | .nilfn, _, e => by simpa [purify] using e
 | .nilif, _, e => by simpa [purify] using e
 | .mp _, _, e => by simp [purify] at e
 | .nilmp, _, e => by simpa [purify] using e
 | .agg cs, y, e => by
   simp only [purify, Option.map_eq_some_iff] at e ⊢
   obtain ⟨c, hc, rfl⟩ := e
   exact ⟨c, purifyL_ext hT cs hc, rfl⟩
 | .tup cs, y, e => by
   simp only [purify, Option.map_eq_some_iff] at e ⊢
   obtain ⟨c, hc, rfl⟩ := e
   exact ⟨c, purifyL_ext hT cs hc, rfl⟩
 | .bad, _, e => by simp [purify] at e
theorem purifyL_ext {h h2 : Heap} (hT : TokExt h h2) : ∀ (xs : List AVal) {ys : List AVal}, purifyL h xs = some ys → purifyL h2 xs = some ys
 | [], _, e => by simpa [purifyL] using e
 | x :: xs, ys, e => by
   simp only [purifyL] at e ⊢
   split at e
   ·rename_i y ys' h1 h2
    rw [purify_ext hT x h1, purifyL_ext hT xs h2]; exact e
   ·simp at e
end
theorem borrow_ext {h h2 : Heap} (hT : TokExt h h2) {x y : AVal} (e : borrow h x = some y) : borrow h2 x = some y := by
 cases x <;> try exact purify_ext hT _ e
 simp only [borrow] at e ⊢
 split at e
 ·rename_i hg
  rw [hT _ _ hg (by intro ty hh; cases hh)]; exact e
 ·simp at e
theorem borrowL_ext {h h2 : Heap} (hT : TokExt h h2) : ∀ (xs : List AVal) {ys : List AVal}, borrowL h xs = some ys → borrowL h2 xs = some ys
 | [], _, e => by simpa [borrowL] using e
 | x :: xs, ys, e => by
   simp only [borrowL] at e ⊢
   split at e
   ·rename_i y ys' h1 h2
    rw [borrow_ext hT h1, borrowL_ext hT xs h2]; exact e
   ·simp at e
theorem cls_n {Hh : Hints} {cf : CallF} {op : AOp} {ev : Opd → AVal} {h h' : Heap} {r : AVal} (hc : clsOf Hh op = .n) (e : execA cf op ev h = some (r, h')) : h' = h ∧ ∀ h2, execA cf op ev h2 = some (r, h2) := by
 cases op <;> simp only [clsOf] at hc <;> try (simp at hc; done)
 case x op args =>
  cases op <;> simp only [clsX] at hc <;> try (simp at hc; done)
  case s2b row =>
   split at hc
   ·simp at hc
   ·rename_i hr
    simp only [execA, evalA] at e ⊢
    unfold evalX at e ⊢
    split at e <;> try (simp at e; done)
    all_goals (rename_i h1 h2; cases h1)
    split at e
    ·split at e
     ·try rw [if_neg hr] at e
      simp only [Option.some.injEq, Prod.mk.injEq] at e
      obtain ⟨rfl, rfl⟩ := e
      refine ⟨rfl, fun h2 => ?_⟩
      simp_all
     ·simp at e
    ·simp at e
  all_goals
   simp only [execA, evalA] at e ⊢
   unfold evalX at e ⊢
   split at e <;> try (simp at e; done)
   all_goals (rename_i h1 h2; cases h1)
   repeat' split at e
   all_goals first
    | (simp at e; done)
    | (simp only [Option.some.injEq, Prod.mk.injEq] at e; obtain ⟨rfl, rfl⟩ := e; exact ⟨rfl, fun h2 => by simp_all⟩)
 case append arr _ _ _ _ _ _ => cases arr <;> simp at hc
 case call f args => split at hc <;> first | (simp at hc; done) | (split at hc <;> simp at hc)
 case lit mode ty n sz ag z ps =>
  have hm : mode = 0 := by
   repeat' split at hc
   all_goals first
    | assumption
    | (simp at hc; done)
  subst hm
  simp only [execA, evalA] at e ⊢
  split at e
  ·rename_i cs hf
   split at e
   ·simp at e
   ·rename_i hcond
    simp only [show ¬ ((0 : Nat) = 2) by omega, show ¬ ((0 : Nat) = 3) by omega, show ¬ ((0 : Nat) = 1) by omega, if_false] at e
    split at e
    ·simp at e
    ·rename_i cs' hs
     split at e
     ·simp at e
     ·rename_i xs hch
      simp at e; obtain ⟨rfl, rfl⟩ := e
      refine ⟨rfl, fun h2 => ?_⟩
      simp only [hcond, show ¬ ((0 : Nat) = 2) by omega, show ¬ ((0 : Nat) = 3) by omega, show ¬ ((0 : Nat) = 1) by omega, if_false, hs, hch]
      simp
  ·simp at e
 all_goals
  simp only [execA, evalA] at e ⊢
  repeat' split at e
  all_goals first
   | (simp at e; done)
   | (simp only [Option.some.injEq, Prod.mk.injEq] at e; obtain ⟨rfl, rfl⟩ := e; exact ⟨rfl, fun h2 => by simp [*]⟩)
   | (simp only [Option.map_eq_some_iff, Prod.mk.injEq] at e; obtain ⟨x, e, rfl, rfl⟩ := e; exact ⟨rfl, fun h2 => by simp [*]⟩)
theorem cls_v {cf : CallF} {f : Opd} {args : List Opd} {ev : Opd → AVal} {h h' : Heap} {r : AVal} (e : execA cf (.vcall f args) ev h = some (r, h')) : h' = h ∧ ∀ h2, TokExt h h2 → execA cf (.vcall f args) ev h2 = some (r, h2) := by
 simp only [execA] at e ⊢
 split at e
 ·rename_i g cap hfn
  split at e
  ·rename_i asx hb
   split at e
   ·rename_i r0 h0 hcf
    split at e
    ·rename_i hsc
     simp at e; obtain ⟨rfl, rfl⟩ := e
     exact ⟨rfl, fun h2 hT => by simp [borrowL_ext hT _ hb, hcf, hsc]⟩
    ·simp at e
   ·simp at e
  ·simp at e
 ·simp at e
theorem cls_r {Hh : Hints} {cf : CallF} {op : AOp} {ev : Opd → AVal} {h h' : Heap} {r : AVal} (hc : clsOf Hh op = .r) (e : execA cf op ev h = some (r, h')) : h' = h ∧ ∀ h2, TokExt h h2 → execA cf op ev h2 = some (r, h2) := by
 cases op <;> simp only [clsOf] at hc <;> try (simp at hc; done)
 case vcall f args => exact cls_v e
 case append arr _ _ _ _ _ _ => cases arr <;> simp at hc
 case call f args => split at hc <;> first | (simp at hc; done) | (split at hc <;> simp at hc)
 case x op args =>
  cases op <;> simp only [clsX] at hc <;> try (simp at hc; done)
  case s2b row => cases row <;> simp at hc
  case b2s =>
   simp only [execA, evalA] at e ⊢
   generalize args.map ev = L at e ⊢
   match L, e with
   | [v], e =>
     simp only [evalX] at e ⊢
     split at e
     ·rename_i cs hcs
      split at e
      ·rename_i hall
       simp only [Option.map_eq_some_iff, Prod.mk.injEq] at e
       obtain ⟨s, hs, rfl, rfl⟩ := e
       refine ⟨rfl, fun h2 hT => ?_⟩
       have hcs2 : bytesA h2 v = some cs := by
        unfold bytesA at hcs ⊢
        split at hcs
        ·simp at hcs
        ·rename_i hns
         have he := elemsA_ext hT hcs
         cases v <;> first
          | exact absurd rfl (hns _)
          | exact he
       rw [hcs2]
       simp [hall, hs]
      ·simp at e
     ·simp at e
   | [], e => simp [evalX] at e
   | _ :: _ :: _, e => simp [evalX] at e
  all_goals
   simp only [execA, evalA] at e ⊢
   unfold evalX at e ⊢
   split at e <;> try (simp at e; done)
   all_goals (rename_i h1 h2; cases h1)
   repeat' split at e
   all_goals first
    | (simp at e; done)
    | (simp only [Option.some.injEq, Prod.mk.injEq] at e; obtain ⟨rfl, rfl⟩ := e; refine ⟨rfl, fun h2 hT => ?_⟩; first | (simp_all; done) | (have hq := hT _ _ (by assumption) (by intro ty hh; cases hh); simp_all; done))
    | (simp only [Option.map_eq_some_iff, Prod.mk.injEq] at e; obtain ⟨x, e, rfl, rfl⟩ := e; refine ⟨rfl, fun h2 hT => ?_⟩; first | (simp_all; done) | (have hq := hT _ _ (by assumption) (by intro ty hh; cases hh); simp_all; done))
 case lit mode ty n sz ag z ps =>
  repeat' split at hc
  all_goals simp at hc
 case pcall f args =>
  simp only [execA] at e ⊢
  split at e
  ·rename_i asx hs
   split at e
   ·rename_i r0 h0 hcf
    simp only [Option.map_eq_some_iff, Prod.mk.injEq] at e
    obtain ⟨x, hp, rfl, rfl⟩ := e
    exact ⟨rfl, fun h2 hT => by simp [hs, hcf, hp]⟩
   ·simp at e
  ·rename_i hs
   split at e
   ·rename_i asx hp
    split at e
    ·rename_i r0 h0 hcf
     split at e
     ·rename_i hsc
      simp at e; obtain ⟨rfl, rfl⟩ := e
      exact ⟨rfl, fun h2 hT => by simp [hs, purifyL_ext hT _ hp, hcf, hsc]⟩
     ·simp at e
    ·simp at e
   ·simp at e
theorem cls_l {Hh : Hints} {cf : CallF} {op : AOp} {ev : Opd → AVal} {h h' : Heap} {r : AVal} (hc : clsOf Hh op = .l) (e : execA cf op ev h = some (r, h')) : h' = h ∧ ∀ h2, (∀ id m s ag cs, h.get id = some (.row m s ag cs) → h2.get id = some (.row m s ag cs)) → execA cf op ev h2 = some (r, h2) := by
 cases op <;> simp only [clsOf] at hc <;> try (simp at hc; done)
 case append arr _ _ _ _ _ _ => cases arr <;> simp at hc
 case call f args => split at hc <;> first | (simp at hc; done) | (split at hc <;> simp at hc)
 case x op args => cases op <;> simp only [clsX] at hc <;> first | (simp at hc; done) | (split at hc <;> simp at hc)
 case lit mode ty n sz ag z ps =>
  repeat' split at hc
  all_goals simp at hc
 case load n ag x =>
  simp only [execA, evalA, Option.map_eq_some_iff, Prod.mk.injEq] at e ⊢
  obtain ⟨x', e, rfl, rfl⟩ := e
  refine ⟨rfl, fun h2 hT => ⟨x', ?_, rfl, trivial⟩⟩
  unfold loadA at e ⊢
  split at e
  ·split at e
   ·rename_i hg
    rw [hT _ _ _ _ _ hg]; exact e
   ·simp at e
  ·exact e
  ·simp at e
theorem cls_q {Hh : Hints} {cf : CallF} {op : AOp} {ev : Opd → AVal} {h h' : Heap} {r : AVal} (hc : clsOf Hh op = .l) (e : execA cf op ev h = some (r, h')) : h' = h ∧ ∀ h2, TokExt h h2 → execA cf op ev h2 = some (r, h2) := by
 obtain ⟨q1, q2⟩ := cls_l hc e
 exact ⟨q1, fun h2 hT => q2 h2 fun id m s ag cs hg => hT _ _ hg (by intro ty hh; cases hh)⟩
theorem Heap.put_push (h : Heap) {id : Nat} (hid : id < h.next) (o : Option Obj) (ob : Obj) : (h.push ob).put id o = (h.put id o).push ob := by
 exact Heap.put_push_lt h hid o ob
theorem cls_m {Hh : Hints} {cf : CallF} {op : AOp} {ev : Opd → AVal} {h h' : Heap} {r : AVal} (hc : clsOf Hh op = .m) (e : execA cf op ev h = some (r, h')) :
  (∀ id m s ag cs, h.get id = some (.row m s ag cs) → h'.get id = some (.row m s ag cs)) ∧ h'.next = h.next ∧ ∀ ob, execA cf op ev (h.push ob) = some (r, h'.push ob) := by
 cases op <;> simp only [clsOf] at hc <;> try (simp at hc; done)
 case append arr _ _ _ _ _ _ => cases arr <;> simp at hc
 case call f args => split at hc <;> first | (simp at hc; done) | (split at hc <;> simp at hc)
 case lit mode ty n sz ag z ps =>
  repeat' split at hc
  all_goals simp at hc
 case x op args =>
  cases op <;> simp only [clsX] at hc <;> try (first | (simp at hc; done) | (split at hc <;> simp at hc; done))
  rename_i kd
  simp only [execA, evalA] at e ⊢
  generalize args.map ev = L at e ⊢
  match L, e with
  | [m, k, v], e =>
    simp only [evalX] at e ⊢
    split at e
    ·rename_i hk
     simp only [if_pos hk]
     split at e
     ·rename_i id
      split at e
      ·rename_i kd' clock es hg
       split at e
       ·rename_i hcond
        simp only [Option.some.injEq, Prod.mk.injEq] at e
        obtain ⟨rfl, rfl⟩ := e
        refine ⟨fun i m s ag cs hi => ?_, by simp, fun ob => ?_⟩
        ·have hne : i ≠ id := fun q => by subst q; rw [hg] at hi; simp at hi
         rw [Heap.get_put_other _ hne]; exact hi
        ·rw [Heap.get_push_old _ (Heap.get_lt hg), hg]
         simp only [hcond, and_self, if_true]
         rw [Heap.put_push _ (Heap.get_lt hg)]
       ·simp at e
      ·simp at e
     ·simp at e
    ·simp at e
  | [], e => simp [evalX] at e
  | [_], e => simp [evalX] at e
  | [_, _], e => simp [evalX] at e
  | _ :: _ :: _ :: _ :: _, e => simp [evalX] at e
theorem cls_a {Hh : Hints} {cf : CallF} {op : AOp} {ev : Opd → AVal} {h h' : Heap} {r : AVal} (hc : clsOf Hh op = .a) (e : execA cf op ev h = some (r, h')) : ∃ ob, h' = h.push ob ∧ ∀ h2 : Heap, h2.next = h.next → execA cf op ev h2 = some (r, h2.push ob) := by
 cases op <;> simp only [clsOf] at hc <;> try (simp at hc; done)
 case append arr _ _ _ _ _ _ => cases arr <;> simp at hc
 case call f args => split at hc <;> first | (simp at hc; done) | (split at hc <;> simp at hc)
 case x op args =>
  cases op <;> simp only [clsX] at hc <;> try (simp at hc; done)
  all_goals
   simp only [execA, evalA] at e ⊢
   unfold evalX at e ⊢
   split at e <;> try (simp at e; done)
   all_goals (rename_i h1 h2; cases h1)
   repeat' split at e
   all_goals first
    | (simp at e; done)
    | (simp only [Option.some.injEq, Prod.mk.injEq] at e; obtain ⟨rfl, rfl⟩ := e; exact ⟨_, rfl, fun h2 hn => by simp_all⟩)
    | (simp_all; done)
 case lit mode ty n sz ag z ps =>
  have hm : mode = 1 ∨ mode = 2 := by
   repeat' split at hc
   all_goals first
    | exact .inl (by assumption)
    | exact .inr (by assumption)
    | (simp at hc; done)
  simp only [execA, evalA] at e ⊢
  split at e
  ·rename_i cs hf
   split at e
   ·simp at e
   ·rename_i hcond
    rcases hm with rfl | rfl
    ·simp only [show ¬ ((1 : Nat) = 2) by omega, show ¬ ((1 : Nat) = 3) by omega, if_false, if_true] at e
     split at e
     ·simp at e
     ·rename_i cs' hs
      split at e
      ·simp at e
      ·rename_i xs hch
       simp at e; obtain ⟨rfl, rfl⟩ := e
       exact ⟨_, rfl, fun h2' hn => by simp only [hcond, if_false, show ¬ ((1 : Nat) = 2) by omega, show ¬ ((1 : Nat) = 3) by omega, hs, hch, if_true, hn]; simp⟩
    ·simp only [if_true] at e
     simp at e; obtain ⟨rfl, rfl⟩ := e
     exact ⟨_, rfl, fun h2' hn => by simp only [hcond, if_false, if_true, hn]; simp⟩
  ·simp at e
 all_goals
  simp only [execA, evalA] at e ⊢
  repeat' split at e
  all_goals first
   | (simp at e; done)
   | (simp only [Option.some.injEq, Prod.mk.injEq] at e; obtain ⟨rfl, rfl⟩ := e; exact ⟨_, rfl, fun h2 hn => by simp [*]⟩)
theorem TokExt.refl (h : Heap) : TokExt h h := fun _ _ hg _ => hg
theorem tok_push {h : Heap} (ty : Nat) : TokExt h (h.push (.tok ty)) ∧ TokExt (h.push (.tok ty)) h := by
 refine ⟨TokExt.push h _, fun id o hg hn => ?_⟩
 rcases Heap.get_push_some hg with ⟨_, rfl⟩ | ⟨_, h2⟩
 ·exact absurd rfl (hn ty)
 ·exact h2
theorem tok_put {h : Heap} {id ty ty2 : Nat} (hg : h.get id = some (.tok ty)) : TokExt h ((h.put id none).push (.tok ty2)) ∧ TokExt ((h.put id none).push (.tok ty2)) h := by
 refine ⟨fun j o hj hn => ?_, fun j o hj hn => ?_⟩
 ·have hne : j ≠ id := fun e => by subst e; rw [hg] at hj; exact hn ty (Option.some.inj hj).symm
  have : (h.put id none).get j = some o := by rw [Heap.get_put_other _ hne]; exact hj
  rw [Heap.get_push_old _ (Heap.get_lt this)]; exact this
 ·rcases Heap.get_push_some hj with ⟨_, rfl⟩ | ⟨_, h2⟩
  ·exact absurd rfl (hn ty2)
  ·by_cases hne : j = id
   ·subst hne; rw [Heap.get_put _ hg] at h2; simp at h2
   ·rwa [Heap.get_put_other _ hne] at h2
theorem cls_t {Hh : Hints} {cf : CallF} {op : AOp} {ev : Opd → AVal} {h h' : Heap} {r : AVal} (hc : clsOf Hh op = .t) (e : execA cf op ev h = some (r, h')) : TokExt h h' ∧ TokExt h' h := by
 cases op <;> simp only [clsOf] at hc <;> try (simp at hc; done)
 case x op args => cases op <;> simp only [clsX] at hc <;> first | (simp at hc; done) | (split at hc <;> simp at hc)
 case lit mode ty n sz ag z ps => repeat' split at hc
                                  all_goals simp at hc
 case call f args => split at hc <;> first | (simp at hc; done) | (split at hc <;> simp at hc)
 case append arr ty bytes sz ag x y =>
  have harr : arr = false := by cases arr <;> simp at hc <;> rfl
  subst harr
  simp only [execA, evalA] at e
  unfold appendA at e
  split at e
  ·split at e
   ·split at e <;> first
     | (simp only [Option.some.injEq, Prod.mk.injEq] at e; obtain ⟨_, rfl⟩ := e; exact ⟨TokExt.refl _, TokExt.refl _⟩)
     | (simp at e; done)
   ·split at e
    ·split at e
     ·simp at e
     ·simp only [Bool.false_eq_true, if_false] at e
      split at e
      ·simp at e
      ·split at e
       ·simp at e
       ·split at e
        ·split at e
         ·simp only [Option.some.injEq, Prod.mk.injEq] at e; obtain ⟨_, rfl⟩ := e; exact tok_push _
         ·simp at e
        ·split at e
         ·simp only [Option.some.injEq, Prod.mk.injEq] at e; obtain ⟨_, rfl⟩ := e; exact tok_push _
         ·simp at e
        ·split at e
         ·rename_i hg
          split at e
          ·simp only [Option.some.injEq, Prod.mk.injEq] at e; obtain ⟨_, rfl⟩ := e; exact tok_put hg
          ·simp at e
         ·simp at e
        ·simp at e
    ·split at e <;> simp at e
    ·simp at e
  ·simp at e
theorem cls_g {Hh : Hints} {cf : CallF} (hgr : ∀ g args h r h', Hh.grow g = true → cf false g args h = some (r, h') → TokExt h h') {op : AOp} {vs ts : List AVal} {h h' : Heap} {r : AVal} (hc : clsOf Hh op = .g) (e : execA cf op (evOpd vs ts) h = some (r, h')) : TokExt h h' := by
 cases op <;> simp only [clsOf] at hc <;> try (simp at hc; done)
 case x op args =>
  cases op <;> simp only [clsX] at hc <;> first | (simp at hc; done) | (split at hc <;> simp at hc; done) | skip
  case afresh ty bytes sz ag =>
   simp only [execA, evalA] at e
   generalize args.map (evOpd vs ts) = L at e
   have key : ∀ {t : Tok} {y : AVal}, appendA true ty bytes sz ag (.sl [] t) y h = some (r, h') → TokExt h h' := by
    intro t y e
    unfold appendA at e
    split at e
    ·split at e
     ·simp only [Option.some.injEq, Prod.mk.injEq] at e; obtain ⟨_, rfl⟩ := e; exact TokExt.refl _
     ·simp only [if_true] at e
      split at e
      ·simp at e
      ·split at e
       ·simp only [Option.some.injEq, Prod.mk.injEq] at e; obtain ⟨_, rfl⟩ := e; exact TokExt.push _ _
       ·simp only [Option.some.injEq, Prod.mk.injEq] at e; obtain ⟨_, rfl⟩ := e; exact TokExt.push _ _
       ·simp at e
    ·simp at e
   match L, e with
   | [x, y], e =>
     simp only [evalX] at e
     split at e
     ·exact key e
     ·exact key e
     ·simp at e
   | [], e => simp [evalX] at e
   | [_], e => simp [evalX] at e
   | _ :: _ :: _ :: _, e => simp [evalX] at e
 case lit mode ty n sz ag z ps => repeat' split at hc
                                  all_goals simp at hc
 case append arr _ _ _ _ _ _ => cases arr <;> simp at hc
 case call f args =>
  split at hc
  ·rename_i g
   split at hc
   ·rename_i hg
    exact hgr g _ _ _ _ hg e
   ·simp at hc
  ·simp at hc
 case gcall g args =>
  simp only [execA] at e
  split at e
  ·split at e
   ·rename_i hx
    simp only [Option.some.injEq, Prod.mk.injEq] at e
    obtain ⟨rfl, rfl⟩ := e
    intro id o ho _
    rw [(extB_iff.1 hx).2 id (Heap.get_lt ho)]; exact ho
   ·simp at e
  ·simp at e
end Go.Abs

namespace Go.Abs
theorem readsV_false {o : AOper} {i : Nat} (h : readsV o i = false) : ∀ x ∈ readsOf o, x ≠ .v i := by
 intro x hx he
 subst he
 have : readsV o i = true := List.any_eq_true.2 ⟨.v i, hx, by simp⟩
 rw [h] at this; simp at this
theorem readsT_false {o : AOper} {k : Nat} (h : readsT o k = false) : ∀ x ∈ readsOf o, x ≠ .t k := by
 intro x hx he
 subst he
 have : readsT o k = true := List.any_eq_true.2 ⟨.t k, hx, by simp⟩
 rw [h] at this; simp at this
theorem ev_put {s : St} {k : Nat} {d : ADst} {r : AVal} {h : Heap} {x : Opd} (hv : ∀ i, d = .var i → x ≠ .v i) (ht : x ≠ .t k) : evOpd (s.put k d r h).vs (s.put k d r h).ts x = evOpd s.vs s.ts x := by
 cases x with
 | c y => rfl
 | v i =>
   cases d with
   | no => rfl
   | tmp => rfl
   | var j =>
     have : j ≠ i := fun e => hv j rfl (by rw [e])
     simp [evOpd, St.put, List.getElem?_set_ne this]
 | t j =>
   cases d with
   | no => rfl
   | tmp =>
     have : k ≠ j := fun e => ht (by rw [e])
     simp [evOpd, St.put, List.getElem?_set_ne this]
   | var i => rfl
structure Told (cf : CallF) (o : AOper) (s : St) (g : Bool) (r : AVal) (h' : Heap) : Prop where
 want : wantA (evOpd s.vs s.ts) o.guard = some g
 run : if g then execA cf o.op (evOpd s.vs s.ts) s.h = some (r, h') else r = .tup [] ∧ h' = s.h
theorem step_told {cf : CallF} {o : AOper} {k : Nat} {s s' : St} (e : stepA cf o k s = some s') : ∃ g r h', Told cf o s g r h' ∧ s' = s.put k o.dst r h' := by
 unfold stepA at e
 split at e
 ·simp at e
 ·rename_i hw
  obtain rfl := Option.some.inj e
  exact ⟨false, _, _, ⟨hw, by simp⟩, rfl⟩
 ·rename_i hw
  split at e
  ·rename_i r h' he
   obtain rfl := Option.some.inj e
   exact ⟨true, r, h', ⟨hw, by simpa using he⟩, rfl⟩
  ·simp at e
theorem told_step {cf : CallF} {o : AOper} {k : Nat} {s : St} {g : Bool} {r : AVal} {h' : Heap} (t : Told cf o s g r h') : stepA cf o k s = some (s.put k o.dst r h') := by
 unfold stepA
 rw [t.want]
 have hr := t.run
 cases g
 ·simp at hr; simp [hr.1, hr.2]
 ·simp at hr; simp [hr]
theorem told_congr {cf : CallF} {o : AOper} {s s' : St} {g : Bool} {r : AVal} {h' : Heap} (t : Told cf o s g r h') (hx : ∀ x ∈ readsOf o, evOpd s.vs s.ts x = evOpd s'.vs s'.ts x) (hh : s'.h = s.h) : Told cf o s' g r h' := by
 refine ⟨?_, ?_⟩
 ·rw [← t.want]
  cases hg : o.guard with
  | none => rfl
  | some p =>
    simp only [wantA]
    rw [hx p.1 (by simp [readsOf, hg])]
 ·have hr := t.run
  rw [hh, ← execA_congr (cf := cf) (ev := evOpd s.vs s.ts) (fun x hx' => hx x (by simp [readsOf, hx']))]
  exact hr
theorem told_heap {Hh : Hints} {cf : CallF} (hgr : ∀ g args h r h', Hh.grow g = true → cf false g args h = some (r, h') → TokExt h h') {a b : AOper} {s : St} {g g' : Bool} {r r' : AVal} {h1 h2 : Heap} (hcl : heapConf (clsOf Hh a.op) (clsOf Hh b.op) = false) (ta : Told cf a s g r h1) (tb : Told cf b { s with h := h1 } g' r' h2) :
  ∃ h1', Told cf b s g' r' h1' ∧ Told cf a { s with h := h1' } g r h2 := by
 have wa := ta.want
 have wb := tb.want
 have ra := ta.run
 have rb := tb.run
 cases g with
 | false =>
   simp at ra
   obtain ⟨rfl, rfl⟩ := ra
   exact ⟨h2, ⟨wb, rb⟩, ⟨wa, by simp⟩⟩
 | true =>
   simp at ra
   cases g' with
   | false =>
     simp at rb
     obtain ⟨rfl, rfl⟩ := rb
     exact ⟨s.h, ⟨wb, by simp⟩, ⟨wa, by simpa using ra⟩⟩
   | true =>
     simp at rb
     cases ca : clsOf Hh a.op <;> cases cb : clsOf Hh b.op <;> rw [ca, cb] at hcl <;> simp [heapConf] at hcl <;> first
      | (obtain ⟨rfl, q⟩ := cls_n ca ra; exact ⟨h2, ⟨wb, by simpa using rb⟩, ⟨wa, by simpa using q h2⟩⟩)
      | (obtain ⟨rfl, q⟩ := cls_n cb rb; exact ⟨s.h, ⟨wb, by simpa using q s.h⟩, ⟨wa, by simpa using ra⟩⟩)
      | (obtain ⟨q, _, _⟩ := cls_m cb rb
         obtain ⟨rfl, q'⟩ := cls_l ca ra
         exact ⟨h2, ⟨wb, by simpa using rb⟩, ⟨wa, by simpa using q' h2 q⟩⟩)
      | (obtain ⟨_, q1, q⟩ := cls_m ca ra
         obtain ⟨ob, rfl, q'⟩ := cls_a cb rb
         exact ⟨s.h.push ob, ⟨wb, by simpa using q' s.h q1.symm⟩, ⟨wa, by simpa using q ob⟩⟩)
      | (obtain ⟨rfl, _⟩ := cls_r ca ra; obtain ⟨rfl, _⟩ := cls_r cb rb; exact ⟨s.h, ⟨wb, by simpa using rb⟩, ⟨wa, by simpa using ra⟩⟩)
      | (obtain ⟨rfl, _⟩ := cls_r ca ra; obtain ⟨rfl, _⟩ := cls_q cb rb; exact ⟨s.h, ⟨wb, by simpa using rb⟩, ⟨wa, by simpa using ra⟩⟩)
      | (obtain ⟨rfl, _⟩ := cls_q ca ra; obtain ⟨rfl, _⟩ := cls_r cb rb; exact ⟨s.h, ⟨wb, by simpa using rb⟩, ⟨wa, by simpa using ra⟩⟩)
      | (obtain ⟨rfl, _⟩ := cls_q ca ra; obtain ⟨rfl, _⟩ := cls_q cb rb; exact ⟨s.h, ⟨wb, by simpa using rb⟩, ⟨wa, by simpa using ra⟩⟩)
      | (obtain ⟨rfl, q⟩ := cls_r ca ra
         obtain ⟨ob, rfl, q'⟩ := cls_a cb rb
         exact ⟨s.h.push ob, ⟨wb, by simpa using q' s.h rfl⟩, ⟨wa, by simpa using q _ (TokExt.push _ ob)⟩⟩)
      | (obtain ⟨rfl, q⟩ := cls_r ca ra
         obtain ⟨t1, _⟩ := cls_t cb rb
         exact ⟨h2, ⟨wb, by simpa using rb⟩, ⟨wa, by simpa using q h2 t1⟩⟩)
      | (obtain ⟨rfl, q⟩ := cls_r ca ra
         exact ⟨h2, ⟨wb, by simpa using rb⟩, ⟨wa, by simpa using q h2 (cls_g hgr cb rb)⟩⟩)
      | (obtain ⟨rfl, q⟩ := cls_r cb rb
         obtain ⟨_, t2⟩ := cls_t ca ra
         exact ⟨s.h, ⟨wb, by simpa using q s.h t2⟩, ⟨wa, by simpa using ra⟩⟩)
      | (obtain ⟨rfl, q⟩ := cls_q ca ra
         obtain ⟨ob, rfl, q'⟩ := cls_a cb rb
         exact ⟨s.h.push ob, ⟨wb, by simpa using q' s.h rfl⟩, ⟨wa, by simpa using q _ (TokExt.push _ ob)⟩⟩)
      | (obtain ⟨rfl, q⟩ := cls_q ca ra
         obtain ⟨t1, _⟩ := cls_t cb rb
         exact ⟨h2, ⟨wb, by simpa using rb⟩, ⟨wa, by simpa using q h2 t1⟩⟩)
      | (obtain ⟨rfl, q⟩ := cls_q ca ra
         exact ⟨h2, ⟨wb, by simpa using rb⟩, ⟨wa, by simpa using q h2 (cls_g hgr cb rb)⟩⟩)
      | (obtain ⟨rfl, q⟩ := cls_q cb rb
         obtain ⟨_, t2⟩ := cls_t ca ra
         exact ⟨s.h, ⟨wb, by simpa using q s.h t2⟩, ⟨wa, by simpa using ra⟩⟩)
theorem put_comm {s : St} {i j : Nat} {a b : ADst} {r r' : AVal} {h1 h2 h3 : Heap} (hij : i ≠ j) (hv : ∀ x y, a = .var x → b = .var y → x ≠ y) : (s.put i a r h1).put j b r' h2 = (s.put j b r' h3).put i a r h2 := by
 cases a with
 | no => cases b <;> rfl
 | tmp => cases b with
   | no => rfl
   | tmp => simp only [St.put, St.mk.injEq, and_true, true_and]; exact List.set_comm _ _ hij
   | var y => rfl
 | var x => cases b with
   | no => rfl
   | tmp => rfl
   | var y => simp only [St.put, St.mk.injEq, and_true]; exact List.set_comm _ _ (hv x y rfl rfl)
theorem step_comm {Hh : Hints} {cf : CallF} (hgr : ∀ g args h r h', Hh.grow g = true → cf false g args h = some (r, h') → TokExt h h') {a b : AOper} {i j : Nat} {s s1 s2 : St} (hij : i ≠ j) (hc : conf Hh i a j b = false) (e1 : stepA cf a i s = some s1) (e2 : stepA cf b j s1 = some s2) : ∃ s1', stepA cf b j s = some s1' ∧ stepA cf a i s1' = some s2 := by
 simp only [conf, Bool.or_eq_false_iff] at hc
 obtain ⟨⟨⟨⟨⟨c1, c2⟩, c3⟩, c4⟩, c5⟩, c6⟩ := hc
 obtain ⟨g, r, h1, ta, rfl⟩ := step_told e1
 obtain ⟨g', r', h2, tb, rfl⟩ := step_told e2
 have hb : ∀ x ∈ readsOf b, evOpd (s.put i a.dst r h1).vs (s.put i a.dst r h1).ts x = evOpd s.vs s.ts x := fun x hx =>
  ev_put (fun k hk => by rw [hk] at c4; exact readsV_false c4 x hx) (readsT_false c1 x hx)
 have tb' : Told cf b { s with h := h1 } g' r' h2 := told_congr tb hb (by cases a.dst <;> rfl)
 obtain ⟨h1', q1, q2⟩ := told_heap hgr c3 ta tb'
 have ha : ∀ x ∈ readsOf a, evOpd s.vs s.ts x = evOpd (s.put j b.dst r' h1').vs (s.put j b.dst r' h1').ts x := fun x hx =>
  (ev_put (fun k hk => by rw [hk] at c5; exact readsV_false c5 x hx) (readsT_false c2 x hx)).symm
 have q2' : Told cf a (s.put j b.dst r' h1') g r h2 := told_congr q2 ha (by cases b.dst <;> rfl)
 refine ⟨_, told_step q1, ?_⟩
 rw [told_step q2', put_comm hij (fun x y hx hy => by rw [hx, hy] at c6; simpa using c6)]
def foldI (cf : CallF) (asx : List AOper) : List Nat → St → Option St
 | [], s => some s
 | k :: l, s => match asx[k]? with
   | some o => match stepA cf o k s with
     | some s' => foldI cf asx l s'
     | none => none
   | none => none
theorem foldA_eq (cf : CallF) (asx : List AOper) : ∀ (l : List AOper) (k : Nat) (s : St), (∀ j, l[j]? = asx[k + j]?) → foldA cf l k s = foldI cf asx (List.range' k l.length) s
 | [], k, s, _ => rfl
 | o :: l, k, s, h => by
   have h0 : asx[k]? = some o := by simpa using (h 0).symm
   simp only [foldA, List.length_cons, List.range'_succ, foldI, h0]
   cases stepA cf o k s with
   | none => rfl
   | some s' => exact foldA_eq cf asx l (k + 1) s' (fun j => by have := h (j + 1); rw [List.getElem?_cons_succ] at this; rw [this]; congr 1; omega)
theorem foldI_move {Hh : Hints} {cf : CallF} (hgr : ∀ g args h r h', Hh.grow g = true → cf false g args h = some (r, h') → TokExt h h') {asx : List AOper} {i : Nat} {a : AOper} (ha : asx[i]? = some a) : ∀ (l1 : List Nat) {l2 : List Nat} {s s1 τ : St}, (∀ j ∈ l1, i ≠ j ∧ ∀ b, asx[j]? = some b → conf Hh i a j b = false) → stepA cf a i s = some s1 →
  foldI cf asx (l1 ++ l2) s1 = some τ → foldI cf asx (l1 ++ i :: l2) s = some τ
 | [], l2, s, s1, τ, _, e1, e2 => by simp only [List.nil_append] at e2 ⊢; simp only [foldI, ha, e1]; exact e2
 | j :: l1, l2, s, s1, τ, h, e1, e2 => by
   simp only [List.cons_append, foldI] at e2 ⊢
   split at e2
   ·rename_i b hb
    split at e2
    ·rename_i s2 hs2
     obtain ⟨h1, h2⟩ := h j (by simp)
     obtain ⟨s1', q1, q2⟩ := step_comm hgr h1 (h2 b hb) e1 hs2
     simp only [q1]
     exact foldI_move hgr ha l1 (fun k hk => h k (by simp [hk])) q2 e2
    ·simp at e2
   ·simp at e2
def okPair (Hh : Hints) (asx : List AOper) (B : Nat → Nat → Prop) (x y : Nat) : Prop := B y x → ∀ a b, asx[y]? = some a → asx[x]? = some b → conf Hh y a x b = false
theorem foldI_perm {Hh : Hints} {cf : CallF} (hgr : ∀ g args h r h', Hh.grow g = true → cf false g args h = some (r, h') → TokExt h h') {asx : List AOper} {B : Nat → Nat → Prop} (hne : ∀ x, ¬ B x x) : ∀ {bs l : List Nat} {s τ : St}, bs.Pairwise B → l.Perm bs → l.Pairwise (okPair Hh asx B) → foldI cf asx bs s = some τ → foldI cf asx l s = some τ
 | [], l, s, τ, _, hp, _, e => by
   have : l = [] := by simpa using hp
   subst this; exact e
 | m :: bs, l, s, τ, hB, hp, hw, e => by
   have hm : m ∈ l := hp.symm.subset (by simp)
   obtain ⟨l1, l2, rfl⟩ := List.append_of_mem hm
   rw [List.pairwise_cons] at hB
   have hp' : (l1 ++ l2).Perm bs := by
    have := (List.perm_middle (a := m) (l₁ := l1) (l₂ := l2)).symm.trans hp
    exact (List.perm_cons m).1 this
   simp only [foldI] at e
   split at e
   ·rename_i a ha
    split at e
    ·rename_i s1 hs1
     have hw' : (l1 ++ l2).Pairwise (okPair Hh asx B) := hw.sublist (by simp)
     have ih := foldI_perm hgr hne hB.2 hp' hw' e
     refine foldI_move hgr ha l1 (fun j hj => ?_) hs1 ih
     have hjm : B m j := hB.1 j (hp'.subset (by simp [hj]))
     refine ⟨fun e => hne j (e ▸ hjm), fun b hb => ?_⟩
     have := (List.pairwise_append.1 hw).2.2 j hj m (by simp)
     exact this hjm a b ha hb
    ·simp at e
   ·simp at e
def Ord (ops : List Oper) : List Nat → Prop
 | [] => True
 | x :: tl => (∀ o, ops[x]? = some o → ∀ e ∈ o.after.toList, Region.binds .any e = true → e.on ∈ tl) ∧ Ord ops tl
theorem edgesOk_get : ∀ {l : List Oper} {k j : Nat} {o : Oper}, edgesOk l k = true → l[j]? = some o → ∀ e ∈ o.after.toList, Region.binds .any e = true → e.on < k + j
 | [], k, j, o, _, h => by simp at h
 | o' :: l, k, j, o, h, hj => by
   simp only [edgesOk, Bool.and_eq_true] at h
   cases j with
   | zero =>
     simp at hj; subst hj
     intro e he hb
     have := List.all_eq_true.1 h.1 e he
     simp [hb] at this; omega
   | succ j =>
     intro e he hb
     have := edgesOk_get h.2 (by simpa using hj) e he hb
     omega
theorem lin_go {ops : Array Oper} (hE : edgesOk ops.toList 0 = true) : ∀ (fuel t : Nat) (listed : Array Bool) (acc : List Nat), acc.length + fuel = ops.size → acc.Nodup → (∀ x ∈ acc, x < ops.size) → listed.size = ops.size → (∀ i, i < ops.size → (listed.getD i true = true ↔ i ∈ acc)) → Ord ops.toList acc →
  ∃ acc', Region.linearise.go .any ops fuel t listed acc = acc'.reverse ∧ acc'.length = ops.size ∧ acc'.Nodup ∧ (∀ x ∈ acc', x < ops.size) ∧ Ord ops.toList acc'
 | 0, t, listed, acc, hl, hn, hlt, hs, hli, ho => ⟨acc, rfl, by omega, hn, hlt, ho⟩
 | fuel + 1, t, listed, acc, hl, hn, hlt, hs, hli, ho => by
   unfold Region.linearise.go
   simp only
   generalize hrs : (List.range ops.size).filter (fun i => !listed.getD i true && ((ops[i]?).map (fun o => o.after.all fun e => !Region.binds .any e || listed.getD e.on false)).getD false) = rs
   have hmem : ∀ i, i ∈ rs ↔ (i < ops.size ∧ i ∉ acc ∧ ∀ o, ops[i]? = some o → ∀ e ∈ o.after.toList, Region.binds .any e = true → listed.getD e.on false = true) := by
    intro i
    rw [← hrs, List.mem_filter, List.mem_range]
    constructor
    ·rintro ⟨h1, h2⟩
     simp only [Bool.and_eq_true, Bool.not_eq_true'] at h2
     refine ⟨h1, fun hm => ?_, fun o hoo e he hb => ?_⟩
     ·rw [(hli i h1).2 hm] at h2; simp at h2
     ·rw [hoo] at h2
      simp only [Option.map_some, Option.getD_some, Array.all_eq_true_iff_forall_mem] at h2
      have := h2.2 e (by simpa using he)
      simpa [hb] using this
    ·rintro ⟨h1, h2, h3⟩
     refine ⟨h1, ?_⟩
     simp only [Bool.and_eq_true, Bool.not_eq_true']
     refine ⟨?_, ?_⟩
     ·cases hq : listed.getD i true with
      | false => rfl
      | true => exact absurd ((hli i h1).1 hq) h2
     ·obtain ⟨o, hoo⟩ : ∃ o, ops[i]? = some o := ⟨_, Array.getElem?_eq_getElem h1⟩
      rw [hoo]
      simp only [Option.map_some, Option.getD_some, Array.all_eq_true_iff_forall_mem]
      intro e he
      cases hb : Region.binds .any e with
      | false => rfl
      | true => simp [h3 o hoo e (by simpa using he) hb]
   have hne : rs ≠ [] := by
    -- the smallest that is not listed
    have hex : ∃ i, i < ops.size ∧ i ∉ acc := by
     apply Classical.byContradiction
     intro hno
     have hall : ∀ i, i < ops.size → i ∈ acc := fun i hi => Classical.byContradiction fun hc => hno ⟨i, hi, hc⟩
     have hsub : (List.range ops.size) ⊆ acc := fun i hi => hall i (by simpa using hi)
     have := (List.nodup_range (n := ops.size)).length_le_of_subset hsub
     simp at this; omega
    have hmin : ∃ i, (i < ops.size ∧ i ∉ acc) ∧ ∀ j, j < i → ¬ (j < ops.size ∧ j ∉ acc) := by
     obtain ⟨i, hi⟩ := hex
     induction i using Nat.strongRecOn with
     | _ i ih =>
       by_cases h : ∃ j, j < i ∧ (j < ops.size ∧ j ∉ acc)
       ·obtain ⟨j, hj, hj'⟩ := h; exact ih j hj hj'
       ·exact ⟨i, hi, fun j hj hc => h ⟨j, hj, hc⟩⟩
    obtain ⟨i, ⟨h1, h2⟩, h3⟩ := hmin
    have : i ∈ rs := (hmem i).2 ⟨h1, h2, fun o hoo e he hb => by
     have hlt' := edgesOk_get hE (j := i) (by simpa using hoo) e he hb
     rw [Nat.zero_add] at hlt'
     have hin : e.on ∈ acc := Classical.byContradiction fun hc => h3 e.on hlt' ⟨by omega, hc⟩
     have := (hli e.on (by omega)).2 hin
     rw [Array.getD_eq_getD_getElem?] at this ⊢
     rw [Array.getElem?_eq_getElem (by omega)] at this ⊢
     simpa using this⟩
    intro he; rw [he] at this; simp at this
   have hpos : 0 < rs.length := List.length_pos_iff.2 hne
   have hlt2 : t % rs.length < rs.length := Nat.mod_lt _ hpos
   rw [List.getElem?_eq_getElem hlt2]
   simp only
   generalize hi : rs[t % rs.length] = i
   have him : i ∈ rs := by rw [← hi]; exact List.getElem_mem _
   obtain ⟨h1, h2, h3⟩ := (hmem i).1 him
   refine lin_go hE fuel (t / rs.length) (listed.setIfInBounds i true) (i :: acc) (by simp; omega) (List.nodup_cons.2 ⟨h2, hn⟩) (fun x hx => ?_) (by simp [hs]) (fun j hj => ?_) ⟨fun o hoo e he hb => ?_, ho⟩
   ·rcases List.mem_cons.1 hx with rfl | hx
    ·exact h1
    ·exact hlt x hx
   ·rw [Array.getD_eq_getD_getElem?, Array.getElem?_setIfInBounds]
    by_cases hij : i = j
    ·subst hij; simp [hs, h1]
    ·have := hli j hj
     rw [Array.getD_eq_getD_getElem?] at this
     simp [hij, this, List.mem_cons, Ne.symm hij]
   ·have hb2 := h3 o (by simpa using hoo) e he hb
    have hlt' := edgesOk_get hE (j := i) (by simpa using hoo) e he hb
    rw [Nat.zero_add] at hlt'
    refine (hli e.on (by omega)).1 ?_
    rw [Array.getD_eq_getD_getElem?] at hb2 ⊢
    rw [Array.getElem?_eq_getElem (by omega)] at hb2 ⊢
    simpa using hb2
theorem mem_uniq {x : Nat} : ∀ {l : List Nat}, x ∈ uniq l ↔ x ∈ l
 | [] => Iff.rfl
 | y :: ys => by
   have ih := mem_uniq (x := x) (l := ys)
   simp only [uniq]
   split
   ·rename_i hc
    have hm : y ∈ ys := mem_uniq.1 (by simpa using hc)
    rw [ih, List.mem_cons]
    exact ⟨.inr, fun h => h.elim (fun e => e ▸ hm) (fun q => q)⟩
   ·rw [List.mem_cons, List.mem_cons, ih]
theorem befs_get : ∀ {l : List Oper} {acc : List (List Nat)} {j : Nat}, (∀ k, acc.length ≤ k → acc[k]? = none) → 
  (befs l acc).length = acc.length + l.length ∧ (∀ k, k < acc.length → (befs l acc)[k]? = acc[k]?) ∧
  (∀ k o, l[k]? = some o → (befs l acc)[acc.length + k]? = some (uniq (o.after.toList.flatMap fun e => if Region.binds .any e then e.on :: (((befs l acc).take (acc.length + k))[e.on]?).getD [] else [])))
 | [], acc, j, _ => by simp [befs]
 | o :: l, acc, j, h => by
   simp only [befs]
   generalize hx : uniq (o.after.toList.flatMap fun e => if Region.binds .any e then e.on :: ((acc[e.on]?).getD []) else []) = x
   obtain ⟨e1, e2, e3⟩ := befs_get (l := l) (acc := acc ++ [x]) (j := j) (fun k hk => List.getElem?_eq_none hk)
   have htake : (befs l (acc ++ [x])).take acc.length = acc := by
    apply List.ext_getElem?
    intro k
    rw [List.getElem?_take]
    split
    ·rename_i hk
     rw [e2 k (by simp; omega), List.getElem?_append_left hk]
    ·rename_i hk
     rw [List.getElem?_eq_none (by omega)]
   refine ⟨by rw [e1]; simp; omega, fun k hk => ?_, fun k o' hk => ?_⟩
   ·rw [e2 k (by simp; omega), List.getElem?_append_left hk]
   ·cases k with
    | zero =>
      simp at hk; subst hk
      rw [Nat.add_zero, e2 acc.length (by simp), htake]
      simp [← hx]
    | succ k =>
      have := e3 k o' (by simpa using hk)
      simp only [List.length_append, List.length_cons, List.length_nil] at this
      rw [show acc.length + (k + 1) = acc.length + (0 + 1) + k by omega]
      exact this
theorem befs_ord {ops : List Oper} : ∀ (j : Nat) {p q : List Nat}, j < ops.length → Ord ops (p ++ j :: q) → ∀ i ∈ ((befs ops [])[j]?).getD [], i ∈ q := by
 intro j
 induction j using Nat.strongRecOn with
 | _ j ih =>
   intro p q hj ho i hi
   have hoq : Ord ops (j :: q) := by
    clear hi ih
    induction p with
    | nil => exact ho
    | cons x p ihp => exact ihp ho.2
   obtain ⟨_, _, e3⟩ := befs_get (l := ops) (acc := []) (j := 0) (by simp)
   obtain ⟨o, hoo⟩ : ∃ o, ops[j]? = some o := ⟨_, List.getElem?_eq_getElem hj⟩
   have := e3 j o hoo
   simp only [List.length_nil, Nat.zero_add] at this
   rw [this] at hi
   simp only [Option.getD_some, mem_uniq, List.mem_flatMap] at hi
   obtain ⟨e, he, hi⟩ := hi
   split at hi
   ·rename_i hb
    have hon := hoq.1 o hoo e he hb
    rcases List.mem_cons.1 hi with rfl | hi
    ·exact hon
    ·rw [List.getElem?_take] at hi
     split at hi
     ·rename_i hlt
      obtain ⟨q1, q2, rfl⟩ := List.append_of_mem hon
      have := ih e.on hlt (p := q1) (q := q2) (by omega) hoq.2 i hi
      simp [this]
     ·simp at hi
   ·simp at hi
theorem ord_pairs {Hh : Hints} {ops : List Oper} {asx : List AOper} {B : Nat → Nat → Prop} (hl : asx.length = ops.length)
  (hp : ∀ x y, B x y → ∀ a b, asx[x]? = some a → asx[y]? = some b → conf Hh x a y b = true → x ∈ ((befs ops [])[y]?).getD []) : ∀ {acc : List Nat}, Ord ops acc → acc.Nodup → (∀ x ∈ acc, x < ops.length) → acc.Pairwise (fun x y => okPair Hh asx B y x)
 | [], _, _, _ => .nil
 | x :: tl, ho, hn, hlt => by
   refine List.Pairwise.cons (fun y hy => ?_) (ord_pairs hl hp ho.2 (List.nodup_cons.1 hn).2 (fun z hz => hlt z (by simp [hz])))
   intro hxy a b ha hb
   cases hc : conf Hh x a y b with
   | false => rfl
   | true =>
     exfalso
     have hylt := hlt y (by simp [hy])
     have hmem := hp x y hxy a b ha hb hc
     obtain ⟨q1, q2, rfl⟩ := List.append_of_mem hy
     have := befs_ord y (p := q1) (q := q2) hylt ho.2 x hmem
     exact (List.nodup_cons.1 hn).1 (by simp [this])
theorem draw_gen {Hh : Hints} {cf : CallF} (hgr : ∀ g args h r h', Hh.grow g = true → cf false g args h = some (r, h') → TokExt h h') {ops : Array Oper} {asx : List AOper} {s τ : St} {B : Nat → Nat → Prop} (hne : ∀ x, ¬ B x x) {base : List Nat} (hB : base.Pairwise B) (hbp : base.Perm (List.range ops.size))
  (hl : asx.length = ops.size) (hE : edgesOk ops.toList 0 = true) (hp : ∀ x y, B x y → ∀ a b, asx[x]? = some a → asx[y]? = some b → conf Hh x a y b = true → x ∈ ((befs ops.toList [])[y]?).getD [])
  (e : foldI cf asx base s = some τ) (t : Nat) : foldI cf asx (Region.schedule true ops t) s = some τ := by
 have hs : Region.schedule true ops t = Region.linearise .any ops t := by simp [Region.schedule]
 rw [hs]
 obtain ⟨acc, q1, q2, q3, q4, q5⟩ := lin_go hE ops.size t (Array.replicate ops.size false) [] (by simp) (by simp) (by simp) (by simp) (fun i hi => by simp [Array.getD_eq_getD_getElem?, hi]) trivial
 have hlin : Region.linearise .any ops t = acc.reverse := q1
 rw [hlin]
 have hperm : acc.Perm (List.range ops.size) := by
  have hmem : ∀ i, i ∈ acc ↔ i ∈ List.range ops.size := fun i => by
   rw [List.mem_range]
   refine ⟨fun hi => q4 i hi, fun hi => Classical.byContradiction fun hc => ?_⟩
   have hn : (i :: acc).Nodup := List.nodup_cons.2 ⟨hc, q3⟩
   have hsub : (i :: acc) ⊆ List.range ops.size := fun x hx => by
    rcases List.mem_cons.1 hx with rfl | hx
    ·simpa using hi
    ·simpa using q4 x hx
   have := hn.length_le_of_subset hsub
   simp at this; omega
  rw [List.perm_iff_count]
  intro i
  rw [q3.count, (List.nodup_range (n := ops.size)).count]
  simp only [hmem i]
 refine foldI_perm hgr hne hB ?_ ?_ e
 ·exact ((List.reverse_perm acc).trans hperm).trans hbp.symm
 ·rw [List.pairwise_reverse]
  exact ord_pairs (by rw [hl]; simp) hp q5 q3 (fun x hx => by simpa using q4 x hx)
theorem draw_ok {Hh : Hints} {cf : CallF} (hgr : ∀ g args h r h', Hh.grow g = true → cf false g args h = some (r, h') → TokExt h h') {ops : Array Oper} {asx : List AOper} {s τ : St} (hl : asx.length = ops.size) (hd : drawOk Hh ops.toList asx = true) (e : foldI cf asx (List.range' 0 asx.length) s = some τ) (t : Nat) : foldI cf asx (Region.schedule true ops t) s = some τ := by
 simp only [drawOk, Bool.and_eq_true] at hd
 refine draw_gen hgr (B := (· < ·)) (fun x => Nat.lt_irrefl x) (base := List.range' 0 asx.length) (List.pairwise_lt_range') (by rw [hl, ← List.range_eq_range']) hl hd.1 ?_ e t
 intro x y hxy a b ha hb hc
 have hylt : y < asx.length := (List.getElem?_eq_some_iff.1 hb).1
 have hp := hd.2
 simp only [pairsOk, List.all_eq_true, List.mem_range] at hp
 have := hp y hylt x hxy
 rw [ha, hb] at this
 simpa [hc] using this
theorem placeOf_get : ∀ {ord : List Nat} {p k : Nat}, ord.Nodup → ord[p]? = some k → placeOf ord k = p
 | [], p, k, _, h => by simp at h
 | x :: xs, 0, k, _, h => by simp at h; simp [placeOf, h]
 | x :: xs, p + 1, k, hn, h => by
   have h' : xs[p]? = some k := by simpa using h
   have hne : x ≠ k := fun e => by subst e; exact (List.nodup_cons.1 hn).1 (List.mem_of_getElem? h')
   simp [placeOf, hne, placeOf_get (List.nodup_cons.1 hn).2 h']
theorem placeOf_inj : ∀ {ord : List Nat} {j p k : Nat}, ord[p]? = some k → placeOf ord j = p → j = k
 | [], j, p, k, h, _ => by simp at h
 | x :: xs, j, 0, k, h, e => by
   simp at h; subst h
   unfold placeOf at e
   split at e
   ·rename_i hx; exact hx.symm
   ·omega
 | x :: xs, j, p + 1, k, h, e => by
   unfold placeOf at e
   split at e
   ·omega
   ·exact placeOf_inj (p := p) (by simpa using h) (by omega)
theorem execA_map {cf : CallF} {f : Opd → Opd} {ev : Opd → AVal} {op : AOp} {h : Heap} : execA cf (mapOp f op) ev h = execA cf op (fun x => ev (f x)) h := by
 cases op <;> simp [mapOp, execA, evalA, Function.comp_def, Option.map_map, List.map_map]
theorem ren_fold {cf : CallF} {asx : List AOper} {ord : List Nat} (hn : ord.Nodup) : ∀ (p : Nat) (rest : List Nat) (l : List AOper) (s1 s2 s2' : St), ord.drop p = rest → renOpers ord asx rest = some l → s1.vs = s2.vs → s1.h = s2.h → s2.ts.length = ord.length → (∀ k, k < s1.ts.length ↔ k ∈ ord) →
  (∀ k, evOpd s1.vs s1.ts (.t k) = evOpd s2.vs s2.ts (.t (placeOf ord k))) → foldA cf l p s2 = some s2' → ∃ s1', foldI cf asx rest s1 = some s1' ∧ s1'.vs = s2'.vs ∧ s1'.h = s2'.h
 | p, [], l, s1, s2, s2', _, hl, hv, hh, _, _, _, e => by
   simp [renOpers] at hl; subst hl
   simp [foldA] at e; subst e
   exact ⟨s1, rfl, hv, hh⟩
 | p, k :: rest, l, s1, s2, s2', hd, hl, hv, hh, hlen, hmem, hT, e => by
   simp only [renOpers] at hl
   split at hl
   ·rename_i o r ho hr
    obtain rfl := Option.some.inj hl
    have hk : ord[p]? = some k := by
     have : (ord.drop p)[0]? = some k := by rw [hd]; rfl
     simpa using this
    have hpk := placeOf_get hn hk
    have hplt : p < ord.length := (List.getElem?_eq_some_iff.1 hk).1
    have hkmem : k ∈ ord := List.mem_of_getElem? hk
    have hklt := (hmem k).2 hkmem
    have hev : (fun x => evOpd s2.vs s2.ts (renO ord x)) = evOpd s1.vs s1.ts := by
     funext x
     cases x with
     | v i => simp [renO, evOpd, hv]
     | c x => rfl
     | t j => simp only [renO]; exact (hT j).symm
    have hwant : wantA (evOpd s2.vs s2.ts) (renOper ord o).guard = wantA (evOpd s1.vs s1.ts) o.guard := by
     rw [← hev]
     cases hg : o.guard with
     | none => simp [renOper, hg, wantA]
     | some q => simp [renOper, hg, wantA]
    have hput : ∀ (rr : AVal) (hp : Heap), (s1.put k o.dst rr hp).vs = (s2.put p o.dst rr hp).vs ∧ (s1.put k o.dst rr hp).h = (s2.put p o.dst rr hp).h ∧ (s2.put p o.dst rr hp).ts.length = ord.length ∧ (∀ j, j < (s1.put k o.dst rr hp).ts.length ↔ j ∈ ord) ∧
      ∀ j, evOpd (s1.put k o.dst rr hp).vs (s1.put k o.dst rr hp).ts (.t j) = evOpd (s2.put p o.dst rr hp).vs (s2.put p o.dst rr hp).ts (.t (placeOf ord j)) := by
     intro rr hp
     cases o.dst with
     | no => exact ⟨hv, rfl, hlen, hmem, hT⟩
     | var i => exact ⟨by simp [St.put, hv], rfl, hlen, hmem, hT⟩
     | tmp =>
       refine ⟨hv, rfl, by simp [St.put, hlen], by simpa [St.put] using hmem, fun j => ?_⟩
       simp only [St.put, evOpd]
       by_cases hj : j = k
       ·subst hj
        rw [hpk, List.getElem?_set_self hklt, List.getElem?_set_self (by rw [hlen]; exact hplt)]
       ·have hne : placeOf ord j ≠ p := fun e => hj (placeOf_inj hk e)
        rw [List.getElem?_set_ne (Ne.symm hj), List.getElem?_set_ne (Ne.symm hne)]
        exact hT j
    have hd' : ord.drop (p + 1) = rest := by rw [← List.drop_drop, hd]; rfl
    simp only [foldA] at e
    split at e
    ·rename_i s2n hs2
     have hstep : ∃ s1n, stepA cf o k s1 = some s1n ∧ s1n.vs = s2n.vs ∧ s1n.h = s2n.h ∧ s2n.ts.length = ord.length ∧ (∀ j, j < s1n.ts.length ↔ j ∈ ord) ∧ ∀ j, evOpd s1n.vs s1n.ts (.t j) = evOpd s2n.vs s2n.ts (.t (placeOf ord j)) := by
      unfold stepA at hs2 ⊢
      rw [hwant] at hs2
      split at hs2
      ·simp at hs2
      ·rename_i hw
       obtain rfl := Option.some.inj hs2
       rw [hh]
       exact ⟨_, rfl, hput _ _⟩
      ·rename_i hw
       have hx : execA cf (renOper ord o).op (evOpd s2.vs s2.ts) s2.h = execA cf o.op (evOpd s1.vs s1.ts) s1.h := by
        rw [← hev, hh]; exact execA_map
       rw [hx] at hs2
       split at hs2
       ·rename_i rr hp hex
        obtain rfl := Option.some.inj hs2
        exact ⟨_, rfl, hput _ _⟩
       ·simp at hs2
     obtain ⟨s1n, q1, q2, q3, q4, q5, q6⟩ := hstep
     obtain ⟨s1', r1, r2, r3⟩ := ren_fold hn (p + 1) rest r s1n s2n s2' hd' hr q2 q3 q4 q5 q6 e
     refine ⟨s1', ?_, r2, r3⟩
     simp only [foldI, ho, q1]
     exact r1
    ·simp at e
   ·simp at hl
theorem renOpers_len {ord : List Nat} {l : List AOper} : ∀ {ks : List Nat} {r : List AOper}, renOpers ord l ks = some r → r.length = ks.length
 | [], r, h => by simp [renOpers] at h; subst h; rfl
 | k :: ks, r, h => by
   simp only [renOpers] at h
   split at h
   ·rename_i o r' _ hr
    obtain rfl := Option.some.inj h
    simp [renOpers_len hr]
   ·simp at h
theorem pairsOkO_get {Hh : Hints} {bs : List (List Nat)} {asx : List AOper} : ∀ {ord : List Nat}, pairsOkO Hh bs asx ord = true → ord.Pairwise fun x y => ∀ a b, asx[x]? = some a → asx[y]? = some b → conf Hh x a y b = true → x ∈ (bs[y]?).getD []
 | [], _ => .nil
 | i :: rest, h => by
   simp only [pairsOkO, Bool.and_eq_true, List.all_eq_true] at h
   refine List.Pairwise.cons (fun y hy a b ha hb hc => ?_) (pairsOkO_get h.2)
   have := h.1 y hy
   rw [ha, hb] at this
   simpa [hc] using this
def Before (l : List Nat) (i j : Nat) : Prop := ∃ p q : Nat, p < q ∧ l[p]? = some i ∧ l[q]? = some j
theorem Before.irrefl {l : List Nat} (hn : l.Nodup) (x : Nat) : ¬ Before l x x := by
 rintro ⟨p, q, hpq, h1, h2⟩
 have := (List.getElem?_inj (List.getElem?_eq_some_iff.1 h1).1 hn).1 (h1.trans h2.symm)
 omega
theorem Before.asymm {l : List Nat} (hn : l.Nodup) {x y : Nat} (a : Before l x y) (b : Before l y x) : False := by
 obtain ⟨p, q, hpq, h1, h2⟩ := a
 obtain ⟨p', q', hpq', h1', h2'⟩ := b
 have e1 := (List.getElem?_inj (List.getElem?_eq_some_iff.1 h1).1 hn).1 (h1.trans h2'.symm)
 have e2 := (List.getElem?_inj (List.getElem?_eq_some_iff.1 h2).1 hn).1 (h2.trans h1'.symm)
 omega
theorem before_total {l : List Nat} {x y : Nat} (hx : x ∈ l) (hy : y ∈ l) (hne : x ≠ y) : Before l x y ∨ Before l y x := by
 obtain ⟨p, hp⟩ := List.getElem?_of_mem hx
 obtain ⟨q, hq⟩ := List.getElem?_of_mem hy
 rcases Nat.lt_trichotomy p q with h | h | h
 ·exact .inl ⟨p, q, h, hp, hq⟩
 ·subst h; rw [hp] at hq; exact absurd (Option.some.inj hq) hne
 ·exact .inr ⟨q, p, h, hq, hp⟩
theorem reqs_get {H : Hints} {bs : List (List Nat)} {asx : List AOper} : ∀ {l : List Nat} {i j : Nat} {a b : AOper}, Before l i j → asx[i]? = some a → asx[j]? = some b → conf H i a j b = true → i ∈ ((bs[j]?).getD []) ∨ (i, j) ∈ reqs H bs asx l
 | [], i, j, a, b, hB, _, _, _ => by obtain ⟨p, q, _, h, _⟩ := hB; simp at h
 | x :: l, i, j, a, b, hB, ha, hb, hc => by
   obtain ⟨p, q, hpq, h1, h2⟩ := hB
   cases p with
   | zero =>
     simp at h1; subst h1
     by_cases hm : x ∈ ((bs[j]?).getD [])
     ·exact .inl hm
     ·refine .inr ?_
      simp only [reqs, List.mem_append, List.mem_map, List.mem_filter]
      refine .inl ⟨j, ⟨?_, ?_⟩, rfl⟩
      ·cases q with
       | zero => omega
       | succ q => exact List.mem_of_getElem? (by simpa using h2)
      ·rw [ha, hb]; simp [hc, hm]
   | succ p =>
     cases q with
     | zero => omega
     | succ q =>
       rcases reqs_get ⟨p, q, by omega, by simpa using h1, by simpa using h2⟩ ha hb hc with h | h
       ·exact .inl h
       ·exact .inr (by simp only [reqs, List.mem_append]; exact .inr h)
theorem allAssign_get {τ : List Nat} {k : List (Nat × Nat) → Bool} : ∀ {ps acc : List (Nat × Nat)}, (∀ p ∈ ps, p.1 ∈ τ ∧ p.2 ∈ τ ∧ p.1 ≠ p.2) → (∀ p ∈ acc, Before τ p.1 p.2) → allAssign ps acc k = true → ∃ os, (∀ p ∈ os, Before τ p.1 p.2) ∧ k os = true
 | [], acc, _, ha, h => ⟨acc, ha, h⟩
 | (i, j) :: ps, acc, hp, ha, h => by
   simp only [allAssign, Bool.and_eq_true] at h
   obtain ⟨h1, h2, h3⟩ := hp (i, j) (by simp)
   have hp' : ∀ p ∈ ps, p.1 ∈ τ ∧ p.2 ∈ τ ∧ p.1 ≠ p.2 := fun p hq => hp p (by simp [hq])
   rcases before_total h1 h2 h3 with hb | hb
   ·exact allAssign_get hp' (fun p hq => by
     rcases List.mem_cons.1 hq with rfl | hq
     ·exact hb
     ·exact ha p hq) h.1
   ·exact allAssign_get hp' (fun p hq => by
     rcases List.mem_cons.1 hq with rfl | hq
     ·exact hb
     ·exact ha p hq) h.2
theorem permOk_perm {ord : List Nat} {n : Nat} (h : permOk ord n = true) : ord.Nodup ∧ ord.Perm (List.range n) := by
 simp only [permOk, Bool.and_eq_true, decide_eq_true_eq] at h
 obtain ⟨⟨ho1, ho2⟩, ho3⟩ := h
 have hsub : List.range n ⊆ ord := fun k hk => by
  have := List.all_eq_true.1 ho2 k hk
  simpa using this
 have hmem : ∀ k, k ∈ ord ↔ k < n := by
  intro k
  constructor
  ·intro hk
   refine Classical.byContradiction fun hc => ?_
   have hn : (k :: List.range n).Nodup := List.nodup_cons.2 ⟨by simpa using hc, List.nodup_range⟩
   have := hn.length_le_of_subset (fun x hx => by
    rcases List.mem_cons.1 hx with rfl | hx
    ·exact hk
    ·exact hsub hx)
   simp only [List.length_cons, List.length_range] at this
   omega
  ·intro hk; exact hsub (by simpa using hk)
 refine ⟨ho3, ?_⟩
 rw [List.perm_iff_count]
 intro i
 rw [ho3.count, (List.nodup_range (n := n)).count]
 simp only [hmem i, List.mem_range]
theorem Before.trans {l : List Nat} (hn : l.Nodup) {x y z : Nat} (a : Before l x y) (b : Before l y z) : Before l x z := by
 obtain ⟨p, q, h1, h2, h3⟩ := a
 obtain ⟨p', q', k1, k2, k3⟩ := b
 have : q = p' := (List.getElem?_inj (List.getElem?_eq_some_iff.1 h3).1 hn).1 (h3.trans k2.symm)
 exact ⟨p, q', by omega, h2, k3⟩
theorem before_befs {ops : List Oper} {acc : List Nat} (ho : Ord ops acc) (hlt : ∀ x ∈ acc, x < ops.length) {x z : Nat} (hz : z ∈ acc) (hx : x ∈ ((befs ops [])[z]?).getD []) : Before acc.reverse x z := by
 obtain ⟨p, q, rfl⟩ := List.append_of_mem hz
 have hq := befs_ord z (hlt z (by simp)) ho x hx
 obtain ⟨q1, q2, rfl⟩ := List.append_of_mem hq
 refine ⟨q2.length, q2.length + 1 + q1.length, by omega, ?_, ?_⟩
 ·simp
 ·have e : (p ++ z :: (q1 ++ x :: q2)).reverse = (q2.reverse ++ x :: q1.reverse) ++ (z :: p.reverse) := by simp
  rw [e, List.getElem?_append_right (by simp; omega)]
  have : q2.length + 1 + q1.length - (q2.reverse ++ x :: q1.reverse).length = 0 := by simp; omega
  rw [this]; rfl
theorem draw_reps {Hh : Hints} {cf : CallF} (hgr : ∀ g args h r h', Hh.grow g = true → cf false g args h = some (r, h') → TokExt h h') {ops : Array Oper} {asx : List AOper} {s : St} {pairs : List (Nat × Nat)} {reps : List (List Nat)} (hl : asx.length = ops.size) (hr : repsOk Hh ops.toList asx pairs reps = true) (t : Nat) :
  ∃ r ∈ reps, ∀ τ, foldI cf asx r s = some τ → foldI cf asx (Region.schedule true ops t) s = some τ := by
 simp only [repsOk, Bool.and_eq_true, List.all_eq_true, decide_eq_true_eq] at hr
 obtain ⟨⟨⟨hE, hpairs⟩, hperm⟩, hall⟩ := hr
 have hs : Region.schedule true ops t = Region.linearise .any ops t := by simp [Region.schedule]
 obtain ⟨acc, q1, q2, q3, q4, q5⟩ := lin_go hE ops.size t (Array.replicate ops.size false) [] (by simp) (by simp) (by simp) (by simp) (fun i hi => by simp [Array.getD_eq_getD_getElem?, hi]) trivial
 have hlin : Region.linearise .any ops t = acc.reverse := q1
 have hmem : ∀ i, i ∈ acc ↔ i < ops.size := fun i => by
  refine ⟨fun hi => q4 i hi, fun hi => Classical.byContradiction fun hc => ?_⟩
  have hn : (i :: acc).Nodup := List.nodup_cons.2 ⟨hc, q3⟩
  have hsub : (i :: acc) ⊆ List.range ops.size := fun x hx => by
   rcases List.mem_cons.1 hx with rfl | hx
   ·simpa using hi
   ·simpa using q4 x hx
  have := hn.length_le_of_subset hsub
  simp at this; omega
 have hpermA : acc.Perm (List.range ops.size) := by
  rw [List.perm_iff_count]
  intro i
  rw [q3.count, (List.nodup_range (n := ops.size)).count]
  simp only [hmem i, List.mem_range]
 have hnr : acc.reverse.Nodup := ((List.reverse_perm acc).nodup_iff).2 q3
 obtain ⟨os, ho1, ho2⟩ := allAssign_get (τ := acc.reverse) (fun p hp => by
  obtain ⟨⟨h1, h2⟩, h3⟩ := hpairs p hp
  exact ⟨by rw [List.mem_reverse, hmem]; omega, by rw [List.mem_reverse, hmem]; omega, h3⟩) (by simp) hall
 have hz : ∀ e ∈ os, e.1 ∈ acc := fun e he => by
  obtain ⟨pp, _, _, h3, _⟩ := ho1 e he
  simpa using List.mem_of_getElem? h3
 rw [Bool.or_eq_true] at ho2
 rcases ho2 with ho2 | ho2
 ·exfalso
  simp only [List.any_eq_true, Bool.and_eq_true, Bool.or_eq_true, beq_iff_eq] at ho2
  obtain ⟨⟨i, j⟩, he, ⟨j', k⟩, hf, h1, h2⟩ := ho2
  simp only at h1 h2
  subst h1
  have b2 := Before.trans hnr (ho1 _ he) (ho1 _ hf)
  rcases h2 with (h2 | rfl) | ⟨⟨k', l⟩, hg, rfl, h2⟩
  ·exact Before.asymm hnr b2 (before_befs q5 (fun x hx => by simpa using q4 x hx) (hz _ he) (by simpa using h2))
  ·exact Before.irrefl hnr _ b2
  ·have b3 := Before.trans hnr b2 (ho1 _ hg)
   rcases h2 with h2 | rfl
   ·exact Before.asymm hnr b3 (before_befs q5 (fun x hx => by simpa using q4 x hx) (hz _ he) (by simpa using h2))
   ·exact Before.irrefl hnr _ b3
 simp only [List.any_eq_true, List.mem_map, List.all_eq_true] at ho2
 obtain ⟨_, ⟨r, hr1, rfl⟩, hr2⟩ := ho2
 refine ⟨r, hr1, fun τ e => ?_⟩
 obtain ⟨hrn, hrp⟩ := permOk_perm (hperm r hr1)
 rw [hs, hlin]
 have hBr : r.Pairwise (Before r) := by
  rw [List.pairwise_iff_getElem]
  intro i j hi hj hij
  exact ⟨i, j, hij, List.getElem?_eq_getElem hi, List.getElem?_eq_getElem hj⟩
 refine foldI_perm hgr (Before.irrefl hrn) hBr ?_ ?_ e
 ·exact ((List.reverse_perm acc).trans hpermA).trans (by rw [← hl]; exact hrp.symm)
 ·have key := ord_pairs (Hh := Hh) (asx := asx) (B := fun x y => Before r x y ∧ ¬ Before acc.reverse x y) (by rw [hl]; simp) (fun x y hxy a b ha hb hc => by
   rcases reqs_get (bs := befs ops.toList []) hxy.1 ha hb hc with h | h
   ·exact h
   ·have h0 := hr2 _ h
    simp only [Bool.or_eq_true, List.any_eq_true, Bool.and_eq_true, beq_iff_eq] at h0
    rcases h0 with h0 | ⟨e, he, h1, h2⟩
    ·exact absurd (ho1 (x, y) (by simpa using h0)) hxy.2
    ·obtain ⟨e1, e2⟩ := e
     simp only at h1 h2
     subst h1
     have hb := ho1 _ he
     have hz : e1 ∈ acc := by
      obtain ⟨pp, _, _, h3, _⟩ := hb
      simpa using List.mem_of_getElem? h3
     exact absurd (Before.trans hnr (before_befs q5 (fun x hx => by simpa using q4 x hx) hz (by simpa using h2)) hb) hxy.2) q5 q3 (fun x hx => by simpa using q4 x hx)
  rw [List.pairwise_reverse]
  have hidx := List.pairwise_iff_getElem.1 key
  rw [List.pairwise_iff_getElem]
  intro i j hi hj hij hB a b ha hb
  -- acc[i] was taken after acc[j]
  refine hidx i j hi hj hij ⟨hB, fun hc => ?_⟩ a b ha hb
  refine Before.asymm hnr hc ⟨acc.length - 1 - j, acc.length - 1 - i, by omega, ?_, ?_⟩
  ·rw [List.getElem?_reverse (by omega), show acc.length - 1 - (acc.length - 1 - j) = j by omega]; exact List.getElem?_eq_getElem hj
  ·rw [List.getElem?_reverse (by omega), show acc.length - 1 - (acc.length - 1 - i) = i by omega]; exact List.getElem?_eq_getElem hi
end Go.Abs

namespace Go.Abs
theorem AVal.renL_map (p : Nat → Nat) : ∀ xs : List AVal, AVal.renL p xs = xs.map (AVal.ren p)
 | [] => rfl
 | x :: xs => by simp only [AVal.renL, List.map_cons, AVal.renL_map p xs]
theorem AVal.ren_one (p : Nat → Nat) (x : AVal) : (x.ren p).one = x.one := by cases x <;> rfl
theorem AVal.ren_cells (p : Nat → Nat) (x : AVal) : (x.ren p).cells = AVal.renL p x.cells := by cases x <;> rfl
theorem isSK_ren (p : Nat → Nat) (k : SK) (x : AVal) : isSK k (x.ren p) = isSK k x := by cases x <;> cases k <;> rfl
theorem isSKs_ren (p : Nat → Nat) : ∀ (ks : List SK) (xs : List AVal), isSKs ks (AVal.renL p xs) = isSKs ks xs
 | [], [] => rfl
 | [], _ :: _ => rfl
 | _ :: _, [] => rfl
 | k :: ks, x :: xs => by simp only [AVal.renL, isSKs, isSK_ren, isSKs_ren p ks xs]
theorem isKey_ren (p : Nat → Nat) (kd : KD) (x : AVal) : isKey kd (x.ren p) = isKey kd x := by
 cases x <;> cases kd <;> simp only [AVal.ren, isKey, isSKs_ren]
theorem plain_ren (p : Nat → Nat) (x : AVal) : plain (x.ren p) = plain x := by
 unfold plain
 rw [AVal.ren_cells, AVal.renL_map, List.all_map]
 congr 1
 funext y
 exact AVal.ren_one p y
def Ghost.ren (G : Ghost) (p : Nat → Nat) : Ghost := { G with loc := fun i => G.loc (p i), tip := fun i => G.tip (p i) }
theorem VRel.ren_to {w : World} {G : Ghost} {p : Nat → Nat} (hp : ∀ i, p i < G.n → i < G.n) {v : Value} {a' : AVal} (r : VRel w G v a') : ∀ a, a' = AVal.ren p a → VRel w (G.ren p) v a := by
 have hst : ∀ b k, stab G b k → stab (G.ren p) b k := fun _ _ h => h
 have hget : ∀ {xs : List AVal} {k : Nat} {c : AVal}, xs[k]? = some c → (AVal.renL p xs)[k]? = some (c.ren p) := fun h => by rw [AVal.renL_map, List.getElem?_map, h]; rfl
 have hlen : ∀ xs : List AVal, (AVal.renL p xs).length = xs.length := fun xs => by rw [AVal.renL_map, List.length_map]
 induction r with
 | bool b => intro a e; cases a <;> simp [AVal.ren] at e; subst e; exact .bool _
 | int k n => intro a e; cases a <;> simp [AVal.ren] at e; obtain ⟨rfl, rfl⟩ := e; exact .int _ _
 | str s => intro a e; cases a <;> simp [AVal.ren] at e; subst e; exact .str _
 | nilptr => intro a e; cases a <;> simp [AVal.ren] at e; exact .nilptr
 | ptr id off hid =>
   intro a e; cases a <;> simp [AVal.ren] at e
   obtain ⟨rfl, rfl⟩ := e
   exact .ptr (G := G.ren p) _ _ (hp _ hid)
 | rp b off cs u h1 h2 h3 h4 ih =>
   intro a e; cases a <;> simp [AVal.ren] at e
   rename_i cs'
   subst e
   refine .rp b off cs' u (fun k c hk => h1 k _ (hget hk)) (fun k c hk => ih k _ (hget hk) c rfl) (fun k hk => hst _ _ (h3 k (by rw [hlen]; exact hk))) (fun c hc => ?_)
   obtain ⟨k, hk⟩ := mem_get hc
   rw [← AVal.ren_one p]
   exact h4 _ (List.mem_of_getElem? (hget hk))
 | nilsl t ht =>
   intro a e; cases a <;> simp [AVal.ren] at e
   rename_i xs t'
   obtain ⟨rfl, e⟩ := e
   refine .nilsl t' ?_
   cases t' <;> simp [Tok.ren] at e <;> subst e <;> simp at ht ⊢
 | emp ad t ht =>
   intro a e; cases a <;> simp [AVal.ren] at e
   rename_i xs t'
   obtain ⟨rfl, e⟩ := e
   refine .emp ad t' ?_
   cases t' <;> simp [Tok.ren] at e <;> subst e <;> simp at ht ⊢
 | sl b off cap sz xs t u h0 h1 h2 h3 h4 h5 hc hn ho ih =>
   intro a e; cases a <;> simp [AVal.ren] at e
   rename_i xs' t'
   obtain ⟨rfl, e⟩ := e
   refine .sl b off cap sz _ t' u h0 h1 (fun k c hk => (h2 k c hk).strip_to hst (h5 c (List.mem_of_getElem? hk))) (fun k hk => hst _ _ (h3 k hk)) h4 h5 hc ?_ (fun id s hs => ?_)
   ·cases t' <;> simp [Tok.ren] at e <;> subst e <;> first | exact hn | simp at hn ⊢
   ·subst hs
    obtain ⟨q1, q2, q3, q4, q5, q6⟩ := ho (p id) s e
    exact ⟨q1, q2, hp _ q3, q4, q5, q6⟩
 | ref id off len sz cap hid hc hs =>
   intro a e; cases a <;> simp [AVal.ren] at e
   obtain ⟨rfl, rfl, rfl, rfl⟩ := e
   exact .ref (G := G.ren p) _ _ _ _ cap (hp _ hid) hc hs
 | ref0 id off sz b bo hid =>
   intro a e; cases a <;> simp [AVal.ren] at e
   obtain ⟨rfl, rfl, rfl, rfl⟩ := e
   exact .ref0 (G := G.ren p) _ _ _ b bo (hp _ hid)
 | fn f cs asx hl _ ih =>
   intro a e; cases a <;> simp [AVal.ren] at e
   obtain ⟨rfl, rfl⟩ := e
   exact .fn _ cs _ (by rw [hl, hlen]) fun k c x hc hx => ih k c _ hc (hget hx) x rfl
 | nilfn => intro a e; cases a <;> simp [AVal.ren] at e; exact .nilfn
 | nilif => intro a e; cases a <;> simp [AVal.ren] at e; exact .nilif
 | mp id hid =>
   intro a e; cases a <;> simp [AVal.ren] at e
   subst e
   exact .mp (G := G.ren p) _ (hp _ hid)
 | nilmp => intro a e; cases a <;> simp [AVal.ren] at e; exact .nilmp
 | yld id hid =>
   intro a e; cases a <;> simp [AVal.ren] at e
   subst e
   exact .yld (G := G.ren p) _ (hp _ hid)
 | agg cs asx hl _ h4 ih =>
   intro a e; cases a <;> simp [AVal.ren] at e
   rename_i asx'
   subst e
   refine .agg cs _ (by rw [hl, hlen]) (fun k c x hc hx => ih k c _ hc (hget hx) x rfl) (fun c hc => ?_)
   obtain ⟨k, hk⟩ := mem_get hc
   rw [← AVal.ren_one p]
   exact h4 _ (List.mem_of_getElem? (hget hk))
 | tup cs asx hl _ ih =>
   intro a e; cases a <;> simp [AVal.ren] at e
   subst e
   exact .tup cs _ (by rw [hl, hlen]) fun k c x hc hx => ih k c _ hc (hget hx) x rfl
 | bad v => intro a e; cases a <;> simp [AVal.ren] at e; exact .bad _
theorem OkObj.ren_to {w : World} {G : Ghost} {p : Nat → Nat} (hp : ∀ i, p i < G.n → i < G.n) {id : Nat} {o : Obj} (r : OkObj w G (p id) (o.ren p)) : OkObj w (G.ren p) id o := by
 have hget : ∀ {xs : List AVal} {k : Nat} {c : AVal}, xs[k]? = some c → (AVal.renL p xs)[k]? = some (c.ren p) := fun h => by rw [AVal.renL_map, List.getElem?_map, h]; rfl
 cases o with
 | row mu sz ag cs =>
   obtain ⟨h1, h2, h3, h4, h5⟩ := r
   refine ⟨h1, fun k c hk => ?_, fun c hc => ?_, ?_, h5⟩
   ·obtain ⟨u, hu, hv⟩ := h2 k _ (hget hk)
    exact ⟨u, hu, hv.ren_to hp c rfl⟩
   ·obtain ⟨k, hk⟩ := mem_get hc
    rw [← AVal.ren_one p]
    exact h3 _ (List.mem_of_getElem? (hget hk))
   ·rw [AVal.renL_map, List.length_map] at h4
    exact h4
 | tok ty => exact r
 | map kd clock es =>
   obtain ⟨entries, h1, h2, h3, h4, h5⟩ := r
   refine ⟨entries, h1, by simpa using h2, fun k e x he hx => ?_, fun x hx => ?_, h5⟩
   ·obtain ⟨q1, q2, q3⟩ := h3 k e (x.1, x.2.1.ren p, x.2.2.ren p) he (by rw [List.getElem?_map, hx]; rfl)
    exact ⟨q1, q2.ren_to hp _ rfl, q3.ren_to hp _ rfl⟩
   ·have := h4 (x.1, x.2.1.ren p, x.2.2.ren p) (List.mem_map.2 ⟨x, hx, rfl⟩)
    rwa [isKey_ren, plain_ren] at this
 | lrec st fid k slots vs =>
   obtain ⟨lr, nt, h1, h3, h4, h5, h6, h7⟩ := r
   exact ⟨lr, nt, h1, h3, h4, by rw [AVal.renL_map, List.length_map] at h5; exact h5, fun i s x q1 q2 => (h6 i s _ q1 (hget q2)).ren_to hp x rfl, h7⟩
 | iter m since seen last =>
   obtain ⟨h1, h2⟩ := r
   refine ⟨?_, fun i hi => ?_⟩
   ·show w.heap[G.loc (p id)]? = some (.mapIter (m.map fun i => G.loc (p i)) since seen.toArray last)
    rw [h1, Option.map_map]; rfl
   ·subst hi
    exact hp _ (h2 (p i) rfl)
structure RenOk (p : Nat → Nat) (lo : Nat) (h0 h : Heap) : Prop where
 next : h.next = h0.next
 old : ∀ i, i < lo → p i = i
 back : ∀ i, p i < h0.next → i < h0.next
 inj : ∀ i j, i < h0.next → j < h0.next → p i = p j → i = j
 get : ∀ i o, h0.get i = some o → h.get (p i) = some (o.ren p)
theorem HRel.ren_to {w : World} {G : Ghost} {p : Nat → Nat} {lo : Nat} {h0 h : Heap} (H : HRel w G h) (R : RenOk p lo h0 h) : HRel w (G.ren p) h0 where
 n_eq := H.n_eq.trans R.next
 lt := fun id o ho => H.lt (p id) _ (R.get id o ho)
 obj := fun id o ho => OkObj.ren_to (fun i hi => by rw [H.n_eq, R.next] at hi ⊢; exact R.back i hi) (H.obj (p id) _ (R.get id o ho))
 inj := fun i j oi oj hi hj e => R.inj i j (Heap.get_lt hi) (Heap.get_lt hj) (H.inj (p i) (p j) _ _ (R.get i oi hi) (R.get j oj hj) e)
 glob := fun g cs hg => by
  obtain ⟨q1, q2⟩ := H.glob g cs hg
  refine ⟨?_, q2⟩
  cases q1 with
  | rp b off _ u h1 h2 h3 h4 => exact .rp g 0 cs u h1 (fun k c hk => VRel.strip_to (G := G) (G2 := G.ren p) (fun _ _ h => h) (h2 k c hk) (q2 c (List.mem_of_getElem? hk))) h3 h4
theorem Ext.ren_to {w w' : World} {G G' : Ghost} {p : Nat → Nat} {h0 h hh : Heap} (hn : G.n = hh.next) (R : RenOk p hh.next h0 h) (x : Ext w G hh w' G' h) : Ext w G hh w' (G'.ren p) h0 where
 os := x.os
 tape := x.tape
 out := x.out
 size := x.size
 keep := x.keep
 stable := x.stable
 shape := x.shape
 n_le := x.n_le
 ids := fun id hid => by
  have e := R.old id (by rw [← hn]; exact hid)
  show G'.loc (p id) = G.loc id ∧ G'.tip (p id) = G.tip id
  rw [e]
  exact x.ids id hid
 fresh := fun b hb ⟨id, o, ho, hl⟩ => x.fresh b hb ⟨p id, _, R.get id o ho, hl⟩
 env := x.env
 loops := x.loops
theorem foldN_fold {cf : CallF} : ∀ {l : List AOper} {k : Nat} {s t : St} {ns : List Nat}, foldN cf l k s = some (t, ns) → foldA cf l k s = some t
 | [], k, s, t, ns, e => by simp [foldN] at e; simp [foldA, e.1]
 | o :: l, k, s, t, ns, e => by
   simp only [foldN, foldA] at e ⊢
   split at e
   ·rename_i s1 hs
    split at e
    ·rename_i t' ns' ht
     simp only [Option.some.injEq, Prod.mk.injEq] at e
     rw [foldN_fold ht, e.1]
    ·simp at e
   ·simp at e
theorem sameRen_ok {lo : Nat} {bs : List (Nat × Nat × Nat)} {s0 s : St} (e : sameRen lo bs s0 s = true) : ∃ p, RenOk p lo s0.h s.h ∧ s.vs = AVal.renL p s0.vs := by
 simp only [sameRen, Bool.and_eq_true, beq_iff_eq, decide_eq_true_eq, List.all_eq_true, List.mem_range] at e
 obtain ⟨⟨⟨⟨e1, e2⟩, e3⟩, e4⟩, e5⟩ := e
 generalize hp : mapP lo s0.h.next bs = p at e3 e4 e5
 have pold : ∀ i, i < lo → p i = i := fun i hi => by rw [← hp, mapP, if_neg (by omega)]
 have pbig : ∀ i, s0.h.next ≤ i → p i = i := fun i hi => by rw [← hp, mapP, if_neg (by omega)]
 have pnew : ∀ i, lo ≤ i → i < s0.h.next → lo ≤ p i ∧ p i < s0.h.next ∧ mapB (bs.map fun b => (b.2.1, b.1, b.2.2)) (p i) = i ∧ s.h.get (p i) = (s0.h.get i).map (Obj.ren p) := fun i h1 h2 => by
  have := e5 (i - lo) (by omega)
  rw [show lo + (i - lo) = i by omega] at this
  exact ⟨this.1.1.1, this.1.1.2, this.1.2, beqO_eq this.2⟩
 refine ⟨p, ⟨e1, pold, fun i hi => ?_, fun i j hi hj h => ?_, fun i o ho => ?_⟩, (AVal.beqL_eq _ _ e3).symm⟩
 ·rcases Nat.lt_or_ge i s0.h.next with h | h
  ·exact h
  ·rw [pbig i h] at hi; omega
 ·by_cases h1 : lo ≤ i <;> by_cases h2 : lo ≤ j
  ·rw [← (pnew i h1 hi).2.2.1, ← (pnew j h2 hj).2.2.1, h]
  ·rw [pold j (by omega)] at h; have := (pnew i h1 hi).1; omega
  ·rw [pold i (by omega)] at h; have := (pnew j h2 hj).1; omega
  ·rwa [pold i (by omega), pold j (by omega)] at h
 ·have hlt := Heap.get_lt ho
  by_cases h1 : lo ≤ i
  ·rw [(pnew i h1 hlt).2.2.2, ho]; rfl
  ·rw [pold i (by omega)]
   have q := beqO_eq (e4 i (by omega))
   rw [q, ho]; rfl
theorem altpC_ok {cf : CallF} {vs : List AVal} {h : Heap} {r0 n0 : List Nat} {s0 : St} : ∀ {rs : List (List Nat)} {ls : List (List AOper)}, altpC cf vs h r0 n0 s0 rs ls = true → ∀ l ∈ ls, ∃ s, foldA cf l 0 ⟨vs, List.replicate l.length .bad, h⟩ = some s ∧ ∃ p, RenOk p h.next s0.h s.h ∧ s.vs = AVal.renL p s0.vs
 | [], [], _, l, hl => by simp at hl
 | [], _ :: _, e, _, _ => by simp [altpC] at e
 | _ :: _, [], e, _, hl => by simp at hl
 | r :: rs, l :: ls, e, x, hx => by
   simp only [altpC] at e
   split at e
   ·simp at e
   ·rename_i s n hs
    simp only [Bool.and_eq_true] at e
    rcases List.mem_cons.1 hx with rfl | hx
    ·exact ⟨s, foldN_fold hs, sameRen_ok e.1⟩
    ·exact altpC_ok e.2 x hx
theorem AVal.renL_id : ∀ xs : List AVal, AVal.renL (fun i => i) xs = xs := by
 have key : ∀ x : AVal, AVal.ren (fun i => i) x = x := by
  intro x
  refine AVal.rec (motive_1 := fun x => AVal.ren (fun i => i) x = x) (motive_2 := fun xs => AVal.renL (fun i => i) xs = xs) ?_ ?_ ?_ ?_ ?_ ?_ ?_ ?_ ?_ ?_ ?_ ?_ ?_ ?_ ?_ ?_ ?_ ?_ ?_ x <;> intros <;> simp_all [AVal.ren, AVal.renL]
  rename_i t _
  cases t <;> rfl
 intro xs
 rw [AVal.renL_map]
 conv => rhs; rw [← List.map_id xs]
 exact List.map_congr_left fun x _ => key x
theorem Obj.ren_id (o : Obj) : o.ren (fun i => i) = o := by
 cases o with
 | row mu sz ag cs => simp [Obj.ren, AVal.renL_id]
 | tok ty => rfl
 | map kd clock es =>
   simp only [Obj.ren, Obj.map.injEq, true_and]
   conv => rhs; rw [← List.map_id es]
   refine List.map_congr_left fun e _ => ?_
   have h1 := AVal.renL_id [e.2.1, e.2.2]
   simp only [AVal.renL, List.cons.injEq, and_true] at h1
   rw [h1.1, h1.2]; rfl
 | lrec st fid k slots vs => simp [Obj.ren, AVal.renL_id]
 | iter m since seen last => cases m <;> rfl
theorem altpA_ok {cf : CallF} {vs : List AVal} {h : Heap} {r : List AVal × Heap} : ∀ {rs : List (List Nat)} {ls : List (List AOper)}, altpA cf vs h rs ls = some r → ∀ l ∈ ls, ∃ s, foldA cf l 0 ⟨vs, List.replicate l.length .bad, h⟩ = some s ∧ ∃ p, RenOk p h.next r.2 s.h ∧ s.vs = AVal.renL p r.1
 | [], _, e => by simp [altpA] at e
 | _ :: _, [], e => by simp [altpA] at e
 | r0 :: rs, l0 :: ls, e => by
   simp only [altpA] at e
   split at e
   ·simp at e
   ·rename_i s0 n0 hs
    split at e
    ·rename_i hc
     simp only [Option.some.injEq] at e
     subst e
     intro x hx
     rcases List.mem_cons.1 hx with rfl | hx
     ·exact ⟨s0, foldN_fold hs, fun i => i, ⟨rfl, fun _ _ => rfl, fun _ h => h, fun _ _ _ _ h => h, fun i o ho => by rw [Obj.ren_id]; exact ho⟩, (AVal.renL_id _).symm⟩
     ·exact altpC_ok hc x hx
    ·simp at e
end Go.Abs
