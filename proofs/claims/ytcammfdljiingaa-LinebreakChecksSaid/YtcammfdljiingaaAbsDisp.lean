/-
  Every operation but a call: the translation and the abstract machine together.
-/
import Derived.Test.YtcammfdljiingaaAbsOp6
namespace Go.Abs
set_option linter.unusedSimpArgs false
set_option linter.unusedVariables false
section
variable {P : Program} {o : Oper} {a : Act} {w : World} {G : Ghost} {h : Heap} {c : Operand → Option Opd} {ev : Opd → AVal} {r : AVal} {h' : Heap} {Hh : Hints} {fid dst : Nat}

theorem list1 {α : Type} {a : Array α} {x : α} (h : a.toList = [x]) : a = #[x] := by cases a; simp_all
theorem list2 {α : Type} {a : Array α} {x y : α} (h : a.toList = [x, y]) : a = #[x, y] := by cases a; simp_all

theorem builtin_ok (H : HRel w G h) (hc : Ops a w G c ev) {k : Call} {b : Builtin} {aop : AOp} (hop : o.op = .call k) (hb : k.callee = .builtin b) (hcomp : compBuiltin P Hh fid c dst b k.args.toList k.argTypes.toList = some aop)
    (e : evalA aop ev h = some (r, h')) : OpRes P o a w G h r h' := by
  obtain ⟨cal, args, ts⟩ := k
  simp only at hb hcomp
  subst hb
  unfold compBuiltin at hcomp
  split at hcomp
  · rename_i x t ha ht
    have := list1 ha; have := list1 ht; subst_vars
    split at hcomp
    · rename_i el x' hu hx; obtain rfl := Option.some.inj hcomp; exact op_len H hc hx hu hop e
    · rename_i x' hu hx; obtain rfl := Option.some.inj hcomp; exact op_slen H hc hx hu hop e
    · simp at hcomp
  · rename_i x y t u ha ht
    have := list2 ha; have := list2 ht; subst_vars
    split at hcomp
    · rename_i el ud x' y' hu hu' hx hy
      split at hcomp
      · rename_i e' b s ag z h1 h2 h3 h4
        split at hcomp
        · rename_i hzl; obtain rfl := Option.some.inj hcomp; exact op_append H hc hx hy hu (.inl ⟨_, hu'⟩) h1 h2 h4 hzl hop e
        · simp at hcomp
      · rename_i b s ag z h1 h2 h3 h4
        split at hcomp
        · rename_i hzl; obtain rfl := Option.some.inj hcomp; exact op_append H hc hx hy hu (.inr hu') h1 h2 h4 hzl hop e
        · simp at hcomp
      · simp at hcomp
    · simp at hcomp
  · rename_i x y t u ha ht
    have := list2 ha; have := list2 ht; subst_vars
    split at hcomp
    · rename_i el x' y' hu hx hy
      simp only [Option.map_eq_some_iff] at hcomp
      obtain ⟨s, hs, rfl⟩ := hcomp
      exact op_copy H hc hx hy hu hs hop e
    · simp at hcomp
  · rename_i x y ts' ha
    have := list2 ha; subst_vars
    split at hcomp
    · rename_i x' y' hx hy; obtain rfl := Option.some.inj hcomp; exact op_mnx (mx := false) H hc hx hy hop e
    · simp at hcomp
  · rename_i x y ts' ha
    have := list2 ha; subst_vars
    split at hcomp
    · rename_i x' y' hx hy; obtain rfl := Option.some.inj hcomp; exact op_mnx (mx := true) H hc hx hy hop e
    · simp at hcomp
  · simp at hcomp

/-- Is the abstract operation a call? -/
def isCall : AOp → Bool
  | .call _ _ | .pcall _ _ => true
  | _ => false

theorem op_ok (H : HRel w G h) (hc : Ops a w G c ev) {aop : AOp} (hcomp : compOp P Hh fid c dst o.op = some aop) (hnc : isCall aop = false) (e : evalA aop ev h = some (r, h')) : OpRes P o a w G h r h' := by
  generalize hop : o.op = op at hcomp
  cases op <;> simp only [compOp, Option.map_eq_some_iff] at hcomp
  case move x => obtain ⟨x', hx, rfl⟩ := hcomp; exact op_mov H hc hx (.inl hop) e
  case assign x => obtain ⟨x', hx, rfl⟩ := hcomp; exact op_mov H hc hx (.inr hop) e
  case pick x y z =>
    split at hcomp
    · rename_i x' y' z' hx hy hz; obtain rfl := Option.some.inj hcomp; exact op_pick H hc hx hy hz hop e
    · simp at hcomp
  case alloc t =>
    split at hcomp
    · rename_i s ag z hs ha hz; obtain rfl := Option.some.inj hcomp; exact op_alloc H hs hz hop e
    · simp at hcomp
  case box t x =>
    split at hcomp
    · rename_i s ag x' hs ha hx; obtain rfl := Option.some.inj hcomp; exact op_box H hc hx hs hop e
    · simp at hcomp
  case build t ps =>
    split at hcomp
    · rename_i fs z qs ht hz hp
      split at hcomp
      · rename_i hall
        simp only [Option.map_eq_some_iff] at hcomp
        obtain ⟨qs', hq, rfl⟩ := hcomp
        exact op_build_struct H hc ht hz hp hall (by simpa using hq) hop e
      · simp at hcomp
    · rename_i n el z qs ht hz hp
      simp only [Option.map_eq_some_iff] at hcomp
      obtain ⟨s, hs, rfl⟩ := hcomp
      exact op_build_array H hc ht hz hs hp hop e
    · simp at hcomp
  case buildSlice t n ps =>
    split at hcomp
    · rename_i el qs ht hp
      have ht' : P.underlying t = some (.slice el) := by
        unfold tElem at ht; split at ht
        · simp at ht; subst ht; assumption
        · simp at ht
      split at hcomp
      · rename_i s ag z hs ha hz; obtain rfl := Option.some.inj hcomp; exact op_lit H hc ht' hs hz hp hop e
      · simp at hcomp
    · simp at hcomp
  case load t x =>
    split at hcomp
    · rename_i s ag x' hs ha hx; obtain rfl := Option.some.inj hcomp; exact op_load H hc hx hs ha hop e
    · simp at hcomp
  case store t x y =>
    split at hcomp
    · rename_i s x' y' hs hx hy; obtain rfl := Option.some.inj hcomp; exact op_store H hc hx hy hs hop e
    · simp at hcomp
  case nilCheck x => obtain ⟨x', hx, rfl⟩ := hcomp; exact op_nilc H hc hx hop e
  case binOp op t x y yt =>
    split at hcomp
    · rename_i k x' y' ht hx hy; obtain rfl := Option.some.inj hcomp; exact op_bin H hc (bk := .arith) hx hy trivial hop e
    · rename_i x' y' ht hx hy; obtain rfl := Option.some.inj hcomp; exact op_bin H hc (bk := .arith) hx hy trivial hop e
    · rename_i x' y' ht hx hy; obtain rfl := Option.some.inj hcomp; exact op_bin H hc (bk := .bool) hx hy ht hop e
    · rename_i fs x' y' ht hx hy
      simp only [Option.map_eq_some_iff] at hcomp
      obtain ⟨ks, hks, rfl⟩ := hcomp
      exact op_bin H hc (bk := .struct ks) hx hy hks hop e
    · rename_i el x' y' ht hx hy; obtain rfl := Option.some.inj hcomp; exact op_bin H hc (bk := .ptr) hx hy ⟨_, ht⟩ hop e
    · rename_i el x' y' ht hx hy; obtain rfl := Option.some.inj hcomp; exact op_bin H hc (bk := .sl) hx hy ⟨_, ht⟩ hop e
    · rename_i p1 p2 p3 x' y' ht hx hy; obtain rfl := Option.some.inj hcomp; exact op_bin H hc (bk := .fn) hx hy ⟨_, _, _, ht⟩ hop e
    · simp at hcomp
  case unOp op t x => obtain ⟨x', hx, rfl⟩ := hcomp; exact op_un H hc hx hop e
  case convert s d x =>
    split at hcomp
    · rename_i k0 k x' hs hd hx; obtain rfl := Option.some.inj hcomp; exact op_toInt H hc hx hs hd hop e
    · rename_i x' hs hd hx; obtain rfl := Option.some.inj hcomp; exact op_idstr H hc hx hs hd hop e
    · simp at hcomp
  case makeFunc fn first cap =>
    cases fn <;> simp only [Option.map_eq_some_iff] at hcomp
    case func f =>
      split at hcomp
      · rename_i hz
        simp only [Option.map_eq_some_iff] at hcomp
        obtain ⟨cs, hcs, rfl⟩ := hcomp
        have : first = #[] := Array.eq_empty_of_size_eq_zero hz
        subst this
        exact op_clo H hc hcs hop e
      · simp at hcomp
    all_goals simp at hcomp
  case makeSlice t l m =>
    split at hcomp
    · rename_i el l' m' ht hl hm
      have ht' : P.underlying t = some (.slice el) := by
        unfold tElem at ht; split at ht
        · simp at ht; subst ht; assumption
        · simp at ht
      split at hcomp
      · rename_i b s ag z h1 h2 h3 h4; obtain rfl := Option.some.inj hcomp; exact op_mksl H hc hl hm ht' h1 h2 h4 hop e
      · simp at hcomp
    · simp at hcomp
  case slice t x lo hi mx =>
    cases mx with
    | some q => simp at hcomp
    | none =>
      simp only at hcomp
      split at hcomp
      · rename_i el x' lo' hi' ht hx hlo hhi
        simp only [Option.map_eq_some_iff] at hcomp
        obtain ⟨s, hs, rfl⟩ := hcomp
        exact op_slice H hc hx hlo hhi ht hs hop e
      · rename_i x' lo' hi' ht hx hlo hhi; obtain rfl := Option.some.inj hcomp; exact op_sslice H hc hx hlo hhi ht hop e
      · simp at hcomp
  case fieldAddr t x i =>
    split at hcomp
    · rename_i fs x' ht hx
      split at hcomp
      · rename_i f hf
        split at hcomp
        · rename_i n hn
          split at hcomp
          · simp at hcomp
          · rename_i hne; obtain rfl := Option.some.inj hcomp; exact op_faddr H hc hx ht hf hn hne hop e
        · simp at hcomp
      · simp at hcomp
    · simp at hcomp
  case field t x i =>
    split at hcomp
    · rename_i fs x' ht hx
      split at hcomp
      · rename_i f hf
        split at hcomp
        · rename_i s ag hs ha; obtain rfl := Option.some.inj hcomp; exact op_field H hc hx ht hf hs ha hop e
        · simp at hcomp
      · simp at hcomp
    · simp at hcomp
  case indexAddr t x i =>
    split at hcomp
    · rename_i el x' i' ht hx hi
      simp only [Option.map_eq_some_iff] at hcomp
      obtain ⟨s, hs, rfl⟩ := hcomp
      exact op_iaddr H hc hx hi ht hs hop e
    · rename_i n el x' i' ht hx hi
      simp only [Option.map_eq_some_iff] at hcomp
      obtain ⟨s, hs, rfl⟩ := hcomp
      exact op_aaddr H hc hx hi ht hs hop e
    · simp at hcomp
  case index t x i =>
    split at hcomp
    · rename_i x' i' ht hx hi; obtain rfl := Option.some.inj hcomp; exact op_sidx H hc hx hi ht hop e
    · rename_i n el x' i' ht hx hi
      split at hcomp
      · rename_i s ag hs ha; obtain rfl := Option.some.inj hcomp; exact op_aidx H hc hx hi ht hs ha hop e
      · simp at hcomp
    · simp at hcomp
  case extract x i => obtain ⟨x', hx, rfl⟩ := hcomp; exact op_ext H hc hx hop e
  case call k =>
    unfold compCall at hcomp
    split at hcomp
    · rename_i b hb; exact builtin_ok H hc hop hb hcomp e
    · split at hcomp
      · split at hcomp <;> (obtain rfl := Option.some.inj hcomp; simp [isCall] at hnc)
      · simp only [Option.map_eq_some_iff] at hcomp
        obtain ⟨_, _, rfl⟩ := hcomp; simp [isCall] at hnc
      · simp at hcomp
    · simp at hcomp
  all_goals simp at hcomp

/-- A call, as it was translated. -/
theorem call_of_comp {aop : AOp} (hcomp : compOp P Hh fid c dst o.op = some aop) (hic : isCall aop = true) :
    ∃ f args as ts, o.op = .call { callee := .value f, args := args, argTypes := ts } ∧ optL c args.toList = some as ∧
      ((∃ g, f = .func g ∧ aop = .pcall g as) ∨ (∃ f', (c f = some f' ∨ ∃ g, f = .func g ∧ f' = .c (.fn g [])) ∧ aop = .call f' as)) := by
  generalize hop : o.op = op at hcomp
  cases op
  case call k =>
    obtain ⟨cal, args, ts⟩ := k
    simp only [compOp, compCall] at hcomp
    split at hcomp
    · rename_i b
      unfold compBuiltin at hcomp
      repeat' split at hcomp
      all_goals first
        | (simp at hcomp; done)
        | (simp only [Option.map_eq_some_iff] at hcomp; obtain ⟨_, _, rfl⟩ := hcomp; simp [isCall] at hic; done)
        | (obtain rfl := Option.some.inj hcomp; simp [isCall] at hic)
    · rename_i f
      split at hcomp
      · rename_i g as ha
        split at hcomp
        · obtain rfl := Option.some.inj hcomp; exact ⟨_, args, as, ts, rfl, ha, .inl ⟨g, rfl, rfl⟩⟩
        · obtain rfl := Option.some.inj hcomp; exact ⟨_, args, as, ts, rfl, ha, .inr ⟨_, .inr ⟨g, rfl, rfl⟩, rfl⟩⟩
      · rename_i f as _ ha
        simp only [Option.map_eq_some_iff] at hcomp
        obtain ⟨f', hf, rfl⟩ := hcomp
        exact ⟨_, args, as, ts, rfl, ha, .inr ⟨f', .inl hf, rfl⟩⟩
      · simp at hcomp
    · simp at hcomp
  all_goals
    exfalso
    simp only [compOp] at hcomp
    repeat' split at hcomp
    all_goals first
      | contradiction
      | (simp at hcomp; done)
      | (simp only [Option.map_eq_some_iff] at hcomp; obtain ⟨_, _, rfl⟩ := hcomp; simp [isCall] at hic; done)
      | (obtain rfl := Option.some.inj hcomp; simp [isCall] at hic)
end
end Go.Abs
