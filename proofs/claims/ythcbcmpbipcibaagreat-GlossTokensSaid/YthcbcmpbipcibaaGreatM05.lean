/-
  Merged from AbsBld GlHand GlF_Tryz AbsRules AbsSim AbsAuto AbsFlat AbsBundle GlG GlM GlA GlB GlC: strings.Builder's copyCheck and String, told by hand for the abstract machine and proved of the model's functions.
-/
import Derived.Test.YthcbcmpbipcibaaGreatM02
import Derived.Shelf.Strings.Builder1
import Derived.Test.YthcbcmpbipcibaaGreatProg
import Derived.KernelRfl
import Derived.Shelf.Small.Strs
import Derived.Test.YthcbcmpbipcibaaGreatM04
import Derived.IntWalk
import Derived.Test.YthcbcmpbipcibaaGreatM01
set_option linter.unusedSimpArgs false
set_option linter.unusedVariables false
set_option linter.defProp false
set_option linter.constructorNameAsVariable false
/-
  strings.Builder's copyCheck and String, told by hand for the abstract machine and proved of the model's functions.
-/
namespace Go.Abs
def copyCheckS (ty : Nat) (args : List AVal) (h : Heap) : Option (AVal × Heap) :=
  match args with
  | [.ptr id 0] => match h.get id with
    | some (.row true s ag [c, d]) =>
      if s = typed ty then
        match c with
        | .nilptr => some (.tup [], h.put id (some (.row true s ag [.ptr id 0, d])))
        | .ptr j 0 => if j = id then some (.tup [], h) else none
        | _ => none
      else none
    | _ => none
  | _ => none
def bytesOf : List AVal → Option (List UInt8)
  | [] => some []
  | .int .u8 n :: xs => if 0 ≤ n ∧ n < 256 then (bytesOf xs).map (UInt8.ofNat n.toNat :: ·) else none
  | _ :: _ => none
def stringS (bty : Nat) (args : List AVal) (h : Heap) : Option (AVal × Heap) :=
  match args with
  | [.ptr id 0] => match h.get id with
    | some (.row true s ag [c, d]) =>
      match d with
      | .sl [] .nil => some (.str [], h)
      | .sl (x :: xs) (.own j 1) => match h.get j with
        | some (.tok b) => if b = bty ∧ (x :: xs).length ≤ 9223372036854775807 then (bytesOf (x :: xs)).map (fun l => (.str l, h)) else none
        | _ => none
      | _ => none
    | _ => none
  | _ => none
theorem bytesOf_ok : ∀ {xs : List AVal} {l : List UInt8}, bytesOf xs = some l → xs.length = l.length ∧ flat xs = xs ∧ ∀ (k : Nat) (x : UInt8), l[k]? = some x → xs[k]? = some (.int .u8 x.toNat)
  | [], l, e => by simp [bytesOf] at e; subst e; exact ⟨rfl, rfl, by simp⟩
  | x :: xs, l, e => by
    cases x with
    | int k n =>
      cases k with
      | u8 =>
        simp only [bytesOf] at e
        split at e
        · rename_i hn
          simp only [Option.map_eq_some_iff] at e
          obtain ⟨l', e', rfl⟩ := e
          obtain ⟨h1, h2, h3⟩ := bytesOf_ok e'
          refine ⟨by simp [h1], by simp only [flat, List.flatMap_cons, AVal.cells] at h2 ⊢; rw [h2]; rfl, fun k x hk => ?_⟩
          cases k with
          | zero =>
            simp only [List.getElem?_cons_zero, Option.some.injEq] at hk ⊢
            subst hk
            congr 1
            have : (UInt8.ofNat n.toNat).toNat = n.toNat := by rw [UInt8.toNat_ofNat']; exact Nat.mod_eq_of_lt (by omega)
            rw [this]; omega
          | succ k => simpa using h3 k x (by simpa using hk)
        · simp at e
      | _ => simp [bytesOf] at e
    | _ => simp [bytesOf] at e
variable {P : Program}
theorem freeze_cells (w : World) (g n : Nat) (c : Array Value) (e : TypeId) (f : Nat × Nat) (h : w.heap[g]? = some (.cells c e f)) (hn : n ≠ 0) :
    ∃ f', (w.freeze ⟨g, 0, none⟩ n).heap[g]? = some (.cells c e f') ∧ f'.2 ≤ max f.2 n := by
  obtain ⟨lo, hi⟩ := f
  refine ⟨if lo == hi then (0, 0 + n) else (min lo 0, max hi (0 + n)), ?_, ?_⟩
  · unfold World.freeze
    rw [if_neg hn]
    simp [Array.getElem?_modify, h]
  · split <;> simp <;> omega
theorem freeze_tok {w : World} {G : Ghost} {h : Heap} (H : HRel w G h) {j b n : Nat} (hj : h.get j = some (.tok b)) (hn : n ≠ 0) (ht : n ≤ G.tip j) :
    Ext w G h (w.freeze ⟨G.loc j, 0, none⟩ n) G h ∧ HRel (w.freeze ⟨G.loc j, 0, none⟩ n) G h := by
  obtain ⟨t1, ⟨m, t2, t2'⟩, t3⟩ := H.obj j _ hj
  obtain ⟨c, f, hc⟩ : ∃ c f, w.heap[G.loc j]? = some (.cells c b f) := by
    unfold World.shape? at t2
    split at t2
    · rename_i c e f hc
      simp at t2
      exact ⟨c, f, by rw [hc, t2.1]⟩
    · simp at t2
  obtain ⟨f', hf, hf'⟩ := freeze_cells w (G.loc j) n c b f hc hn
  have hother : ∀ k, k ≠ G.loc j → (w.freeze ⟨G.loc j, 0, none⟩ n).heap[k]? = w.heap[k]? := fun k hk => by
    unfold World.freeze; rw [if_neg hn]
    simp [Array.getElem?_modify, Ne.symm hk]
  have hcell : ∀ k a, (w.freeze ⟨G.loc j, 0, none⟩ n).cell? ⟨k, a, none⟩ = w.cell? ⟨k, a, none⟩ := fun k a => by
    by_cases hk : k = G.loc j
    · subst hk; simp [World.cell?, hf, hc]
    · simp [World.cell?, hother k hk]
  have hshape : ∀ k, (w.freeze ⟨G.loc j, 0, none⟩ n).shape? k = w.shape? k := fun k => by
    by_cases hk : k = G.loc j
    · subst hk; simp [World.shape?, hf, hc]
    · simp [World.shape?, hother k hk]
  have hsize : (w.freeze ⟨G.loc j, 0, none⟩ n).heap.size = w.heap.size := by unfold World.freeze; rw [if_neg hn]; simp
  have hX : Ext w G h (w.freeze ⟨G.loc j, 0, none⟩ n) G h :=
    ⟨by unfold World.freeze; rw [if_neg hn], by unfold World.freeze; rw [if_neg hn], by unfold World.freeze; rw [if_neg hn], Nat.le_of_eq hsize.symm,
      fun k _ ho => ⟨hother k (fun e => ho ⟨j, _, hj, e.symm⟩), rfl⟩, fun k a _ hs => ⟨hcell k a, hs⟩, fun k _ => hshape k, Nat.le_refl _, fun _ _ => ⟨rfl, rfl⟩, fun _ _ ho => ho, rfl⟩
  refine ⟨hX, H.n_eq, fun id o ho => by rw [hsize]; exact H.lt id o ho, fun id o ho => ?_, H.inj, fun g cs hg => ⟨(H.glob g cs hg).1.mono hX, (H.glob g cs hg).2⟩⟩
  by_cases hid : id = j
  · subst hid
    rw [hj] at ho
    obtain rfl := Option.some.inj ho
    refine ⟨t1, ⟨m, by rw [hshape]; exact t2, t2'⟩, ?_⟩
    have h3 : f.2 ≤ G.tip id := by simpa [fzr, hc] using t3
    simp only [fzr, hf]
    omega
  · have hne : G.loc id ≠ G.loc j := fun e => hid (H.inj id j o _ ho hj e)
    exact OkObj.mono hX (by rw [H.n_eq]; exact Heap.get_lt ho) (H.lt id o ho) (hother _ hne) rfl (H.obj id o ho)
section
open Go.Shelf Go.Proofs
variable {ρ : Ren}
set_option maxHeartbeats 2000000 in
set_option maxRecDepth 100000 in
theorem string_walk (L : Lays.n169 P ρ) (X : Builder.Extra P ρ) (b : Nat) (ao : Option Addr) (n cap : Nat) (q : Option Addr) (s : ByteArray) (w w2 : World) (c1' : w.cell? ⟨b, 1, none⟩ = some (.slice ao n cap))
    (hSD : (Builtin.unsafeSliceData_ #[(ρ.t 37)] (ρ.t 127) #[.slice ao n cap]).run P w.drew = .ok (.pointer q) w.drew)
    (hUS : (Builtin.unsafeString_ #[(ρ.t 127), (ρ.t 3)] (ρ.t 9) #[.pointer q, .int .i64 n]).run P w.drew = .ok (.string s) w2) :
    Calls P (ρ.f 169) #[.pointer (some ⟨b, 0, none⟩)] w fun e w' => e = .returned (.string s) ∧ w' = w2 := by
  have c1 : w.drew.cell? ⟨b, 1, none⟩ = some (.slice ao n cap) := c1'
  have mixed := L.mixed
  have t72 := L.t72; have a72 := L.a72; have z72 := L.z72; have v72 := L.v72; have u72 := run_underlying L.t72
  have t70 := L.t70; have a70 := L.a70; have z70 := L.z70; have v70 := L.v70; have u70 := run_underlying L.t70
  have t37 := L.t37; have a37 := L.a37; have z37 := L.z37; have v37 := L.v37; have u37 := run_underlying L.t37
  have t127 := L.t127; have a127 := L.a127; have z127 := L.z127; have v127 := L.v127; have u127 := run_underlying L.t127
  have t3 := L.t3; have a3 := L.a3; have z3 := L.z3; have v3 := L.v3; have u3 := run_underlying L.t3
  have t9 := L.t9; have a9 := L.a9; have z9 := L.z9; have v9 := L.v9; have u9 := run_underlying L.t9
  have t5 := X.t5; have a5 := X.a5; have z5 := X.z5; have v5 := X.v5; have u5 := run_underlying X.t5
  go_enter L.f169, Body.n169_ntmps ρ
  go_wp2
  go_region_o
  all_goals (go_wp2; go_ret; exact ⟨rfl, rfl⟩)
theorem string_ok (L : Lays.n169 P ρ) (X : Builder.Extra P ρ) : HandOk P (ρ.f 169) (stringS (ρ.t 5)) := by
  refine ⟨fun args h r h' e w G cargs H hp => ?_, enters_of L.f169 (by kernel_rfl) rfl⟩
  unfold stringS at e
  split at e
  · rename_i id
    split at e
    · rename_i s ag c d hg
      have hlen := hp.len
      obtain ⟨v0, hv0⟩ : ∃ v, cargs = #[v] := by
        obtain ⟨l⟩ := cargs
        match l, hlen with
        | [v], _ => exact ⟨v, rfl⟩
      subst hv0
      have rv := hp.rel 0 v0 (.ptr id 0) (by simp) (by simp)
      cases rv with
      | ptr _ _ hid =>
        obtain ⟨o1, o2, o3, o4, o5⟩ := H.obj id _ hg
        obtain ⟨u, hu, ru⟩ := o2 1 d (by simp)
        split at e
        · -- the empty buffer
          simp only [Option.some.injEq, Prod.mk.injEq] at e
          obtain ⟨rfl, rfl⟩ := e
          cases ru with
          | sl _ _ _ _ _ _ _ _ _ _ _ _ _ _ hnn => exact absurd rfl hnn.1
          | emp _ _ ht => rcases ht with q | q <;> cases q
          | nilsl =>
            refine (string_walk L X (G.loc id) none 0 0 none .empty w w.drew hu rfl (Lib.run_unsafeString_none w.drew _ _ _ none)).mono ?_
            rintro e w' ⟨rfl, rfl⟩
            exact ⟨_, G, rfl, Ext.of_heap ⟨rfl, rfl, rfl, rfl⟩, HRel.of_heap (w := w) ⟨rfl, rfl, rfl, rfl⟩ H, .str .empty⟩
        · -- bytes with their right
          rename_i x xs j
          split at e
          · rename_i tb hj
            split at e
            · rename_i hcond
              obtain ⟨rfl, hmax⟩ := hcond
              simp only [Option.map_eq_some_iff] at e
              obtain ⟨l, hl, e⟩ := e
              simp only [Prod.mk.injEq] at e
              obtain ⟨rfl, rfl⟩ := e
              obtain ⟨b1, b2, b3⟩ := bytesOf_ok hl
              cases ru with
              | sl b off cap sz0 _ _ u0 h0 h1 h2 h3 h4 h5 hcp hnn ho =>
                obtain ⟨k1, k0, k2, k3, k4, eT, nT, k5, k6⟩ := ho j 1 rfl
                subst k1; subst k3; subst k0
                obtain ⟨t1, ⟨m, t2, t2'⟩, t3⟩ := H.obj j _ hj
                have hne : l ≠ [] := by intro e0; rw [e0] at b1; simp at b1
                have hl0 : l.length ≠ 0 := by simpa using hne
                rw [k4] at t2'
                have hcells : P.cellsOf (ρ.t 5) = 1 := X.cellsByte
                have hw : w.drew.shape? (G.loc j) = some (ρ.t 5, m) := t2
                rw [b1] at hmax t2' hcp
                have hUS := Lib.run_unsafeString_row (P := P) w.drew (ρ.t 127) (ρ.t 3) (ρ.t 9) (ρ.t 5) L.t127 hcells (G.loc j) m hw l hne (by omega) hmax (fun k y hk => by
                  have hx := b3 k y hk
                  have hc := h1 k _ (by rw [b2]; exact hx)
                  have hr := h2 k _ (by rw [b2]; exact hx)
                  cases hu' : u0 k with
                  | int kk nn =>
                    rw [hu'] at hr hc
                    cases hr
                    have : (⟨G.loc j, 0, none⟩ : Addr).add k = ⟨G.loc j, k, none⟩ := by unfold Addr.add; by_cases hk0 : k = 0 <;> simp [hk0]
                    rw [this]
                    rw [Nat.zero_add] at hc
                    exact hc
                  | _ => rw [hu'] at hr; cases hr)
                obtain ⟨z1, z2⟩ := freeze_tok (w := w.drew) (HRel.of_heap (w := w) ⟨rfl, rfl, rfl, rfl⟩ H) hj hl0 (by omega)
                refine (string_walk L X (G.loc id) (some ⟨G.loc j, 0, none⟩) l.length cap (some ⟨G.loc j, 0, none⟩) ⟨l.toArray⟩ w _ (by rw [← b1]; exact hu) (Lib.run_unsafeSliceData_row _ _ _ _ _ _ (by omega)) hUS).mono ?_
                rintro e w' ⟨rfl, rfl⟩
                exact ⟨_, G, rfl, z1.drew, z2, .str ⟨l.toArray⟩⟩
            · simp at e
          · simp at e
        · simp at e
    · simp at e
  · simp at e
end
theorem copyCheck_ok {f ty : Nat} (hen : ∀ (args : Array Value) (w : World), (callFunc f args).run P w = .ok (.enter f args) w)
    (hU : ∀ (b : Nat) (w : World), w.cell? ⟨b, 0, none⟩ = some (.pointer (some ⟨b, 0, none⟩)) → Calls P f #[.pointer (some ⟨b, 0, none⟩)] w fun e w' => e = .returned (.tuple #[]) ∧ w' = w)
    (hF : ∀ (b : Nat) (w : World), w.cell? ⟨b, 0, none⟩ = some (.pointer none) → w.shape? b = some (ty, 2) → w.frozen? ⟨b, 0, none⟩ = false →
      Calls P f #[.pointer (some ⟨b, 0, none⟩)] w fun e w' => e = .returned (.tuple #[]) ∧ w' = w.setCell ⟨b, 0, none⟩ (.pointer (some ⟨b, 0, none⟩))) :
    HandOk P f (copyCheckS ty) := by
  refine ⟨fun args h r h' e w G cargs H hp => ?_, hen⟩
  unfold copyCheckS at e
  split at e
  · rename_i id
    split at e
    · rename_i s ag c d hg
      have hlen := hp.len
      obtain ⟨v0, hv0⟩ : ∃ v, cargs = #[v] := by
        obtain ⟨l⟩ := cargs
        match l, hlen with
        | [v], _ => exact ⟨v, rfl⟩
      subst hv0
      have rv := hp.rel 0 v0 (.ptr id 0) (by simp) (by simp)
      cases rv with
      | ptr _ _ hid =>
        obtain ⟨o1, o2, o3, o4, o5⟩ := H.obj id _ hg
        obtain ⟨u, hu, ru⟩ := o2 0 c (by simp)
        split at e
        · rename_i hs
          subst hs
          obtain ⟨eT, nT, hsh, hn, hT⟩ := o4
          obtain ⟨rfl, rfl⟩ := hT ty rfl
          split at e
          · -- fresh
            simp only [Option.some.injEq, Prod.mk.injEq] at e
            obtain ⟨rfl, rfl⟩ := e
            cases ru with
            | nilptr =>
              refine (hF (G.loc id) w hu hsh (o5 rfl 0 _ _ hsh (by simp))).mono ?_
              rintro e w' ⟨rfl, rfl⟩
              have hw := setCell_wrote (v := .pointer (some ⟨G.loc id, 0, none⟩)) hu
              obtain ⟨G', x1, x2⟩ := write_row H (xs := [.ptr id 0]) hg hw rfl (fun k v x hv hx => by
                cases k with
                | zero => simp at hv hx; subst hv; subst hx; exact .ptr id 0 hid
                | succ k => simp at hv) (by simp [AVal.one]) (by simp)
              exact ⟨_, G', rfl, x1, x2, .tup #[] [] rfl (by simp)⟩
          · -- used
            rename_i j
            split at e
            · rename_i hj
              subst hj
              simp only [Option.some.injEq, Prod.mk.injEq] at e
              obtain ⟨rfl, rfl⟩ := e
              cases ru with
              | ptr _ _ hj =>
                refine (hU _ w hu).mono ?_
                rintro e w' ⟨rfl, rfl⟩
                exact ⟨_, G, rfl, Ext.refl _ _ _, H, .tup #[] [] rfl (by simp)⟩
            · simp at e
          · simp at e
        · simp at e
    · simp at e
  · simp at e
end Go.Abs

namespace Go.Abs
open Go.Shelf Go.Proofs Go.RowKit
variable {P : Program} {ρ : Ren}
def idxS (args : List AVal) (h : Heap) : Option (AVal × Heap) :=
  match args with
  | [.str s, .int .u8 c] => some (.int .i64 (Lib.indexByte s c.toNat.toUInt8), h)
  | _ => none
theorem idx_ok (L : Lays.n137 P ρ) (e137 : ∀ args w, (callFunc (ρ.f 137) args).run P w = .ok (.enter (ρ.f 137) args) w) : HandOk P (ρ.f 137) idxS := by
  refine ⟨fun args h r h' e w G cargs H hp => ?_, e137⟩
  have hlen := hp.len
  unfold idxS at e
  split at e
  · rename_i s c
    simp only [Option.some.injEq, Prod.mk.injEq] at e
    obtain ⟨rfl, rfl⟩ := e
    obtain ⟨l⟩ := cargs
    match l, hlen with
    | [v0, v1], _ =>
      have r0 := hp.rel 0 v0 (.str s) (by simp) (by simp)
      have r1 := hp.rel 1 v1 (.int .u8 c) (by simp) (by simp)
      cases r0 with
      | str bs =>
      cases r1
      refine (Any.strings_IndexByte L bs c w).mono ?_
      rintro e w' ⟨rfl, rfl⟩
      exact ⟨_, G, rfl, Ext.refl _ _ _, H, .int _ _⟩
  · simp at e
end Go.Abs
namespace Go.Proofs.YthcbcmpbipcibaaGreat
open Go Go.Shelf Go.Proofs Go.RowKit
theorem sizeBuilder : (Tryz.prog.info? 54).map (·.size) = some 2 := by kernel_rfl
theorem liesBuilder : liesAt Tryz.prog Tryz.prog.depth 54 (2 / Tryz.prog.cellsOf 54) 0 54 1 = true := by kernel_rfl
set_option maxHeartbeats 1000000 in
set_option maxRecDepth 100000 in
theorem cc_used (b : Nat) (w : World) (h0 : w.cell? ⟨b, 0, none⟩ = some (.pointer (some ⟨b, 0, none⟩))) :
    Calls Tryz.prog 33 #[.pointer (some ⟨b, 0, none⟩)] w fun e w' => e = .returned (.tuple #[]) ∧ w' = w := by
  obtain ⟨j, hj, _⟩ := Option.map_eq_some_iff.1 sizeBuilder
  have mixed : Tryz.prog.follows .mixedOrders = true := by kernel_rfl
  have t72 := Tryz.underlying54; have a72 := Tryz.isAgg54; have z72 := Tryz.sizeOf54; have v72 := Tryz.zeroValue54; have u72 := run_underlying Tryz.underlying54
  have t70 := Tryz.underlying51; have a70 := Tryz.isAgg51; have z70 := Tryz.sizeOf51; have v70 := Tryz.zeroValue51; have u70 := run_underlying Tryz.underlying51
  have t4 := Tryz.underlying4; have a4 := Tryz.isAgg4; have z4 := Tryz.sizeOf4; have v4 := Tryz.zeroValue4; have u4 := run_underlying Tryz.underlying4
  have t164 := Tryz.underlying155; have a164 := Tryz.isAgg155; have z164 := Tryz.sizeOf155; have v164 := Tryz.zeroValue155; have u164 := run_underlying Tryz.underlying155
  go_enter Tryz.func33, Tryz.ntmps33
  go_wp2
  rw [Lib.run_neq_ptr_same w _ Tryz.underlying51 hj]
  go_wp2
  go_end0
  exact ⟨rfl, rfl⟩
set_option maxHeartbeats 1000000 in
set_option maxRecDepth 100000 in
theorem cc_fresh (b : Nat) (w : World) (h0 : w.cell? ⟨b, 0, none⟩ = some (.pointer none)) (hsh : w.shape? b = some (54, 2)) (hfz : w.frozen? ⟨b, 0, none⟩ = false) :
    Calls Tryz.prog 33 #[.pointer (some ⟨b, 0, none⟩)] w fun e w' => e = .returned (.tuple #[]) ∧ w' = w.setCell ⟨b, 0, none⟩ (.pointer (some ⟨b, 0, none⟩)) := by
  obtain ⟨j, hj, hjs⟩ := Option.map_eq_some_iff.1 sizeBuilder
  have mixed : Tryz.prog.follows .mixedOrders = true := by kernel_rfl
  have t72 := Tryz.underlying54; have a72 := Tryz.isAgg54; have z72 := Tryz.sizeOf54; have v72 := Tryz.zeroValue54; have u72 := run_underlying Tryz.underlying54
  have t70 := Tryz.underlying51; have a70 := Tryz.isAgg51; have z70 := Tryz.sizeOf51; have v70 := Tryz.zeroValue51; have u70 := run_underlying Tryz.underlying51
  have t4 := Tryz.underlying4; have a4 := Tryz.isAgg4; have z4 := Tryz.sizeOf4; have v4 := Tryz.zeroValue4; have u4 := run_underlying Tryz.underlying4
  have t164 := Tryz.underlying155; have a164 := Tryz.isAgg155; have z164 := Tryz.sizeOf155; have v164 := Tryz.zeroValue155; have u164 := run_underlying Tryz.underlying155
  go_enter Tryz.func33, Tryz.ntmps33
  go_wp2
  rw [Lib.run_to_unsafe w ⟨b, 0, none⟩ Tryz.underlying51 Tryz.underlying155 hj (by rw [hjs]; decide) hsh (Nat.zero_lt_succ 1)]
  simp only [Result.andThen]
  rw [Oper.upon_value]
  go_wp2
  rw [run_callFunc_extern Tryz.func48 (by kernel_rfl) (by kernel_rfl) (by kernel_rfl) (e := Extern.AbiNoEscape.same) (by kernel_rfl)]
  rw [Lib.run_noEscape]
  simp only [Result.andThen]
  rw [Oper.upon_value]
  go_wp2
  rw [Lib.run_from_unsafe w ⟨b, 0, none⟩ Tryz.underlying155 Tryz.underlying51 hj hsh liesBuilder]
  simp only [Result.andThen]
  rw [Oper.upon_value]
  go_wp2
  go_end0
  exact ⟨rfl, rfl⟩
end Go.Proofs.YthcbcmpbipcibaaGreat

namespace Go.Proofs.YthcbcmpbipcibaaGreat
open Go Go.Abs Go.Shelf
open Go.RowKit
theorem extra : Builder.Extra Tryz.prog strA_ren where
  sizeBuilder := by kernel_rfl
  liesBuilder := by kernel_rfl
  t5 := Tryz.underlying5
  a5 := Tryz.isAgg5
  z5 := Tryz.sizeOf5
  v5 := Tryz.zeroValue5
  infoByte := by kernel_rfl
  cellsByte := by kernel_rfl
  sizeByte := by kernel_rfl
  neB5 := by decide
noncomputable def F : Nat → Option AEnt
  | 3 => some (.comp c3)
  | 4 => some (.comp c4)
  | 5 => some (.comp c5)
  | 6 => some (.comp c6)
  | 7 => some (.comp c7)
  | 8 => some (.comp c8)
  | 9 => some (.comp c9)
  | 10 => some (.comp c10)
  | 11 => some (.comp c11)
  | 12 => some (.comp c12)
  | 13 => some (.comp c13)
  | 14 => some (.comp c14)
  | 15 => some (.comp c15)
  | 16 => some (.comp c16)
  | 17 => some (.comp c17)
  | 18 => some (.comp c18)
  | 19 => some (.comp c19)
  | 20 => some (.comp c20)
  | 21 => some (.comp c21)
  | 22 => some (.comp c22)
  | 23 => some (.comp c23)
  | 25 => some (.comp c25)
  | 26 => some (.comp c26)
  | 27 => some (.comp c27)
  | 28 => some (.comp c28)
  | 29 => some (.comp c29)
  | 30 => some (.comp c30)
  | 31 => some (.comp c31)
  | 32 => some (.comp c32)
  | 34 => some (.comp c34)
  | 35 => some (.comp c35)
  | 36 => some (.comp c36)
  | 37 => some (.comp c37)
  | 38 => some (.comp c38)
  | 39 => some (.comp c39)
  | 40 => some (.comp c40)
  | 41 => some (.comp c41)
  | 42 => some (.comp c42)
  | 43 => some (.comp c43)
  | 44 => some (.comp c44)
  | 45 => some (.comp c45)
  | 46 => some (.comp c46)
  | 47 => some (.comp c47)
  | 50 => some (.comp c50)
  | 51 => some (.comp c51)
  | 52 => some (.comp c52)
  | 53 => some (.comp c53)
  | 54 => some (.comp c54)
  | 55 => some (.comp c55)
  | 56 => some (.comp c56)
  | 57 => some (.comp c57)
  | 58 => some (.comp c58)
  | 59 => some (.comp c59)
  | 60 => some (.comp c60)
  | 61 => some (.comp c61)
  | 62 => some (.comp c62)
  | 63 => some (.comp c63)
  | 64 => some (.comp c64)
  | 65 => some (.comp c65)
  | 66 => some (.comp c66)
  | 67 => some (.comp c67)
  | 69 => some (.comp c69)
  | 70 => some (.comp c70)
  | 72 => some (.comp c72)
  | 73 => some (.comp c73)
  | 74 => some (.comp c74)
  | 76 => some (.comp c76)
  | 77 => some (.comp c77)
  | 78 => some (.comp c78)
  | 79 => some (.comp c79)
  | 80 => some (.comp c80)
  | 82 => some (.comp c82)
  | 83 => some (.comp c83)
  | 85 => some (.comp c85)
  | 86 => some (.comp c86)
  | 87 => some (.comp c87)
  | 91 => some (.comp c91)
  | 92 => some (.comp c92)
  | 93 => some (.comp c93)
  | 96 => some (.comp c96)
  | 97 => some (.comp c97)
  | 98 => some (.comp c98)
  | 99 => some (.comp c99)
  | 100 => some (.comp c100)
  | 109 => some (.comp c109)
  | 110 => some (.comp c110)
  | 111 => some (.comp c111)
  | 112 => some (.comp c112)
  | 113 => some (.comp c113)
  | 116 => some (.comp c116)
  | 117 => some (.comp c117)
  | 118 => some (.comp c118)
  | 119 => some (.comp c119)
  | 120 => some (.comp c120)
  | 131 => some (.comp c131)
  | 133 => some (.comp c133)
  | 136 => some (.comp c136)
  | 137 => some (.comp c137)
  | 138 => some (.comp c138)
  | 139 => some (.comp c139)
  | 140 => some (.comp c140)
  | 149 => some (.comp c149)
  | 153 => some (.comp c153)
  | 154 => some (.comp c154)
  | 155 => some (.comp c155)
  | 159 => some (.comp c159)
  | 160 => some (.comp c160)
  | 24 => some (.hand (stringS 5))
  | 33 => some (.hand (copyCheckS 54))
  | 49 => some (.hand (idxS))
  | _ => none
theorem table : Table Tryz.prog hints F := by
  intro g
  unfold F
  split
  · exact ⟨c3_ok, rfl⟩
  · exact ⟨c4_ok, rfl⟩
  · exact ⟨c5_ok, rfl⟩
  · exact ⟨c6_ok, rfl⟩
  · exact ⟨c7_ok, rfl⟩
  · exact ⟨c8_ok, rfl⟩
  · exact ⟨c9_ok, rfl⟩
  · exact ⟨c10_ok, rfl⟩
  · exact ⟨c11_ok, rfl⟩
  · exact ⟨c12_ok, rfl⟩
  · exact ⟨c13_ok, rfl⟩
  · exact ⟨c14_ok, rfl⟩
  · exact ⟨c15_ok, rfl⟩
  · exact ⟨c16_ok, rfl⟩
  · exact ⟨c17_ok, rfl⟩
  · exact ⟨c18_ok, rfl⟩
  · exact ⟨c19_ok, rfl⟩
  · exact ⟨c20_ok, rfl⟩
  · exact ⟨c21_ok, rfl⟩
  · exact ⟨c22_ok, rfl⟩
  · exact ⟨c23_ok, rfl⟩
  · exact ⟨c25_ok, rfl⟩
  · exact ⟨c26_ok, rfl⟩
  · exact ⟨c27_ok, rfl⟩
  · exact ⟨c28_ok, rfl⟩
  · exact ⟨c29_ok, rfl⟩
  · exact ⟨c30_ok, rfl⟩
  · exact ⟨c31_ok, rfl⟩
  · exact ⟨c32_ok, rfl⟩
  · exact ⟨c34_ok, rfl⟩
  · exact ⟨c35_ok, rfl⟩
  · exact ⟨c36_ok, rfl⟩
  · exact ⟨c37_ok, rfl⟩
  · exact ⟨c38_ok, rfl⟩
  · exact ⟨c39_ok, rfl⟩
  · exact ⟨c40_ok, rfl⟩
  · exact ⟨c41_ok, rfl⟩
  · exact ⟨c42_ok, rfl⟩
  · exact ⟨c43_ok, rfl⟩
  · exact ⟨c44_ok, rfl⟩
  · exact ⟨c45_ok, rfl⟩
  · exact ⟨c46_ok, rfl⟩
  · exact ⟨c47_ok, rfl⟩
  · exact ⟨c50_ok, rfl⟩
  · exact ⟨c51_ok, rfl⟩
  · exact ⟨c52_ok, rfl⟩
  · exact ⟨c53_ok, rfl⟩
  · exact ⟨c54_ok, rfl⟩
  · exact ⟨c55_ok, rfl⟩
  · exact ⟨c56_ok, rfl⟩
  · exact ⟨c57_ok, rfl⟩
  · exact ⟨c58_ok, rfl⟩
  · exact ⟨c59_ok, rfl⟩
  · exact ⟨c60_ok, rfl⟩
  · exact ⟨c61_ok, rfl⟩
  · exact ⟨c62_ok, rfl⟩
  · exact ⟨c63_ok, rfl⟩
  · exact ⟨c64_ok, rfl⟩
  · exact ⟨c65_ok, rfl⟩
  · exact ⟨c66_ok, rfl⟩
  · exact ⟨c67_ok, rfl⟩
  · exact ⟨c69_ok, rfl⟩
  · exact ⟨c70_ok, rfl⟩
  · exact ⟨c72_ok, rfl⟩
  · exact ⟨c73_ok, rfl⟩
  · exact ⟨c74_ok, rfl⟩
  · exact ⟨c76_ok, rfl⟩
  · exact ⟨c77_ok, rfl⟩
  · exact ⟨c78_ok, rfl⟩
  · exact ⟨c79_ok, rfl⟩
  · exact ⟨c80_ok, rfl⟩
  · exact ⟨c82_ok, rfl⟩
  · exact ⟨c83_ok, rfl⟩
  · exact ⟨c85_ok, rfl⟩
  · exact ⟨c86_ok, rfl⟩
  · exact ⟨c87_ok, rfl⟩
  · exact ⟨c91_ok, rfl⟩
  · exact ⟨c92_ok, rfl⟩
  · exact ⟨c93_ok, rfl⟩
  · exact ⟨c96_ok, rfl⟩
  · exact ⟨c97_ok, rfl⟩
  · exact ⟨c98_ok, rfl⟩
  · exact ⟨c99_ok, rfl⟩
  · exact ⟨c100_ok, rfl⟩
  · exact ⟨c109_ok, rfl⟩
  · exact ⟨c110_ok, rfl⟩
  · exact ⟨c111_ok, rfl⟩
  · exact ⟨c112_ok, rfl⟩
  · exact ⟨c113_ok, rfl⟩
  · exact ⟨c116_ok, rfl⟩
  · exact ⟨c117_ok, rfl⟩
  · exact ⟨c118_ok, rfl⟩
  · exact ⟨c119_ok, rfl⟩
  · exact ⟨c120_ok, rfl⟩
  · exact ⟨c131_ok, rfl⟩
  · exact ⟨c133_ok, rfl⟩
  · exact ⟨c136_ok, rfl⟩
  · exact ⟨c137_ok, rfl⟩
  · exact ⟨c138_ok, rfl⟩
  · exact ⟨c139_ok, rfl⟩
  · exact ⟨c140_ok, rfl⟩
  · exact ⟨c149_ok, rfl⟩
  · exact ⟨c153_ok, rfl⟩
  · exact ⟨c154_ok, rfl⟩
  · exact ⟨c155_ok, rfl⟩
  · exact ⟨c159_ok, rfl⟩
  · exact ⟨c160_ok, rfl⟩
  · exact ⟨(string_ok strA extra).e, fun q => by simp [hints] at q⟩
  · exact ⟨(copyCheck_ok (enters_of Tryz.func33 (by kernel_rfl) rfl) cc_used cc_fresh).e, fun q => by simp [hints] at q⟩
  · exact ⟨(idx_ok idxA (enters_of Tryz.func49 (by kernel_rfl) rfl)).e, fun q => by simp [hints] at q⟩
  · trivial
end Go.Proofs.YthcbcmpbipcibaaGreat

namespace Go.Abs
variable {F : Nat → Option AEnt} {ev : Opd → AVal} {h : Heap} {K : AVal → Heap → Prop}
theorem wrap_in64 {x : Int} (h1 : -9223372036854775808 ≤ x) (h2 : x < 9223372036854775808) : IntKind.i64.wrap x = x := IntWalk.i64_in x ⟨h1, by omega⟩
theorem stripL_append : ∀ {a b a' b' : List AVal}, stripL a = some a' → stripL b = some b' → stripL (a ++ b) = some (a' ++ b')
  | [], b, a', b', h1, h2 => by simp [stripL] at h1; subst h1; simpa using h2
  | x :: a, b, a', b', h1, h2 => by
    simp only [stripL] at h1
    split at h1
    · rename_i y ys e1 e2
      simp at h1; subst h1
      simp only [List.cons_append, stripL, e1, stripL_append e2 h2]
    · simp at h1
def Pt (t : Tok) : Prop := t = .none ∨ t = .nil
theorem strip_pt {t : Tok} (ht : Pt t) {xs : List AVal} : strip (.sl xs t) = some (.sl xs t) := by
  rcases ht with rfl | rfl <;> rfl
theorem purify_pt {t : Tok} (ht : Pt t) {xs : List AVal} {h : Heap} : purify h (.sl xs t) = some (.sl xs t) := by
  rcases ht with rfl | rfl <;> rfl
theorem roomOk_of {n bytes : Nat} (h1 : n ≤ 1000000) (h2 : bytes ≤ 10000) : roomOk n bytes = true := by
  simp only [roomOk, Bool.and_eq_true, decide_eq_true_eq]
  refine ⟨by omega, ?_⟩
  calc (4 * n + 1024) * bytes ≤ (4 * 1000000 + 1024) * 10000 := Nat.mul_le_mul (by omega) h2
    _ ≤ 281474976710656 := by decide
theorem get_push (h : Heap) (o : Obj) : (h.push o).get h.next = some o := by simp [Heap.get, Heap.push]
theorem get_push_old {h : Heap} {o o' : Obj} {j : Nat} (hj : h.get j = some o') : (h.push o).get j = some o' := by
  have hlt : j < h.next := by
    unfold Heap.get at hj; split at hj
    · assumption
    · simp at hj
  have e1 : h.next + 1 - 1 - j = (h.next - 1 - j) + 1 := by omega
  simp only [Heap.get, Heap.push, e1, List.getElem?_cons_succ] at hj ⊢
  rw [if_pos hlt] at hj
  rw [if_pos (by omega)]; exact hj
theorem get_lt {h : Heap} {j : Nat} {o : Obj} (hj : h.get j = some o) : j < h.next := by
  unfold Heap.get at hj; split at hj
  · assumption
  · simp at hj
theorem put_push (h : Heap) (o o' : Obj) : (h.push o).put h.next (some o') = h.push o' := by
  simp [Heap.put, Heap.push]
theorem put_push_old {h : Heap} {o : Obj} {j : Nat} (o' : Option Obj) (hj : j < h.next) : (h.push o).put j o' = (h.put j o').push o := by
  have e1 : h.next + 1 - 1 - j = (h.next - 1 - j) + 1 := by omega
  simp only [Heap.put, Heap.push, hj, if_true, e1, List.set_cons_succ]
  rw [if_pos (by omega)]
end Go.Abs

namespace Go.Abs
variable {F : Nat → Option AEnt} {ev : Opd → AVal} {h : Heap} {K : AVal → Heap → Prop}
theorem ev_v (vs ts : List AVal) (i : Nat) : evOpd vs ts (.v i) = (vs[i]?).getD .bad := _root_.id rfl
theorem ev_t (vs ts : List AVal) (i : Nat) : evOpd vs ts (.t i) = (ts[i]?).getD .bad := _root_.id rfl
theorem ev_c (vs ts : List AVal) (x : AVal) : evOpd vs ts (.c x) = x := _root_.id rfl
theorem putV_tmp (vs : List AVal) (r : AVal) : putV .tmp vs r = vs := _root_.id rfl
theorem putV_no (vs : List AVal) (r : AVal) : putV .no vs r = vs := _root_.id rfl
theorem putV_var (vs : List AVal) (r : AVal) (i : Nat) : putV (.var i) vs r = vs.set i r := _root_.id rfl
theorem putT_tmp (r : AVal) : putT .tmp r = r := _root_.id rfl
theorem putT_no (r : AVal) : putT .no r = .bad := _root_.id rfl
theorem putT_var (r : AVal) (i : Nat) : putT (.var i) r = .bad := _root_.id rfl
def wantV : AVal → Bool → Option Bool
  | .bool c, b => some (c == b)
  | .tup [], _ => some false
  | _, _ => none
theorem want_V (vs ts : List AVal) (x : Opd) (b : Bool) : wantA (evOpd vs ts) (some (x, b)) = wantV (evOpd vs ts x) b := by
  simp only [wantA, wantV]
  cases evOpd vs ts x <;> first | rfl | skip
  rename_i l; cases l <;> rfl
theorem XW_val {op : AOp} (hop : ∀ cf, execA cf op ev h = evalA op ev h) {f : Option AVal} (e : evalA op ev h = f.map (·, h)) : XW F op ev h K ↔ bindK f K h := by
  rw [XW_eval hop, e]
  simp only [Option.map_eq_some_iff, Prod.mk.injEq]
  constructor
  · rintro ⟨r, h', ⟨a, h1, rfl, rfl⟩, h2⟩; exact ⟨a, h1, h2⟩
  · rintro ⟨r, h1, h2⟩; exact ⟨r, h, ⟨r, h1, rfl, rfl⟩, h2⟩
theorem XW_heap {op : AOp} (hop : ∀ cf, execA cf op ev h = evalA op ev h) {p : Prop} [Decidable p] {v : AVal} {h1 : Heap} (e : evalA op ev h = if p then some (v, h1) else none) : XW F op ev h K ↔ p ∧ K v h1 := by
  rw [XW_eval hop, e]
  constructor
  · rintro ⟨r, h', he, q⟩
    split at he
    · rename_i hp
      simp only [Option.some.injEq, Prod.mk.injEq] at he
      obtain ⟨rfl, rfl⟩ := he
      exact ⟨hp, q⟩
    · simp at he
  · rintro ⟨hp, q⟩
    exact ⟨v, h1, if_pos hp, q⟩
theorem XW_mov {x : Opd} : XW F (.mov x) ev h K ↔ bindK (some (ev x)) K h := XW_val (fun _ => rfl) rfl
theorem XW_bin {op : BinOp} {bk : BK} {x y : Opd} : XW F (.bin op bk x y) ev h K ↔ bindK (binA op bk (ev x) (ev y)) K h := by
  exact XW_val (fun _ => rfl) rfl
theorem XW_un {op : UnOp} {x : Opd} : XW F (.un op x) ev h K ↔ bindK (unA op (ev x)) K h := by
  exact XW_val (fun _ => rfl) rfl
theorem XW_load {n : Nat} {ag : Bool} {x : Opd} : XW F (.load n ag x) ev h K ↔ bindK (loadA n ag (ev x) h) K h := by
  exact XW_val (fun _ => rfl) rfl
theorem XW_store {n : Nat} {a x : Opd} : XW F (.store n a x) ev h K ↔ bindH ((storeA n (ev a) (ev x) h).map fun h' => (.tup [], h')) K := by
  rw [XW_eval (fun _ => rfl)]
  rfl
def valA (op : AOp) (a b : AVal) (h : Heap) : Option AVal :=
  match op with
  | .len _ => (match a with
    | .sl xs _ => some (.int .i64 xs.length)
    | .ref _ _ n _ => some (.int .i64 n)
    | _ => none)
  | .slen _ => (match a with
    | .str s => some (.int .i64 s.length)
    | _ => none)
  | .faddr off _ => (match a with
    | .ptr i o => some (.ptr i (o + off))
    | .rp cs => some (.rp (cs.drop off))
    | _ => none)
  | .nilc _ => (match a with
    | .ptr i o => some (.ptr i o)
    | .rp cs => some (.rp cs)
    | .fn f c => some (.fn f c)
    | _ => none)
  | .iaddr sz _ _ => (match a, b with
    | .sl xs _, .int _ n => if 0 ≤ n ∧ n < xs.length then (match xs[n.toNat]? with
      | some y => if y.cells.length = sz then some (.rp y.cells) else none
      | none => none) else none
    | .ref id off len s, .int _ n => if 0 ≤ n ∧ n < len ∧ s = sz then some (.ptr id (off + n.toNat * sz)) else none
    | _, _ => none)
  | .ext _ i => (match a with
    | .tup vs => vs[i]?
    | _ => none)
  | _ => none
theorem XW_len {x : Opd} : XW F (.len x) ev h K ↔ bindK (valA (.len x) (ev x) .bad h) K h := by
  refine XW_val (fun _ => rfl) ?_
  simp only [evalA, valA]
  cases ev x <;> rfl
theorem XW_slen {x : Opd} : XW F (.slen x) ev h K ↔ bindK (valA (.slen x) (ev x) .bad h) K h := by
  refine XW_val (fun _ => rfl) ?_
  simp only [evalA, valA]
  cases ev x <;> rfl
theorem XW_faddr {x : Opd} {off : Nat} : XW F (.faddr off x) ev h K ↔ bindK (valA (.faddr off x) (ev x) .bad h) K h := by
  refine XW_val (fun _ => rfl) ?_
  simp only [evalA, valA]
  cases ev x <;> rfl
theorem XW_nilc {x : Opd} : XW F (.nilc x) ev h K ↔ bindK (valA (.nilc x) (ev x) .bad h) K h := by
  refine XW_val (fun _ => rfl) ?_
  simp only [evalA, valA]
  cases ev x <;> rfl
theorem XW_ext {x : Opd} {i : Nat} : XW F (.ext x i) ev h K ↔ bindK (valA (.ext x i) (ev x) .bad h) K h := by
  refine XW_val (fun _ => rfl) ?_
  simp only [evalA, valA]
  cases ev x <;> rfl
theorem XW_pick {c a b : Opd} : XW F (.pick c a b) ev h K ↔ condB (ev c) (fun t => K (if t then ev a else ev b) h) := by
  rw [XW_eval (fun _ => rfl)]; simp only [evalA]
  constructor
  · rintro ⟨r, h', e, q⟩
    split at e
    · rename_i t ht
      simp only [Option.some.injEq, Prod.mk.injEq] at e
      obtain ⟨rfl, rfl⟩ := e
      exact ⟨t, ht, q⟩
    · simp at e
  · rintro ⟨t, ht, q⟩
    exact ⟨_, _, by rw [ht], q⟩
theorem XW_alloc {ty sz : Nat} {ag : Bool} {z : List AVal} : XW F (.alloc ty sz ag z) ev h K ↔ (z.length = sz ∧ z.all AVal.one = true) ∧ K (.ptr h.next 0) (h.push (.row true (typed ty) ag z)) := by
  exact XW_heap (fun _ => rfl) rfl
theorem XW_box {sz : Nat} {ag : Bool} {x : Opd} : XW F (.box sz ag x) ev h K ↔ ((ev x).cells.length = sz ∧ (ev x).cells.all AVal.one = true) ∧ K (.ptr h.next 0) (h.push (.row true 0 ag (ev x).cells)) := by
  exact XW_heap (fun _ => rfl) rfl
theorem bin_lss (k : IntKind) (a b : Int) : binA .lss .arith (.int k a) (.int k b) = some (.bool (decide (a < b))) := by simp [binA, intBin]
theorem bin_leq (k : IntKind) (a b : Int) : binA .leq .arith (.int k a) (.int k b) = some (.bool (decide (a ≤ b))) := by simp [binA, intBin]
theorem bin_gtr (k : IntKind) (a b : Int) : binA .gtr .arith (.int k a) (.int k b) = some (.bool (decide (b < a))) := by simp [binA, intBin]
theorem bin_geq (k : IntKind) (a b : Int) : binA .geq .arith (.int k a) (.int k b) = some (.bool (decide (b ≤ a))) := by simp [binA, intBin]
theorem bin_eql (k : IntKind) (a b : Int) : binA .eql .arith (.int k a) (.int k b) = some (.bool (decide (a = b))) := by simp [binA, intBin]; by_cases e : a = b <;> simp [e]
theorem bin_neq (k : IntKind) (a b : Int) : binA .neq .arith (.int k a) (.int k b) = some (.bool (decide (a ≠ b))) := by simp [binA, intBin]; by_cases e : a = b <;> simp [e]
theorem bin_add (a b : Int) : binA .add .arith (.int .i64 a) (.int .i64 b) = some (.int .i64 (IntKind.i64.wrap (a + b))) := by simp [binA, intBin]
theorem bin_sub (a b : Int) : binA .sub .arith (.int .i64 a) (.int .i64 b) = some (.int .i64 (IntKind.i64.wrap (a - b))) := by simp [binA, intBin]
theorem bin_mul (a b : Int) : binA .mul .arith (.int .i64 a) (.int .i64 b) = some (.int .i64 (IntKind.i64.wrap (a * b))) := by simp [binA, intBin]
theorem bin_eql_s (a b : List UInt8) : binA .eql .arith (.str a) (.str b) = some (.bool (decide (a = b))) := by simp [binA, strBin]; by_cases e : a = b <;> simp [e]
theorem bin_neq_s (a b : List UInt8) : binA .neq .arith (.str a) (.str b) = some (.bool (decide (a ≠ b))) := by simp [binA, strBin]; by_cases e : a = b <;> simp [e]
theorem bin_rem (a b : Int) (hb : b ≠ 0) : binA .rem .arith (.int .i64 a) (.int .i64 b) = some (.int .i64 (a.tmod b)) := by simp [binA, intBin, hb]
theorem bin_quo (a b : Int) (hb : b ≠ 0) : binA .quo .arith (.int .i64 a) (.int .i64 b) = some (.int .i64 (IntKind.i64.wrap (a.tdiv b))) := by simp [binA, intBin, hb]
theorem un_neg (a : Int) : unA .neg (.int .i64 a) = some (.int .i64 (IntKind.i64.wrap (-a))) := by simp [unA]
theorem un_not (a : Bool) : unA .not (.bool a) = some (.bool (!a)) := _root_.id rfl
theorem load_rp (n : Nat) (ag : Bool) (cs : List AVal) (h : Heap) : loadA n ag (.rp cs) h = if n ≤ cs.length then mk ag (cs.take n) else none := _root_.id rfl
theorem mk_f (c : AVal) : mk false [c] = some c := _root_.id rfl
theorem mk_t (cs : List AVal) : mk true cs = some (.agg cs) := _root_.id rfl
theorem len_sl (x : Opd) (xs : List AVal) (t : Tok) (h : Heap) (b : AVal) : valA (.len x) (.sl xs t) b h = some (.int .i64 xs.length) := _root_.id rfl
theorem len_ref (x : Opd) (id off n sz : Nat) (h : Heap) (b : AVal) : valA (.len x) (.ref id off n sz) b h = some (.int .i64 n) := _root_.id rfl
theorem slen_str (x : Opd) (s : List UInt8) (h : Heap) (b : AVal) : valA (.slen x) (.str s) b h = some (.int .i64 s.length) := _root_.id rfl
theorem faddr_rp (x : Opd) (off : Nat) (cs : List AVal) (h : Heap) (b : AVal) : valA (.faddr off x) (.rp cs) b h = some (.rp (cs.drop off)) := _root_.id rfl
theorem faddr_ptr (x : Opd) (off i o : Nat) (h : Heap) (b : AVal) : valA (.faddr off x) (.ptr i o) b h = some (.ptr i (o + off)) := _root_.id rfl
theorem nilc_ptr (x : Opd) (i o : Nat) (h : Heap) (b : AVal) : valA (.nilc x) (.ptr i o) b h = some (.ptr i o) := _root_.id rfl
theorem nilc_fn (x : Opd) (f : Nat) (c : List AVal) (h : Heap) (b : AVal) : valA (.nilc x) (.fn f c) b h = some (.fn f c) := _root_.id rfl
theorem ext_tup (x : Opd) (i : Nat) (vs : List AVal) (h : Heap) (b : AVal) : valA (.ext x i) (.tup vs) b h = vs[i]? := _root_.id rfl
theorem XW_iaddr {sz : Nat} {x i : Opd} : XW F (.iaddr sz x i) ev h K ↔ bindK (valA (.iaddr sz x i) (ev x) (ev i) h) K h := by
  refine XW_val (fun _ => rfl) ?_
  simp only [evalA, valA]
  cases ev x <;> cases ev i <;> first | rfl | skip
  · rename_i xs tk k n
    by_cases h0 : 0 ≤ n ∧ n < xs.length
    · simp only [h0, and_self, if_true]
      cases xs[n.toNat]? with
      | none => rfl
      | some y => by_cases h1 : y.cells.length = sz <;> simp [h1]
    · simp only [h0, if_false]; rfl
  · rename_i id off len s k n
    by_cases h0 : 0 ≤ n ∧ n < len ∧ s = sz
    · simp only [h0, and_self, if_true]; rfl
    · simp only [h0, if_false]; rfl
theorem stripL_nil : stripL [] = some [] := rfl
def sc (o : Option AVal) (p : Option (List AVal)) : Option (List AVal) := match o, p with
  | some y, some ys => some (y :: ys)
  | _, _ => none
theorem stripL_sc (x : AVal) (xs : List AVal) : stripL (x :: xs) = sc (strip x) (stripL xs) := by
  rfl
theorem sc_some (y : AVal) (ys : List AVal) : sc (some y) (some ys) = some (y :: ys) := rfl
theorem sc_none (p : Option (List AVal)) : sc none p = none := rfl
theorem st_int (k : IntKind) (n : Int) : strip (.int k n) = some (.int k n) := rfl
theorem st_bool (b : Bool) : strip (.bool b) = some (.bool b) := rfl
theorem st_str (s : List UInt8) : strip (.str s) = some (.str s) := rfl
theorem st_none (xs : List AVal) : strip (.sl xs .none) = some (.sl xs .none) := rfl
theorem st_nil (xs : List AVal) : strip (.sl xs .nil) = some (.sl xs .nil) := rfl
theorem st_own (xs : List AVal) (id sz : Nat) : strip (.sl xs (.own id sz)) = some (.sl xs .none) := rfl
theorem st_ref (a b c d : Nat) : strip (.ref a b c d) = none := rfl
theorem st_agg (cs : List AVal) : strip (.agg cs) = (stripL cs).map .agg := by simp only [strip]
theorem map_some' (cs : List AVal) : (some cs).map AVal.agg = some (.agg cs) := rfl
theorem pu_int (h : Heap) (k : IntKind) (n : Int) : purify h (.int k n) = some (.int k n) := rfl
theorem pu_bool (h : Heap) (b : Bool) : purify h (.bool b) = some (.bool b) := rfl
theorem pu_str (h : Heap) (s : List UInt8) : purify h (.str s) = some (.str s) := rfl
theorem pu_none (h : Heap) (xs : List AVal) : purify h (.sl xs .none) = some (.sl xs .none) := rfl
theorem pu_nil (h : Heap) (xs : List AVal) : purify h (.sl xs .nil) = some (.sl xs .nil) := rfl
theorem pu_own (h : Heap) (xs : List AVal) (id sz : Nat) : purify h (.sl xs (.own id sz)) = some (.sl xs .none) := rfl
end Go.Abs

namespace Go.Abs
variable {F : Nat → Option AEnt} {ev : Opd → AVal} {h : Heap} {K : AVal → Heap → Prop}
def Dum : Prop := True
theorem Dum_eq : Dum ↔ True := ⟨fun _ => trivial, fun _ => trivial⟩
@[congr] theorem bindK_congrD {d : Prop} {o o' : Option AVal} (e0 : Dum = d) (e : o = o') : bindK o K h = bindK o' K h := by rw [e]
@[congr] theorem bindH_congrD {d : Prop} {o o' : Option (AVal × Heap)} (e0 : Dum = d) (e : o = o') : bindH o K = bindH o' K := by rw [e]
def nth {α : Type} [Inhabited α] (l : List α) (i : Nat) : α := l.getD i default
theorem nth_eq {α : Type} [Inhabited α] {l : List α} {i : Nat} (h : i < l.length) : nth l i = l[i] := by simp [nth, List.getD_eq_getElem?_getD, List.getElem?_eq_getElem h]
theorem nth_mem {α : Type} [Inhabited α] {l : List α} {i : Nat} (h : i < l.length) : nth l i ∈ l := by rw [nth_eq h]; exact List.getElem_mem h
def ifP (p : Prop) (A B : Prop) : Prop := (p → A) ∧ (¬ p → B)
@[congr] theorem ifP_congr {p q A B : Prop} {d : Prop} (e0 : Dum = d) (e : p = q) : ifP p A B = ifP q A B := by rw [e]
theorem ifP_true (A B : Prop) : ifP True A B = A := by simp [ifP]
theorem ifP_false (A B : Prop) : ifP False A B = B := by simp [ifP]
theorem ifP_not (p A B : Prop) : ifP (¬ p) A B = ifP p B A := by
  apply propext
  constructor
  · rintro ⟨a, b⟩; exact ⟨fun hp => b (fun h => h hp), fun hp => a hp⟩
  · rintro ⟨a, b⟩
    refine ⟨fun hp => b hp, fun hp => ?_⟩
    exact a (Classical.byContradiction hp)
theorem ifP_pos {p A B : Prop} (hp : p) (a : A) : ifP p A B := ⟨fun _ => a, fun h => absurd hp h⟩
theorem ifP_neg {p A B : Prop} (hp : ¬ p) (b : B) : ifP p A B := ⟨fun h => absurd h hp, fun _ => b⟩
def condP (v : AVal) (A B : Prop) : Prop := ∃ t, v = .bool t ∧ ifP (t = true) A B
@[congr] theorem condP_congr {v w : AVal} {A B : Prop} {d : Prop} (e0 : Dum = d) (e : v = w) : condP v A B = condP w A B := by rw [e]
theorem condP_bool (b : Bool) (A B : Prop) : condP (.bool b) A B = ifP (b = true) A B := by
  apply propext
  constructor
  · rintro ⟨t, e, q⟩; cases e; exact q
  · intro q; exact ⟨b, rfl, q⟩
theorem WP_condP {x : Opd} {a b : ACode} {vs : List AVal} {Q : AExit → List AVal → Heap → Prop} : WP F (.cond x a b) vs h Q ↔ condP (evOpd vs [] x) (WP F a vs h Q) (WP F b vs h Q) := by
  rw [WP_cond]
  constructor
  · rintro ⟨t, e, q⟩
    refine ⟨t, e, fun ht => ?_, fun ht => ?_⟩
    · subst ht; exact q
    · have : t = false := by simpa using ht
      subst this; exact q
  · rintro ⟨t, e, q1, q2⟩
    refine ⟨t, e, ?_⟩
    cases t with
    | true => exact q1 rfl
    | false => exact q2 (by simp)
def guardP (v : AVal) (b : Bool) (A B : Prop) : Prop := ∃ t, wantV v b = some t ∧ ifP (t = true) A B
@[congr] theorem guardP_congr {v w : AVal} {b : Bool} {A B : Prop} {d : Prop} (e0 : Dum = d) (e : v = w) : guardP v b A B = guardP w b A B := by rw [e]
theorem guardP_t (c : Bool) (A B : Prop) : guardP (.bool c) true A B = ifP (c = true) A B := by
  apply propext
  constructor
  · rintro ⟨t, e, q⟩; simp only [wantV, Option.some.injEq] at e; subst e; simpa using q
  · intro q; exact ⟨c == true, rfl, by simpa using q⟩
theorem guardP_f (c : Bool) (A B : Prop) : guardP (.bool c) false A B = ifP (c = true) B A := by
  apply propext
  constructor
  · rintro ⟨t, e, q⟩
    simp only [wantV, Option.some.injEq] at e; subst e
    cases c <;> simpa [ifP] using q
  · intro q
    refine ⟨c == false, rfl, ?_⟩
    cases c <;> simpa [ifP] using q
theorem guardP_tup (b : Bool) (A B : Prop) : guardP (.tup []) b A B = B := by
  apply propext
  constructor
  · rintro ⟨t, e, q⟩; simp only [wantV, Option.some.injEq] at e; subst e; simpa [ifP] using q
  · intro q; exact ⟨false, rfl, by simpa [ifP] using q⟩
theorem RW_guardP {d : ADst} {op : AOp} {x : Opd} {b : Bool} {l : List AOper} {vs ts : List AVal} {K : List AVal → Heap → Prop} :
    RW F (⟨d, op, some (x, b)⟩ :: l) vs ts h K ↔ guardP (evOpd vs ts x) b (RW F (⟨d, op, none⟩ :: l) vs ts h K) (RW F (⟨d, .mov (.c (.tup [])), none⟩ :: l) vs ts h K) := by
  rw [RW_guard, want_V]
  constructor
  · rintro ⟨t, e, q⟩
    refine ⟨t, e, fun ht => ?_, fun ht => ?_⟩
    · subst ht; exact q
    · have : t = false := by simpa using ht
      subst this; exact q
  · rintro ⟨t, e, q1, q2⟩
    refine ⟨t, e, ?_⟩
    cases t with
    | true => exact q1 rfl
    | false => exact q2 (by simp)
theorem XW_pickP {c a b : Opd} : XW F (.pick c a b) ev h K ↔ condP (ev c) (K (ev a) h) (K (ev b) h) := by
  rw [XW_pick]
  constructor
  · rintro ⟨t, e, q⟩
    refine ⟨t, e, fun ht => ?_, fun ht => ?_⟩
    · subst ht; exact q
    · have : t = false := by simpa using ht
      subst this; exact q
  · rintro ⟨t, e, q1, q2⟩
    refine ⟨t, e, ?_⟩
    cases t with
    | true => exact q1 rfl
    | false => exact q2 (by simp)
theorem push_next (h : Heap) (o : Obj) : (h.push o).next = h.next + 1 := _root_.id rfl
theorem put_next (h : Heap) (i : Nat) (o : Option Obj) : (h.put i o).next = h.next := by unfold Heap.put; split <;> rfl
theorem empty_next : Heap.empty.next = 0 := _root_.id rfl
theorem get_push_ne {h : Heap} {o : Obj} {j : Nat} (hj : j ≠ h.next) : (h.push o).get j = h.get j := by
  unfold Heap.get Heap.push
  by_cases hlt : j < h.next
  · have e1 : h.next + 1 - 1 - j = (h.next - 1 - j) + 1 := by omega
    simp only [e1, List.getElem?_cons_succ]
    rw [if_pos (by omega), if_pos hlt]
  · rw [if_neg (by simp; omega), if_neg hlt]
theorem get_put_old {h : Heap} {j : Nat} {o1 : Obj} {o : Option Obj} (hj : h.get j = some o1) : (h.put j o).get j = o := by
  unfold Heap.get at hj
  split at hj
  · rename_i hlt
    have : (h.l[h.next - 1 - j]?).isSome := by
      cases hx : h.l[h.next - 1 - j]? with
      | none => rw [hx] at hj; simp at hj
      | some _ => rfl
    have hl : h.next - 1 - j < h.l.length := by simpa using this
    unfold Heap.get Heap.put
    rw [if_pos hlt]
    simp only [hlt, if_true]
    rw [List.getElem?_set_self hl]; rfl
  · simp at hj
theorem get_put_ne {h : Heap} {i j : Nat} {o : Option Obj} (hj : j ≠ i) : (h.put i o).get j = h.get j := by
  unfold Heap.put
  by_cases hi : i < h.next
  · rw [if_pos hi]
    unfold Heap.get
    show (if j < h.next then ((h.l.set (h.next - 1 - i) o)[h.next - 1 - j]?).join else none) = _
    by_cases hlt : j < h.next
    · rw [if_pos hlt, if_pos hlt, List.getElem?_set_ne (by omega)]
    · rw [if_neg hlt, if_neg hlt]
  · rw [if_neg hi]
theorem put_push_ne {h : Heap} {o : Obj} {j : Nat} (o' : Option Obj) (hj : j < h.next) : (h.push o).put j o' = (h.put j o').push o := put_push_old o' hj
def loadG (n : Nat) (ag : Bool) (off : Nat) : Option Obj → Option AVal
  | some (.row _ _ _ cs) => if off + n ≤ cs.length then mk ag ((cs.drop off).take n) else none
  | _ => none
theorem load_ptr (n : Nat) (ag : Bool) (id off : Nat) (h : Heap) : loadA n ag (.ptr id off) h = loadG n ag off (h.get id) := by
  simp only [loadA, loadG]
  cases h.get id with
  | none => rfl
  | some o => cases o <;> rfl
theorem loadG_row (n : Nat) (ag : Bool) (off : Nat) (mu : Bool) (s : Nat) (a : Bool) (cs : List AVal) : loadG n ag off (some (.row mu s a cs)) = if off + n ≤ cs.length then mk ag ((cs.drop off).take n) else none := rfl
def storeG (n id off : Nat) (x : AVal) (h : Heap) : Option Obj → Option Heap
  | some (.row true s ag cs) => if x.cells.length = n ∧ off + n ≤ cs.length ∧ x.cells.all AVal.one then some (h.put id (some (.row true s ag (setCells cs off x.cells)))) else none
  | _ => none
theorem store_ptr (n id off : Nat) (x : AVal) (h : Heap) : storeA n (.ptr id off) x h = storeG n id off x h (h.get id) := by
  simp only [storeA, storeG]
  cases h.get id with
  | none => rfl
  | some o => cases o with
    | row mu _ _ _ => cases mu <;> rfl
    | tok _ => rfl
    | map _ _ _ => rfl
    | lrec _ _ _ _ _ => rfl
theorem storeG_row (n id off : Nat) (x : AVal) (h : Heap) (s : Nat) (a : Bool) (cs : List AVal) : storeG n id off x h (some (.row true s a cs)) = if x.cells.length = n ∧ off + n ≤ cs.length ∧ x.cells.all AVal.one then some (h.put id (some (.row true s a (setCells cs off x.cells)))) else none := rfl
def Fr (S : Nat → Prop) (h h' : Heap) : Prop := h.next ≤ h'.next ∧ ∀ j, j < h.next → ¬ S j → h'.get j = h.get j
theorem Fr.refl (S : Nat → Prop) (h : Heap) : Fr S h h := ⟨Nat.le_refl _, fun _ _ _ => rfl⟩
theorem Fr.trans {S : Nat → Prop} {h h1 h2 : Heap} (a : Fr S h h1) (b : Fr S h1 h2) : Fr S h h2 := ⟨Nat.le_trans a.1 b.1, fun j hj hs => (b.2 j (Nat.lt_of_lt_of_le hj a.1) hs).trans (a.2 j hj hs)⟩
theorem Fr.push {S : Nat → Prop} {h h1 : Heap} (a : Fr S h h1) (o : Obj) : Fr S h (h1.push o) := ⟨Nat.le_trans a.1 (Nat.le_succ _), fun j hj hs => by
  have := a.1
  rw [get_push_ne (by omega)]; exact a.2 j hj hs⟩
theorem Fr.put {S : Nat → Prop} {h h1 : Heap} (a : Fr S h h1) {i : Nat} (hi : S i ∨ h.next ≤ i) (o : Option Obj) : Fr S h (h1.put i o) := ⟨by rw [put_next]; exact a.1, fun j hj hs => by
  rw [get_put_ne]
  · exact a.2 j hj hs
  · rintro rfl
    rcases hi with h' | h'
    · exact hs h'
    · omega⟩
theorem Fr.mono {S T : Nat → Prop} {h h1 : Heap} (a : Fr S h h1) (hi : ∀ j, j < h.next → S j → T j) : Fr T h h1 := ⟨a.1, fun j hj hs => a.2 j hj (fun h' => hs (hi j hj h'))⟩
theorem Fr.get {S : Nat → Prop} {h h1 : Heap} (a : Fr S h h1) {j : Nat} {o : Obj} (hg : h.get j = some o) (hs : ¬ S j) : h1.get j = some o := by rw [a.2 j (get_lt hg) hs]; exact hg
def CV (F : Nat → Option AEnt) (g : Nat) (asx : List AVal) (h : Heap) (K : AVal → Heap → Prop) : Prop := ∃ r h', Gives F g asx h r h' ∧ K r h'
theorem CV_wp {g : Nat} {fn : AFunc} (hf : F g = some (.comp fn)) {args : List AVal} {h : Heap} {K : AVal → Heap → Prop}
    (w : WP F fn.body (fn.slots.map fun s => (args[s]?).getD (.tup [])) h (fun e vs h1 => (e = .normal ∨ e = .ret) ∧ resK fn.results vs h1 K)) : CV F g args h K := gives_wp hf w
theorem CV_mono {g : Nat} {asx : List AVal} {h : Heap} {K K' : AVal → Heap → Prop} (c : CV F g asx h K) (hi : ∀ r h', K r h' → K' r h') : CV F g asx h K' := by
  obtain ⟨r, h', c, k⟩ := c
  exact ⟨r, h', c, hi _ _ k⟩
def callK (F : Nat → Option AEnt) (f : AVal) (asx : List AVal) (h : Heap) (K : AVal → Heap → Prop) : Prop := (∃ g cap, f = .fn g cap ∧ CV F g (asx ++ cap) h K) ∨ ∃ id, f = .yld id ∧ YV F id asx h K
@[congr] theorem callK_congr {f f' : AVal} {asx as' : List AVal} {K : AVal → Heap → Prop} {d : Prop} (e0 : Dum = d) (e : f = f') (e2 : asx = as') : callK F f asx h K = callK F f' as' h K := by rw [e, e2]
@[congr] theorem CV_congr {g : Nat} {asx as' : List AVal} {K : AVal → Heap → Prop} {d : Prop} (e0 : Dum = d) (e2 : asx = as') : CV F g asx h K = CV F g as' h K := by rw [e2]
theorem callK_fn (g : Nat) (cap asx : List AVal) : callK F (.fn g cap) asx h K = CV F g (asx ++ cap) h K := by
  apply propext
  constructor
  · rintro (⟨g', c', e, q⟩ | ⟨_, e, _⟩)
    · cases e; exact q
    · simp at e
  · intro q; exact .inl ⟨g, cap, rfl, q⟩
theorem XW_callK {f : Opd} {args : List Opd} : XW F (.call f args) ev h K ↔ callK F (ev f) (args.map ev) h K := by
  rw [XW_call]
  constructor
  · rintro (⟨g, cap, hf, r, h', e, q⟩ | q)
    · exact .inl ⟨g, cap, hf, r, h', of_GV e, q⟩
    · exact .inr q
  · rintro (⟨g, cap, hf, r, h', e, q⟩ | q)
    · exact .inl ⟨g, cap, hf, r, h', GV_of e, q⟩
    · exact .inr q
theorem callK_yld (id : Nat) (asx : List AVal) (h : Heap) (K : AVal → Heap → Prop) : callK F (.yld id) asx h K = YV F id asx h K := by
  unfold callK
  refine propext ⟨?_, fun q => .inr ⟨id, rfl, q⟩⟩
  rintro (⟨g, cap, e, _⟩ | ⟨i, e, q⟩)
  · simp at e
  · cases e; exact q
def GK (h : Heap) (K : AVal → Heap → Prop) (r : AVal) (h' : Heap) : Prop := extB h h' = true ∧ K r h'
theorem GK_same (h : Heap) (K : AVal → Heap → Prop) (r : AVal) : GK h K r h = K r h := by
  unfold GK; simp [extB_refl]
theorem XW_gcall {g : Nat} {args : List Opd} : XW F (.gcall g args) ev h K ↔ CV F g (args.map ev) h (GK h K) := by
  constructor
  · intro w
    unfold XW at w
    obtain ⟨n, r, h', hx, hq⟩ := w
    simp only [execA] at hx
    split at hx
    · rename_i r1 h1 hc
      split at hx
      · rename_i he
        simp only [Option.some.injEq, Prod.mk.injEq] at hx
        obtain ⟨rfl, rfl⟩ := hx
        exact ⟨r1, h1, cf_gives hc, he, hq⟩
      · simp at hx
    · simp at hx
  · rintro ⟨r, h', c, he, hq⟩
    exact x_gcall r h' c he hq
theorem Gives_CV {g : Nat} {asx : List AVal} {r : AVal} {h' : Heap} (c : Gives F g asx h r h') (k : K r h') : CV F g asx h K := ⟨r, h', c, k⟩
theorem XW_build {z : List AVal} {ps : List (Nat × Nat × Opd)} : XW F (.build z ps) ev h K ↔ bindK ((fillA z (ps.map fun p => (p.1, p.2.1, ev p.2.2))).map .agg) K h := by
  refine XW_val (fun _ => rfl) ?_
  simp only [evalA, Option.map_map]; rfl
theorem fillA_nil (z : List AVal) : fillA z [] = some z := rfl
theorem fillA_cons (z : List AVal) (off n : Nat) (v : AVal) (l : List (Nat × Nat × AVal)) : fillA z ((off, n, v) :: l) = if v.cells.length = n ∧ off + n ≤ z.length ∧ v.cells.all AVal.one then fillA (setCells z off v.cells) l else none := rfl
theorem XW_field {off n : Nat} {ag : Bool} {x : Opd} : XW F (.field off n ag x) ev h K ↔ bindK (match ev x with | .agg cs => if off + n ≤ cs.length then mk ag ((cs.drop off).take n) else none | _ => none) K h := by
  refine XW_val (fun _ => rfl) ?_
  simp only [evalA]
  cases ev x <;> first | rfl | skip
  rename_i cs; by_cases h1 : off + n ≤ cs.length <;> simp [h1]
theorem XW_clo {f : Nat} {cap : List Opd} : XW F (.clo f cap) ev h K ↔ bindK (some (.fn f (cap.map ev))) K h := XW_val (fun _ => rfl) rfl
def toIntA (k : IntKind) : AVal → Option AVal
  | .int _ n => some (.int k (k.wrap n))
  | _ => none
theorem toInt_int (k k' : IntKind) (n : Int) : toIntA k (.int k' n) = some (.int k (k.wrap n)) := _root_.id rfl
theorem XW_toInt {k : IntKind} {x : Opd} : XW F (.toInt k x) ev h K ↔ bindK (toIntA k (ev x)) K h := by
  refine XW_val (fun _ => rfl) ?_
  simp only [evalA]; cases ev x <;> rfl
theorem XW_idstr {x : Opd} : XW F (.idstr x) ev h K ↔ bindK (match ev x with | .str s => some (.str s) | _ => none) K h := by
  refine XW_val (fun _ => rfl) ?_
  simp only [evalA]; cases ev x <;> rfl
theorem XW_slice {sz : Nat} {x : Opd} {lo hi : Option Opd} : XW F (.slice sz x lo hi) ev h K ↔ bindK (sliceA sz (ev x) (lo.map ev) (hi.map ev)) K h := XW_val (fun _ => rfl) rfl
theorem XW_sslice {x : Opd} {lo hi : Option Opd} : XW F (.sslice x lo hi) ev h K ↔ bindK (ssliceA (ev x) (lo.map ev) (hi.map ev)) K h := XW_val (fun _ => rfl) rfl
def sidxA (x i : AVal) : Option AVal := match x, i with
  | .str s, .int _ n => if 0 ≤ n then (s[n.toNat]?).map (fun b => .int .u8 b.toNat) else none
  | _, _ => none
theorem XW_sidx {x i : Opd} : XW F (.sidx x i) ev h K ↔ bindK (sidxA (ev x) (ev i)) K h := by
  refine XW_val (fun _ => rfl) ?_
  simp only [evalA, sidxA]
  cases ev x <;> cases ev i <;> first | rfl | skip
  rename_i s k n
  by_cases h0 : 0 ≤ n
  · simp only [h0, if_true]
    cases s[n.toNat]? <;> rfl
  · simp only [h0, if_false]; rfl
theorem sidx_str (s : List UInt8) (k : IntKind) (n : Int) (h0 : 0 ≤ n) (h1 : n < s.length) : sidxA (.str s) (.int k n) = some (.int .u8 (nth s n.toNat).toNat) := by
  have : n.toNat < s.length := by omega
  simp [sidxA, h0, nth, List.getD_eq_getElem?_getD, List.getElem?_eq_getElem this]
theorem boundA_none (d y : Nat) : boundA none d y = some d := rfl
theorem boundA_int (k : IntKind) (i : Int) (d y : Nat) (h0 : 0 ≤ i) (h1 : i ≤ y) : boundA (some (.int k i)) d y = some i.toNat := by simp [boundA, h0, h1]
theorem sslice_str (s : List UInt8) (lo hi : Option AVal) {a b : Nat} (hb : boundA hi s.length s.length = some b) (ha : boundA lo 0 b = some a) : ssliceA (.str s) lo hi = some (.str ((s.drop a).take (b - a))) := by simp only [ssliceA, hb, ha]
theorem XW_appendK {arr : Bool} {ty bytes sz : Nat} {ag : Bool} {x y : Opd} : XW F (.append arr ty bytes sz ag x y) ev h K ↔ bindH (appendA arr ty bytes sz ag (ev x) (ev y) h) K := by
  rw [XW_eval (fun _ => rfl)]; rfl
theorem XW_copyK {sz : Nat} {x y : Opd} : XW F (.copy sz x y) ev h K ↔ bindH (copyA sz (ev x) (ev y) h) K := by
  rw [XW_eval (fun _ => rfl)]; rfl
def mkslA (bytes sz : Nat) (ag : Bool) (z : List AVal) (l c : AVal) (h : Heap) : Option (AVal × Heap) := match l, c with
  | .int _ a, .int _ b => if 0 ≤ a ∧ a ≤ b ∧ b < 9223372036854775808 ∧ bytes * b ≤ 281474976710656 ∧ z.length = sz ∧ z.all AVal.one ∧ small sz then some (.ref h.next 0 a.toNat sz, h.push (.row true sz ag (repl a.toNat z))) else none
  | _, _ => none
theorem XW_mksl {bytes sz : Nat} {ag : Bool} {z : List AVal} {l c : Opd} : XW F (.mksl bytes sz ag z l c) ev h K ↔ bindH (mkslA bytes sz ag z (ev l) (ev c) h) K := by
  rw [XW_eval (fun _ => rfl)]
  have : evalA (.mksl bytes sz ag z l c) ev h = mkslA bytes sz ag z (ev l) (ev c) h := by
    simp only [evalA, mkslA]
    cases ev l <;> cases ev c <;> rfl
  rw [this]; rfl
theorem mksl_int (bytes sz : Nat) (ag : Bool) (z : List AVal) (k k' : IntKind) (a : Int) (h : Heap) (h0 : 0 ≤ a) (h1 : a < 1000000000) (hb : bytes ≤ 100000) (hz : z.length = sz) (ho : z.all AVal.one = true) (hs : small sz = true) : mkslA bytes sz ag z (.int k a) (.int k' a) h = some (.ref h.next 0 a.toNat sz, h.push (.row true sz ag (repl a.toNat z))) := by
  have : (bytes : Int) * a ≤ 281474976710656 := by
    have h2 : (bytes : Int) * a ≤ 100000 * 1000000000 := Int.mul_le_mul (by omega) (by omega) h0 (by omega)
    omega
  have h3 : a < 9223372036854775808 := by omega
  simp [mkslA, h0, h3, this, hz, ho, hs]
def litA (mode ty n sz : Nat) (ag : Bool) (z : List AVal) (fl : Option (List AVal)) (h : Heap) : Option (AVal × Heap) := match fl with
    | some cs =>
      if !(decide (z.length = sz) && z.all AVal.one && decide (n * sz ≤ 16777216) && small sz) then none else
      if mode = 2 then some (.ref h.next 0 n sz, h.push (.row true sz ag cs))
      else if mode = 3 then (match purifyL h cs, freeze h (refIdsL cs) with
        | some cs, some h => match chunk sz ag n cs with
          | none => none
          | some xs => some (.sl xs .none, h)
        | _, _ => none)
      else match stripL cs with
        | none => none
        | some cs => match chunk sz ag n cs with
          | none => none
          | some xs => if mode = 1 then some (.sl xs (.own h.next sz), h.push (.tok ty)) else some (.sl xs .none, h)
    | none => none
theorem XW_lit {mode ty n sz : Nat} {ag : Bool} {z : List AVal} {ps : List (Nat × Opd)} : XW F (.lit mode ty n sz ag z ps) ev h K ↔ bindH (litA mode ty n sz ag z (fillA (repl n z) (ps.map fun p => (p.1 * sz, sz, ev p.2))) h) K := by
  rw [XW_eval (fun _ => rfl)]; rfl
theorem lit_none {mode ty n sz : Nat} {ag : Bool} {z : List AVal} {cs cs' xs : List AVal} {h : Heap} (hs : stripL cs = some cs') (hc : chunk sz ag n cs' = some xs) (hm : mode = 0) (hk : (decide (z.length = sz) && z.all AVal.one && decide (n * sz ≤ 16777216) && small sz) = true) :
    litA mode ty n sz ag z (some cs) h = some (.sl xs .none, h) := by
  subst hm
  simp only [litA, hk, hs, hc]; rfl
theorem lit_own {mode ty n sz : Nat} {ag : Bool} {z : List AVal} {cs cs' xs : List AVal} {h : Heap} (hs : stripL cs = some cs') (hc : chunk sz ag n cs' = some xs) (hm : mode = 1) (hk : (decide (z.length = sz) && z.all AVal.one && decide (n * sz ≤ 16777216) && small sz) = true) :
    litA mode ty n sz ag z (some cs) h = some (.sl xs (.own h.next sz), h.push (.tok ty)) := by
  subst hm
  simp only [litA, hk, hs, hc]; rfl
theorem XW_x {op : XOp} {args : List Opd} : XW F (.x op args) ev h K ↔ bindH (evalX op (args.map ev) h) K := by
  rw [XW_eval (fun _ => rfl)]; rfl
theorem X_mkmap (kd : KD) (h : Heap) : evalX (.mkmap kd) [] h = some (.mp h.next, h.push (.map kd 0 [])) := _root_.id rfl
def lookM (kd : KD) (z : AVal) (ok : Bool) (k : AVal) (h : Heap) : Option Obj → Option (AVal × Heap)
  | some (.map kd' _ es) => if kd' = kd then (match findE kd k es 0 with
        | some (_, v) => some (if ok then .tup [v, .bool true] else v, h)
        | none => some (if ok then .tup [z, .bool false] else z, h)) else none
  | _ => none
theorem X_mlook (kd : KD) (z : AVal) (ok : Bool) (id : Nat) (k : AVal) (h : Heap) (hk : isKey kd k = true) : evalX (.mlook kd z ok) [.mp id, k] h = lookM kd z ok k h (h.get id) := by
  simp only [evalX, hk, if_true, lookM]
  cases h.get id with
  | none => rfl
  | some o => cases o <;> rfl
theorem lookM_some {kd : KD} {k v : AVal} {i : Nat} {es : List (Nat × AVal × AVal)} (e : findE kd k es 0 = some (i, v)) (z : AVal) (ok : Bool) (h : Heap) (c : Nat) : lookM kd z ok k h (some (.map kd c es)) = some (if ok then .tup [v, .bool true] else v, h) := by
  simp [lookM, e]
theorem lookM_none {kd : KD} {k : AVal} {es : List (Nat × AVal × AVal)} (e : findE kd k es 0 = none) (z : AVal) (ok : Bool) (h : Heap) (c : Nat) : lookM kd z ok k h (some (.map kd c es)) = some (if ok then .tup [z, .bool false] else z, h) := by
  simp [lookM, e]
def putM (kd : KD) (id : Nat) (k v : AVal) (h : Heap) : Option Obj → Option (AVal × Heap)
  | some (.map kd' clock es) => if kd' = kd ∧ plain v = true then some (.tup [], h.put id (some (.map kd (mput kd k v clock es).1 (mput kd k v clock es).2))) else none
  | _ => none
theorem X_mput (kd : KD) (id : Nat) (k v : AVal) (h : Heap) (hk : isKey kd k = true) : evalX (.mput kd) [.mp id, k, v] h = putM kd id k v h (h.get id) := by
  simp only [evalX, hk, if_true, putM]
  cases h.get id with
  | none => rfl
  | some o => cases o <;> rfl
theorem putM_map {v : AVal} (hp : plain v = true) (kd : KD) (id : Nat) (k : AVal) (h : Heap) (c : Nat) (es : List (Nat × AVal × AVal)) : putM kd id k v h (some (.map kd c es)) = some (.tup [], h.put id (some (.map kd (mput kd k v c es).1 (mput kd k v c es).2))) := by
  simp [putM, hp]
def mdelE (kd : KD) (k : AVal) (es : List (Nat × AVal × AVal)) : List (Nat × AVal × AVal) := match findE kd k es 0 with
  | some (i, _) => es.eraseIdx i
  | none => es
def delM (kd : KD) (id : Nat) (k : AVal) (h : Heap) : Option Obj → Option (AVal × Heap)
  | some (.map kd' clock es) => if kd' = kd then some (.tup [], h.put id (some (.map kd clock (mdelE kd k es)))) else none
  | _ => none
theorem X_mdel (kd : KD) (id : Nat) (k : AVal) (h : Heap) (hk : isKey kd k = true) : evalX (.mdel kd) [.mp id, k] h = delM kd id k h (h.get id) := by
  simp only [evalX, hk, if_true, delM, mdelE]
  cases h.get id with
  | none => rfl
  | some o => cases o <;> first | rfl | skip
              rename_i kd' c es
              by_cases hkd : kd' = kd
              · simp only [hkd, if_true]; cases findE kd k es 0 <;> rfl
              · simp [hkd]
theorem delM_map {kd : KD} {id : Nat} {k : AVal} {h : Heap} {c : Nat} {es : List (Nat × AVal × AVal)} : delM kd id k h (some (.map kd c es)) = some (.tup [], h.put id (some (.map kd c (mdelE kd k es)))) := by
  simp [delM]
theorem isKey_int (k : IntKind) (n : Int) : isKey (.int k) (.int k n) = true := by simp [isKey]
theorem isKey_str (s : List UInt8) : isKey .str (.str s) = true := rfl
def byteV (b : UInt8) : AVal := .int .u8 b.toNat
theorem X_s2b_f (s : List UInt8) (h : Heap) (hl : s.length ≤ 1000000) : evalX (.s2b false) [.str s] h = some (.sl (s.map byteV) .none, h) := by
  simp only [evalX, hl, if_true]; rfl
theorem X_s2b_t (s : List UInt8) (h : Heap) (hl : s.length ≤ 1000000) : evalX (.s2b true) [.str s] h = some (.ref h.next 0 s.length 1, h.push (.row true 1 false (s.map byteV))) := by
  simp only [evalX, hl, if_true]; rfl
theorem u8cell_byte (b : UInt8) : u8cell (byteV b) = true := by
  have := b.toNat_lt
  simp [u8cell, byteV]; omega
theorem u8all_byte (s : List UInt8) : (s.map byteV).all u8cell = true := by
  simp only [List.all_map, List.all_eq_true, Function.comp_apply]
  exact fun b _ => u8cell_byte b
theorem bytesL_byte : ∀ (s : List UInt8), bytesL (s.map byteV) = some s
  | [] => rfl
  | b :: s => by simp [bytesL, byteV, bytesL_byte s]
theorem flat_byte (s : List UInt8) : flat (s.map byteV) = s.map byteV := by
  induction s with
  | nil => rfl
  | cons b s ih => simp only [flat, List.map_cons, List.flatMap_cons] at ih ⊢; rw [ih]; rfl
theorem X_b2s_sl (s : List UInt8) (t : Tok) (h : Heap) : evalX .b2s [.sl (s.map byteV) t] h = some (.str s, h) := by
  have he : elemsA h 1 (.sl (s.map byteV) t) = some (s.map byteV) := by
    simp only [elemsA]
    rw [if_pos, flat_byte]
    intro y hy
    cases s with
    | nil => simp at hy
    | cons b s => simp at hy; subst hy; rfl
  simp only [evalX, bytesA, he, u8all_byte, if_true, bytesL_byte, Option.map_some]
def b2sM (off len : Nat) (h : Heap) : Option Obj → Option (AVal × Heap)
  | some (.row _ _ _ cs) => if off + len ≤ cs.length ∧ ((cs.drop off).take len).all u8cell = true then (bytesL ((cs.drop off).take len)).map fun s => (.str s, h) else none
  | _ => none
theorem X_b2s_ref (id off len : Nat) (h : Heap) : evalX .b2s [.ref id off len 1] h = b2sM off len h (h.get id) := by
  simp only [evalX, bytesA, elemsA, if_true, b2sM]
  cases h.get id with
  | none => rfl
  | some o =>
    cases o <;> first | rfl | skip
    rename_i mu sz ag cs
    simp only [Nat.mul_one]
    by_cases h1 : off + len ≤ cs.length
    · simp only [h1, if_true, true_and]
    · simp only [h1, if_false, false_and]
def asM (id off n sz : Nat) (h : Heap) : Option Obj → Option (AVal × Heap)
  | some (.row _ _ _ cs) => if off + n * sz ≤ cs.length ∧ 0 < sz then some (.ref id off n sz, h) else none
  | _ => none
theorem X_as_ff (n sz : Nat) (ag : Bool) (id off : Nat) (h : Heap) : evalX (.aslice n sz ag false false) [.ptr id off] h = asM id off n sz h (h.get id) := by
  simp only [evalX, boundA, asM]
  cases h.get id with
  | none => rfl
  | some o => cases o <;> simp
theorem asM_row {id off n sz : Nat} {h : Heap} {mu : Bool} {s : Nat} {ag : Bool} {cs : List AVal} (hl : off + n * sz ≤ cs.length) (hp : 0 < sz) : asM id off n sz h (some (.row mu s ag cs)) = some (.ref id off n sz, h) := by
  simp [asM, hl, hp]
def asM2 (id off n sz : Nat) (b : Int) (h : Heap) : Option Obj → Option (AVal × Heap)
  | some (.row _ _ _ cs) => if off + n * sz ≤ cs.length ∧ 0 < sz ∧ 0 ≤ b ∧ b ≤ n then some (.ref id off b.toNat sz, h) else none
  | _ => none
theorem X_as_ft (n sz : Nat) (ag : Bool) (id off : Nat) (k : IntKind) (b : Int) (h : Heap) (h0 : 0 ≤ b) (h1 : b ≤ n) : evalX (.aslice n sz ag false true) [.ptr id off, .int k b] h = asM2 id off n sz b h (h.get id) := by
  simp only [evalX, boundA, asM2, if_true, List.head?_cons, h0, h1, and_self, Bool.false_eq_true, if_false]
  cases h.get id with
  | none => rfl
  | some o => cases o <;> simp
theorem asM2_row {id off n sz : Nat} {b : Int} {h : Heap} {mu : Bool} {s : Nat} {ag : Bool} {cs : List AVal} (hl : off + n * sz ≤ cs.length) (hp : 0 < sz) (h0 : 0 ≤ b) (h1 : b ≤ n) : asM2 id off n sz b h (some (.row mu s ag cs)) = some (.ref id off b.toNat sz, h) := by
  simp [asM2, hl, hp, h0, h1]
theorem X_s2ap_sl (n sz : Nat) (s : List UInt8) (t : Tok) (h : Heap) (hl : n ≤ s.length) (hn : 0 < n) (hz : sz = 1) : evalX (.s2ap n sz) [.sl (s.map byteV) t] h = some (.rp ((s.take n).map byteV), h) := by
  subst hz
  simp only [evalX]
  rw [if_pos, flat_byte, Nat.mul_one, List.map_take]
  refine ⟨by simpa using hl, hn, fun y hy => ?_⟩
  cases s with
  | nil => simp at hy
  | cons b s => simp at hy; subst hy; rfl
theorem X_slice30_sl (sz : Nat) (xs : List AVal) (t : Tok) (k k' : IntKind) (h : Heap) : evalX (.slice30 sz) [.sl xs t, .int k 0, .int k' 0] h = some (.sl [] (if t = .nil then .nil else .full), h) := rfl
theorem X_slice30_ref (sz a b c d : Nat) (k k' : IntKind) (h : Heap) : evalX (.slice30 sz) [.ref a b c d, .int k 0, .int k' 0] h = some (.sl [] .full, h) := rfl
theorem iaddr_map {α : Type} [Inhabited α] (x i : Opd) {sz : Nat} {l : List α} {f : α → AVal} {t : Tok} {k : IntKind} {n : Int} (h : Heap) (h0 : 0 ≤ n) (h1 : n < l.length) :
    valA (.iaddr sz x i) (.sl (l.map f) t) (.int k n) h = if (f (nth l n.toNat)).cells.length = sz then some (.rp (f (nth l n.toNat)).cells) else none := by
  have hlt : n.toNat < l.length := by omega
  have : (l.map f)[n.toNat]? = some (f (nth l n.toNat)) := by
    simp [nth, List.getD_eq_getElem?_getD, List.getElem?_eq_getElem hlt]
  simp only [valA]
  rw [if_pos ⟨h0, by simp; omega⟩]
  simp only [this]
theorem iaddr_refP (x i : Opd) {sz id off len s : Nat} {k : IntKind} {n : Int} (h : Heap) (h0 : 0 ≤ n) (hy : n < len) (hs : s = sz) : valA (.iaddr sz x i) (.ref id off len s) (.int k n) h = some (.ptr id (off + n.toNat * sz)) := by
  simp only [valA, h0, hy, true_and, hs, if_true]
theorem pu_agg (h : Heap) (cs : List AVal) : purify h (.agg cs) = (purifyL h cs).map .agg := by simp only [purify]
theorem pu_tup (h : Heap) (cs : List AVal) : purify h (.tup cs) = (purifyL h cs).map .tup := by simp only [purify]
theorem puL_nil (h : Heap) : purifyL h [] = some [] := by simp only [purifyL]
theorem puL_cons (h : Heap) (x : AVal) (xs : List AVal) : purifyL h (x :: xs) = sc (purify h x) (purifyL h xs) := by
  rw [purifyL]; unfold sc; cases purify h x <;> cases purifyL h xs <;> rfl
theorem st_tup (cs : List AVal) : strip (.tup cs) = (stripL cs).map .tup := by simp only [strip]
theorem get_push_eq {h : Heap} {o : Obj} {j : Nat} (hj : j = h.next) : (h.push o).get j = some o := by subst hj; exact get_push h o
theorem put_push_eq {h : Heap} {o o' : Obj} {j : Nat} (hj : j = h.next) : (h.push o).put j (some o') = h.push o' := by subst hj; exact put_push h o o'
theorem ifP_notB (b : Bool) (A B : Prop) : ifP ((!b) = true) A B = ifP (b = true) B A := by cases b <;> simp [ifP]
theorem bin_eql_b (a b : Bool) : binA .eql .bool (.bool a) (.bool b) = some (.bool (a == b)) := rfl
theorem bin_neq_b (a b : Bool) : binA .neq .bool (.bool a) (.bool b) = some (.bool (!(a == b))) := rfl
theorem bin_struct_eql (ks : List CK) (xs ys : List AVal) : binA .eql (.struct ks) (.agg xs) (.agg ys) = (cellsEq ks xs ys).map .bool := rfl
theorem bin_struct_neq (ks : List CK) (xs ys : List AVal) : binA .neq (.struct ks) (.agg xs) (.agg ys) = (cellsEq ks xs ys).map (fun b => .bool (!b)) := rfl
theorem bin_add_s (a b : List UInt8) (hl : a.length + b.length ≤ 9223372036854775807) : binA .add .arith (.str a) (.str b) = some (.str (a ++ b)) := by simp [binA, strBin, hl]
def evS (n : Nat) (vs ts : List AVal) : Opd → AVal
  | .v i => (vs[i]?).getD .bad
  | .t k => if k < n then (ts[n - 1 - k]?).getD .bad else .bad
  | .c x => x
def padT (n : Nat) (ts : List AVal) : List AVal := ts.take n ++ List.replicate (n - ts.length) .bad
theorem padT_length (n : Nat) (ts : List AVal) : (padT n ts).length = n := by simp [padT]; omega
theorem padT_cons (n : Nat) (r : AVal) (ts : List AVal) : padT (n + 1) (r :: ts) = r :: padT n ts := by simp [padT]
theorem padT_get (n i : Nat) (ts : List AVal) (hi : i < n) : ((padT n ts)[i]?).getD .bad = (ts[i]?).getD .bad := by
  unfold padT
  by_cases h1 : i < ts.length
  · rw [List.getElem?_append_left (by simp; omega), List.getElem?_take, if_pos hi]
  · rw [List.getElem?_append_right (by simp; omega), List.getElem?_replicate, List.getElem?_eq_none (by omega : ts.length ≤ i)]
    split <;> rfl
theorem evS_eq {n : Nat} {vs ts : List AVal} : evOpd vs (padT n ts).reverse = evS n vs ts := by
  funext x
  cases x with
  | v i => rfl
  | c x => rfl
  | t k =>
    simp only [evOpd, evS]
    have hn := padT_length n ts
    by_cases hk : k < n
    · rw [if_pos hk, List.getElem?_reverse (by omega), hn, padT_get _ _ _ (by omega)]
    · rw [if_neg hk, List.getElem?_eq_none (by simp; omega)]; rfl
def RV (F : Nat → Option AEnt) (l : List AOper) (n : Nat) (vs ts : List AVal) (h : Heap) (K : List AVal → Heap → Prop) : Prop := RW F l vs (padT n ts).reverse h K
@[congr] theorem RV_congr {l : List AOper} {n n' : Nat} {vs vs' ts ts' : List AVal} {h h' : Heap} {K : List AVal → Heap → Prop} {d : Prop} (e0 : Dum = d) (e1 : n = n') (e2 : vs = vs') (e3 : ts = ts') (e4 : h = h') : RV F l n vs ts h K = RV F l n' vs' ts' h' K := by rw [e1, e2, e3, e4]
@[congr] theorem WP_congr {c : ACode} {vs vs' : List AVal} {h h' : Heap} {Q : AExit → List AVal → Heap → Prop} {d : Prop} (e0 : Dum = d) (e2 : vs = vs') (e4 : h = h') : WP F c vs h Q = WP F c vs' h' Q := by rw [e2, e4]
theorem WP_opsV {l : List AOper} {vs : List AVal} {Q : AExit → List AVal → Heap → Prop} : WP F (.ops l) vs h Q ↔ RV F l 0 vs [] h (Q .normal) := by
  rw [WP_ops]
  exact Iff.rfl
theorem RV_nil {n : Nat} {vs ts : List AVal} {K : List AVal → Heap → Prop} : RV F [] n vs ts h K ↔ K vs h := by
  unfold RV
  rw [RW_nil]
theorem RV_exec {n : Nat} {d : ADst} {op : AOp} {l : List AOper} {vs ts : List AVal} {K : List AVal → Heap → Prop} :
    RV F (⟨d, op, none⟩ :: l) n vs ts h K ↔ XW F op (evS n vs ts) h (fun r h' => RV F l (n + 1) (putV d vs r) (putT d r :: ts) h' K) := by
  unfold RV
  rw [RW_exec, evS_eq]
  simp only [padT_cons, List.reverse_cons]
theorem RV_guardP {n : Nat} {d : ADst} {op : AOp} {x : Opd} {b : Bool} {l : List AOper} {vs ts : List AVal} {K : List AVal → Heap → Prop} :
    RV F (⟨d, op, some (x, b)⟩ :: l) n vs ts h K ↔ guardP (evS n vs ts x) b (RV F (⟨d, op, none⟩ :: l) n vs ts h K) (RV F (⟨d, .mov (.c (.tup [])), none⟩ :: l) n vs ts h K) := by
  unfold RV
  rw [RW_guardP, evS_eq]
theorem evS_v (n : Nat) (vs ts : List AVal) (i : Nat) : evS n vs ts (.v i) = (vs[i]?).getD .bad := _root_.id rfl
theorem evS_t (n : Nat) (vs ts : List AVal) (k : Nat) : evS n vs ts (.t k) = if k < n then (ts[n - 1 - k]?).getD .bad else .bad := _root_.id rfl
theorem evS_c (n : Nat) (vs ts : List AVal) (x : AVal) : evS n vs ts (.c x) = x := _root_.id rfl
attribute [irreducible] RV
theorem toNat_pred (a : Int) : (a - 1).toNat = a.toNat - 1 := by omega
theorem toNat_succ (i : Nat) : ((i : Int) + 1).toNat = i + 1 := by omega
end Go.Abs

set_option linter.unusedSectionVars false
namespace Go.Abs
variable {α : Type} [Inhabited α] {f : α → AVal} {sz : Nat}
theorem flat_cons (x : AVal) (xs : List AVal) : flat (x :: xs) = x.cells ++ flat xs := rfl
theorem chunkm (hf : ∀ x, (f x).cells.length = sz) (ag : Bool) (hm : ∀ x, mk ag (f x).cells = some (f x)) : ∀ (l : List α) (rest : List AVal), chunk sz ag l.length (flat (l.map f) ++ rest) = some (l.map f)
  | [], rest => rfl
  | x :: l, rest => by
    have ht : (flat ((x :: l).map f) ++ rest).take sz = (f x).cells := by
      simp only [List.map_cons, flat_cons, List.append_assoc]
      rw [List.take_left' (hf x)]
    have hd : (flat ((x :: l).map f) ++ rest).drop sz = flat (l.map f) ++ rest := by
      simp only [List.map_cons, flat_cons, List.append_assoc]
      rw [List.drop_left' (hf x)]
    simp only [List.length_cons, chunk, ht, hd, hm, chunkm hf ag hm l rest, hf, if_true]
    rfl
theorem stripm {g : α → AVal} (hs : ∀ x, stripL (f x).cells = some (g x).cells) : ∀ (l : List α), stripL (flat (l.map f)) = some (flat (l.map g))
  | [] => rfl
  | x :: l => by
    simp only [List.map_cons, flat_cons]
    exact stripL_append (hs x) (stripm hs l)
def Grow (h : Heap) (ty sz : Nat) (tk : Tok) : Prop := tk = .nil ∨ ∃ id, tk = .own id sz ∧ h.get id = some (.tok ty)
theorem append_own {h : Heap} {ty bytes : Nat} {ag : Bool} {l : List α} {tk : Tok} {y : AVal} {ys : List α} (hf : ∀ x, (f x).cells.length = sz) (hm : ∀ x, mk ag (f x).cells = some (f x)) (hs : ∀ x, stripL (f x).cells = some (f x).cells)
    (hy : lenA y = some ys.length) (hn : elemsA h sz y = some (flat (ys.map f))) (hg : Grow h ty sz tk) (hnil : tk = .nil → l = []) (hlen : l.length + ys.length ≤ 1000000) (hb : bytes ≤ 10000) (h0 : 0 < sz) (h1 : sz < 1000000) (hne : ys ≠ []) :
    ∃ h', appendA false ty bytes sz ag (.sl (l.map f) tk) y h = some (.sl ((l ++ ys).map f) (.own h.next sz), h') ∧ h'.next = h.next + 1 ∧ h'.get h.next = some (.tok ty) ∧ (∀ j, j < h.next → (∀ i s, tk = .own i s → j ≠ i) → h'.get j = h.get j) := by
  have hc := chunkm hf ag hm ys []
  rw [List.append_nil] at hc
  have hst := stripm hs ys
  have hroom := roomOk_of (n := l.length + ys.length) hlen hb
  have hroom2 := roomOk_of (n := 0 + ys.length) (bytes := bytes) (by omega) hb
  have hys : ¬ ys.length = 0 := by simpa using hne
  have hsm : small sz = true := by simp [small, h1]
  rcases hg with rfl | ⟨i, rfl, hg⟩
  · have hl := hnil rfl
    subst hl
    refine ⟨h.push (.tok ty), ?_, rfl, get_push _ _, fun j hj _ => get_push_ne (by omega)⟩
    simp only [appendA, hy, hn, hys, if_false, List.map_nil, List.length_nil, hroom2, h0, hsm, decide_true, Bool.and_self, Bool.not_true, Bool.false_eq_true, hst, hc, if_true, List.nil_append]
  · refine ⟨(h.put i none).push (.tok ty), ?_, by rw [push_next, put_next], get_push_eq (by rw [put_next]), fun j hj hne' => ?_⟩
    · simp only [appendA, hy, hn, hys, if_false, List.length_map, hroom, h0, hsm, decide_true, Bool.and_self, Bool.not_true, Bool.false_eq_true, hst, hc, hg, and_self, if_true, List.map_append]
    · rw [get_push_ne (by rw [put_next]; omega), get_put_ne (hne' i _ rfl)]
theorem elems_sl {h : Heap} {l : List α} {t : Tok} (hf : ∀ x, (f x).cells.length = sz) : elemsA h sz (.sl (l.map f) t) = some (flat (l.map f)) := by
  simp only [elemsA]
  rw [if_pos]
  intro y hy
  cases l with
  | nil => simp at hy
  | cons x l => simp at hy; subst hy; exact hf x
theorem lenA_sl {l : List α} {t : Tok} : lenA (.sl (l.map f) t) = some l.length := by simp [lenA]
theorem append_K {K : AVal → Heap → Prop} {h : Heap} {ty bytes : Nat} {ag : Bool} {tk : Tok} {y : AVal} (l ys : List α) (hf : ∀ x, (f x).cells.length = sz) (hm : ∀ x, mk ag (f x).cells = some (f x)) (hs : ∀ x, stripL (f x).cells = some (f x).cells)
    (hy : lenA y = some ys.length) (hn : elemsA h sz y = some (flat (ys.map f))) (hg : Grow h ty sz tk) (hnil : tk = .nil ↔ l = []) (hlen : l.length + ys.length ≤ 1000000) (hb : bytes ≤ 10000) (h0 : 0 < sz) (h1 : sz < 1000000)
    (q : ∀ h' tk', Grow h' ty sz tk' → (tk' = .nil ↔ l ++ ys = []) → h.next ≤ h'.next → (∀ j mu s a cs, h.get j = some (.row mu s a cs) → h'.get j = some (.row mu s a cs)) → (∀ j, j < h.next → (∀ i s, tk = .own i s → j ≠ i) → h'.get j = h.get j) → (∀ i s, tk' = .own i s → tk = .own i s ∨ i = h.next) → K (.sl ((l ++ ys).map f) tk') h') : bindH (appendA false ty bytes sz ag (.sl (l.map f) tk) y h) K := by
  by_cases hne : ys = []
  · subst hne
    refine ⟨_, h, by simp only [appendA, hy, hn, List.length_nil, if_true]; rfl, ?_⟩
    have := q h tk hg (by simpa using hnil) (Nat.le_refl _) (fun _ _ _ _ _ h => h) (fun _ _ _ => rfl) (fun i s e => .inl e)
    rwa [List.append_nil] at this
  · obtain ⟨h', e, e1, e2, e3⟩ := append_own (bytes := bytes) hf hm hs hy hn hg hnil.1 hlen hb h0 h1 hne
    refine ⟨_, h', e, q h' _ (.inr ⟨_, rfl, e2⟩) (by simp [hne]) (by omega) (fun j mu s a cs hj => ?_) e3 (fun i s e => by simp only [Tok.own.injEq] at e; exact .inr e.1.symm)⟩
    rw [e3 j (get_lt hj)]
    · exact hj
    · rintro i s' rfl rfl
      rcases hg with hg | ⟨i', hg, hg2⟩
      · simp at hg
      · simp at hg; rw [← hg.1] at hg2; rw [hg2] at hj; simp at hj
theorem Grow.put {h : Heap} {ty sz id : Nat} {tk : Tok} {mu : Bool} {s : Nat} {a : Bool} {cs : List AVal} (g : Grow h ty sz tk) (hr : h.get id = some (.row mu s a cs)) (o : Option Abs.Obj) : Grow (h.put id o) ty sz tk := by
  rcases g with g | ⟨i, g1, g2⟩
  · exact .inl g
  · exact .inr ⟨i, g1, by rw [get_put_ne]; exact g2; rintro rfl; rw [g2] at hr; simp at hr⟩
theorem Grow.push {h : Heap} {ty sz : Nat} {tk : Tok} (g : Grow h ty sz tk) (o : Abs.Obj) : Grow (h.push o) ty sz tk := by
  rcases g with g | ⟨i, g1, g2⟩
  · exact .inl g
  · exact .inr ⟨i, g1, get_push_old g2⟩
theorem ite_some {β : Type} {c : Prop} [Decidable c] (a : β) (hc : c) : (if c then some a else none) = some a := if_pos hc
theorem ite_mk {c : Prop} [Decidable c] (ag : Bool) (cs : List AVal) (hc : c) : (if c then mk ag cs else none) = mk ag cs := if_pos hc
theorem sslice_ab (s : List UInt8) (k k' : IntKind) (a b : Int) (h0 : 0 ≤ a) (h1 : a ≤ b) (h2 : b ≤ s.length) : ssliceA (.str s) (some (.int k a)) (some (.int k' b)) = some (.str ((s.drop a.toNat).take (b.toNat - a.toNat))) :=
  sslice_str s _ _ (boundA_int k' b _ _ (by omega) h2) (boundA_int k a _ _ h0 (by omega))
theorem sslice_a (s : List UInt8) (k : IntKind) (a : Int) (h0 : 0 ≤ a) (h2 : a ≤ s.length) : ssliceA (.str s) (some (.int k a)) none = some (.str (s.drop a.toNat)) := by
  rw [sslice_str s _ _ (boundA_none _ _) (boundA_int k a _ _ h0 h2), List.take_of_length_le (by simp)]
theorem sslice_b (s : List UInt8) (k : IntKind) (b : Int) (h0 : 0 ≤ b) (h2 : b ≤ s.length) : ssliceA (.str s) none (some (.int k b)) = some (.str (s.take b.toNat)) := by
  rw [sslice_str s _ _ (boundA_int k b _ _ h0 h2) (boundA_none _ _)]; rfl
theorem slice_sl_b (f : α → AVal) (l : List α) {sz : Nat} (t : Tok) (k : IntKind) (b : Int) (h0 : 0 ≤ b) (h2 : b ≤ l.length) (hf : ∀ x, (f x).cells.length = sz) (ht : t = .nil → l = []) : sliceA sz (.sl (l.map f) t) none (some (.int k b)) = some (.sl ((l.take b.toNat).map f) t.sub) := by
  have hb : boundA (some (.int k b)) l.length l.length = some b.toNat := boundA_int k b _ _ h0 h2
  simp only [sliceA, List.length_map, hb, boundA_none, List.drop_zero, Nat.sub_zero, ← List.map_take]
  rw [if_pos]
  refine ⟨fun x hx => ?_, fun e => by rw [ht e]; rfl⟩
  cases l with
  | nil => simp at hx
  | cons y l => simp at hx; subst hx; exact hf y
theorem slice_ref_b (id off len sz : Nat) (k : IntKind) (b : Int) (h0 : 0 ≤ b) (h2 : b ≤ len) : sliceA sz (.ref id off len sz) none (some (.int k b)) = some (.ref id off b.toNat sz) := by
  have hb : boundA (some (.int k b)) len len = some b.toNat := boundA_int k b _ _ h0 h2
  simp only [sliceA, hb, boundA_none, if_true, Nat.zero_mul, Nat.add_zero, Nat.sub_zero]
theorem slice_ref_a (id off len sz : Nat) (k : IntKind) (a : Int) (h0 : 0 ≤ a) (h2 : a ≤ len) : sliceA sz (.ref id off len sz) (some (.int k a)) none = some (.ref id (off + a.toNat * sz) (len - a.toNat) sz) := by
  have hb : boundA (some (.int k a)) 0 len = some a.toNat := boundA_int k a _ _ h0 h2
  simp only [sliceA, hb, boundA_none, if_true]
theorem repl_zero (z : List AVal) : repl 0 z = [] := rfl
theorem repl_succ (n : Nat) (z : List AVal) : repl (n + 1) z = z ++ repl n z := by simp [repl, List.replicate_succ]
def chunkO (sz : Nat) (ag : Bool) (n : Nat) : Option (List AVal) → Option (List AVal)
  | some cs => chunk sz ag n cs
  | none => none
def consO (sz : Nat) : Option AVal → Option (List AVal) → Option (List AVal)
  | some x, some xs => if x.cells.length = sz then some (x :: xs) else none
  | _, _ => none
theorem chunkO_some (sz : Nat) (ag : Bool) (n : Nat) (cs : List AVal) : chunkO sz ag n (some cs) = chunk sz ag n cs := _root_.id rfl
theorem consO_some (sz : Nat) (x : AVal) (xs : List AVal) : consO sz (some x) (some xs) = if x.cells.length = sz then some (x :: xs) else none := _root_.id rfl
theorem chunk_z (sz : Nat) (ag : Bool) (cs : List AVal) : chunk sz ag 0 cs = some [] := _root_.id rfl
theorem chunk_s (sz : Nat) (ag : Bool) (n : Nat) (cs : List AVal) : chunk sz ag (n + 1) cs = consO sz (mk ag (cs.take sz)) (chunk sz ag n (cs.drop sz)) := by
  rw [chunk]; unfold consO
  cases mk ag (cs.take sz) <;> cases chunk sz ag n (cs.drop sz) <;> rfl
theorem lit0 {ty n sz : Nat} {ag : Bool} {z cs : List AVal} {h : Heap} (hk : (decide (z.length = sz) && z.all AVal.one && decide (n * sz ≤ 16777216) && small sz) = true) :
    litA 0 ty n sz ag z (some cs) h = (chunkO sz ag n (stripL cs)).map (fun xs => (.sl xs .none, h)) := by
  simp only [litA, hk]
  cases stripL cs with
  | none => rfl
  | some cs => simp only [chunkO]; cases chunk sz ag n cs <;> rfl
theorem lit2 {ty n sz : Nat} {ag : Bool} {z cs : List AVal} {h : Heap} (hk : (decide (z.length = sz) && z.all AVal.one && decide (n * sz ≤ 16777216) && small sz) = true) :
    litA 2 ty n sz ag z (some cs) h = some (.ref h.next 0 n sz, h.push (.row true sz ag cs)) := by
  simp only [litA, hk]; rfl
end Go.Abs

namespace Go.Abs
theorem aI {a b : Prop} (x : a) (y : b) : a ∧ b := ⟨x, y⟩
theorem cells_bool (b : Bool) : (AVal.bool b).cells = [(AVal.bool b)] := _root_.id rfl
theorem one_bool (b : Bool) : (AVal.bool b).one = true := _root_.id rfl
theorem cells_int (k : IntKind) (n : Int) : (AVal.int k n).cells = [(AVal.int k n)] := _root_.id rfl
theorem one_int (k : IntKind) (n : Int) : (AVal.int k n).one = true := _root_.id rfl
theorem cells_str (s : List UInt8) : (AVal.str s).cells = [(AVal.str s)] := _root_.id rfl
theorem one_str (s : List UInt8) : (AVal.str s).one = true := _root_.id rfl
theorem cells_sl (xs : List AVal) (t : Tok) : (AVal.sl xs t).cells = [(AVal.sl xs t)] := _root_.id rfl
theorem one_sl (xs : List AVal) (t : Tok) : (AVal.sl xs t).one = true := _root_.id rfl
theorem cells_nilptr : AVal.nilptr.cells = [AVal.nilptr] := _root_.id rfl
theorem one_nilptr : AVal.nilptr.one = true := _root_.id rfl
theorem cells_ptr (i o : Nat) : (AVal.ptr i o).cells = [(AVal.ptr i o)] := _root_.id rfl
theorem one_ptr (i o : Nat) : (AVal.ptr i o).one = true := _root_.id rfl
theorem cells_ref (a b c d : Nat) : (AVal.ref a b c d).cells = [(AVal.ref a b c d)] := _root_.id rfl
theorem one_ref (a b c d : Nat) : (AVal.ref a b c d).one = true := _root_.id rfl
theorem cells_fn (f : Nat) (c : List AVal) : (AVal.fn f c).cells = [(AVal.fn f c)] := _root_.id rfl
theorem one_fn (f : Nat) (c : List AVal) : (AVal.fn f c).one = true := _root_.id rfl
theorem cells_nilfn : AVal.nilfn.cells = [AVal.nilfn] := _root_.id rfl
theorem one_nilfn : AVal.nilfn.one = true := _root_.id rfl
theorem cells_nilif : AVal.nilif.cells = [AVal.nilif] := _root_.id rfl
theorem one_nilif : AVal.nilif.one = true := _root_.id rfl
theorem cells_agg (cs : List AVal) : (AVal.agg cs).cells = cs := _root_.id rfl
theorem set_nil (cs : List AVal) (i : Nat) : setCells cs i [] = cs := _root_.id rfl
theorem set_cons (cs : List AVal) (i : Nat) (x : AVal) (xs : List AVal) : setCells cs i (x :: xs) = setCells (cs.set i x) (i + 1) xs := _root_.id rfl
def pre := aI @WP_block (aI @XW_gcall (aI @XW_callK (aI @WP_seq (aI @WP_opsV (aI @WP_skip (aI @WP_ret (
  aI @WP_exit (aI @WP_condP (aI @sq_normal (aI @sq_ret (aI @sq_exit (aI @bk_normal (
  aI @bk_ret (aI @bk_exit (aI @lp_ret (aI @lp_exit (aI @XW_mov (aI @XW_bin (
  aI @XW_un (aI @XW_load (aI @XW_store (aI @XW_len (aI @XW_slen (aI @XW_faddr (
  aI @XW_nilc (aI @XW_ext (aI @XW_pickP (aI @XW_alloc (aI @XW_box (aI @XW_iaddr (
  aI @XW_pc (aI @XW_build (aI @XW_field (aI @XW_clo (aI @XW_toInt (aI @XW_idstr (
  aI @XW_x (aI @XW_slice (aI @XW_sslice (aI @XW_sidx (aI @XW_appendK (aI @XW_copyK (aI @XW_mksl (
  @XW_lit))))))))))))))))))))))))))))))))))))))))))))
def post := aI @X_mkmap (aI @toInt_int (aI @X_mlook (aI @X_mput (aI @putM_map (aI @X_mdel (aI @delM_map (aI @isKey_int (aI @isKey_str (aI @X_s2b_f (aI @X_s2b_t (aI @X_b2s_sl (aI @X_b2s_ref (aI @X_as_ff (aI @asM_row (aI @X_as_ft (aI @asM2_row (aI @X_s2ap_sl (aI @X_slice30_sl (aI @X_slice30_ref (
  aI @Dum_eq (aI @PC_some (aI @PC_none (aI @stripL_nil (aI @stripL_sc (aI @sc_some (
  aI @sc_none (aI @st_int (aI @st_bool (aI @st_str (aI @st_none (aI @st_nil (
  aI @st_own (aI @st_ref (aI @st_agg (aI @st_tup (aI @strip_pt (aI @map_some' (
  aI @resK_one (aI @resK_nil (aI @resK_two (aI @rvK_v (aI @rvK_c (aI @rvsK_nil (aI @rvsK_cons (aI @callK_yld (aI @GK_same (aI @pu_int (aI @pu_bool (
  aI @pu_str (aI @pu_none (aI @pu_nil (aI @pu_own (aI @pu_agg (aI @pu_tup (
  aI @puL_nil (aI @puL_cons (aI @purify_pt (aI @false_and (aI @and_false (aI @or_true (
  aI @true_or (aI @or_false (aI @false_or (aI @Bool.and_false (aI @Bool.false_and (aI @not_true_eq_false (
  aI @not_false_eq_true (aI @RV_nil (aI @RV_exec (aI @RV_guardP (aI @evS_v (aI @evS_t (
  aI @evS_c (aI @ev_v (aI @ev_t (aI @ev_c (aI @putV_tmp (aI @putV_no (
  aI @putV_var (aI @putT_tmp (aI @putT_no (aI @putT_var (aI @bin_lss (aI @bin_leq (
  aI @bin_gtr (aI @bin_geq (aI @bin_eql (aI @bin_neq (aI @bin_add (aI @bin_sub (
  aI @bin_mul (aI @bin_eql_s (aI @bin_neq_s (aI @bin_add_s (aI @bin_eql_b (aI @bin_neq_b (
  aI @bin_struct_eql (aI @bin_struct_neq (aI @bin_rem (aI @bin_quo (aI @un_not (aI @un_neg (
  aI @load_rp (aI @load_ptr (aI @loadG_row (aI @store_ptr (aI @storeG_row (aI @mk_f (
  aI @mk_t (aI @len_sl (aI @len_ref (aI @slen_str (aI @faddr_rp (aI @faddr_ptr (
  aI @nilc_ptr (aI @nilc_fn (aI @ext_tup (aI @iaddr_map (aI @iaddr_refP (aI @sidx_str (
  aI @boundA_none (aI @boundA_int (aI @ite_some (aI @ite_mk (aI @sslice_ab (aI @sslice_a (
  aI @sslice_b (aI @slice_sl_b (aI @slice_ref_b (aI @slice_ref_a (aI @mksl_int (aI @fillA_nil (
  aI @fillA_cons (aI @callK_fn (aI @condP_bool (aI @guardP_t (aI @guardP_f (aI @guardP_tup (
  aI @ifP_true (aI @ifP_false (aI @ifP_not (aI @ifP_notB (aI @push_next (aI @put_next (
  aI @empty_next (aI @get_push_eq (aI @get_push_ne (aI @get_put_old (aI @get_put_ne (aI @put_push_eq (
  aI @put_push_ne (aI @wrap_in64 (aI @List.length_map.{0, 0} (aI @List.length_append.{0} (aI @List.getElem?_cons_zero.{0} (aI @List.getElem?_cons_succ.{0} (
  aI @List.getElem?_nil.{0} (aI @Option.getD_some.{0} (aI @Option.getD_none.{0} (aI @List.set_cons_zero.{0} (aI @List.set_cons_succ.{0} (aI @List.nil_append.{0} (
  aI @List.cons_append.{0} (aI @List.append_eq.{0} (aI @List.length_cons.{0} (aI @List.length_nil.{0} (aI @List.take_succ_cons.{0} (aI @List.take_zero.{0} (
  aI @List.drop_succ_cons.{0} (aI @List.drop_zero.{0} (aI @List.map_cons.{0, 0} (aI @List.map_nil.{0, 0} (aI @Option.map_some.{0, 0} (aI @Option.map_none.{0, 0} (
  aI @Option.some.injEq.{0} (aI @exists_eq_left.{1} (aI @exists_eq_left'.{1} (aI @AVal.bool.injEq (aI @if_true.{1} (aI @if_false.{1} (
  aI @ite_true.{1} (aI @ite_false.{1} (aI @Bool.false_eq_true (aI @decide_true (aI @decide_false (aI @and_true (
  aI @true_and (aI @List.all_cons.{0} (aI @List.all_nil.{0} (aI @Bool.and_true (aI @Bool.true_and (aI @Bool.and_self (
  aI @Bool.not_true (aI @Bool.not_false (aI @Nat.zero_add (aI @ne_eq.{1} (aI @Nat.le_refl (aI @Nat.add_zero (
  aI @decide_eq_true_eq (aI @Int.toNat_natCast (aI @Int.toNat_zero (aI @repl_zero (aI @repl_succ (aI @chunkO_some (
  aI @consO_some (aI @chunk_z (aI @chunk_s (aI @lit0 (aI @lit2 (aI @List.append_nil.{0} (
  aI @Nat.zero_mul (aI @Nat.one_mul (aI @toNat_pred (aI @toNat_succ (aI @AVal.int.injEq (aI @AVal.str.injEq (
  aI @bindK_some (aI @bindH_some (aI @bindB_some (aI @cells_bool (aI @one_bool (aI @cells_int (
  aI @one_int (aI @cells_str (aI @one_str (aI @cells_sl (aI @one_sl (aI @cells_nilptr (
  aI @one_nilptr (aI @cells_ptr (aI @one_ptr (aI @cells_ref (aI @one_ref (aI @cells_fn (
  aI @one_fn (aI @cells_nilfn (aI @one_nilfn (aI @cells_nilif (aI @one_nilif (aI @cells_agg (
  aI @set_nil (@set_cons))))))))))))))))))))))))))))))))))))))))))))))))))))))))))))))))))))))))))))))))))))))))))))))))))))))))))))))))))))))))))))))))))))))))))))))))))))))))))))))))))))))))))))))))))))))))))))))))))))))))))))))))))))))))))))))))))))))))))))))))))
structure Bx (Q : Prop) : Prop where
  h : Q
theorem go {P Q : Prop} (q : Q) (k : Bx Q → P := by intro q; simp (maxSteps := 4000000) (disch := first | assumption | omega | (simp only [push_next, put_next, empty_next, List.length_cons, List.length_nil] <;> omega) | exact _root_.id rfl | exact _root_.id (fun _ => rfl) | fail) only [↓pre, post, Int.reduceToNat, Int.reduceEq, Int.reduceLT, Int.reduceLE, Int.reduceAdd, Int.reduceSub, Int.reduceMul, Int.reduceNeg, Nat.reduceLT, Nat.reduceSub, Nat.reduceMul, Nat.reduceAdd, Nat.reduceLeDiff, reduceIte, reduceCtorEq, Nat.reduceEqDiff, fx]; exact q.1) : P := k ⟨q⟩
theorem goC {P : Prop} (p : P := by simp (maxSteps := 4000000) (disch := first | assumption | omega | (simp only [push_next, put_next, empty_next, List.length_cons, List.length_nil] <;> omega) | exact _root_.id rfl | exact _root_.id (fun _ => rfl) | fail) only [↓pre, post, Int.reduceToNat, Int.reduceEq, Int.reduceLT, Int.reduceLE, Int.reduceAdd, Int.reduceSub, Int.reduceMul, Int.reduceNeg, Nat.reduceLT, Nat.reduceSub, Nat.reduceMul, Nat.reduceAdd, Nat.reduceLeDiff, reduceIte, reduceCtorEq, Nat.reduceEqDiff, fx]) : P := p
theorem goF {P Q : Prop} (q : Q) (k : Bx Q → P := by intro q; simp (maxSteps := 4000000) (disch := first | assumption | omega | (simp only [push_next, put_next, empty_next, List.length_cons, List.length_nil] <;> omega) | exact _root_.id rfl | exact _root_.id (fun _ => rfl) | fail) only [↓pre, post, Int.reduceToNat, Int.reduceEq, Int.reduceLT, Int.reduceLE, Int.reduceAdd, Int.reduceSub, Int.reduceMul, Int.reduceNeg, Nat.reduceLT, Nat.reduceSub, Nat.reduceMul, Nat.reduceAdd, Nat.reduceLeDiff, reduceIte, reduceCtorEq, Nat.reduceEqDiff, fx, eq_false hyp]; exact q.1) : P := k ⟨q⟩
theorem goFc {P : Prop} (p : P := by simp (maxSteps := 4000000) (disch := first | assumption | omega | (simp only [push_next, put_next, empty_next, List.length_cons, List.length_nil] <;> omega) | exact _root_.id rfl | exact _root_.id (fun _ => rfl) | fail) only [↓pre, post, Int.reduceToNat, Int.reduceEq, Int.reduceLT, Int.reduceLE, Int.reduceAdd, Int.reduceSub, Int.reduceMul, Int.reduceNeg, Nat.reduceLT, Nat.reduceSub, Nat.reduceMul, Nat.reduceAdd, Nat.reduceLeDiff, reduceIte, reduceCtorEq, Nat.reduceEqDiff, fx, eq_false hyp]) : P := p
theorem goT {P Q : Prop} (q : Q) (k : Bx Q → P := by intro q; simp (maxSteps := 4000000) (disch := first | assumption | omega | (simp only [push_next, put_next, empty_next, List.length_cons, List.length_nil] <;> omega) | exact _root_.id rfl | exact _root_.id (fun _ => rfl) | fail) only [↓pre, post, Int.reduceToNat, Int.reduceEq, Int.reduceLT, Int.reduceLE, Int.reduceAdd, Int.reduceSub, Int.reduceMul, Int.reduceNeg, Nat.reduceLT, Nat.reduceSub, Nat.reduceMul, Nat.reduceAdd, Nat.reduceLeDiff, reduceIte, reduceCtorEq, Nat.reduceEqDiff, fx, eq_true hyp]; exact q.1) : P := k ⟨q⟩
theorem goTc {P : Prop} (p : P := by simp (maxSteps := 4000000) (disch := first | assumption | omega | (simp only [push_next, put_next, empty_next, List.length_cons, List.length_nil] <;> omega) | exact _root_.id rfl | exact _root_.id (fun _ => rfl) | fail) only [↓pre, post, Int.reduceToNat, Int.reduceEq, Int.reduceLT, Int.reduceLE, Int.reduceAdd, Int.reduceSub, Int.reduceMul, Int.reduceNeg, Nat.reduceLT, Nat.reduceSub, Nat.reduceMul, Nat.reduceAdd, Nat.reduceLeDiff, reduceIte, reduceCtorEq, Nat.reduceEqDiff, fx, eq_true hyp]) : P := p
theorem gI {p A B : Prop} (a : p → A) (b : ¬ p → B) : ifP p A B := ⟨a, b⟩
theorem gP {p A B Q : Prop} (q : Q) (hp : p := by first | assumption | omega) (k : Bx Q → A := by intro q; try simp (maxSteps := 4000000) (disch := first | assumption | omega | (simp only [push_next, put_next, empty_next, List.length_cons, List.length_nil] <;> omega) | exact _root_.id rfl | exact _root_.id (fun _ => rfl) | fail) only [↓pre, post, Int.reduceToNat, Int.reduceEq, Int.reduceLT, Int.reduceLE, Int.reduceAdd, Int.reduceSub, Int.reduceMul, Int.reduceNeg, Nat.reduceLT, Nat.reduceSub, Nat.reduceMul, Nat.reduceAdd, Nat.reduceLeDiff, reduceIte, reduceCtorEq, Nat.reduceEqDiff, fx]; exact q.1) : ifP p A B := ifP_pos hp (k ⟨q⟩)
theorem gPc {p A B : Prop} (hp : p := by first | assumption | omega) (a : A := by simp (maxSteps := 4000000) (disch := first | assumption | omega | (simp only [push_next, put_next, empty_next, List.length_cons, List.length_nil] <;> omega) | exact _root_.id rfl | exact _root_.id (fun _ => rfl) | fail) only [↓pre, post, Int.reduceToNat, Int.reduceEq, Int.reduceLT, Int.reduceLE, Int.reduceAdd, Int.reduceSub, Int.reduceMul, Int.reduceNeg, Nat.reduceLT, Nat.reduceSub, Nat.reduceMul, Nat.reduceAdd, Nat.reduceLeDiff, reduceIte, reduceCtorEq, Nat.reduceEqDiff, fx]) : ifP p A B := ifP_pos hp a
theorem gN {p A B Q : Prop} (q : Q) (hp : ¬ p := by first | assumption | omega) (k : Bx Q → B := by intro q; try simp (maxSteps := 4000000) (disch := first | assumption | omega | (simp only [push_next, put_next, empty_next, List.length_cons, List.length_nil] <;> omega) | exact _root_.id rfl | exact _root_.id (fun _ => rfl) | fail) only [↓pre, post, Int.reduceToNat, Int.reduceEq, Int.reduceLT, Int.reduceLE, Int.reduceAdd, Int.reduceSub, Int.reduceMul, Int.reduceNeg, Nat.reduceLT, Nat.reduceSub, Nat.reduceMul, Nat.reduceAdd, Nat.reduceLeDiff, reduceIte, reduceCtorEq, Nat.reduceEqDiff, fx]; exact q.1) : ifP p A B := ifP_neg hp (k ⟨q⟩)
theorem gNc {p A B : Prop} (hp : ¬ p := by first | assumption | omega) (a : B := by simp (maxSteps := 4000000) (disch := first | assumption | omega | (simp only [push_next, put_next, empty_next, List.length_cons, List.length_nil] <;> omega) | exact _root_.id rfl | exact _root_.id (fun _ => rfl) | fail) only [↓pre, post, Int.reduceToNat, Int.reduceEq, Int.reduceLT, Int.reduceLE, Int.reduceAdd, Int.reduceSub, Int.reduceMul, Int.reduceNeg, Nat.reduceLT, Nat.reduceSub, Nat.reduceMul, Nat.reduceAdd, Nat.reduceLeDiff, reduceIte, reduceCtorEq, Nat.reduceEqDiff, fx]) : ifP p A B := ifP_neg hp a
end Go.Abs

set_option maxHeartbeats 4000000
namespace Go.Abs
section
variable {α : Type} [Inhabited α] {f : α → AVal} {sz : Nat}
theorem append_new {K : AVal → Heap → Prop} {h : Heap} {ty bytes : Nat} {ag : Bool} {t : Tok} {y : AVal} (ys : List α) (ht : t = .nil ∨ t = .full) (hf : ∀ x, (f x).cells.length = sz) (hm : ∀ x, mk ag (f x).cells = some (f x)) (hs : ∀ x, stripL (f x).cells = some (f x).cells)
    (hy : lenA y = some ys.length) (hn : elemsA h sz y = some (flat (ys.map f))) (hlen : ys.length ≤ 1000000) (hb : bytes ≤ 10000) (h0 : 0 < sz) (h1 : sz < 1000000) (hne : ys ≠ [])
    (k : K (.sl (ys.map f) (.own h.next sz)) (h.push (.tok ty))) : bindH (appendA false ty bytes sz ag (.sl [] t) y h) K := by
  have hc := chunkm hf ag hm ys []
  rw [List.append_nil] at hc
  have hst := stripm hs ys
  have hroom2 := roomOk_of (n := 0 + ys.length) (bytes := bytes) (by omega) hb
  have hys : ¬ ys.length = 0 := by simpa using hne
  have hsm : small sz = true := by simp [small, h1]
  refine ⟨_, _, ?_, k⟩
  rcases ht with rfl | rfl <;>
  simp only [appendA, hy, hn, hys, if_false, List.length_nil, hroom2, h0, hsm, decide_true, Bool.and_self, Bool.not_true, Bool.false_eq_true, hst, hc, if_true]
def Gr (h : Heap) (ty sz : Nat) (l : List α) (tk : Tok) : Prop := (l = [] ∧ (tk = .nil ∨ tk = .full)) ∨ ∃ id, tk = .own id sz ∧ h.get id = some (.tok ty)
end
section
variable {h : Heap} {K : AVal → Heap → Prop}
def GrF {α : Type} (S : Nat → Prop) (h0 h : Heap) (ty sz : Nat) (l : List α) (tk : Tok) : Prop := Gr h ty sz l tk ∧ Fr S h0 h ∧ ∀ i s, tk = .own i s → h0.next ≤ i
theorem GrF.gr {α : Type} {S : Nat → Prop} {h0 h : Heap} {ty sz : Nat} {l : List α} {tk : Tok} (g : GrF S h0 h ty sz l tk) : Gr h ty sz l tk := g.1
theorem GrF.fr {α : Type} {S : Nat → Prop} {h0 h : Heap} {ty sz : Nat} {l : List α} {tk : Tok} (g : GrF S h0 h ty sz l tk) : Fr S h0 h := g.2.1
theorem Gr.nil {α : Type} (h : Heap) (ty sz : Nat) : Gr h ty sz ([] : List α) .nil := .inl ⟨rfl, .inl rfl⟩
theorem GrF.nil {α : Type} (S : Nat → Prop) (h : Heap) (ty sz : Nat) : GrF S h h ty sz ([] : List α) .nil := ⟨Gr.nil h ty sz, Fr.refl _ _, by simp⟩
theorem Gr.fr {α : Type} {S : Nat → Prop} {h h' : Heap} {ty sz : Nat} {l : List α} {tk : Tok} (g : Gr h ty sz l tk) (f : Fr S h h') (hS : ∀ i s, tk = .own i s → ¬ S i) : Gr h' ty sz l tk := by
  rcases g with g | ⟨i, e, g⟩
  · exact .inl g
  · exact .inr ⟨i, e, by rw [f.2 i (get_lt g) (hS i sz e)]; exact g⟩
theorem GrF.step {α : Type} {S : Nat → Prop} {h0 h h' : Heap} {ty sz : Nat} {l : List α} {tk : Tok} (g : GrF S h0 h ty sz l tk) (f : Fr (fun _ => False) h h') : GrF S h0 h' ty sz l tk :=
  ⟨g.1.fr f (fun _ _ _ q => q), g.2.1.trans ⟨f.1, fun j hj _ => f.2 j hj (fun q => q)⟩, g.2.2⟩
theorem append_F {α : Type} [Inhabited α] {f : α → AVal} {sz : Nat} {S : Nat → Prop} {h0 h : Heap} {ty bytes : Nat} {ag : Bool} {tk : Tok} {y : AVal} (l ys : List α) (hf : ∀ x, (f x).cells.length = sz) (hm : ∀ x, mk ag (f x).cells = some (f x)) (hs : ∀ x, stripL (f x).cells = some (f x).cells)
    (hy : lenA y = some ys.length) (hn : elemsA h sz y = some (flat (ys.map f))) (hg : GrF S h0 h ty sz l tk) (hlen : l.length + ys.length ≤ 1000000) (hb : bytes ≤ 10000) (hz0 : 0 < sz) (hz1 : sz < 1000000)
    (q : ∀ h' tk', GrF S h0 h' ty sz (l ++ ys) tk' → h.next ≤ h'.next → (∀ j mu s a cs, h.get j = some (.row mu s a cs) → h'.get j = some (.row mu s a cs)) → (∀ j, j < h.next → (∀ i s, tk = .own i s → j ≠ i) → h'.get j = h.get j) → K (.sl ((l ++ ys).map f) tk') h') : bindH (appendA false ty bytes sz ag (.sl (l.map f) tk) y h) K := by
  obtain ⟨g1, g2, g3⟩ := hg
  by_cases hne : ys = []
  · subst hne
    refine ⟨_, h, by simp only [appendA, hy, hn, List.length_nil, if_true]; rfl, ?_⟩
    have := q h tk (by rw [List.append_nil]; exact ⟨g1, g2, g3⟩) (Nat.le_refl _) (fun _ _ _ _ _ h => h) (fun _ _ _ => rfl)
    rwa [List.append_nil] at this
  · rcases g1 with ⟨rfl, ht⟩ | ⟨id, rfl, hg⟩
    · refine append_new (f := f) ys ht hf hm hs hy hn (by simpa using hlen) hb hz0 hz1 hne (q _ _ ⟨.inr ⟨_, rfl, get_push_eq rfl⟩, g2.push _, fun i s e => ?_⟩ (by rw [push_next]; omega) (fun j mu s a cs hj => get_push_old hj) (fun j hj _ => get_push_ne (by omega)))
      simp only [Tok.own.injEq] at e
      have := g2.1; omega
    · obtain ⟨h', e, e1, e2, e3⟩ := append_own (bytes := bytes) hf hm hs hy hn (.inr ⟨id, rfl, hg⟩) (by simp) hlen hb hz0 hz1 hne
      have hid := g3 id sz rfl
      refine ⟨_, h', e, q h' _ ⟨.inr ⟨_, rfl, e2⟩, ⟨by have := g2.1; omega, fun j hj hS => ?_⟩, fun i s e => ?_⟩ (by omega) (fun j mu s a cs hj => ?_) e3⟩
      · rw [e3 j (by have := g2.1; omega) (by rintro i s' e rfl; simp only [Tok.own.injEq] at e; omega)]
        exact g2.2 j hj hS
      · simp only [Tok.own.injEq] at e
        have := g2.1; omega
      · rw [e3 j (get_lt hj)]
        · exact hj
        · rintro i s' e rfl
          simp only [Tok.own.injEq] at e
          rw [e.1, hj] at hg
          simp at hg
end
section
variable {F : Nat → Option AEnt}
theorem pur_tk2 (h : Heap) (xs : List AVal) (tk : Tok) : ∃ u, Pt u ∧ purify h (.sl xs tk) = some (.sl xs u) ∧ strip (.sl xs tk) = some (.sl xs u) := by
  cases tk with
  | none => exact ⟨.none, .inl rfl, rfl, rfl⟩
  | nil => exact ⟨.nil, .inr rfl, rfl, rfl⟩
  | own i s => exact ⟨.none, .inl rfl, rfl, rfl⟩
  | full => exact ⟨.none, .inl rfl, by simp only [purify], by simp only [strip]⟩
def Pu (h : Heap) (v : AVal) (xs : List AVal) : Prop := ∃ u, Pt u ∧ purify h v = some (.sl xs u) ∧ (strip v = none ∨ strip v = some (.sl xs u))
theorem Pu.sl (h : Heap) (xs : List AVal) (tk : Tok) : Pu h (.sl xs tk) xs := by
  obtain ⟨u, h1, h2, h3⟩ := pur_tk2 h xs tk
  exact ⟨u, h1, h2, .inr h3⟩
end
theorem CV_hand {F : Nat → Option AEnt} {g : Nat} {s : List AVal → Heap → Option (AVal × Heap)} (hf : F g = some (.hand s)) {args : List AVal} {h : Heap} {r : AVal} {h' : Heap} {K : AVal → Heap → Prop} (e : s args h = some (r, h')) (k : K r h') : CV F g args h K := ⟨r, h', gives_hand hf e, k⟩
def mnxV (mx : Bool) : AVal → AVal → Option AVal
  | .int k a, .int _ b => some (.int k (if mx then (if a < b then b else a) else (if b < a then b else a)))
  | _, _ => none
theorem mnxV_int (mx : Bool) (k k' : IntKind) (a b : Int) : mnxV mx (.int k a) (.int k' b) = some (.int k (if mx then (if a < b then b else a) else (if b < a then b else a))) := rfl
theorem XW_mnx {F : Nat → Option AEnt} {ev : Opd → AVal} {h : Heap} {K : AVal → Heap → Prop} {mx : Bool} {x y : Opd} : XW F (.mnx mx x y) ev h K ↔ bindK (mnxV mx (ev x) (ev y)) K h :=
  XW_val (fun _ => rfl) (by
    simp only [evalA]
    generalize ev x = a
    generalize ev y = b
    cases a <;> cases b <;> rfl)
def strV (t : List UInt8) : AVal := .str t
theorem strV_eq (t : List UInt8) : strV t = .str t := rfl
def intN (i : Nat) : AVal := .int .i64 (i : Int)
theorem intN_eq (i : Nat) : intN i = .int .i64 (i : Int) := rfl
theorem intN_len (n : Nat) : (intN n).cells.length = 1 := rfl
end Go.Abs

namespace Go.Gt
open Go Go.Abs
abbrev Bs := List UInt8
structure Ltr where
  text : Bs
  base : Int
  mark : Int
  cs : Int
  width : Int
  deriving Inhabited
def Ltr.cells (l : Ltr) : List AVal := [.str l.text, .int .i64 l.base, .int .i64 l.mark, .int .i64 l.cs, .int .i64 l.width]
def Ltr.val (l : Ltr) : AVal := .agg l.cells
def texts (a : List Ltr) : List Bs := a.map Ltr.text
def reserved : Bs := [48, 49, 50, 51, 52, 53, 54, 55, 56, 57, 45, 35, 46, 124, 40, 41, 42, 63, 123, 125, 62, 47, 95, 126, 59, 58, 44, 61, 34, 64]
def resB (b : UInt8) : Bool := decide (b.toNat < 33) || decide (b ∈ reserved)
def plainT (s : Bs) : Bool := s.all (fun b => !resB b) && decide (1 ≤ s.length ∧ s.length ≤ 4)
def OkN (a : List Ltr) (i : Nat) : Prop :=
  0 ≤ (nth a i).base ∧ (nth a i).base < a.length ∧ (nth a (nth a i).base.toNat).base = (nth a i).base ∧ 0 ≤ (nth a i).mark ∧ (nth a i).mark ≤ 15 ∧ 0 ≤ (nth a i).cs ∧ (nth a i).cs ≤ 1 ∧ 1 ≤ (nth a i).width ∧ (nth a i).width ≤ 1000 ∧
    ¬ ((nth a i).base = (i : Int) ∧ 0 < (nth a i).mark + (nth a i).cs)
instance (a : List Ltr) (i : Nat) : Decidable (OkN a i) := by unfold OkN; infer_instance
def okL (a : List Ltr) (i : Nat) : Bool := plainT (nth a i).text && decide (OkN a i)
def validA (a : List Ltr) : Bool := decide (1 ≤ a.length ∧ a.length ≤ 60) && ((List.range a.length).all (okL a) && decide (texts a).Nodup)
def starts (s t : Bs) : Prop := s.take t.length = t
instance (s t : Bs) : Decidable (starts s t) := by unfold starts; infer_instance
def best (a : List Ltr) (s : Bs) : Nat → Option Nat
  | 0 => none
  | k + 1 => match best a s k with
    | none => if starts s (nth a k).text then some k else none
    | some b => if starts s (nth a k).text ∧ (nth a b).text.length < (nth a k).text.length then some k else some b
theorem best_none {a : List Ltr} {s : Bs} : ∀ {k : Nat}, best a s k = none → ∀ j, j < k → ¬ starts s (nth a j).text
  | 0, _, j, hj => by omega
  | k + 1, h, j, hj => by
    simp only [best] at h
    split at h
    · rename_i hb
      split at h
      · simp at h
      · rename_i hn
        by_cases e : j = k
        · subst e; exact hn
        · exact best_none hb j (by omega)
    · split at h <;> simp at h
theorem best_some {a : List Ltr} {s : Bs} : ∀ {k b : Nat}, best a s k = some b → b < k ∧ starts s (nth a b).text ∧ ∀ j, j < k → starts s (nth a j).text → (nth a j).text.length ≤ (nth a b).text.length
  | 0, b, h => by simp [best] at h
  | k + 1, b, h => by
    simp only [best] at h
    split at h
    · rename_i hb
      split at h
      · rename_i hs
        obtain rfl := Option.some.inj h
        refine ⟨by omega, hs, fun j hj hsj => ?_⟩
        by_cases e : j = k
        · subst e; exact Nat.le_refl _
        · exact absurd hsj (best_none hb j (by omega))
      · simp at h
    · rename_i b0 hb
      obtain ⟨h1, h2, h3⟩ := best_some hb
      split at h
      · rename_i hs
        obtain rfl := Option.some.inj h
        refine ⟨by omega, hs.1, fun j hj hsj => ?_⟩
        by_cases e : j = k
        · subst e; exact Nat.le_refl _
        · have := h3 j (by omega) hsj; omega
      · rename_i hs
        obtain rfl := Option.some.inj h
        refine ⟨by omega, h2, fun j hj hsj => ?_⟩
        by_cases e : j = k
        · subst e
          by_cases hl : (nth a b0).text.length < (nth a j).text.length
          · exact absurd ⟨hsj, hl⟩ hs
          · omega
        · exact h3 j (by omega) hsj
def stepA (a : List Ltr) (s : Bs) : Option Nat := best a s a.length
theorem texts_inj {a : List Ltr} (h : (texts a).Nodup) {i j : Nat} (hi : i < a.length) (hj : j < a.length) (e : (nth a i).text = (nth a j).text) : i = j := by
  rw [nth_eq hi, nth_eq hj] at e
  have h1 : i < (texts a).length := by simpa [texts] using hi
  have h2 : j < (texts a).length := by simpa [texts] using hj
  refine (List.getElem?_inj h1 h).1 ?_
  rw [List.getElem?_eq_getElem h1, List.getElem?_eq_getElem h2]
  simpa [texts] using e
theorem step_eq {a : List Ltr} (h : (texts a).Nodup) {s : Bs} {i : Nat} (hi : i < a.length) (hs : starts s (nth a i).text) (hm : ∀ j, j < a.length → starts s (nth a j).text → (nth a j).text.length ≤ (nth a i).text.length) : stepA a s = some i := by
  cases hb : best a s a.length with
  | none => exact absurd hs (best_none hb i hi)
  | some b =>
    obtain ⟨h1, h2, h3⟩ := best_some hb
    have e1 := h3 i hi hs
    have e2 := hm b h1 h2
    have e : (nth a b).text = (nth a i).text := by
      rw [starts] at hs h2
      rw [← hs, ← h2, show (nth a b).text.length = (nth a i).text.length by omega]
    rw [stepA, hb, texts_inj h h1 hi e]
theorem step_none {a : List Ltr} {s : Bs} (h : ∀ j, j < a.length → ¬ starts s (nth a j).text) : stepA a s = none := by
  cases hb : best a s a.length with
  | none => exact hb
  | some b =>
    obtain ⟨h1, h2, _⟩ := best_some hb
    exact absurd h2 (h b h1)
def readF (a : List Ltr) (s : Bs) : Nat → Nat → List Nat × Int
  | 0, _ => ([], -1)
  | f + 1, p => if p < s.length then (match stepA a (s.drop p) with
      | some i => (i :: (readF a s f (p + (nth a i).text.length)).1, (readF a s f (p + (nth a i).text.length)).2)
      | none => ([], (p : Int))) else ([], -1)
def readA (a : List Ltr) (s : Bs) : List Nat × Int := if validA a = true then readF a s (s.length + 1) 0 else ([], 0)
def writeL (a : List Ltr) (l : List Nat) : Bs := l.flatMap fun i => (nth a i).text
theorem valid_facts {a : List Ltr} (h : validA a = true) : 1 ≤ a.length ∧ a.length ≤ 60 ∧ (∀ i, i < a.length → plainT (nth a i).text = true ∧ OkN a i) ∧ (texts a).Nodup := by
  simp only [validA, Bool.and_eq_true, decide_eq_true_eq, List.all_eq_true, List.mem_range, okL] at h
  exact ⟨h.1.1, h.1.2, fun i hi => ⟨(h.2.1 i hi).1, (h.2.1 i hi).2⟩, h.2.2⟩
theorem valid_no {a : List Ltr} {i : Nat} (hi : i < a.length) (h : okL a i = false) : validA a = false := by
  rw [Bool.eq_false_iff]
  intro q
  simp only [validA, Bool.and_eq_true, List.all_eq_true, List.mem_range] at q
  have := q.2.1 i hi
  rw [h] at this; simp at this
theorem valid_dup {a : List Ltr} {i k : Nat} (h : k < i) (hi : i < a.length) (e : (nth a k).text = (nth a i).text) : validA a = false := by
  rw [Bool.eq_false_iff]
  intro q
  simp only [validA, Bool.and_eq_true, decide_eq_true_eq] at q
  have := texts_inj q.2.2 (by omega) hi e
  omega
theorem valid_yes {a : List Ltr} (h1 : 1 ≤ a.length ∧ a.length ≤ 60) (h2 : ∀ i, i < a.length → okL a i = true) (h3 : ∀ i, i < a.length → ∀ k, k < i → (nth a k).text ≠ (nth a i).text) : validA a = true := by
  simp only [validA, Bool.and_eq_true, decide_eq_true_eq, List.all_eq_true, List.mem_range]
  refine ⟨h1, h2, ?_⟩
  rw [List.Nodup, List.pairwise_iff_getElem]
  intro i j hi hj hij
  have hi' : i < a.length := by simpa [texts] using hi
  have hj' : j < a.length := by simpa [texts] using hj
  have := h3 j hj' i hij
  rw [nth_eq hi', nth_eq hj'] at this
  simpa [texts] using this
theorem plain_len {s : Bs} (h : plainT s = true) : 1 ≤ s.length ∧ s.length ≤ 4 := by
  simp only [plainT, Bool.and_eq_true, decide_eq_true_eq] at h
  exact h.2
theorem readF_spec {a : List Ltr} (h : validA a = true) (s : Bs) : ∀ (f p : Nat), p ≤ s.length → s.length < p + f →
    (∀ i ∈ (readF a s f p).1, i < a.length) ∧ (((readF a s f p).2 = -1 ∧ writeL a (readF a s f p).1 = s.drop p) ∨ ∃ n : Nat, (readF a s f p).2 = (n : Int) ∧ p ≤ n ∧ n < s.length ∧ writeL a (readF a s f p).1 = (s.drop p).take (n - p) ∧ ((readF a s f p).1 ≠ [] → p < n) ∧ ((readF a s f p).1 = [] → n = p)) ∧
    ((readF a s f p).1 = [] → p < s.length → stepA a (s.drop p) = none)
  | 0, p, h1, h2 => by omega
  | f + 1, p, h1, h2 => by
    obtain ⟨_, _, hok, _⟩ := valid_facts h
    simp only [readF]
    by_cases hp : p < s.length
    · rw [if_pos hp]
      cases hst : stepA a (s.drop p) with
      | none =>
        exact ⟨by simp, .inr ⟨p, rfl, Nat.le_refl _, hp, by simp [writeL], by simp, fun _ => rfl⟩, fun _ _ => rfl⟩
      | some i =>
        obtain ⟨b1, b2, _⟩ := best_some hst
        have hl := plain_len (hok i b1).1
        have hlen : p + (nth a i).text.length ≤ s.length := by
          have := congrArg List.length b2
          rw [List.length_take, List.length_drop] at this
          omega
        obtain ⟨i1, i2, _⟩ := readF_spec h s f (p + (nth a i).text.length) hlen (by omega)
        refine ⟨fun j hj => ?_, ?_, by simp⟩
        · simp only [List.mem_cons] at hj
          rcases hj with rfl | hj
          · exact b1
          · exact i1 j hj
        · have hsp : s.drop p = (nth a i).text ++ s.drop (p + (nth a i).text.length) := by
            rw [starts] at b2
            conv => lhs; rw [← List.take_append_drop (nth a i).text.length (s.drop p), b2, List.drop_drop]
          rcases i2 with ⟨e1, e2⟩ | ⟨n, e1, e2, e3, e4, e5, e6⟩
          · left
            refine ⟨e1, ?_⟩
            simp only [writeL, List.flatMap_cons] at e2 ⊢
            rw [e2, hsp]
          · right
            refine ⟨n, e1, by omega, e3, ?_, fun _ => by omega, by simp⟩
            simp only [writeL, List.flatMap_cons] at e4 ⊢
            rw [e4, hsp, List.take_append, List.take_of_length_le (l := (nth a i).text) (by omega), Nat.sub_sub]
    · rw [if_neg hp]
      exact ⟨by simp, .inl ⟨rfl, by rw [List.drop_eq_nil_of_le (by omega)]; rfl⟩, fun _ q => absurd q hp⟩
structure Wd where
  b : Nat
  e : Nat
  l : List Nat
  deriving Inhabited
def Wd.cells (x : Wd) : List AVal := [.int .i64 (x.b : Int), .int .i64 (x.e : Int), .sl (x.l.map intN) .none]
def Wd.val (x : Wd) : AVal := .agg x.cells
def endW (t : Bs) (p : Nat) (n : Int) : Nat := if n < 0 then t.length else p + n.toNat
def tokF (a : List Ltr) (t : Bs) : Nat → Nat → List Wd
  | 0, _ => []
  | f + 1, p => if p < t.length then (if (readA a (t.drop p)).1 = [] then tokF a t f (p + 1) else ⟨p, endW t p (readA a (t.drop p)).2, (readA a (t.drop p)).1⟩ :: tokF a t f (endW t p (readA a (t.drop p)).2)) else []
def tokA (a : List Ltr) (t : Bs) : List Wd := tokF a t (t.length + 1) 0
def Good (a : List Ltr) (t : Bs) : Nat → List Wd → Prop
  | p, [] => ∀ q, p ≤ q → q < t.length → (readA a (t.drop q)).1 = []
  | p, x :: r => p ≤ x.b ∧ x.b < x.e ∧ x.e ≤ t.length ∧ validA a = true ∧ (∀ i ∈ x.l, i < a.length) ∧ writeL a x.l = (t.drop x.b).take (x.e - x.b) ∧ (∀ q, p ≤ q → q < x.b → (readA a (t.drop q)).1 = []) ∧ Good a t x.e r
theorem readA_inv {a : List Ltr} (h : validA a = false) (s : Bs) : readA a s = ([], 0) := by rw [readA, if_neg (by simp [h])]
theorem readA_word {a : List Ltr} {t : Bs} {p : Nat} (hp : p < t.length) (hne : (readA a (t.drop p)).1 ≠ []) : validA a = true ∧ p < endW t p (readA a (t.drop p)).2 ∧ endW t p (readA a (t.drop p)).2 ≤ t.length ∧ (∀ i ∈ (readA a (t.drop p)).1, i < a.length) ∧
    writeL a (readA a (t.drop p)).1 = (t.drop p).take (endW t p (readA a (t.drop p)).2 - p) := by
  cases hv : validA a with
  | false => rw [readA_inv hv] at hne; simp at hne
  | true =>
    have hr : readA a (t.drop p) = readF a (t.drop p) ((t.drop p).length + 1) 0 := by rw [readA, if_pos hv]
    rw [hr] at hne ⊢
    obtain ⟨i1, i2, _⟩ := readF_spec hv (t.drop p) ((t.drop p).length + 1) 0 (Nat.zero_le _) (by omega)
    refine ⟨rfl, ?_⟩
    rcases i2 with ⟨e1, e2⟩ | ⟨n, e1, e2, e3, e4, e5, e6⟩
    · have hen : endW t p (-1) = t.length := by simp [endW]
      rw [e1, hen]
      refine ⟨by omega, by omega, i1, ?_⟩
      rw [e2, List.drop_zero, List.take_of_length_le (by rw [List.length_drop]; omega)]
    · rw [e1]
      have h0 := e5 hne
      rw [List.length_drop] at e3
      have hen : endW t p (n : Int) = p + n := by
        simp only [endW]
        rw [if_neg (by omega), Int.toNat_natCast]
      rw [hen]
      refine ⟨by omega, by omega, i1, ?_⟩
      rw [e4, List.drop_zero, Nat.sub_zero, Nat.add_sub_cancel_left]
theorem readA_bd (a : List Ltr) (s : Bs) : -1 ≤ (readA a s).2 ∧ (readA a s).2 ≤ s.length ∧ (readA a s).1.length ≤ s.length := by
  cases hv : validA a with
  | false => rw [readA_inv hv]; simp
  | true =>
    rw [readA, if_pos hv]
    obtain ⟨i1, i2, _⟩ := readF_spec hv s (s.length + 1) 0 (Nat.zero_le _) (by omega)
    have hw : ∀ l : List Nat, (∀ i ∈ l, i < a.length) → l.length ≤ (writeL a l).length := by
      intro l
      induction l with
      | nil => intro _; simp
      | cons i l ih =>
        intro hl
        have := plain_len ((valid_facts hv).2.2.1 i (hl i (by simp))).1
        have := ih (fun j hj => hl j (by simp [hj]))
        simp only [writeL, List.flatMap_cons, List.length_append, List.length_cons] at this ⊢
        omega
    have hlw := hw _ i1
    rcases i2 with ⟨e1, e2⟩ | ⟨n, e1, e2, e3, e4, _, _⟩
    · rw [e1]
      rw [e2] at hlw
      simp at hlw
      exact ⟨by omega, by omega, hlw⟩
    · rw [e1]
      rw [e4] at hlw
      simp at hlw
      exact ⟨by omega, by omega, by omega⟩
theorem tokF_good (a : List Ltr) (t : Bs) : ∀ (f p q : Nat), t.length < p + f → q ≤ p → (∀ k, q ≤ k → k < p → (readA a (t.drop k)).1 = []) → Good a t q (tokF a t f p)
  | 0, p, q, h, hq, hg => by
    simp only [tokF, Good]
    intro k hk hk2
    exact hg k hk (by omega)
  | f + 1, p, q, h, hq, hg => by
    simp only [tokF]
    by_cases hp : p < t.length
    · rw [if_pos hp]
      by_cases he : (readA a (t.drop p)).1 = []
      · rw [if_pos he]
        refine tokF_good a t f (p + 1) q (by omega) (by omega) fun k hk hk2 => ?_
        by_cases e : k = p
        · subst e; exact he
        · exact hg k hk (by omega)
      · rw [if_neg he]
        obtain ⟨w1, w2, w3, w4, w5⟩ := readA_word hp he
        exact ⟨hq, w2, w3, w1, w4, w5, hg, tokF_good a t f (endW t p (readA a (t.drop p)).2) (endW t p (readA a (t.drop p)).2) (by omega) (Nat.le_refl _) (fun k hk hk2 => by omega)⟩
    · rw [if_neg hp]
      intro k hk hk2
      exact hg k hk (by omega)
theorem tokA_good (a : List Ltr) (t : Bs) : Good a t 0 (tokA a t) := tokF_good a t _ 0 0 (by omega) (Nat.le_refl _) (fun k hk hk2 => by omega)
theorem tokA_inv {a : List Ltr} (h : validA a = false) (t : Bs) : tokA a t = [] := by
  have key : ∀ f p, tokF a t f p = [] := by
    intro f
    induction f with
    | zero => intro p; rfl
    | succ f ih =>
      intro p
      simp only [tokF, readA_inv h, if_true, ih]
      split <;> rfl
  exact key _ _
end Go.Gt

namespace Go.Proofs.YthcbcmpbipcibaaGreat
open Go Go.Abs Go.Gt
theorem byte_res (b : UInt8) (k : Nat) (hk : k < 30) : nth reserved k = b ↔ (((nth reserved k).toNat : Int) = (b.toNat : Int)) := by
  constructor
  · intro e; rw [e]
  · intro e; exact UInt8.toNat_inj.1 (by omega)
theorem reserved_v (b : UInt8) : PV F 70 [.int .u8 (b.toNat : Int)] = some (.bool (resB b)) := by
  refine PV_wp (fn := c70) rfl ?_
  dsimp only [oT, oN, oV, oG, oW, c70]
  have hlen : reserved.length = 30 := rfl
  rw [show ([48, 49, 50, 51, 52, 53, 54, 55, 56, 57, 45, 35, 46, 124, 40, 41, 42, 63, 123, 125, 62, 47, 95, 126, 59, 58, 44, 61, 34, 64] : List UInt8) = reserved from rfl]
  have hb := b.toNat_lt
  replace fx := Dum_eq
  (first | refine go ?_ | exact goC | skip); repeat' (first | refine gP ?_ | exact gPc | refine gN ?_ | exact gNc | (refine gI ?_ ?_ <;> intro hyp <;> first | refine goF ?_ | exact goFc | refine goT ?_ | exact goTc | skip))
  refine w_loop (fun m vs h => ∃ (k : Nat) (x1 x2 : AVal), m = 30 - k ∧ k ≤ 30 ∧ (∀ i, i < k → nth reserved i ≠ b) ∧ vs = [.int .u8 (b.toNat : Int), .bool false, .int .i64 (k : Int), x1, x2]) 30
    ⟨0, _, _, rfl, by omega, fun i hi => by omega, rfl⟩ ?_
  rintro m vs h ⟨k, x1, x2, rfl, hk, hz, rfl⟩
  by_cases hks : k < 30
  · by_cases h0 : nth reserved k = b
    · have e0 := (byte_res b k hks).1 h0
      have e : resB b = true := by
        have : b ∈ reserved := by rw [← h0]; exact nth_mem (by rw [hlen]; exact hks)
        simp [resB, this]
      replace fx := aI @e0 (aI @e @hlen)
      (first | refine go ?_ | exact goC | skip); repeat' (first | refine gP ?_ | exact gPc | refine gN ?_ | exact gNc | (refine gI ?_ ?_ <;> intro hyp <;> first | refine goF ?_ | exact goFc | refine goT ?_ | exact goTc | skip))
    · have e0 : ¬ ((nth reserved k).toNat : Int) = (b.toNat : Int) := fun q => h0 ((byte_res b k hks).2 q)
      replace fx := aI @e0 @hlen
      (first | refine go ?_ | exact goC | skip); repeat' (first | refine gP ?_ | exact gPc | refine gN ?_ | exact gNc | (refine gI ?_ ?_ <;> intro hyp <;> first | refine goF ?_ | exact goFc | refine goT ?_ | exact goTc | skip))
      refine lp_n ⟨_, by omega, k + 1, _, _, rfl, by omega, fun i hi => ?_, by push_cast; rfl⟩
      by_cases e : i = k
      · rw [e]; exact h0
      · exact hz i (by omega)
  · have hn : b ∉ reserved := fun hm => by
      obtain ⟨i, hi, e⟩ := List.getElem_of_mem hm
      exact hz i (by rw [hlen] at hi; omega) (by rw [nth_eq hi]; exact e)
    have e : resB b = decide (b.toNat < 33) := by simp [resB, hn]
    replace fx := aI @e @hlen
    (first | refine go ?_ | exact goC | skip); repeat' (first | refine gP ?_ | exact gPc | refine gN ?_ | exact gNc | (refine gI ?_ ?_ <;> intro hyp <;> first | refine goF ?_ | exact goFc | refine goT ?_ | exact goTc | skip))
    exact decide_eq_decide.2 (by omega)
theorem rplain_v (s : Bs) (hl : s.length ≤ 1000000) : PV F 47 [.str s] = some (.bool (plainT s)) := by
  refine PV_wp (fn := c47) rfl ?_
  dsimp only [oT, oN, oV, oG, oW, c47]
  replace fx := Dum_eq
  (first | refine go ?_ | exact goC | skip); repeat' (first | refine gP ?_ | exact gPc | refine gN ?_ | exact gNc | (refine gI ?_ ?_ <;> intro hyp <;> first | refine goF ?_ | exact goFc | refine goT ?_ | exact goTc | skip))
  refine w_loop (fun m vs h => ∃ (k : Nat) (x1 x2 : AVal), m = s.length - k ∧ k ≤ s.length ∧ (∀ i, i < k → resB (nth s i) = false) ∧ vs = [.str s, .bool false, .int .i64 (k : Int), x1, x2]) s.length
    ⟨0, _, _, rfl, by omega, fun i hi => by omega, rfl⟩ ?_
  rintro m vs h ⟨k, x1, x2, rfl, hk, hz, rfl⟩
  by_cases hks : k < s.length
  · have rv := reserved_v (nth s k)
    cases hr : resB (nth s k) with
    | true =>
      rw [hr] at rv
      have e : plainT s = false := by
        have : (s.all fun b => !resB b) = false := by
          rw [Bool.eq_false_iff]
          intro q
          have := List.all_eq_true.1 q _ (nth_mem hks)
          rw [hr] at this; simp at this
        simp [plainT, this]
      replace fx := aI @rv @e
      (first | refine go ?_ | exact goC | skip); repeat' (first | refine gP ?_ | exact gPc | refine gN ?_ | exact gNc | (refine gI ?_ ?_ <;> intro hyp <;> first | refine goF ?_ | exact goFc | refine goT ?_ | exact goTc | skip))
    | false =>
      rw [hr] at rv
      replace fx := @rv
      (first | refine go ?_ | exact goC | skip); repeat' (first | refine gP ?_ | exact gPc | refine gN ?_ | exact gNc | (refine gI ?_ ?_ <;> intro hyp <;> first | refine goF ?_ | exact goFc | refine goT ?_ | exact goTc | skip))
      refine lp_n ⟨_, by omega, k + 1, _, _, rfl, by omega, fun i hi => ?_, by push_cast; rfl⟩
      by_cases e : i = k
      · rw [e]; exact hr
      · exact hz i (by omega)
  · have e : (s.all fun b => !resB b) = true := by
      rw [List.all_eq_true]
      intro x hx
      obtain ⟨i, hi, rfl⟩ := List.getElem_of_mem hx
      have := hz i (by omega)
      rw [nth_eq hi] at this
      simp [this]
    have e2 : plainT s = decide (1 ≤ s.length ∧ s.length ≤ 4) := by simp [plainT, e]
    by_cases h1 : 1 ≤ s.length ∧ s.length ≤ 4
    · rw [e2, decide_eq_true h1]
      replace fx := Dum_eq
      (first | refine go ?_ | exact goC | skip); repeat' (first | refine gP ?_ | exact gPc | refine gN ?_ | exact gNc | (refine gI ?_ ?_ <;> intro hyp <;> first | refine goF ?_ | exact goFc | refine goT ?_ | exact goTc | skip))
      omega
    · rw [e2, decide_eq_false h1]
      replace fx := Dum_eq
      (first | refine go ?_ | exact goC | skip); repeat' (first | refine gP ?_ | exact gPc | refine gN ?_ | exact gNc | (refine gI ?_ ?_ <;> intro hyp <;> first | refine goF ?_ | exact goFc | refine goT ?_ | exact goTc | skip))
      all_goals first | omega | simp <;> omega
theorem ltL (o : Ltr) : o.val.cells.length = 5 := rfl
theorem ltT (o : Ltr) : AVal.agg (List.take 5 o.val.cells) = o.val := rfl
theorem ltS (o : Ltr) : setCells [.str [], .int .i64 0, .int .i64 0, .int .i64 0, .int .i64 0] 0 o.val.cells = o.cells := rfl
theorem ltN (o : Ltr) : o.cells.length = 5 := rfl
theorem lt0 (o : Ltr) : List.take 1 o.cells = [.str o.text] := rfl
theorem lt1 (o : Ltr) : List.take 1 (List.drop 1 o.cells) = [.int .i64 o.base] := rfl
theorem lt2 (o : Ltr) : List.take 1 (List.drop 2 o.cells) = [.int .i64 o.mark] := rfl
theorem lt3 (o : Ltr) : List.take 1 (List.drop 3 o.cells) = [.int .i64 o.cs] := rfl
theorem lt4 (o : Ltr) : List.take 1 (List.drop 4 o.cells) = [.int .i64 o.width] := rfl
theorem lv0 (o : Ltr) : List.take 1 o.val.cells = [.str o.text] := rfl
theorem lv1 (o : Ltr) : List.take 1 (List.drop 1 o.val.cells) = [.int .i64 o.base] := rfl
theorem lvD (o : Ltr) : (List.drop 1 o.val.cells).length = 4 := rfl
theorem lvN (o : Ltr) : o.val.cells.length = 5 := rfl
theorem rlong_v (a : List Ltr) (s : Bs) (p : Nat) (u : Tok) (hu : Pt u) (ha : a.length ≤ 1000000) (hs : s.length ≤ 1000000) (hp : p ≤ s.length) (ht : ∀ x ∈ a, x.text.length ≤ 1000000) :
    PV F 32 [.sl (a.map Ltr.val) u, .str s, .int .i64 (p : Int)] = some (.int .i64 (match stepA a (s.drop p) with | some i => (i : Int) | none => -1)) := by
  refine PV_wp (fn := c32) rfl ?_
  dsimp only [oT, oN, oV, oG, oW, c32]
  replace fx := Dum_eq
  (first | refine go ?_ | exact goC | skip); repeat' (first | refine gP ?_ | exact gPc | refine gN ?_ | exact gNc | (refine gI ?_ ?_ <;> intro hyp <;> first | refine goF ?_ | exact goFc | refine goT ?_ | exact goTc | skip))
  refine w_loop (fun m vs h => ∃ (k : Nat) (x1 x2 x3 : AVal), m = a.length - k ∧ k ≤ a.length ∧ vs = [.sl (a.map Ltr.val) u, .str s, .int .i64 (p : Int), .int .i64 0, .int .i64 (match best a (s.drop p) k with | some i => (i : Int) | none => -1), .int .i64 (k : Int), x1, x2, x3]) a.length
    ⟨0, _, _, _, rfl, by omega, rfl⟩ ?_
  rintro m vs h ⟨k, x1, x2, x3, rfl, hk, rfl⟩
  by_cases hks : k < a.length
  · have htk := ht _ (nth_mem hks)
    have hst : starts (s.drop p) (nth a k).text ↔ p + (nth a k).text.length ≤ s.length ∧ (s.drop p).take (nth a k).text.length = (nth a k).text := by
      rw [starts]
      constructor
      · intro e
        refine ⟨?_, e⟩
        have := congrArg List.length e
        rw [List.length_take, List.length_drop] at this
        omega
      · exact fun e => e.2
    have hsub : ((p : Int) + ((nth a k).text.length : Int)).toNat - p = (nth a k).text.length := by omega
    by_cases hs1 : starts (s.drop p) (nth a k).text
    · obtain ⟨q1, q2⟩ := hst.1 hs1
      cases hb : best a (s.drop p) k with
      | none =>
        have hb1 : best a (s.drop p) (k + 1) = some k := by simp only [best, hb, if_pos hs1]
        replace fx := aI @ltL (aI @lv0 (aI @lvN (aI @hsub @q2)))
        (first | refine go ?_ | exact goC | skip); repeat' (first | refine gP ?_ | exact gPc | refine gN ?_ | exact gNc | (refine gI ?_ ?_ <;> intro hyp <;> first | refine goF ?_ | exact goFc | refine goT ?_ | exact goTc | skip))
        exact lp_n ⟨_, by omega, k + 1, _, _, _, rfl, by omega, by rw [hb1]; push_cast; rfl⟩
      | some b =>
        obtain ⟨b1, b2, _⟩ := best_some hb
        by_cases hl : (nth a b).text.length < (nth a k).text.length
        · have hb1 : best a (s.drop p) (k + 1) = some k := by simp only [best, hb, if_pos (And.intro hs1 hl)]
          replace fx := aI @ltL (aI @lv0 (aI @lvN (aI @hsub @q2)))
          (first | refine go ?_ | exact goC | skip); repeat' (first | refine gP ?_ | exact gPc | refine gN ?_ | exact gNc | (refine gI ?_ ?_ <;> intro hyp <;> first | refine goF ?_ | exact goFc | refine goT ?_ | exact goTc | skip))
          exact lp_n ⟨_, by omega, k + 1, _, _, _, rfl, by omega, by rw [hb1]; push_cast; rfl⟩
        · have hb1 : best a (s.drop p) (k + 1) = some b := by
            simp only [best, hb]
            rw [if_neg (fun q => hl q.2)]
          replace fx := aI @ltL (aI @lv0 (aI @lvN (aI @hsub @q2)))
          (first | refine go ?_ | exact goC | skip); repeat' (first | refine gP ?_ | exact gPc | refine gN ?_ | exact gNc | (refine gI ?_ ?_ <;> intro hyp <;> first | refine goF ?_ | exact goFc | refine goT ?_ | exact goTc | skip))
          exact lp_n ⟨_, by omega, k + 1, _, _, _, rfl, by omega, by rw [hb1]; push_cast; rfl⟩
    · have hb1 : best a (s.drop p) (k + 1) = best a (s.drop p) k := by
        simp only [best]
        cases best a (s.drop p) k with
        | none => simp [hs1]
        | some b => simp [hs1]
      by_cases q1 : p + (nth a k).text.length ≤ s.length
      · have q2 : ¬ (s.drop p).take (nth a k).text.length = (nth a k).text := fun e => hs1 (hst.2 ⟨q1, e⟩)
        replace fx := aI @ltL (aI @lv0 (aI @lvN (aI @hsub @q2)))
        (first | refine go ?_ | exact goC | skip); repeat' (first | refine gP ?_ | exact gPc | refine gN ?_ | exact gNc | (refine gI ?_ ?_ <;> intro hyp <;> first | refine goF ?_ | exact goFc | refine goT ?_ | exact goTc | skip))
        exact lp_n ⟨_, by omega, k + 1, _, _, _, rfl, by omega, by rw [hb1]; push_cast; rfl⟩
      · replace fx := aI @ltL (aI @lv0 @lvN)
        (first | refine go ?_ | exact goC | skip); repeat' (first | refine gP ?_ | exact gPc | refine gN ?_ | exact gNc | (refine gI ?_ ?_ <;> intro hyp <;> first | refine goF ?_ | exact goFc | refine goT ?_ | exact goTc | skip))
        exact lp_n ⟨_, by omega, k + 1, _, _, _, rfl, by omega, by rw [hb1]; push_cast; rfl⟩
  · have e : k = a.length := by omega
    subst e
    replace fx := Dum_eq
    (first | refine go ?_ | exact goC | skip); repeat' (first | refine gP ?_ | exact gPc | refine gN ?_ | exact gNc | (refine gI ?_ ?_ <;> intro hyp <;> first | refine goF ?_ | exact goFc | refine goT ?_ | exact goTc | skip))
    rfl
theorem okL_false {a : List Ltr} {k : Nat} (h : okL a k = false) (hp : plainT (nth a k).text = true) : ¬ OkN a k := by
  rw [okL, hp, Bool.true_and] at h
  exact of_decide_eq_false h
theorem rvalid_v (a : List Ltr) (u : Tok) (hu : Pt u) (ha : a.length ≤ 1000000) (ht : ∀ x ∈ a, x.text.length ≤ 1000000) : PV F 31 [.sl (a.map Ltr.val) u] = some (.bool (validA a)) := by
  refine PV_wp (fn := c31) rfl ?_
  dsimp only [oT, oN, oV, oG, oW, c31]
  by_cases h0 : 1 ≤ a.length ∧ a.length ≤ 60
  · replace fx := Dum_eq
    (first | refine go ?_ | exact goC | skip); repeat' (first | refine gP ?_ | exact gPc | refine gN ?_ | exact gNc | (refine gI ?_ ?_ <;> intro hyp <;> first | refine goF ?_ | exact goFc | refine goT ?_ | exact goTc | skip))
    refine w_loop (fun m vs h => ∃ (k : Nat) (x1 x2 x3 x4 x5 x6 x7 x8 : AVal), m = a.length - k ∧ k ≤ a.length ∧ (∀ i, i < k → okL a i = true) ∧ (∀ i, i < k → ∀ j, j < i → (nth a j).text ≠ (nth a i).text) ∧ vs = [.sl (a.map Ltr.val) u, .bool false, .int .i64 (k : Int), x1, x2, x3, x4, x5, x6, x7, x8]) a.length
      ⟨0, _, _, _, _, _, _, _, _, rfl, by omega, fun i hi => by omega, fun i hi => by omega, rfl⟩ ?_
    rintro m vs h ⟨k, x1, x2, x3, x4, x5, x6, x7, x8, rfl, hk, hz, hd, rfl⟩
    by_cases hks : k < a.length
    · have htk := ht _ (nth_mem hks)
      have rp := rplain_v (nth a k).text htk
      cases hok : okL a k with
      | true =>
        have hok2 : plainT (nth a k).text = true ∧ OkN a k := by simpa only [okL, Bool.and_eq_true, decide_eq_true_eq] using hok
        obtain ⟨o0, o1, o2, o3, o4, o5, o6, o7, o8, o9, o10⟩ := hok2
        rw [o0] at rp
        have o11 : ¬ ((nth a k).base = (k : Int) ∧ (¬ (nth a k).mark = 0 ∨ ¬ (nth a k).cs = 0)) := by omega
        replace fx := aI @rp (aI @ltL (aI @ltT (aI @ltS (aI @ltN (aI @lt0 (aI @lt1 (aI @lt2 (aI @lt3 (aI @lt4 (aI @lv1 (aI @lvN @lvD)))))))))))
        (first | refine go ?_ | exact goC | skip); repeat' (first | refine gP ?_ | exact gPc | refine gN ?_ | exact gNc | (refine gI ?_ ?_ <;> intro hyp <;> first | refine goF ?_ | exact goFc | refine goT ?_ | exact goTc | skip))
        all_goals
          have gx : (h.push (Obj.row true (typed 27) true (nth a k).cells)).get h.next = some (Obj.row true (typed 27) true (nth a k).cells) := get_push_eq rfl
          generalize (h.push (Obj.row true (typed 27) true (nth a k).cells)) = h1 at gx ⊢
          generalize h.next = q at gx ⊢
          refine w_loop (fun m vs h' => ∃ (j : Nat) (x1 x2 x3 x4 x5 x6 : AVal), m = k - j ∧ j ≤ k ∧ (∀ i, i < j → (nth a i).text ≠ (nth a k).text) ∧ vs = [.sl (a.map Ltr.val) u, .bool false, .int .i64 (k : Int), .ptr q 0, .int .i64 (j : Int), x1, x2, x3, x4, x5, x6] ∧ h'.get q = some (Obj.row true (typed 27) true (nth a k).cells)) k
            ⟨0, _, _, _, _, _, _, rfl, by omega, fun i hi => by omega, rfl, gx⟩ ?_
          clear gx
          rintro m vs h' ⟨j, x1, x2, x3, x4, x5, x6, rfl, hj, hdj, rfl, gx⟩
          by_cases hjk : j < k
          · by_cases he : (nth a j).text = (nth a k).text
            · replace fx := aI @gx (aI @ltL (aI @ltN (aI @lt0 (aI @lv0 (aI @lvN @he)))))
              (first | refine go ?_ | exact goC | skip); repeat' (first | refine gP ?_ | exact gPc | refine gN ?_ | exact gNc | (refine gI ?_ ?_ <;> intro hyp <;> first | refine goF ?_ | exact goFc | refine goT ?_ | exact goTc | skip))
              rw [valid_dup hjk hks he]
            · replace fx := aI @gx (aI @ltL (aI @ltN (aI @lt0 (aI @lv0 (aI @lvN @he)))))
              (first | refine go ?_ | exact goC | skip); repeat' (first | refine gP ?_ | exact gPc | refine gN ?_ | exact gNc | (refine gI ?_ ?_ <;> intro hyp <;> first | refine goF ?_ | exact goFc | refine goT ?_ | exact goTc | skip))
              refine lp_n ⟨_, by omega, j + 1, _, _, _, _, _, _, rfl, by omega, fun i hi => ?_, by push_cast; rfl, gx⟩
              by_cases e : i = j
              · rw [e]; exact he
              · exact hdj i (by omega)
          · replace fx := Dum_eq
            (first | refine go ?_ | exact goC | skip); repeat' (first | refine gP ?_ | exact gPc | refine gN ?_ | exact gNc | (refine gI ?_ ?_ <;> intro hyp <;> first | refine goF ?_ | exact goFc | refine goT ?_ | exact goTc | skip))
            refine lp_n ⟨_, by omega, k + 1, _, _, _, _, _, _, _, _, rfl, by omega, fun i hi => ?_, fun i hi j2 hj2 => ?_, by push_cast; rfl⟩
            · by_cases e : i = k
              · rw [e]; exact hok
              · exact hz i (by omega)
            · by_cases e : i = k
              · rw [e] at hj2 ⊢; exact hdj j2 (by omega)
              · exact hd i (by omega) j2 hj2
      | false =>
        cases hp : plainT (nth a k).text with
        | false =>
          rw [hp] at rp
          replace fx := aI @rp (aI @ltL (aI @ltT (aI @ltS (aI @ltN (aI @lt0 (aI @lt1 (aI @lt2 (aI @lt3 (aI @lt4 (aI @lv1 (aI @lvN @lvD)))))))))))
          (first | refine go ?_ | exact goC | skip); repeat' (first | refine gP ?_ | exact gPc | refine gN ?_ | exact gNc | (refine gI ?_ ?_ <;> intro hyp <;> first | refine goF ?_ | exact goFc | refine goT ?_ | exact goTc | skip))
          rw [valid_no hks hok]
        | true =>
          rw [hp] at rp
          have hno := okL_false hok hp
          by_cases c1 : (nth a k).base < 0
          · clear hno
            replace fx := aI @rp (aI @ltL (aI @ltT (aI @ltS (aI @ltN (aI @lt0 (aI @lt1 (aI @lt2 (aI @lt3 (aI @lt4 (aI @lv1 (aI @lvN @lvD)))))))))))
            (first | refine go ?_ | exact goC | skip); repeat' (first | refine gP ?_ | exact gPc | refine gN ?_ | exact gNc | (refine gI ?_ ?_ <;> intro hyp <;> first | refine goF ?_ | exact goFc | refine goT ?_ | exact goTc | skip))
            rw [valid_no hks hok]
          by_cases c2 : (a.length : Int) ≤ (nth a k).base
          · clear hno
            replace fx := aI @rp (aI @ltL (aI @ltT (aI @ltS (aI @ltN (aI @lt0 (aI @lt1 (aI @lt2 (aI @lt3 (aI @lt4 (aI @lv1 (aI @lvN @lvD)))))))))))
            (first | refine go ?_ | exact goC | skip); repeat' (first | refine gP ?_ | exact gPc | refine gN ?_ | exact gNc | (refine gI ?_ ?_ <;> intro hyp <;> first | refine goF ?_ | exact goFc | refine goT ?_ | exact goTc | skip))
            rw [valid_no hks hok]
          by_cases c3 : ¬ (nth a (nth a k).base.toNat).base = (nth a k).base
          · clear hno
            replace fx := aI @rp (aI @ltL (aI @ltT (aI @ltS (aI @ltN (aI @lt0 (aI @lt1 (aI @lt2 (aI @lt3 (aI @lt4 (aI @lv1 (aI @lvN @lvD)))))))))))
            (first | refine go ?_ | exact goC | skip); repeat' (first | refine gP ?_ | exact gPc | refine gN ?_ | exact gNc | (refine gI ?_ ?_ <;> intro hyp <;> first | refine goF ?_ | exact goFc | refine goT ?_ | exact goTc | skip))
            rw [valid_no hks hok]
          by_cases c4 : (nth a k).mark < 0
          · clear hno
            replace fx := aI @rp (aI @ltL (aI @ltT (aI @ltS (aI @ltN (aI @lt0 (aI @lt1 (aI @lt2 (aI @lt3 (aI @lt4 (aI @lv1 (aI @lvN @lvD)))))))))))
            (first | refine go ?_ | exact goC | skip); repeat' (first | refine gP ?_ | exact gPc | refine gN ?_ | exact gNc | (refine gI ?_ ?_ <;> intro hyp <;> first | refine goF ?_ | exact goFc | refine goT ?_ | exact goTc | skip))
            rw [valid_no hks hok]
          by_cases c5 : 15 < (nth a k).mark
          · clear hno
            replace fx := aI @rp (aI @ltL (aI @ltT (aI @ltS (aI @ltN (aI @lt0 (aI @lt1 (aI @lt2 (aI @lt3 (aI @lt4 (aI @lv1 (aI @lvN @lvD)))))))))))
            (first | refine go ?_ | exact goC | skip); repeat' (first | refine gP ?_ | exact gPc | refine gN ?_ | exact gNc | (refine gI ?_ ?_ <;> intro hyp <;> first | refine goF ?_ | exact goFc | refine goT ?_ | exact goTc | skip))
            rw [valid_no hks hok]
          by_cases c6 : (nth a k).cs < 0
          · clear hno
            replace fx := aI @rp (aI @ltL (aI @ltT (aI @ltS (aI @ltN (aI @lt0 (aI @lt1 (aI @lt2 (aI @lt3 (aI @lt4 (aI @lv1 (aI @lvN @lvD)))))))))))
            (first | refine go ?_ | exact goC | skip); repeat' (first | refine gP ?_ | exact gPc | refine gN ?_ | exact gNc | (refine gI ?_ ?_ <;> intro hyp <;> first | refine goF ?_ | exact goFc | refine goT ?_ | exact goTc | skip))
            rw [valid_no hks hok]
          by_cases c7 : 1 < (nth a k).cs
          · clear hno
            replace fx := aI @rp (aI @ltL (aI @ltT (aI @ltS (aI @ltN (aI @lt0 (aI @lt1 (aI @lt2 (aI @lt3 (aI @lt4 (aI @lv1 (aI @lvN @lvD)))))))))))
            (first | refine go ?_ | exact goC | skip); repeat' (first | refine gP ?_ | exact gPc | refine gN ?_ | exact gNc | (refine gI ?_ ?_ <;> intro hyp <;> first | refine goF ?_ | exact goFc | refine goT ?_ | exact goTc | skip))
            rw [valid_no hks hok]
          by_cases c8 : (nth a k).width < 1
          · clear hno
            replace fx := aI @rp (aI @ltL (aI @ltT (aI @ltS (aI @ltN (aI @lt0 (aI @lt1 (aI @lt2 (aI @lt3 (aI @lt4 (aI @lv1 (aI @lvN @lvD)))))))))))
            (first | refine go ?_ | exact goC | skip); repeat' (first | refine gP ?_ | exact gPc | refine gN ?_ | exact gNc | (refine gI ?_ ?_ <;> intro hyp <;> first | refine goF ?_ | exact goFc | refine goT ?_ | exact goTc | skip))
            rw [valid_no hks hok]
          by_cases c9 : 1000 < (nth a k).width
          · clear hno
            replace fx := aI @rp (aI @ltL (aI @ltT (aI @ltS (aI @ltN (aI @lt0 (aI @lt1 (aI @lt2 (aI @lt3 (aI @lt4 (aI @lv1 (aI @lvN @lvD)))))))))))
            (first | refine go ?_ | exact goC | skip); repeat' (first | refine gP ?_ | exact gPc | refine gN ?_ | exact gNc | (refine gI ?_ ?_ <;> intro hyp <;> first | refine goF ?_ | exact goFc | refine goT ?_ | exact goTc | skip))
            rw [valid_no hks hok]
          have c10 : (nth a k).base = (k : Int) ∧ (¬ (nth a k).mark = 0 ∨ ¬ (nth a k).cs = 0) := by
            refine Classical.byContradiction fun q => hno ?_
            unfold OkN
            omega
          obtain ⟨c11, c12⟩ := c10
          by_cases c13 : (nth a k).mark = 0
          · clear hno
            replace fx := aI @rp (aI @ltL (aI @ltT (aI @ltS (aI @ltN (aI @lt0 (aI @lt1 (aI @lt2 (aI @lt3 (aI @lt4 (aI @lv1 (aI @lvN @lvD)))))))))))
            (first | refine go ?_ | exact goC | skip); repeat' (first | refine gP ?_ | exact gPc | refine gN ?_ | exact gNc | (refine gI ?_ ?_ <;> intro hyp <;> first | refine goF ?_ | exact goFc | refine goT ?_ | exact goTc | skip))
            rw [valid_no hks hok]
          · clear hno
            replace fx := aI @rp (aI @ltL (aI @ltT (aI @ltS (aI @ltN (aI @lt0 (aI @lt1 (aI @lt2 (aI @lt3 (aI @lt4 (aI @lv1 (aI @lvN @lvD)))))))))))
            (first | refine go ?_ | exact goC | skip); repeat' (first | refine gP ?_ | exact gPc | refine gN ?_ | exact gNc | (refine gI ?_ ?_ <;> intro hyp <;> first | refine goF ?_ | exact goFc | refine goT ?_ | exact goTc | skip))
            rw [valid_no hks hok]
    · have e : k = a.length := by omega
      subst e
      rw [valid_yes h0 hz hd]
      replace fx := Dum_eq
      (first | refine go ?_ | exact goC | skip); repeat' (first | refine gP ?_ | exact gPc | refine gN ?_ | exact gNc | (refine gI ?_ ?_ <;> intro hyp <;> first | refine goF ?_ | exact goFc | refine goT ?_ | exact goTc | skip))
  · have e : validA a = false := by
      simp only [validA, decide_eq_false h0, Bool.false_and]
    rw [e]
    replace fx := Dum_eq
    (first | refine go ?_ | exact goC | skip); repeat' (first | refine gP ?_ | exact gPc | refine gN ?_ | exact gNc | (refine gI ?_ ?_ <;> intro hyp <;> first | refine goF ?_ | exact goFc | refine goT ?_ | exact goTc | skip))
end Go.Proofs.YthcbcmpbipcibaaGreat

namespace Go.Proofs.YthcbcmpbipcibaaGreat
open Go Go.Abs Go.Gt
def tkE {α : Type} (l : List α) : Tok := match l with
  | [] => .nil
  | _ :: _ => .none
def readV (r : List Nat × Int) : AVal := .tup [.sl (r.1.map intN) (tkE r.1), .int .i64 r.2]
theorem pur_gr {α : Type} {h : Heap} {ty sz : Nat} {l : List α} {tk : Tok} (g : Gr h ty sz l tk) (hn : l = [] → tk = .nil) (f : α → AVal) : purify h (.sl (l.map f) tk) = some (.sl (l.map f) (tkE l)) := by
  rcases g with ⟨rfl, _⟩ | ⟨i, rfl, _⟩
  · rw [hn rfl]; rfl
  · cases l with
    | nil => have := hn rfl; simp at this
    | cons x l => rfl
theorem pur_pair {h : Heap} {x x' y : AVal} (h1 : purify h x = some x') (h2 : purify h y = some y) : purify h (.tup [x, y]) = some (.tup [x', y]) := by
  simp only [purify, purifyL, h1, h2]
  rfl
theorem pur_read {h : Heap} {ty sz : Nat} {l : List Nat} {tk : Tok} (g : Gr h ty sz l tk) (hn : l = [] → tk = .nil) (n : Int) : purify h (.tup [.sl (l.map intN) tk, .int .i64 n]) = some (readV (l, n)) :=
  pur_pair (pur_gr g hn intN) (by simp only [purify])
theorem rread_v (a : List Ltr) (s : Bs) (u : Tok) (hu : Pt u) (ha : a.length ≤ 1000000) (hs : s.length ≤ 900000) (ht : ∀ x ∈ a, x.text.length ≤ 1000000) :
    PV F 21 [.sl (a.map Ltr.val) u, .str s] = some (readV (readA a s)) := by
  refine PV_wp (fn := c21) rfl ?_
  dsimp only [oT, oN, oV, oG, oW, c21]
  have rv := rvalid_v a u hu ha ht
  have sl : strip (.sl (a.map Ltr.val) u) = some (.sl (a.map Ltr.val) u) := by rcases hu with rfl | rfl <;> rfl
  cases hva : validA a with
  | false =>
    rw [hva] at rv
    rw [readA_inv hva]
    replace fx := aI @sl @rv
    (first | refine go ?_ | exact goC | skip); repeat' (first | refine gP ?_ | exact gPc | refine gN ?_ | exact gNc | (refine gI ?_ ?_ <;> intro hyp <;> first | refine goF ?_ | exact goFc | refine goT ?_ | exact goTc | skip))
    rfl
  | true =>
    rw [hva] at rv
    have hr : readA a s = readF a s (s.length + 1) 0 := by rw [readA, if_pos hva]
    rw [hr]
    generalize hR0 : readF a s (s.length + 1) 0 = R
    obtain ⟨l1, l2, l3, l4⟩ := valid_facts hva
    have rl := fun (p : Nat) (hp : p ≤ s.length) => rlong_v a s p u hu ha (by omega) hp ht
    replace fx := aI @sl @rv
    (first | refine go ?_ | exact goC | skip); repeat' (first | refine gP ?_ | exact gPc | refine gN ?_ | exact gNc | (refine gI ?_ ?_ <;> intro hyp <;> first | refine goF ?_ | exact goFc | refine goT ?_ | exact goTc | skip))
    refine w_loop (fun m vs h => ∃ (p f : Nat) (ls : List Nat) (tk : Tok) (x1 x2 x3 x4 : AVal), m = s.length - p ∧ p ≤ s.length ∧ s.length < p + f ∧ R = (ls ++ (readF a s f p).1, (readF a s f p).2) ∧ ls.length ≤ p ∧
        vs = [.sl (a.map Ltr.val) u, .str s, .sl [] .nil, .int .i64 0, .sl (ls.map intN) tk, .int .i64 (p : Int), x1, x2, x3, x4] ∧ GrF (fun _ => False) Heap.empty h 3 1 ls tk ∧ (ls = [] → tk = .nil)) s.length
      ⟨0, s.length + 1, [], .nil, _, _, _, _, rfl, by omega, by omega, by rw [hR0]; simp, by simp, rfl, GrF.nil _ _ _ _, fun _ => rfl⟩ ?_
    rintro m vs h ⟨p, f, ls, tk, x1, x2, x3, x4, rfl, hp, hf, hR, hll, rfl, G, hnil⟩
    by_cases hps : p < s.length
    · obtain ⟨f, rfl⟩ : ∃ f', f = f' + 1 := ⟨f - 1, by omega⟩
      have rlp := rl p hp
      simp only [readF] at hR
      rw [if_pos hps] at hR
      cases hst : stepA a (s.drop p) with
      | none =>
        rw [hst] at rlp hR
        simp only [List.append_nil] at rlp hR
        rw [hR]
        replace fx := aI @sl @rlp
        (first | refine go ?_ | exact goC | skip); repeat' (first | refine gP ?_ | exact gPc | refine gN ?_ | exact gNc | (refine gI ?_ ?_ <;> intro hyp <;> first | refine goF ?_ | exact goFc | refine goT ?_ | exact goTc | skip))
        exact pur_read G.gr hnil _
      | some i =>
        rw [hst] at rlp hR
        simp only at rlp hR
        obtain ⟨b1, b2, _⟩ := best_some hst
        have hl := plain_len (l3 i b1).1
        have hlen : p + (nth a i).text.length ≤ s.length := by
          have := congrArg List.length b2
          rw [List.length_take, List.length_drop] at this
          omega
        have lb : ∀ (x : Nat) H, litA 0 3 1 1 false [.int .i64 0] (some [.int .i64 (x : Int)]) H = some (.sl [intN x] .none, H) := fun x H => lit_none rfl rfl rfl rfl
        replace fx := aI @sl (aI @rlp @lb)
        (first | refine go ?_ | exact goC | skip); repeat' (first | refine gP ?_ | exact gPc | refine gN ?_ | exact gNc | (refine gI ?_ ?_ <;> intro hyp <;> first | refine goF ?_ | exact goFc | refine goT ?_ | exact goTc | skip))
        refine append_F (f := intN) ls [i] intN_len (fun _ => rfl) (fun _ => rfl) (lenA_sl (f := intN) (l := [i])) (elems_sl (f := intN) (l := [i]) intN_len) G (by simp; omega) (by omega) (by omega) (by omega) ?_
        intro h1 tk1 G1 n1 _ _
        replace fx := aI @ltL (aI @lv0 @lvN)
        (first | refine go ?_ | exact goC | skip); repeat' (first | refine gP ?_ | exact gPc | refine gN ?_ | exact gNc | (refine gI ?_ ?_ <;> intro hyp <;> first | refine goF ?_ | exact goFc | refine goT ?_ | exact goTc | skip))
        exact lp_n ⟨_, by omega, p + (nth a i).text.length, f, ls ++ [i], tk1, _, _, _, _, rfl, hlen, by omega, by rw [hR]; simp, by simp; omega, by push_cast; rfl, G1, by simp⟩
    · obtain ⟨f, rfl⟩ : ∃ f', f = f' + 1 := ⟨f - 1, by omega⟩
      simp only [readF] at hR
      rw [if_neg hps] at hR
      simp only [List.append_nil] at hR
      rw [hR]
      replace fx := Dum_eq
      (first | refine go ?_ | exact goC | skip); repeat' (first | refine gP ?_ | exact gPc | refine gN ?_ | exact gNc | (refine gI ?_ ?_ <;> intro hyp <;> first | refine goF ?_ | exact goFc | refine goT ?_ | exact goTc | skip))
      exact pur_read G.gr hnil _
theorem wdL (o : Wd) : o.val.cells.length = 3 := rfl
theorem wdM (o : Wd) : mk true o.val.cells = some o.val := rfl
theorem wdS (o : Wd) : stripL o.val.cells = some o.val.cells := rfl
theorem rtok_v (a : List Ltr) (s : Bs) (u : Tok) (hu : Pt u) (ha : a.length ≤ 1000000) (hs : s.length ≤ 900000) (ht : ∀ x ∈ a, x.text.length ≤ 1000000) (h0 : Heap) :
    CV F 11 [.sl (a.map Ltr.val) u, .str s] h0 (fun v h' => ∃ tk, v = .sl ((tokA a s).map Wd.val) tk ∧ Fr (fun _ => False) h0 h') := by
  refine CV_wp (fn := c11) rfl ?_
  dsimp only [oT, oN, oV, oG, oW, c11]
  have sl : strip (.sl (a.map Ltr.val) u) = some (.sl (a.map Ltr.val) u) := by rcases hu with rfl | rfl <;> rfl
  rw [tokA]
  generalize hR0 : tokF a s (s.length + 1) 0 = R
  replace fx := Dum_eq
  (first | refine go ?_ | exact goC | skip); repeat' (first | refine gP ?_ | exact gPc | refine gN ?_ | exact gNc | (refine gI ?_ ?_ <;> intro hyp <;> first | refine goF ?_ | exact goFc | refine goT ?_ | exact goTc | skip))
  refine w_loop (fun m vs h => ∃ (p f : Nat) (ws : List Wd) (tk : Tok) (x1 x2 x3 x4 x5 x6 : AVal), m = s.length - p ∧ p ≤ s.length ∧ s.length < p + f ∧ R = ws ++ tokF a s f p ∧ ws.length ≤ p ∧
      vs = [.sl (a.map Ltr.val) u, .str s, .sl [] .nil, .sl (ws.map Wd.val) tk, .int .i64 (p : Int), x1, x2, x3, x4, x5, x6] ∧ GrF (fun _ => False) h0 h 37 3 ws tk) s.length
    ⟨0, s.length + 1, [], .nil, _, _, _, _, _, _, rfl, by omega, by omega, by rw [hR0]; simp, by simp, rfl, GrF.nil _ _ _ _⟩ ?_
  rintro m vs h ⟨p, f, ws, tk, x1, x2, x3, x4, x5, x6, rfl, hp, hf, hR, hll, rfl, G⟩
  obtain ⟨f, rfl⟩ : ∃ f', f = f' + 1 := ⟨f - 1, by omega⟩
  simp only [tokF] at hR
  by_cases hps : p < s.length
  · rw [if_pos hps] at hR
    have rr := rread_v a (s.drop p) u hu ha (by rw [List.length_drop]; omega) ht
    by_cases he : (readA a (s.drop p)).1 = []
    · rw [if_pos he] at hR
      obtain ⟨bd1, bd2, bd3⟩ := readA_bd a (s.drop p)
      rw [List.length_drop] at bd2
      unfold readV at rr
      rw [he] at rr
      simp only [List.map_nil, tkE] at rr
      generalize (readA a (s.drop p)).2 = n at rr bd1 bd2
      by_cases hn : n < 0
      · replace fx := aI @sl @rr
        (first | refine go ?_ | exact goC | skip); repeat' (first | refine gP ?_ | exact gPc | refine gN ?_ | exact gNc | (refine gI ?_ ?_ <;> intro hyp <;> first | refine goF ?_ | exact goFc | refine goT ?_ | exact goTc | skip))
        exact lp_n ⟨_, by omega, p + 1, f, ws, tk, _, _, _, _, _, _, rfl, by omega, by omega, hR, by omega, by push_cast; rfl, G⟩
      · replace fx := aI @sl @rr
        (first | refine go ?_ | exact goC | skip); repeat' (first | refine gP ?_ | exact gPc | refine gN ?_ | exact gNc | (refine gI ?_ ?_ <;> intro hyp <;> first | refine goF ?_ | exact goFc | refine goT ?_ | exact goTc | skip))
        exact lp_n ⟨_, by omega, p + 1, f, ws, tk, _, _, _, _, _, _, rfl, by omega, by omega, hR, by omega, by push_cast; rfl, G⟩
    · rw [if_neg he] at hR
      obtain ⟨bd1, bd2, bd3⟩ := readA_bd a (s.drop p)
      rw [List.length_drop] at bd2 bd3
      obtain ⟨w1, w2, w3, w4, w5⟩ := readA_word hps he
      unfold readV at rr
      have hk : tkE (readA a (s.drop p)).1 = .none := by
        cases hl : (readA a (s.drop p)).1 with
        | nil => exact absurd hl he
        | cons x l => rfl
      rw [hk] at rr
      have hlen0 : ¬ ((readA a (s.drop p)).1.length : Int) = 0 := by
        intro q
        exact he (List.length_eq_zero_iff.1 (by omega))
      generalize (readA a (s.drop p)).1 = l at rr hR bd3 hlen0
      generalize (readA a (s.drop p)).2 = n at rr bd1 bd2 hR w2 w3
      have lb : ∀ (b e : Nat) H, litA 0 37 1 3 true [.int .i64 0, .int .i64 0, .sl [] .nil] (some [.int .i64 (b : Int), .int .i64 (e : Int), .sl (l.map intN) .none]) H = some (.sl [Wd.val ⟨b, e, l⟩] .none, H) := fun b e H => lit_none rfl rfl rfl rfl
      by_cases hn : n < 0
      · have he1 : endW s p n = s.length := by simp only [endW]; rw [if_pos hn]
        rw [he1] at hR w2 w3
        replace fx := aI @sl (aI @rr (aI @hlen0 @lb))
        (first | refine go ?_ | exact goC | skip); repeat' (first | refine gP ?_ | exact gPc | refine gN ?_ | exact gNc | (refine gI ?_ ?_ <;> intro hyp <;> first | refine goF ?_ | exact goFc | refine goT ?_ | exact goTc | skip))
        refine append_F (f := Wd.val) ws [⟨p, s.length, l⟩] wdL wdM wdS (lenA_sl (f := Wd.val) (l := [⟨p, s.length, l⟩])) (elems_sl (f := Wd.val) (l := [⟨p, s.length, l⟩]) wdL) G (by simp; omega) (by omega) (by omega) (by omega) ?_
        intro h1 tk1 G1 n1 _ _
        replace fx := Dum_eq
        (first | refine go ?_ | exact goC | skip); repeat' (first | refine gP ?_ | exact gPc | refine gN ?_ | exact gNc | (refine gI ?_ ?_ <;> intro hyp <;> first | refine goF ?_ | exact goFc | refine goT ?_ | exact goTc | skip))
        exact lp_n ⟨_, by omega, s.length, f, ws ++ [⟨p, s.length, l⟩], tk1, _, _, _, _, _, _, rfl, by omega, by omega, by rw [hR]; simp, by simp; omega, rfl, G1⟩
      · have he1 : endW s p n = p + n.toNat := by simp only [endW]; rw [if_neg hn]
        rw [he1] at hR w2 w3
        have he2 : (p : Int) + n = ((p + n.toNat : Nat) : Int) := by omega
        replace fx := aI @sl (aI @rr (aI @hlen0 (aI @he2 @lb)))
        (first | refine go ?_ | exact goC | skip); repeat' (first | refine gP ?_ | exact gPc | refine gN ?_ | exact gNc | (refine gI ?_ ?_ <;> intro hyp <;> first | refine goF ?_ | exact goFc | refine goT ?_ | exact goTc | skip))
        refine append_F (f := Wd.val) ws [⟨p, p + n.toNat, l⟩] wdL wdM wdS (lenA_sl (f := Wd.val) (l := [⟨p, p + n.toNat, l⟩])) (elems_sl (f := Wd.val) (l := [⟨p, p + n.toNat, l⟩]) wdL) G (by simp; omega) (by omega) (by omega) (by omega) ?_
        intro h1 tk1 G1 n1 _ _
        replace fx := Dum_eq
        (first | refine go ?_ | exact goC | skip); repeat' (first | refine gP ?_ | exact gPc | refine gN ?_ | exact gNc | (refine gI ?_ ?_ <;> intro hyp <;> first | refine goF ?_ | exact goFc | refine goT ?_ | exact goTc | skip))
        exact lp_n ⟨_, by omega, p + n.toNat, f, ws ++ [⟨p, p + n.toNat, l⟩], tk1, _, _, _, _, _, _, rfl, by omega, by omega, by rw [hR]; simp, by simp; omega, by first | rfl | (push_cast; rfl), G1⟩
  · rw [if_neg hps] at hR
    rw [List.append_nil] at hR
    rw [hR]
    replace fx := Dum_eq
    (first | refine go ?_ | exact goC | skip); repeat' (first | refine gP ?_ | exact gPc | refine gN ?_ | exact gNc | (refine gI ?_ ?_ <;> intro hyp <;> first | refine goF ?_ | exact goFc | refine goT ?_ | exact goTc | skip))
    exact ⟨_, rfl, G.fr⟩
end Go.Proofs.YthcbcmpbipcibaaGreat

namespace Go.Proofs.YthcbcmpbipcibaaGreat
open Go Go.Abs Go.Gt
theorem within_v (n lo hi : Int) : PV F 22 [.int .i64 n, .int .i64 lo, .int .i64 hi] = some (.bool (decide (lo ≤ n ∧ n ≤ hi))) := by
  refine PV_wp (fn := c22) rfl ?_
  dsimp only [oT, oN, oV, oG, oW, c22]
  by_cases h1 : lo ≤ n
  · by_cases h2 : n ≤ hi
    · rw [decide_eq_true (And.intro h1 h2)]
      replace fx := Dum_eq
      (first | refine go ?_ | exact goC | skip); repeat' (first | refine gP ?_ | exact gPc | refine gN ?_ | exact gNc | (refine gI ?_ ?_ <;> intro hyp <;> first | refine goF ?_ | exact goFc | refine goT ?_ | exact goTc | skip))
      omega
    · rw [decide_eq_false (fun q => h2 q.2)]
      replace fx := Dum_eq
      (first | refine go ?_ | exact goC | skip); repeat' (first | refine gP ?_ | exact gPc | refine gN ?_ | exact gNc | (refine gI ?_ ?_ <;> intro hyp <;> first | refine goF ?_ | exact goFc | refine goT ?_ | exact goTc | skip))
      simpa using h2
  · rw [decide_eq_false (fun q => h1 q.1)]
    replace fx := Dum_eq
    (first | refine go ?_ | exact goC | skip); repeat' (first | refine gP ?_ | exact gPc | refine gN ?_ | exact gNc | (refine gI ?_ ?_ <;> intro hyp <;> first | refine goF ?_ | exact goFc | refine goT ?_ | exact goTc | skip))
theorem index_byte : ∀ (l : Bs) (c : UInt8), (c ∈ l ∧ 0 ≤ Lib.indexByte l c) ∨ (c ∉ l ∧ Lib.indexByte l c = -1)
  | [], c => .inr ⟨by simp, rfl⟩
  | b :: l, c => by
    by_cases hb : b = c
    · subst hb
      exact .inl ⟨by simp, by simp [Lib.indexByte]⟩
    · rcases index_byte l c with ⟨h1, h2⟩ | ⟨h1, h2⟩
      · refine .inl ⟨by simp [h1], ?_⟩
        simp only [Lib.indexByte]
        rw [if_neg (by simpa using hb)]
        split <;> first | (rename_i q; simp at q; omega) | omega
      · refine .inr ⟨by simp [h1, Ne.symm hb], ?_⟩
        simp only [Lib.indexByte]
        rw [if_neg (by simpa using hb), h2]
        rfl
theorem idx_c (s : Bs) (b : UInt8) (h : Heap) : CV F 49 [.str s, .int .u8 (b.toNat : Int)] h (fun v h' => v = .int .i64 (Lib.indexByte s b) ∧ h' = h) := by
  refine CV_hand (s := idxS) rfl (r := .int .i64 (Lib.indexByte s b)) (h' := h) ?_ ⟨rfl, rfl⟩
  simp only [idxS]
  have : (b.toNat : Int).toNat.toUInt8 = b := by simp
  rw [this]
theorem plain_v (s : Bs) (hl : s.length ≤ 1000000) : PV F 34 [.str s] = some (.bool (plainT s)) := by
  refine PV_wp (fn := c34) rfl ?_
  dsimp only [oT, oN, oV, oG, oW, c34]
  rw [show ([48, 49, 50, 51, 52, 53, 54, 55, 56, 57, 45, 35, 46, 124, 40, 41, 42, 63, 123, 125, 62, 47, 95, 126, 59, 58, 44, 61, 34, 64] : List UInt8) = reserved from rfl]
  replace fx := Dum_eq
  (first | refine go ?_ | exact goC | skip); repeat' (first | refine gP ?_ | exact gPc | refine gN ?_ | exact gNc | (refine gI ?_ ?_ <;> intro hyp <;> first | refine goF ?_ | exact goFc | refine goT ?_ | exact goTc | skip))
  refine w_loop (fun m vs h => ∃ (k : Nat) (x1 x2 x3 : AVal), m = s.length - k ∧ k ≤ s.length ∧ (∀ i, i < k → resB (nth s i) = false) ∧ vs = [.str s, .bool false, x1, .int .i64 (s.length : Int), .int .i64 (k : Int), x2, x3]) s.length
    ⟨0, _, _, _, rfl, by omega, fun i hi => by omega, rfl⟩ ?_
  rintro m vs h ⟨k, x1, x2, x3, rfl, hk, hz, rfl⟩
  by_cases hks : k < s.length
  · have hlt := (nth s k).toNat_lt
    have hno : resB (nth s k) = true → plainT s = false := by
      intro hr
      have : (s.all fun b => !resB b) = false := by
        rw [Bool.eq_false_iff]
        intro q
        have := List.all_eq_true.1 q _ (nth_mem hks)
        rw [hr] at this; simp at this
      simp [plainT, this]
    by_cases h33 : (nth s k).toNat < 33
    · have e : plainT s = false := hno (by simp [resB, h33])
      replace fx := @e
      (first | refine go ?_ | exact goC | skip); repeat' (first | refine gP ?_ | exact gPc | refine gN ?_ | exact gNc | (refine gI ?_ ?_ <;> intro hyp <;> first | refine goF ?_ | exact goFc | refine goT ?_ | exact goTc | skip))
    · replace fx := Dum_eq
      (first | refine go ?_ | exact goC | skip); repeat' (first | refine gP ?_ | exact gPc | refine gN ?_ | exact gNc | (refine gI ?_ ?_ <;> intro hyp <;> first | refine goF ?_ | exact goFc | refine goT ?_ | exact goTc | skip))
      refine CV_mono (idx_c reserved (nth s k) _) ?_
      rintro v h1 ⟨rfl, rfl⟩
      rcases index_byte reserved (nth s k) with ⟨i1, i2⟩ | ⟨i1, i2⟩
      · have e : plainT s = false := hno (by simp [resB, i1])
        replace fx := @e
        (first | refine go ?_ | exact goC | skip); repeat' (first | refine gP ?_ | exact gPc | refine gN ?_ | exact gNc | (refine gI ?_ ?_ <;> intro hyp <;> first | refine goF ?_ | exact goFc | refine goT ?_ | exact goTc | skip))
      · rw [i2]
        have hr : resB (nth s k) = false := by simp [resB, i1]; omega
        replace fx := Dum_eq
        (first | refine go ?_ | exact goC | skip); repeat' (first | refine gP ?_ | exact gPc | refine gN ?_ | exact gNc | (refine gI ?_ ?_ <;> intro hyp <;> first | refine goF ?_ | exact goFc | refine goT ?_ | exact goTc | skip))
        refine lp_n ⟨_, by omega, k + 1, _, _, _, rfl, by omega, fun i hi => ?_, by push_cast; rfl⟩
        by_cases e : i = k
        · rw [e]; exact hr
        · exact hz i (by omega)
  · have e : (s.all fun b => !resB b) = true := by
      rw [List.all_eq_true]
      intro x hx
      obtain ⟨i, hi, rfl⟩ := List.getElem_of_mem hx
      have := hz i (by omega)
      rw [nth_eq hi] at this
      simp [this]
    have e2 : plainT s = decide (1 ≤ s.length ∧ s.length ≤ 4) := by simp [plainT, e]
    by_cases h1 : s = []
    · subst h1
      rw [e2]
      replace fx := Dum_eq
      (first | refine go ?_ | exact goC | skip); repeat' (first | refine gP ?_ | exact gPc | refine gN ?_ | exact gNc | (refine gI ?_ ?_ <;> intro hyp <;> first | refine goF ?_ | exact goFc | refine goT ?_ | exact goTc | skip))
    · have h2 : 1 ≤ s.length := by
        cases s with
        | nil => exact absurd rfl h1
        | cons _ _ => simp
      by_cases h3 : s.length ≤ 4
      · rw [e2, decide_eq_true (And.intro h2 h3)]
        replace fx := @h1
        (first | refine go ?_ | exact goC | skip); repeat' (first | refine gP ?_ | exact gPc | refine gN ?_ | exact gNc | (refine gI ?_ ?_ <;> intro hyp <;> first | refine goF ?_ | exact goFc | refine goT ?_ | exact goTc | skip))
        omega
      · rw [e2, decide_eq_false (fun q => h3 q.2)]
        replace fx := @h1
        (first | refine go ?_ | exact goC | skip); repeat' (first | refine gP ?_ | exact gPc | refine gN ?_ | exact gNc | (refine gI ?_ ?_ <;> intro hyp <;> first | refine goF ?_ | exact goFc | refine goT ?_ | exact goTc | skip))
        simp
        omega
def esOf (a : List Ltr) (k : Nat) : List (Nat × AVal × AVal) := (List.range k).map fun i => (i, .str (nth a i).text, .int .i64 (i : Int))
theorem esOf_succ (a : List Ltr) (k : Nat) : esOf a (k + 1) = esOf a k ++ [(k, .str (nth a k).text, .int .i64 (k : Int))] := by simp [esOf, List.range_succ]
theorem esOf_len (a : List Ltr) (k : Nat) : (esOf a k).length = k := by simp [esOf]
theorem findE_app (kd : KD) (x : AVal) : ∀ (l1 l2 : List (Nat × AVal × AVal)) (n : Nat), findE kd x (l1 ++ l2) n = match findE kd x l1 n with
    | some r => some r
    | none => findE kd x l2 (n + l1.length)
  | [], l2, n => by simp [findE]
  | e :: l1, l2, n => by
    simp only [List.cons_append, findE]
    split
    · rfl
    · rw [findE_app kd x l1 l2 (n + 1), show n + 1 + l1.length = n + (e :: l1).length by simp; omega]
theorem keyS (t t' : Bs) : keyEq .str (.str t) (.str t') = decide (t = t') := by
  by_cases h : t = t'
  · subst h; simp [keyEq]
  · simp [keyEq, h]
theorem find_no (a : List Ltr) (t : Bs) : ∀ k, (∀ i, i < k → (nth a i).text ≠ t) → findE .str (.str t) (esOf a k) 0 = none
  | 0, _ => rfl
  | k + 1, h => by
    rw [esOf_succ, findE_app, find_no a t k (fun i hi => h i (by omega))]
    simp only [findE, keyS]
    rw [decide_eq_false (fun e => h k (by omega) e.symm)]
    rfl
theorem find_yes (a : List Ltr) (t : Bs) {i : Nat} (ht : (nth a i).text = t) (hf : ∀ j, j < i → (nth a j).text ≠ t) : ∀ k, i < k → findE .str (.str t) (esOf a k) 0 = some (i, .int .i64 (i : Int))
  | 0, h => by omega
  | k + 1, h => by
    rw [esOf_succ, findE_app]
    by_cases e : i = k
    · subst e
      rw [find_no a t i hf]
      simp only [findE, keyS, ht, decide_true, if_true, esOf_len, Nat.zero_add]
    · rw [find_yes a t ht hf k (by omega)]
def Dif (a : List Ltr) (k : Nat) : Prop := ∀ i, i < k → ∀ j, j < i → (nth a j).text ≠ (nth a i).text
def MapT (a : List Ltr) (k c : Nat) (es : List (Nat × AVal × AVal)) : Prop := (Dif a k ∧ c = k ∧ es = esOf a k) ∨ (¬ Dif a k ∧ es.length < k)
theorem mput_len (kd : KD) (k v : AVal) (c : Nat) (es : List (Nat × AVal × AVal)) : (mput kd k v c es).2.length ≤ es.length + 1 := by
  unfold mput
  split <;> simp
theorem MapT.put {a : List Ltr} {k c : Nat} {es : List (Nat × AVal × AVal)} (m : MapT a k c es) : MapT a (k + 1) (mput .str (.str (nth a k).text) (.int .i64 (k : Int)) c es).1 (mput .str (.str (nth a k).text) (.int .i64 (k : Int)) c es).2 := by
  rcases m with ⟨h1, rfl, rfl⟩ | ⟨h1, h2⟩
  · by_cases hd : ∀ j, j < c → (nth a j).text ≠ (nth a c).text
    · left
      have hf := find_no a (nth a c).text c hd
      refine ⟨fun i hi j hj => ?_, ?_, ?_⟩
      · by_cases e : i = c
        · subst e; exact hd j hj
        · exact h1 i (by omega) j hj
      · simp only [mput, hf]
      · simp only [mput, hf, esOf_succ]
    · right
      refine ⟨fun q => hd (fun j hj => q c (by omega) j hj), ?_⟩
      have : ∃ j, j < c ∧ (nth a j).text = (nth a c).text := Classical.byContradiction fun no => hd fun j hj e => no ⟨j, hj, e⟩
      obtain ⟨j, hj, e⟩ := this
      have hf := find_yes a (nth a c).text e (fun j2 hj2 e2 => h1 j hj j2 hj2 (e2.trans e.symm)) c hj
      simp only [mput, hf, List.length_modify, esOf_len]
      omega
  · right
    refine ⟨fun q => h1 (fun i hi j hj => q i (by omega) j hj), ?_⟩
    have := mput_len .str (.str (nth a k).text) (.int .i64 (k : Int)) c es
    omega
theorem mk1 (n : Int) (h : Heap) : evalX (.mkmap .str) [.int .i64 n] h = some (.mp h.next, h.push (.map .str 0 [])) := _root_.id rfl
theorem plain_int (n : Int) : plain (.int .i64 n) = true := rfl
theorem index_c (a : List Ltr) (u : Tok) (hu : Pt u) (ha : a.length ≤ 1000000) (ht : ∀ x ∈ a, x.text.length ≤ 1000000) (h0 : Heap) :
    CV F 25 [.sl (a.map Ltr.val) u] h0 (fun v h' => Fr (fun _ => False) h0 h' ∧ (validA a = false → v = .nilmp) ∧ (validA a = true → ∃ q c, v = .mp q ∧ h0.next ≤ q ∧ h'.get q = some (.map .str c (esOf a a.length)))) := by
  refine CV_wp (fn := c25) rfl ?_
  dsimp only [oT, oN, oV, oG, oW, c25]
  have w0 := within_v (a.length : Int) 1 60
  by_cases hl : 1 ≤ (a.length : Int) ∧ (a.length : Int) ≤ 60
  · rw [decide_eq_true hl] at w0
    replace fx := aI @w0 @mk1
    (first | refine go ?_ | exact goC | skip); repeat' (first | refine gP ?_ | exact gPc | refine gN ?_ | exact gNc | (refine gI ?_ ?_ <;> intro hyp <;> first | refine goF ?_ | exact goFc | refine goT ?_ | exact goTc | skip))
    have fr0 : Fr (fun _ => False) h0 (h0.push (.map .str 0 [])) := (Fr.refl _ _).push _
    have gm0 : (h0.push (.map .str 0 [])).get h0.next = some (.map .str 0 []) := get_push_eq rfl
    generalize h0.push (.map .str 0 []) = h1 at fr0 gm0 ⊢
    generalize hq : h0.next = q at gm0 ⊢
    refine w_loop (fun m vs h => ∃ (k c : Nat) (es : List (Nat × AVal × AVal)) (x1 x2 x3 x4 x5 x6 x7 : AVal), m = a.length - k ∧ k ≤ a.length ∧ (∀ i, i < k → okL a i = true) ∧ MapT a k c es ∧ vs = [.sl (a.map Ltr.val) u, .nilmp, .mp q, x1, x2, x3, .sl (a.map Ltr.val) u, .int .i64 (a.length : Int), .int .i64 (k : Int), x4, x5, x6, x7] ∧
        Fr (fun _ => False) h0 h ∧ h.get q = some (.map .str c es)) a.length
      ⟨0, 0, [], _, _, _, _, _, _, _, rfl, by omega, fun i hi => by omega, .inl ⟨fun i hi => by omega, rfl, rfl⟩, rfl, fr0, gm0⟩ ?_
    rintro m vs h ⟨k, c, es, x1, x2, x3, x4, x5, x6, x7, rfl, hk, hz, hm, rfl, G0, gm⟩
    by_cases hks : k < a.length
    · have htk := ht _ (nth_mem hks)
      have rp := plain_v (nth a k).text htk
      have w1 := within_v (nth a k).base 0 ((a.length : Int) - 1)
      have w2 := within_v (nth a k).mark 0 15
      have w3 := within_v (nth a k).cs 0 1
      have w4 := within_v (nth a k).width 1 1000
      have G : Fr (fun _ => False) h0 (h.push (Obj.row true (typed 27) true (nth a k).cells)) := G0.push _
      cases hok : okL a k with
      | true =>
        have hok2 : plainT (nth a k).text = true ∧ OkN a k := by simpa only [okL, Bool.and_eq_true, decide_eq_true_eq] using hok
        obtain ⟨o0, o1, o2, o3, o4, o5, o6, o7, o8, o9, o10⟩ := hok2
        rw [o0] at rp
        rw [decide_eq_true (by omega)] at w1 w2 w3 w4
        have gm1 : (h.push (Obj.row true (typed 27) true (nth a k).cells)).get q = some (.map .str c es) := get_push_old gm
        have gx1 : (h.push (Obj.row true (typed 27) true (nth a k).cells)).get h.next = some (Obj.row true (typed 27) true (nth a k).cells) := get_push_eq rfl
        have hpi := plain_int (k : Int)
        replace fx := aI @rp (aI @w1 (aI @w2 (aI @w3 (aI @w4 (aI @ltL (aI @ltT (aI @ltS (aI @ltN (aI @lt0 (aI @lt1 (aI @lt2 (aI @lt3 (aI @lt4 (aI @lv1 (aI @lvN (aI @lvD (aI @gm1 (aI @gx1 @hpi))))))))))))))))))
        (first | refine go ?_ | exact goC | skip); repeat' (first | refine gP ?_ | exact gPc | refine gN ?_ | exact gNc | (refine gI ?_ ?_ <;> intro hyp <;> first | refine goF ?_ | exact goFc | refine goT ?_ | exact goTc | skip))
        all_goals
          exact lp_n ⟨_, by omega, k + 1, _, _, _, _, _, _, _, _, _, rfl, by omega, fun i hi => by
            by_cases e : i = k
            · rw [e]; exact hok
            · exact hz i (by omega), hm.put, by push_cast; rfl, G.put (.inr (by omega)) _, get_put_old gm1⟩
      | false =>
        cases hp : plainT (nth a k).text with
        | false =>
          rw [hp] at rp
          replace fx := aI @rp (aI @w1 (aI @w2 (aI @w3 (aI @w4 (aI @ltL (aI @ltT (aI @ltS (aI @ltN (aI @lt0 (aI @lt1 (aI @lt2 (aI @lt3 (aI @lt4 (aI @lv1 (aI @lvN @lvD)))))))))))))))
          (first | refine go ?_ | exact goC | skip); repeat' (first | refine gP ?_ | exact gPc | refine gN ?_ | exact gNc | (refine gI ?_ ?_ <;> intro hyp <;> first | refine goF ?_ | exact goFc | refine goT ?_ | exact goTc | skip))
          exact ⟨G, fun _ => by first | rfl | trivial, fun q => by rw [valid_no hks hok] at q; simp at q⟩
        | true =>
          rw [hp] at rp
          have hno := okL_false hok hp
          by_cases c1 : 0 ≤ (nth a k).base ∧ (nth a k).base ≤ (a.length : Int) - 1
          rotate_left
          · rw [decide_eq_false c1] at w1
            clear hno
            replace fx := aI @rp (aI @w1 (aI @w2 (aI @w3 (aI @w4 (aI @ltL (aI @ltT (aI @ltS (aI @ltN (aI @lt0 (aI @lt1 (aI @lt2 (aI @lt3 (aI @lt4 (aI @lv1 (aI @lvN @lvD)))))))))))))))
            (first | refine go ?_ | exact goC | skip); repeat' (first | refine gP ?_ | exact gPc | refine gN ?_ | exact gNc | (refine gI ?_ ?_ <;> intro hyp <;> first | refine goF ?_ | exact goFc | refine goT ?_ | exact goTc | skip))
            exact ⟨G, fun _ => by first | rfl | trivial, fun q => by rw [valid_no hks hok] at q; simp at q⟩
          rw [decide_eq_true c1] at w1
          by_cases c3 : ¬ (nth a (nth a k).base.toNat).base = (nth a k).base
          · clear hno
            replace fx := aI @rp (aI @w1 (aI @w2 (aI @w3 (aI @w4 (aI @ltL (aI @ltT (aI @ltS (aI @ltN (aI @lt0 (aI @lt1 (aI @lt2 (aI @lt3 (aI @lt4 (aI @lv1 (aI @lvN @lvD)))))))))))))))
            (first | refine go ?_ | exact goC | skip); repeat' (first | refine gP ?_ | exact gPc | refine gN ?_ | exact gNc | (refine gI ?_ ?_ <;> intro hyp <;> first | refine goF ?_ | exact goFc | refine goT ?_ | exact goTc | skip))
            exact ⟨G, fun _ => by first | rfl | trivial, fun q => by rw [valid_no hks hok] at q; simp at q⟩
          by_cases c4 : 0 ≤ (nth a k).mark ∧ (nth a k).mark ≤ 15
          rotate_left
          · rw [decide_eq_false c4] at w2
            clear hno
            replace fx := aI @rp (aI @w1 (aI @w2 (aI @w3 (aI @w4 (aI @ltL (aI @ltT (aI @ltS (aI @ltN (aI @lt0 (aI @lt1 (aI @lt2 (aI @lt3 (aI @lt4 (aI @lv1 (aI @lvN @lvD)))))))))))))))
            (first | refine go ?_ | exact goC | skip); repeat' (first | refine gP ?_ | exact gPc | refine gN ?_ | exact gNc | (refine gI ?_ ?_ <;> intro hyp <;> first | refine goF ?_ | exact goFc | refine goT ?_ | exact goTc | skip))
            exact ⟨G, fun _ => by first | rfl | trivial, fun q => by rw [valid_no hks hok] at q; simp at q⟩
          rw [decide_eq_true c4] at w2
          by_cases c6 : 0 ≤ (nth a k).cs ∧ (nth a k).cs ≤ 1
          rotate_left
          · rw [decide_eq_false c6] at w3
            clear hno
            replace fx := aI @rp (aI @w1 (aI @w2 (aI @w3 (aI @w4 (aI @ltL (aI @ltT (aI @ltS (aI @ltN (aI @lt0 (aI @lt1 (aI @lt2 (aI @lt3 (aI @lt4 (aI @lv1 (aI @lvN @lvD)))))))))))))))
            (first | refine go ?_ | exact goC | skip); repeat' (first | refine gP ?_ | exact gPc | refine gN ?_ | exact gNc | (refine gI ?_ ?_ <;> intro hyp <;> first | refine goF ?_ | exact goFc | refine goT ?_ | exact goTc | skip))
            exact ⟨G, fun _ => by first | rfl | trivial, fun q => by rw [valid_no hks hok] at q; simp at q⟩
          rw [decide_eq_true c6] at w3
          by_cases c8 : 1 ≤ (nth a k).width ∧ (nth a k).width ≤ 1000
          rotate_left
          · rw [decide_eq_false c8] at w4
            clear hno
            replace fx := aI @rp (aI @w1 (aI @w2 (aI @w3 (aI @w4 (aI @ltL (aI @ltT (aI @ltS (aI @ltN (aI @lt0 (aI @lt1 (aI @lt2 (aI @lt3 (aI @lt4 (aI @lv1 (aI @lvN @lvD)))))))))))))))
            (first | refine go ?_ | exact goC | skip); repeat' (first | refine gP ?_ | exact gPc | refine gN ?_ | exact gNc | (refine gI ?_ ?_ <;> intro hyp <;> first | refine goF ?_ | exact goFc | refine goT ?_ | exact goTc | skip))
            exact ⟨G, fun _ => by first | rfl | trivial, fun q => by rw [valid_no hks hok] at q; simp at q⟩
          rw [decide_eq_true c8] at w4
          have c10 : (nth a k).base = (k : Int) ∧ 0 < (nth a k).mark + (nth a k).cs := by
            refine Classical.byContradiction fun q => hno ?_
            unfold OkN
            omega
          obtain ⟨c11, c12⟩ := c10
          clear hno
          replace fx := aI @rp (aI @w1 (aI @w2 (aI @w3 (aI @w4 (aI @ltL (aI @ltT (aI @ltS (aI @ltN (aI @lt0 (aI @lt1 (aI @lt2 (aI @lt3 (aI @lt4 (aI @lv1 (aI @lvN @lvD)))))))))))))))
          (first | refine go ?_ | exact goC | skip); repeat' (first | refine gP ?_ | exact gPc | refine gN ?_ | exact gNc | (refine gI ?_ ?_ <;> intro hyp <;> first | refine goF ?_ | exact goFc | refine goT ?_ | exact goTc | skip))
          exact ⟨G, fun _ => by first | rfl | trivial, fun q => by rw [valid_no hks hok] at q; simp at q⟩
    · have e : k = a.length := by omega
      subst e
      have hml : evalX .mlen [.mp q] h = some (.int .i64 (es.length : Int), h) := by simp only [evalX, gm]
      rcases hm with ⟨m1, rfl, rfl⟩ | ⟨m1, m2⟩
      · have hv : validA a = true := valid_yes (by omega) hz m1
        rw [esOf_len] at hml
        replace fx := @hml
        (first | refine go ?_ | exact goC | skip); repeat' (first | refine gP ?_ | exact gPc | refine gN ?_ | exact gNc | (refine gI ?_ ?_ <;> intro hyp <;> first | refine goF ?_ | exact goFc | refine goT ?_ | exact goTc | skip))
        exact ⟨G0, fun e => by rw [hv] at e; simp at e, fun _ => ⟨q, _, rfl, by omega, gm⟩⟩
      · have hv : validA a = false := by
          rw [Bool.eq_false_iff]
          intro e
          obtain ⟨_, _, _, hnd⟩ := valid_facts e
          exact m1 fun i hi j hj he => by have := texts_inj hnd (by omega) hi he; omega
        replace fx := @hml
        (first | refine go ?_ | exact goC | skip); repeat' (first | refine gP ?_ | exact gPc | refine gN ?_ | exact gNc | (refine gI ?_ ?_ <;> intro hyp <;> first | refine goF ?_ | exact goFc | refine goT ?_ | exact goTc | skip))
        exact ⟨G0, fun _ => by first | rfl | trivial, fun e => by rw [hv] at e; simp at e⟩
  · rw [decide_eq_false hl] at w0
    have e : validA a = false := by
      rw [validA, decide_eq_false (by omega), Bool.false_and]
    replace fx := @w0
    (first | refine go ?_ | exact goC | skip); repeat' (first | refine gP ?_ | exact gPc | refine gN ?_ | exact gNc | (refine gI ?_ ?_ <;> intro hyp <;> first | refine goF ?_ | exact goFc | refine goT ?_ | exact goTc | skip))
    exact ⟨Fr.refl _ _, fun _ => by first | rfl | trivial, fun q => by rw [e] at q; simp at q⟩
end Go.Proofs.YthcbcmpbipcibaaGreat
