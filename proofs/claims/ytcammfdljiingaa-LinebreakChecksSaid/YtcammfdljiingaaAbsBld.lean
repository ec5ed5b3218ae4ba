/-
  strings.Builder's copyCheck and String, told by hand for the abstract machine and proved of the model's functions.
-/
import Derived.Test.YtcammfdljiingaaAbsSound
import Derived.Shelf.Strings.Builder1
set_option linter.unusedSimpArgs false
set_option linter.unusedVariables false
namespace Go.Abs

/-- (*strings.Builder).copyCheck. -/
def copyCheckS (ty : Nat) (args : List AVal) (h : Heap) : Option (AVal × Heap) :=
  match args with
  | [.ptr id 0] => match h.get id with
    | some (.row true s ag [c, d]) =>
      if s = typed ty then
        match c with
        | .nilptr => some (.tup [], h.put id (some (.row true s ag [.ptr id 0, d])))
        | .ptr j 0 => if j = id then some (.tup [], h) else none
        | _ => none
      else none
    | _ => none
  | _ => none

def bytesOf : List AVal → Option (List UInt8)
  | [] => some []
  | .int .u8 n :: xs => if 0 ≤ n ∧ n < 256 then (bytesOf xs).map (UInt8.ofNat n.toNat :: ·) else none
  | _ :: _ => none

/-- (*strings.Builder).String. -/
def stringS (bty : Nat) (args : List AVal) (h : Heap) : Option (AVal × Heap) :=
  match args with
  | [.ptr id 0] => match h.get id with
    | some (.row true s ag [c, d]) =>
      match d with
      | .sl [] .nil => some (.str [], h)
      | .sl (x :: xs) (.own j 1) => match h.get j with
        | some (.tok b) => if b = bty ∧ (x :: xs).length ≤ 9223372036854775807 then (bytesOf (x :: xs)).map (fun l => (.str l, h)) else none
        | _ => none
      | _ => none
    | _ => none
  | _ => none

theorem bytesOf_ok : ∀ {xs : List AVal} {l : List UInt8}, bytesOf xs = some l → xs.length = l.length ∧ flat xs = xs ∧ ∀ (k : Nat) (x : UInt8), l[k]? = some x → xs[k]? = some (.int .u8 x.toNat)
  | [], l, e => by simp [bytesOf] at e; subst e; exact ⟨rfl, rfl, by simp⟩
  | x :: xs, l, e => by
    cases x with
    | int k n =>
      cases k with
      | u8 =>
        simp only [bytesOf] at e
        split at e
        · rename_i hn
          simp only [Option.map_eq_some_iff] at e
          obtain ⟨l', e', rfl⟩ := e
          obtain ⟨h1, h2, h3⟩ := bytesOf_ok e'
          refine ⟨by simp [h1], by simp only [flat, List.flatMap_cons, AVal.cells] at h2 ⊢; rw [h2]; rfl, fun k x hk => ?_⟩
          cases k with
          | zero =>
            simp only [List.getElem?_cons_zero, Option.some.injEq] at hk ⊢
            subst hk
            congr 1
            have : (UInt8.ofNat n.toNat).toNat = n.toNat := by rw [UInt8.toNat_ofNat']; exact Nat.mod_eq_of_lt (by omega)
            rw [this]; omega
          | succ k => simpa using h3 k x (by simpa using hk)
        · simp at e
      | _ => simp [bytesOf] at e
    | _ => simp [bytesOf] at e

variable {P : Program}

theorem freeze_cells (w : World) (g n : Nat) (c : Array Value) (e : TypeId) (f : Nat × Nat) (h : w.heap[g]? = some (.cells c e f)) (hn : n ≠ 0) :
    ∃ f', (w.freeze ⟨g, 0, none⟩ n).heap[g]? = some (.cells c e f') ∧ f'.2 ≤ max f.2 n := by
  obtain ⟨lo, hi⟩ := f
  refine ⟨if lo == hi then (0, 0 + n) else (min lo 0, max hi (0 + n)), ?_, ?_⟩
  · unfold World.freeze
    rw [if_neg hn]
    simp [Array.getElem?_modify, h]
  · split <;> simp <;> omega

/-- Freezing bytes below the place where a token's block grows. -/
theorem freeze_tok {w : World} {G : Ghost} {h : Heap} (H : HRel w G h) {j b n : Nat} (hj : h.get j = some (.tok b)) (hn : n ≠ 0) (ht : n ≤ G.tip j) :
    Ext w G h (w.freeze ⟨G.loc j, 0, none⟩ n) G h ∧ HRel (w.freeze ⟨G.loc j, 0, none⟩ n) G h := by
  obtain ⟨t1, ⟨m, t2, t2'⟩, t3⟩ := H.obj j _ hj
  obtain ⟨c, f, hc⟩ : ∃ c f, w.heap[G.loc j]? = some (.cells c b f) := by
    unfold World.shape? at t2
    split at t2
    · rename_i c e f hc
      simp at t2
      exact ⟨c, f, by rw [hc, t2.1]⟩
    · simp at t2
  obtain ⟨f', hf, hf'⟩ := freeze_cells w (G.loc j) n c b f hc hn
  have hother : ∀ k, k ≠ G.loc j → (w.freeze ⟨G.loc j, 0, none⟩ n).heap[k]? = w.heap[k]? := fun k hk => by
    unfold World.freeze; rw [if_neg hn]
    simp [Array.getElem?_modify, Ne.symm hk]
  have hcell : ∀ k a, (w.freeze ⟨G.loc j, 0, none⟩ n).cell? ⟨k, a, none⟩ = w.cell? ⟨k, a, none⟩ := fun k a => by
    by_cases hk : k = G.loc j
    · subst hk; simp [World.cell?, hf, hc]
    · simp [World.cell?, hother k hk]
  have hshape : ∀ k, (w.freeze ⟨G.loc j, 0, none⟩ n).shape? k = w.shape? k := fun k => by
    by_cases hk : k = G.loc j
    · subst hk; simp [World.shape?, hf, hc]
    · simp [World.shape?, hother k hk]
  have hsize : (w.freeze ⟨G.loc j, 0, none⟩ n).heap.size = w.heap.size := by unfold World.freeze; rw [if_neg hn]; simp
  have hX : Ext w G h (w.freeze ⟨G.loc j, 0, none⟩ n) G h :=
    ⟨by unfold World.freeze; rw [if_neg hn], by unfold World.freeze; rw [if_neg hn], by unfold World.freeze; rw [if_neg hn], Nat.le_of_eq hsize.symm,
      fun k _ ho => ⟨hother k (fun e => ho ⟨j, _, hj, e.symm⟩), rfl⟩, fun k a _ hs => ⟨hcell k a, hs⟩, fun k _ => hshape k, Nat.le_refl _, fun _ _ => ⟨rfl, rfl⟩, fun _ _ ho => ho⟩
  refine ⟨hX, H.n_eq, fun id o ho => by rw [hsize]; exact H.lt id o ho, fun id o ho => ?_, H.inj⟩
  by_cases hid : id = j
  · subst hid
    rw [hj] at ho
    obtain rfl := Option.some.inj ho
    refine ⟨t1, ⟨m, by rw [hshape]; exact t2, t2'⟩, ?_⟩
    have h3 : f.2 ≤ G.tip id := by simpa [fzr, hc] using t3
    simp only [fzr, hf]
    omega
  · have hne : G.loc id ≠ G.loc j := fun e => hid (H.inj id j o _ ho hj e)
    exact OkObj.mono hX (by rw [H.n_eq]; exact Heap.get_lt ho) (H.lt id o ho) (hother _ hne) rfl (H.obj id o ho)

section
open Go.Shelf Go.Proofs
variable {ρ : Ren}

set_option maxHeartbeats 2000000 in
set_option maxRecDepth 100000 in
theorem string_walk (L : Lays.n169 P ρ) (X : Builder.Extra P ρ) (b : Nat) (ao : Option Addr) (n cap : Nat) (q : Option Addr) (s : ByteArray) (w w2 : World) (c1' : w.cell? ⟨b, 1, none⟩ = some (.slice ao n cap))
    (hSD : (Builtin.unsafeSliceData_ #[(ρ.t 37)] (ρ.t 127) #[.slice ao n cap]).run P w.drew = .ok (.pointer q) w.drew)
    (hUS : (Builtin.unsafeString_ #[(ρ.t 127), (ρ.t 3)] (ρ.t 9) #[.pointer q, .int .i64 n]).run P w.drew = .ok (.string s) w2) :
    Calls P (ρ.f 169) #[.pointer (some ⟨b, 0, none⟩)] w fun e w' => e = .returned (.string s) ∧ w' = w2 := by
  have c1 : w.drew.cell? ⟨b, 1, none⟩ = some (.slice ao n cap) := c1'
  have mixed := L.mixed
  have t72 := L.t72; have a72 := L.a72; have z72 := L.z72; have v72 := L.v72; have u72 := run_underlying L.t72
  have t70 := L.t70; have a70 := L.a70; have z70 := L.z70; have v70 := L.v70; have u70 := run_underlying L.t70
  have t37 := L.t37; have a37 := L.a37; have z37 := L.z37; have v37 := L.v37; have u37 := run_underlying L.t37
  have t127 := L.t127; have a127 := L.a127; have z127 := L.z127; have v127 := L.v127; have u127 := run_underlying L.t127
  have t3 := L.t3; have a3 := L.a3; have z3 := L.z3; have v3 := L.v3; have u3 := run_underlying L.t3
  have t9 := L.t9; have a9 := L.a9; have z9 := L.z9; have v9 := L.v9; have u9 := run_underlying L.t9
  have t5 := X.t5; have a5 := X.a5; have z5 := X.z5; have v5 := X.v5; have u5 := run_underlying X.t5
  go_enter L.f169, Body.n169_ntmps ρ
  go_wp2
  go_region_o
  all_goals (go_wp2; go_ret; exact ⟨rfl, rfl⟩)

theorem string_ok (L : Lays.n169 P ρ) (X : Builder.Extra P ρ) : HandOk P (ρ.f 169) (stringS (ρ.t 5)) := by
  refine ⟨fun args h r h' e w G cargs H hp => ?_, enters_of L.f169 (by kernel_rfl) rfl⟩
  unfold stringS at e
  split at e
  · rename_i id
    split at e
    · rename_i s ag c d hg
      have hlen := hp.len
      obtain ⟨v0, hv0⟩ : ∃ v, cargs = #[v] := by
        obtain ⟨l⟩ := cargs
        match l, hlen with
        | [v], _ => exact ⟨v, rfl⟩
      subst hv0
      have rv := hp.rel 0 v0 (.ptr id 0) (by simp) (by simp)
      cases rv with
      | ptr _ _ hid =>
        obtain ⟨o1, o2, o3, o4, o5⟩ := H.obj id _ hg
        obtain ⟨u, hu, ru⟩ := o2 1 d (by simp)
        split at e
        · -- the empty buffer
          simp only [Option.some.injEq, Prod.mk.injEq] at e
          obtain ⟨rfl, rfl⟩ := e
          cases ru with
          | sl _ _ _ _ _ _ _ _ _ _ _ _ _ _ hnn => exact absurd rfl hnn
          | nilsl =>
            refine (string_walk L X (G.loc id) none 0 0 none .empty w w.drew hu rfl (Lib.run_unsafeString_none w.drew _ _ _ none)).mono ?_
            rintro e w' ⟨rfl, rfl⟩
            exact ⟨_, G, rfl, Ext.of_heap ⟨rfl, rfl, rfl, rfl⟩, HRel.of_heap (w := w) ⟨rfl, rfl, rfl, rfl⟩ H, .str .empty⟩
        · -- bytes with their right
          rename_i x xs j
          split at e
          · rename_i tb hj
            split at e
            · rename_i hcond
              obtain ⟨rfl, hmax⟩ := hcond
              simp only [Option.map_eq_some_iff] at e
              obtain ⟨l, hl, e⟩ := e
              simp only [Prod.mk.injEq] at e
              obtain ⟨rfl, rfl⟩ := e
              obtain ⟨b1, b2, b3⟩ := bytesOf_ok hl
              cases ru with
              | sl b off cap sz0 _ _ u0 h0 h1 h2 h3 h4 h5 hcp hnn ho =>
                obtain ⟨k1, k0, k2, k3, k4, eT, nT, k5, k6⟩ := ho j 1 rfl
                subst k1; subst k3; subst k0
                obtain ⟨t1, ⟨m, t2, t2'⟩, t3⟩ := H.obj j _ hj
                have hne : l ≠ [] := by intro e0; rw [e0] at b1; simp at b1
                have hl0 : l.length ≠ 0 := by simpa using hne
                rw [k4] at t2'
                have hcells : P.cellsOf (ρ.t 5) = 1 := X.cellsByte
                have hw : w.drew.shape? (G.loc j) = some (ρ.t 5, m) := t2
                rw [b1] at hmax t2' hcp
                have hUS := Lib.run_unsafeString_row (P := P) w.drew (ρ.t 127) (ρ.t 3) (ρ.t 9) (ρ.t 5) L.t127 hcells (G.loc j) m hw l hne (by omega) hmax (fun k y hk => by
                  have hx := b3 k y hk
                  have hc := h1 k _ (by rw [b2]; exact hx)
                  have hr := h2 k _ (by rw [b2]; exact hx)
                  cases hu' : u0 k with
                  | int kk nn =>
                    rw [hu'] at hr hc
                    cases hr
                    have : (⟨G.loc j, 0, none⟩ : Addr).add k = ⟨G.loc j, k, none⟩ := by unfold Addr.add; by_cases hk0 : k = 0 <;> simp [hk0]
                    rw [this]
                    rw [Nat.zero_add] at hc
                    exact hc
                  | _ => rw [hu'] at hr; cases hr)
                obtain ⟨z1, z2⟩ := freeze_tok (w := w.drew) (HRel.of_heap (w := w) ⟨rfl, rfl, rfl, rfl⟩ H) hj hl0 (by omega)
                refine (string_walk L X (G.loc id) (some ⟨G.loc j, 0, none⟩) l.length cap (some ⟨G.loc j, 0, none⟩) ⟨l.toArray⟩ w _ (by rw [← b1]; exact hu) (Lib.run_unsafeSliceData_row _ _ _ _ _ _ (by omega)) hUS).mono ?_
                rintro e w' ⟨rfl, rfl⟩
                exact ⟨_, G, rfl, z1.drew, z2, .str ⟨l.toArray⟩⟩
            · simp at e
          · simp at e
        · simp at e
    · simp at e
  · simp at e

end
theorem copyCheck_ok {f ty : Nat} (hen : ∀ (args : Array Value) (w : World), (callFunc f args).run P w = .ok (.enter f args) w)
    (hU : ∀ (b : Nat) (w : World), w.cell? ⟨b, 0, none⟩ = some (.pointer (some ⟨b, 0, none⟩)) → Calls P f #[.pointer (some ⟨b, 0, none⟩)] w fun e w' => e = .returned (.tuple #[]) ∧ w' = w)
    (hF : ∀ (b : Nat) (w : World), w.cell? ⟨b, 0, none⟩ = some (.pointer none) → w.shape? b = some (ty, 2) → w.frozen? ⟨b, 0, none⟩ = false →
      Calls P f #[.pointer (some ⟨b, 0, none⟩)] w fun e w' => e = .returned (.tuple #[]) ∧ w' = w.setCell ⟨b, 0, none⟩ (.pointer (some ⟨b, 0, none⟩))) :
    HandOk P f (copyCheckS ty) := by
  refine ⟨fun args h r h' e w G cargs H hp => ?_, hen⟩
  unfold copyCheckS at e
  split at e
  · rename_i id
    split at e
    · rename_i s ag c d hg
      have hlen := hp.len
      obtain ⟨v0, hv0⟩ : ∃ v, cargs = #[v] := by
        obtain ⟨l⟩ := cargs
        match l, hlen with
        | [v], _ => exact ⟨v, rfl⟩
      subst hv0
      have rv := hp.rel 0 v0 (.ptr id 0) (by simp) (by simp)
      cases rv with
      | ptr _ _ hid =>
        obtain ⟨o1, o2, o3, o4, o5⟩ := H.obj id _ hg
        obtain ⟨u, hu, ru⟩ := o2 0 c (by simp)
        split at e
        · rename_i hs
          subst hs
          obtain ⟨eT, nT, hsh, hn, hT⟩ := o4
          obtain ⟨rfl, rfl⟩ := hT ty rfl
          split at e
          · -- fresh
            simp only [Option.some.injEq, Prod.mk.injEq] at e
            obtain ⟨rfl, rfl⟩ := e
            cases ru with
            | nilptr =>
              refine (hF (G.loc id) w hu hsh (o5 rfl 0 _ _ hsh (by simp))).mono ?_
              rintro e w' ⟨rfl, rfl⟩
              have hw := setCell_wrote (v := .pointer (some ⟨G.loc id, 0, none⟩)) hu
              obtain ⟨G', x1, x2⟩ := write_row H (xs := [.ptr id 0]) hg hw rfl (fun k v x hv hx => by
                cases k with
                | zero => simp at hv hx; subst hv; subst hx; exact .ptr id 0 hid
                | succ k => simp at hv) (by simp [AVal.one]) (by simp)
              exact ⟨_, G', rfl, x1, x2, .tup #[] [] rfl (by simp)⟩
          · -- used
            rename_i j
            split at e
            · rename_i hj
              subst hj
              simp only [Option.some.injEq, Prod.mk.injEq] at e
              obtain ⟨rfl, rfl⟩ := e
              cases ru with
              | ptr _ _ hj =>
                refine (hU _ w hu).mono ?_
                rintro e w' ⟨rfl, rfl⟩
                exact ⟨_, G, rfl, Ext.refl _ _ _, H, .tup #[] [] rfl (by simp)⟩
            · simp at e
          · simp at e
        · simp at e
    · simp at e
  · simp at e

end Go.Abs
