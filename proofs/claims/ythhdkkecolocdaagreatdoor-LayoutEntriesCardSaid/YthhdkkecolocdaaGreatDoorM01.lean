/-
  Merged from AbsOp4 AbsOp5 AbsOp6 AbsOp7 AbsOp8 AbsOp9 AbsDisp AbsBeq AbsDraw: One operation of the model does what the abstract machine says: new variables, stores, literals, aggregates.
-/
import Derived.Test.YthhdkkecolocdaaGreatDoorM00
import Derived.Laws.Tables
import Derived.IntWalk
import Derived.Laws.IdiomStrings
import Derived.Laws.BytesArg
import Derived.Laws.IdiomRangeMap
set_option linter.unusedSimpArgs false
set_option linter.unusedVariables false
set_option linter.defProp false
set_option linter.constructorNameAsVariable false
/-
 One operation of the model does what the abstract machine says: new variables, stores, literals, aggregates.
-/
namespace Go.Abs
section
variable {P:Program} {o:Oper} {a:Act} {w:World} {G:Ghost} {h:Heap} {c:Operand→Option Opd} {ev:Opd→AVal} {r:AVal} {h':Heap}
structure Pts (w:World) (G:Ghost) (cs:Array Value) (asx:List AVal):Prop where
 len:cs.size=asx.length
 rel:∀ (k:Nat) (c:Value) (a:AVal),cs[k]?=some c→asx[k]?=some a→VRel w G c a
theorem cells_rel {v:Value} {x:AVal} (r:VRel w G v x) (h1:x.cells.all AVal.one=true):Pts w G v.cells x.cells:=by
 cases x with
 | agg cs=>cases r with
   | agg asx _ hl hr h4=>exact ⟨hl,hr⟩
 | tup cs=>simp [AVal.cells,AVal.one] at h1
 | bad=>simp [AVal.cells,AVal.one] at h1
 | rp cs=>simp [AVal.cells,AVal.one] at h1
 | _ =>
   have hc:=(r.one rfl).2
   rw [hc]
   refine ⟨rfl,fun k c a hk ha=>?_⟩
   cases k with
   | zero=>simp [AVal.cells] at hk ha;subst hk;subst ha;exact r
   | succ k=>simp at hk
theorem setCells_len:∀ (xs cs:List AVal) (i:Nat),(setCells cs i xs).length=cs.length
 | [],cs,i=>rfl
 | x::xs,cs,i=>by simp [setCells,setCells_len xs]
theorem setCells_get:∀ (xs cs:List AVal) (i k:Nat),i+xs.length≤cs.length→(setCells cs i xs)[k]?=if i≤k∧k<i+xs.length then xs[k - i]? else cs[k]?
 | [],cs,i,k,_=>by simp [setCells];intro h1 h2;omega
 | x::xs,cs,i,k,hl=>by
   simp only [List.length_cons] at hl
   rw [setCells,setCells_get xs (cs.set i x) (i+1) k (by simp;omega)]
   by_cases e:k=i
   ·subst e
    rw [if_neg (by omega),if_pos (by simp)]
    simp [List.getElem?_set,show k<cs.length by omega]
   ·by_cases e2:i+1≤k∧k<i+1+xs.length
    ·rw [if_pos e2,if_pos (by simp;omega),show k - i=(k - (i+1))+1 by omega,List.getElem?_cons_succ]
    ·rw [if_neg e2,if_neg (by simp;omega),List.getElem?_set_ne (by omega)]
theorem foldl_set (off:Nat):∀ (l:List Value) (n:Nat) (cs:Array Value),off+n+l.length≤cs.size →
  ((l.zipIdx n).foldl (fun cs (p:Value×Nat)=>cs.setIfInBounds (off+p.2) p.1) cs).size=cs.size ∧
  ∀ k:Nat,((l.zipIdx n).foldl (fun cs (p:Value×Nat)=>cs.setIfInBounds (off+p.2) p.1) cs)[k]?=if off+n≤k∧k<off+n+l.length then l[k - (off+n)]? else cs[k]?
 | [],n,cs,_=>⟨rfl,fun k=>by simp;intro h1 h2;omega⟩
 | v::l,n,cs,hl=>by
   simp only [List.length_cons] at hl
   obtain ⟨e1,e2⟩:=foldl_set off l (n+1) (cs.setIfInBounds (off+n) v) (by simp;omega)
   simp only [List.zipIdx_cons,List.foldl_cons]
   refine ⟨by rw [e1];simp,fun k=>?_⟩
   rw [e2 k]
   by_cases e:k=off+n
   ·subst e
    rw [if_neg (by omega),if_pos (by simp)]
    simp [Array.getElem?_setIfInBounds,show off+n<cs.size by omega]
   ·by_cases h3:off+(n+1)≤k∧k<off+(n+1)+l.length
    ·rw [if_pos h3,if_pos (by simp;omega),show k - (off+n)=(k - (off+(n+1)))+1 by omega,List.getElem?_cons_succ]
    ·rw [if_neg h3,if_neg (by simp;omega),Array.getElem?_setIfInBounds_ne (by omega)]
theorem fill_ok {plc:Nat→Option (Nat×Nat)}:∀ {ps:List (Nat×Value)} {qs:List (Nat×Nat×AVal)} {cs:Array Value} {asx as':List AVal},ps.length=qs.length →
  (∀ (k:Nat) (p:Nat×Value) (q:Nat×Nat×AVal),ps[k]?=some p→qs[k]?=some q→plc p.1=some (q.1,q.2.1)∧VRel w G p.2 q.2.2)→Pts w G cs asx→(∀ x∈asx,x.one=true)→fillA asx qs=some as' →
  ∃ cs',Instr.fill plc cs ps=some cs'∧Pts w G cs' as'∧(∀ x∈as',x.one=true)∧as'.length=asx.length
 | [],[],cs,asx,as',_,_,hp,ho,e=>by simp [fillA] at e;subst e;exact ⟨cs,rfl,hp,ho,rfl⟩
 | (i,v)::ps,(off,n,x)::qs,cs,asx,as',hl,hk,hp,ho,e=>by
   simp only [fillA] at e
   split at e
   ·rename_i hc
    obtain ⟨hc1,hc2,hc3⟩:=hc
    obtain ⟨hpl,hv⟩:=hk 0 (i,v) (off,n,x) rfl rfl
    have hr:=cells_rel hv hc3
    have hsz:v.cells.size=n:=by rw [hr.len];exact hc1
    have hbig:¬ (off+v.cells.size > cs.size):=by rw [hsz,hp.len];omega
    obtain ⟨f1,f2⟩:=foldl_set off v.cells.toList 0 cs (by simp only [Array.length_toList,Nat.add_zero];omega)
    have hfold:v.cells.zipIdx.foldl (fun cs (p:Value×Nat)=>cs.setIfInBounds (off+p.2) p.1) cs=(v.cells.toList.zipIdx 0).foldl (fun cs (p:Value×Nat)=>cs.setIfInBounds (off+p.2) p.1) cs:=by
     rw [←Array.foldl_toList,Array.toList_zipIdx]
    have hp':Pts w G (v.cells.zipIdx.foldl (fun cs (p:Value×Nat)=>cs.setIfInBounds (off+p.2) p.1) cs) (setCells asx off x.cells):=by
     rw [hfold]
     refine ⟨by rw [f1,setCells_len,hp.len],fun k c a hkc hka=>?_⟩
     rw [f2 k] at hkc
     rw [setCells_get _ _ _ _ (by rw [hc1];omega)] at hka
     simp only [Array.length_toList,Nat.add_zero,hsz] at hkc
     rw [hc1] at hka
     split at hkc
     ·rename_i hin
      rw [if_pos hin] at hka
      exact hr.rel (k - off) c a (by simpa using hkc) hka
     ·rename_i hin
      rw [if_neg hin] at hka
      exact hp.rel k c a hkc hka
    have ho':∀ y∈setCells asx off x.cells,y.one=true:=by
     intro y hy
     obtain ⟨k,hk'⟩:=mem_get hy
     rw [setCells_get _ _ _ _ (by rw [hc1];omega)] at hk'
     split at hk'
     ·exact List.all_eq_true.1 hc3 y (List.mem_of_getElem? hk')
     ·exact ho y (List.mem_of_getElem? hk')
    obtain ⟨cs',g1,g2,g3,g4⟩:=fill_ok (ps:=ps) (qs:=qs) (by simpa using hl) (fun k p q h1 h2=>hk (k+1) p q (by simpa using h1) (by simpa using h2)) hp' ho' e
    refine ⟨cs',?_,g2,g3,by rw [g4,setCells_len]⟩
    simp only [Instr.fill,hpl,hsz,bne_self_eq_false,Bool.false_or]
    rw [if_neg (by rw [hsz] at hbig;simpa using hbig)]
    exact g1
   ·simp at e
theorem Pts.mono {w':World} {G':Ghost} {h'':Heap} (x:Ext w G h w' G' h'') {cs:Array Value} {asx:List AVal} (p:Pts w G cs asx):Pts w' G' cs asx:=⟨p.len,fun k c a hc ha=>(p.rel k c a hc ha).mono x⟩
theorem small_ty {sz:Nat} (h:small sz=true) {p:TypeId→Prop}:∀ T,sz=typed T→p T:=fun T hT=>by
 simp only [small,decide_eq_true_eq] at h;simp only [typed] at hT;omega
theorem new_row (H:HRel w G h) (arr:Array Value) (e:TypeId) (sz:Nat) (ag:Bool) (cs:List AVal) (hle:cs.length≤arr.size) (hrel:∀ (k:Nat) (c:Value) (x:AVal),arr[k]?=some c→cs[k]?=some x→VRel w G c x)
  (hone:∀ x∈cs,x.one=true) (hty:∀ T,sz=typed T→e=T∧arr.size=cs.length):Ext w G h (w.alloc (.cells arr e)) (G.new w.heap.size 0 (some 0)) (h.push (.row true sz ag cs))∧HRel (w.alloc (.cells arr e)) (G.new w.heap.size 0 (some 0)) (h.push (.row true sz ag cs)) ∧
   (G.new w.heap.size 0 (some 0)).loc h.next=w.heap.size∧h.next<(G.new w.heap.size 0 (some 0)).n∧(w.alloc (.cells arr e)).shape? w.heap.size=some (e,arr.size):=by
 have hX:=Ext.alloc_obj H arr e 0 (some 0) (.row true sz ag cs)
 have hloc:(G.new w.heap.size 0 (some 0)).loc G.n=w.heap.size:=by simp [Ghost.new]
 have hsh:(w.alloc (.cells arr e)).shape? w.heap.size=some (e,arr.size):=by
  unfold World.shape?;rw [heap_alloc_new]
 refine ⟨hX,HRel.alloc_obj H arr e 0 (some 0) _ ?_,by rw [←H.n_eq];exact hloc,by simp [Ghost.new,H.n_eq],hsh⟩
 unfold OkObj
 rw [hloc]
 refine ⟨by simp [Ghost.new],fun k x hk=>?_,hone,⟨e,arr.size,hsh,hle,hty⟩,fun _ k e' n' hs hk=>by unfold World.frozen?;rw [heap_alloc_new];simp⟩
 have hlt:k<arr.size:=Nat.lt_of_lt_of_le (List.getElem?_eq_some_iff.1 hk).1 hle
 refine ⟨arr[k],by rw [World.cell?_alloc_new];exact Array.getElem?_eq_getElem hlt,(hrel k _ x (Array.getElem?_eq_getElem hlt) hk).mono hX⟩
theorem op_alloc (H:HRel w G h) {t:TypeId} {sz:Nat} {ag:Bool} {z:List AVal} (hs:tSize P t=some sz) (hz:tZero P t=some z) (hop:o.op = .alloc t)
  (e:evalA (.alloc t sz ag z) ev h=some (r,h')):OpRes P o a w G h r h':=by
 simp only [evalA] at e
 split at e
 ·simp at e;obtain ⟨rfl,rfl⟩:=e
  obtain ⟨i,v,hi,hv,h1,h2,h3⟩:=tZero_ok hz
  obtain ⟨x1,x2,x3,x4,x5⟩:=new_row H v.cells t (typed t) ag z (Nat.le_of_eq h1.symm) (h3 w G) h2 (fun T hT=>⟨(Nat.add_left_cancel hT:t=T),h1⟩)
  refine ⟨.pointer (some ⟨w.heap.size,0,none⟩),_,_,.inl ?_,x1,x2,?_⟩
  ·simp [execOp,hop,Instr.alloc,run_zeroValue' hi hv,newVar,newRow]
  ·have:=VRel.ptr (w:=w.alloc (.cells v.cells t)) (G:=G.new w.heap.size 0 (some 0)) h.next 0 x4
   rwa [x3] at this
 ·simp at e
theorem op_box (H:HRel w G h) (hc:Ops a w G c ev) {x:Operand} {x':Opd} {t:TypeId} {sz:Nat} {ag:Bool} (hx:c x=some x') (hs:tSize P t=some sz) (hop:o.op = .box t x)
  (e:evalA (.box sz ag x') ev h=some (r,h')):OpRes P o a w G h r h':=by
 have rx:=hc _ _ hx
 simp only [evalA] at e
 split at e
 ·rename_i hcond
  simp at e;obtain ⟨rfl,rfl⟩:=e
  have hp:=cells_rel rx hcond.2
  obtain ⟨x1,x2,x3,x4,x5⟩:=new_row H (a.eval x).cells t 0 ag (ev x').cells (Nat.le_of_eq hp.len.symm) hp.rel (fun y hy=>List.all_eq_true.1 hcond.2 y hy) (fun T hT=>by simp only [typed] at hT;omega)
  refine ⟨.pointer (some ⟨w.heap.size,0,none⟩),_,_,.inl ?_,x1,x2,?_⟩
  ·simp [execOp,hop,Instr.box,newVar,newRow]
  ·have:=VRel.ptr (w:=w.alloc (.cells (a.eval x).cells t)) (G:=G.new w.heap.size 0 (some 0)) h.next 0 x4
   rwa [x3] at this
 ·simp at e
theorem write_row (H:HRel w G h) {id sz off:Nat} {ag:Bool} {cs xs:List AVal} {vs:List Value} {w1:World} (hg:h.get id=some (.row true sz ag cs)) (hw:Wrote w (G.loc id) off vs w1) (hl:vs.length=xs.length)
  (hv:∀ (k:Nat) (v:Value) (x:AVal),vs[k]?=some v→xs[k]?=some x→VRel w G v x) (hone:∀ x∈xs,x.one=true) (hb:off+xs.length≤cs.length) :
  ∃ G',Ext w G h w1 G' (h.put id (some (.row true sz ag (setCells cs off xs))))∧HRel w1 G' (h.put id (some (.row true sz ag (setCells cs off xs)))):=by
 obtain ⟨h1,h2,h3,h4,h5⟩:=H.obj id _ hg
 have hns:∀ k,¬ stab G (G.loc id) k:=fun k hk=>by have:=hk 0 h1;omega
 have ht:Turned w G (G.loc id) w1 (some 0) := .of_shape (by obtain ⟨e,n,q,_⟩:=h4;exact ⟨_,q⟩) hw.os hw.tape hw.out hw.size hw.other hw.shape (fun k hk=>absurd hk (hns k)) (fun k hk=>absurd hk (hns k))
 have hX:=Ext.update hg ht (some (.row true sz ag (setCells cs off xs)))
 refine ⟨_,hX,HRel.update H hg ht _ fun o ho=>?_⟩
 obtain rfl:=Option.some.inj ho
 unfold OkObj
 have hloc:(G.at (G.loc id) (some 0)).loc id=G.loc id:=rfl
 simp only [hloc,hw.shape,hw.frozen]
 refine ⟨by simp [Ghost.at],fun k x hk=>?_,fun x hx=>?_,?_,?_⟩
 ·rw [setCells_get _ _ _ _ hb] at hk
  rw [hw.cell k]
  split at hk
  ·rename_i hin
   rw [if_pos (by omega)]
   obtain ⟨v,hv'⟩:∃ v,vs[k - off]?=some v:=⟨_,List.getElem?_eq_getElem (by omega)⟩
   exact ⟨v,hv',(hv _ v x hv' hk).mono hX⟩
  ·rename_i hin
   rw [if_neg (by omega)]
   exact (h2 k x hk).imp fun u hu=>⟨hu.1,hu.2.mono hX⟩
 ·obtain ⟨k,hk⟩:=mem_get hx
  rw [setCells_get _ _ _ _ hb] at hk
  split at hk
  ·exact hone x (List.mem_of_getElem? hk)
  ·exact h3 x (List.mem_of_getElem? hk)
 ·obtain ⟨e,n,hs,hn,hT⟩:=h4
  exact ⟨e,n,hs,by rw [setCells_len];exact hn,by rw [setCells_len];exact hT⟩
 ·exact fun _=>h5 rfl
theorem row_writable (H:HRel w G h) {id sz off:Nat} {ag:Bool} {cs:List AVal} {vs:List Value} (hg:h.get id=some (.row true sz ag cs)) (hb:off+vs.length≤cs.length) (h1:∀ v∈vs,v.oneCell'=true) :
  ∃ w1,(storeCells ⟨G.loc id,off,none⟩ vs 0).run P w = .ok () w1∧Wrote w (G.loc id) off vs w1:=by
 obtain ⟨_,h2,_,h4,h5⟩:=H.obj id _ hg
 obtain ⟨e,n,hs,hn,_⟩:=h4
 refine run_storeCells_ex (P:=P) (G.loc id) off vs 0 w (fun j hj=>?_) h1
 rw [Nat.add_zero]
 obtain ⟨x,hx⟩:∃ x,cs[off+j]?=some x:=⟨_,List.getElem?_eq_getElem (by omega)⟩
 obtain ⟨u,hu,_⟩:=h2 _ x hx
 exact ⟨⟨u,hu⟩,h5 rfl _ e n hs (by omega)⟩
theorem op_store (H:HRel w G h) (hc:Ops a w G c ev) {x y:Operand} {x' y':Opd} {t:TypeId} {n:Nat} (hx:c x=some x') (hy:c y=some y') (hs:tSize P t=some n) (hop:o.op = .store t x y)
  (e:evalA (.store n x' y') ev h=some (r,h')):OpRes P o a w G h r h':=by
 have rx:=hc _ _ hx
 have ry:=hc _ _ hy
 simp only [evalA,Option.map_eq_some_iff,Prod.mk.injEq] at e
 obtain ⟨h1,e,rfl,rfl⟩:=e
 unfold storeA at e
 split at e
 ·rename_i id off hb
  rw [hb] at rx;generalize hv:a.eval x=v at rx
  split at e
  ·rename_i s ag cs hg
   split at e
   ·rename_i hcond
    obtain ⟨hc1,hc2,hc3⟩:=hcond
    obtain rfl:=Option.some.inj e
    cases rx with
    | ptr _ _ hid =>
      have hp:=cells_rel ry hc3
      have hl:(a.eval y).cells.toList.length=(ev y').cells.length:=by simpa using hp.len
      have hone:∀ z∈(ev y').cells,z.one=true:=fun z hz=>List.all_eq_true.1 hc3 z hz
      have hrel:∀ (k:Nat) (v:Value) (z:AVal),(a.eval y).cells.toList[k]?=some v→(ev y').cells[k]?=some z→VRel w G v z:=fun k v z h1 h2=>hp.rel k v z (by simpa using h1) h2
      have h1c:∀ v∈(a.eval y).cells.toList,v.oneCell'=true:=fun v hv=>by
       obtain ⟨k,hk⟩:=mem_get hv
       obtain ⟨z,hz⟩:∃ z,(ev y').cells[k]?=some z:=⟨_,List.getElem?_eq_getElem (by rw [←hl];exact (List.getElem?_eq_some_iff.1 hk).1)⟩
       exact ((hrel k v z hk hz).one (hone z (List.mem_of_getElem? hz))).1
      obtain ⟨w1,hr,hw⟩:=row_writable (P:=P) H hg (off:=off) (vs:=(a.eval y).cells.toList) (by rw [hl,hc1];exact hc2) h1c
      obtain ⟨G',x1,x2⟩:=write_row H hg hw hl hrel hone (by rw [hc1];exact hc2)
      refine ⟨undef,w1,G',.inr ⟨?_,rfl⟩,x1,x2,.tup #[] [] rfl (by simp)⟩
      have hsz:(a.eval y).cells.size=n:=by rw [hp.len];exact hc1
      simp [execOp,hop,hv,Instr.storeAt,Instr.sureAddr,storeVar,run_sizeOf' hs,hsz,hr]
   ·simp at e
  ·simp at e
 ·simp at e
theorem repl_len (n:Nat) (z:List AVal):(repl n z).length=n*z.length:=by simp [repl,List.length_flatten]
theorem repl_get (z:List AVal):∀ (n k:Nat),k<n*z.length→(repl n z)[k]?=z[k % z.length]?
 | 0,k,h=>by simp at h
 | n+1,k,h=>by
   have e:repl (n+1) z=z++repl n z:=by simp [repl,List.replicate_succ]
   rw [e]
   by_cases hk:k<z.length
   ·rw [List.getElem?_append_left hk,Nat.mod_eq_of_lt hk]
   ·rw [List.getElem?_append_right (by omega),repl_get z n (k - z.length) (by rw [Nat.succ_mul] at h;omega)]
    congr 1
    rw [←Nat.mod_eq_sub_mod (by omega)]
theorem zero_pts {v:Value} {z:List AVal} (hl:v.cells.size=z.length) (hr:∀ (k:Nat) (u:Value) (x:AVal),v.cells[k]?=some u→z[k]?=some x→VRel w G u x) (m n:Nat) (hmn:m≤n*z.length) :
  ∀ (k:Nat) (c:Value) (x:AVal),((Array.range m).map (v.cells[· % v.cells.size]!))[k]?=some c→(repl n z)[k]?=some x→VRel w G c x:=by
 intro k c x hc hx
 simp only [Array.getElem?_map,Option.map_eq_some_iff] at hc
 obtain ⟨k',hk',rfl⟩:=hc
 rw [Array.getElem?_range] at hk'
 split at hk'
 ·rename_i hlt
  obtain rfl:=Option.some.inj hk'
  rw [repl_get z n k (by omega)] at hx
  have hpos:0<z.length:=by
   rcases Nat.eq_zero_or_pos z.length with h0|h0
   ·rw [h0] at hmn;simp at hmn;omega
   ·exact h0
  refine hr (k % z.length) _ x ?_ hx
  rw [hl,getElem!_pos v.cells (k % z.length) (by rw [hl];exact Nat.mod_lt _ hpos)]
  exact Array.getElem?_eq_getElem _
 ·simp at hk'
theorem parts_ok (hc:Ops a w G c ev) {ps:List (Nat×Operand)} {qs:List (Nat×Opd)} (e:compParts c ps=some qs):ps.length=qs.length∧∀ (k:Nat) (p:Nat×Operand) (q:Nat×Opd),ps[k]?=some p→qs[k]?=some q→p.1=q.1∧VRel w G (a.eval p.2) (ev q.2):=by
 obtain ⟨e1,e2⟩:=optL_ok e
 refine ⟨e1,fun k p q hp hq=>?_⟩
 obtain ⟨y,hy,hy'⟩:=e2 k p hp
 rw [hq] at hy;obtain rfl:=Option.some.inj hy
 simp only [Option.map_eq_some_iff] at hy'
 obtain ⟨z,hz,rfl⟩:=hy'
 exact ⟨rfl,hc _ _ hz⟩
theorem mapM_places:∀ {fs:List Field},fs.all (fun f=>(tSize P f.type).isSome)=true→fs.mapM (fun f=>(P.info? f.type).map fun i=>(f.offset,i.size))=some (fs.map fun (f:Field)=>(f.offset,(tSize P f.type).getD 0))
 | [],_=>rfl
 | f::fs,h=>by
   simp only [List.all_cons,Bool.and_eq_true] at h
   obtain ⟨n,hn⟩:=Option.isSome_iff_exists.1 h.1
   obtain ⟨i,hi,rfl⟩:=tSize_some hn
   simp [List.mapM_cons,hi,mapM_places h.2,tSize]
theorem op_build_struct (H:HRel w G h) (hc:Ops a w G c ev) {t:TypeId} {fs:Array Field} {z:List AVal} {ps:Array (Nat×Operand)} {qs:List (Nat×Opd)} {qs':List (Nat×Nat×Opd)} (ht:P.underlying t=some (.struct fs)) (hz:tZero P t=some z)
  (hp:compParts c ps.toList=some qs) (hall:fs.toList.all (fun f=>(tSize P f.type).isSome)=true) (hq:optL (fun p:Nat×Opd=>(place P fs p.1).map fun q=>(q.1,q.2,p.2)) qs=some qs') (hop:o.op = .build t ps)
  (e:evalA (.build z qs') ev h=some (r,h')):OpRes P o a w G h r h':=by
 simp only [evalA,Option.map_eq_some_iff,Prod.mk.injEq] at e
 obtain ⟨cs,e,rfl,rfl⟩:=e
 obtain ⟨i,v,hi,hv,h1,h2,h3⟩:=tZero_ok hz
 obtain ⟨p1,p2⟩:=parts_ok hc hp
 obtain ⟨q1,q2⟩:=optL_ok hq
 have hplace:∀ i:Nat,((fs.toList.map fun (f:Field)=>(f.offset,(tSize P f.type).getD 0)).toArray)[i]?=(fs[i]?).map fun (f:Field)=>(f.offset,(tSize P f.type).getD 0):=fun i=>by simp
 obtain ⟨cs',g1,g2,g3,g4⟩:=fill_ok (w:=w) (G:=G) (plc:=fun (i:Nat)=>((fs.toList.map fun (f:Field)=>(f.offset,(tSize P f.type).getD 0)).toArray)[i]?) (ps:=(ps.map fun (p:Nat×Operand)=>(p.1,a.eval p.2)).toList) (qs:=qs'.map fun p=>(p.1,p.2.1,ev p.2.2)) (cs:=v.cells) (asx:=z) (as':=cs)
  (by simp [←q1,←p1]) (fun k p q hp' hq'=>by
   simp only [Array.toList_map,List.getElem?_map,Option.map_eq_some_iff] at hp' hq'
   obtain ⟨p0,hp0,rfl⟩:=hp'
   obtain ⟨q0,hq0,rfl⟩:=hq'
   obtain ⟨qm,hqm⟩:∃ qm,qs[k]?=some qm:=⟨_,List.getElem?_eq_getElem (by rw [q1];exact (List.getElem?_eq_some_iff.1 hq0).1)⟩
   obtain ⟨q3,hq3,hq4⟩:=q2 k qm hqm
   rw [hq0] at hq3;obtain rfl:=Option.some.inj hq3
   obtain ⟨e1,e2⟩:=p2 k p0 qm hp0 hqm
   simp only [Option.map_eq_some_iff] at hq4
   obtain ⟨pl,hpl,rfl⟩:=hq4
   refine ⟨?_,e2⟩
   rw [hplace,e1]
   unfold place at hpl
   split at hpl
   ·rename_i f hf
    simp only [Option.map_eq_some_iff] at hpl
    obtain ⟨n,hn,rfl⟩:=hpl
    simp [hf,hn]
   ·simp at hpl) ⟨h1,h3 w G⟩ h2 e
 refine OpRes.same H (v := .agg cs') ?_ (.agg _ _ g2.len g2.rel g3)
 have hbuilt:P.built t (ps.map fun (p:Nat×Operand)=>(p.1,a.eval p.2)).toList=some cs':=by
  unfold Program.built
  simp only [hi,ht,hv,mapM_places hall]
  exact g1
 simp [execOp,hop,run_build w t _ _ hbuilt]
theorem op_build_array (H:HRel w G h) (hc:Ops a w G c ev) {t el:TypeId} {n sz:Nat} {z:List AVal} {ps:Array (Nat×Operand)} {qs:List (Nat×Opd)} (ht:P.underlying t=some (.array n el)) (hz:tZero P t=some z)
  (hs:tSize P el=some sz) (hp:compParts c ps.toList=some qs) (hop:o.op = .build t ps)
  (e:evalA (.build z (qs.map fun p=>(p.1*sz,sz,p.2))) ev h=some (r,h')):OpRes P o a w G h r h':=by
 simp only [evalA,Option.map_eq_some_iff,Prod.mk.injEq] at e
 obtain ⟨cs,e,rfl,rfl⟩:=e
 obtain ⟨i,v,hi,hv,h1,h2,h3⟩:=tZero_ok hz
 obtain ⟨p1,p2⟩:=parts_ok hc hp
 obtain ⟨cs',g1,g2,g3,g4⟩:=fill_ok (w:=w) (G:=G) (plc:=fun i=>some (i*sz,sz)) (ps:=(ps.map fun (p:Nat×Operand)=>(p.1,a.eval p.2)).toList) (qs:=(qs.map fun p=>(p.1*sz,sz,p.2)).map fun p=>(p.1,p.2.1,ev p.2.2)) (cs:=v.cells) (asx:=z) (as':=cs)
  (by simp [←p1]) (fun k p q hp' hq'=>by
   simp only [Array.toList_map,List.getElem?_map,Option.map_eq_some_iff] at hp' hq'
   obtain ⟨p0,hp0,rfl⟩:=hp'
   obtain ⟨q1,⟨q0,hq0,rfl⟩,rfl⟩:=hq'
   obtain ⟨e1,e2⟩:=p2 k p0 q0 hp0 hq0
   exact ⟨by rw [e1],e2⟩) ⟨h1,h3 w G⟩ h2 e
 refine OpRes.same H (v := .agg cs') ?_ (.agg _ _ g2.len g2.rel g3)
 simp only [execOp,hop,Instr.build,Sem.run_bind,run_zeroValue' hi hv,Result.andThen_ok,run_underlying ht,run_sizeOf' hs,Sem.run_pure]
 rw [show (fun x=>match x with|(i,x)=>(i,a.eval x))=(fun (p:Nat×Operand)=>(p.1,a.eval p.2)) from rfl,g1]
 rfl
end
end Go.Abs

namespace Go.Abs
section
variable {P:Program} {o:Oper} {a:Act} {w:World} {G:Ghost} {h:Heap} {c:Operand→Option Opd} {ev:Opd→AVal} {r:AVal} {h':Heap}
theorem lit_run (hc:Ops a w G c ev) {t el:TypeId} {n sz:Nat} {z cs:List AVal} {ps:Array (Nat×Operand)} {qs:List (Nat×Opd)} (ht:P.underlying t=some (.slice el)) (hs:tSize P el=some sz) (hz:tZero P el=some z)
  (hp:compParts c ps.toList=some qs) (hop:o.op = .buildSlice t n ps) (hzl:z.length=sz) (hsm:n*sz≤16777216)
  (e:fillA (repl n z) (qs.map fun p=>(p.1*sz,sz,ev p.2))=some cs) :
  ∃ cs',(execOp a.eval o).run P w = .ok (.value (.slice (some ⟨w.heap.size,0,none⟩) n n)) (w.alloc (.cells cs' el))∧Pts w G cs' cs∧(∀ x∈cs,x.one=true)∧cs.length=n*sz:=by
 obtain ⟨i,v,hi,hv,h1,h2,h3⟩:=tZero_ok hz
 obtain ⟨p1,p2⟩:=parts_ok hc hp
 have hone:∀ x∈repl n z,x.one=true:=by
  intro x hx
  simp only [repl,List.mem_flatten,List.mem_replicate] at hx
  obtain ⟨l,⟨_,rfl⟩,hx⟩:=hx
  exact h2 x hx
 have hinit:Pts w G ((Array.range (n*sz)).map ((if n*sz=0 then #[] else v.cells)[· % (if n*sz=0 then #[] else v.cells).size]!)) (repl n z):=by
  by_cases h0:n*sz=0
  ·refine ⟨by simp [h0,repl_len,hzl],fun k c x hk hx=>?_⟩
   rw [h0] at hk
   simp at hk
  ·simp only [h0,if_false]
   exact ⟨by simp [repl_len,hzl],zero_pts h1 (h3 w G) _ _ (by rw [hzl];exact Nat.le_refl _)⟩
 obtain ⟨cs',g1,g2,g3,g4⟩:=fill_ok (w:=w) (G:=G) (plc:=fun i=>some (i*sz,sz)) (ps:=(ps.map fun (p:Nat×Operand)=>(p.1,a.eval p.2)).toList) (qs:=qs.map fun p=>(p.1*sz,sz,ev p.2)) (as':=cs)
  (by simp [←p1]) (fun k p q hp' hq'=>by
   simp only [Array.toList_map,List.getElem?_map,Option.map_eq_some_iff] at hp' hq'
   obtain ⟨p0,hp0,rfl⟩:=hp'
   obtain ⟨q0,hq0,rfl⟩:=hq'
   obtain ⟨e1,e2⟩:=p2 k p0 q0 hp0 hq0
   exact ⟨by rw [e1],e2⟩) hinit hone e
 refine ⟨cs',?_,g2,g3,by rw [g4,repl_len,hzl]⟩
 have hbig:¬ (n*sz > 2 ^ 24):=by omega
 simp only [execOp,hop,Instr.buildSlice,Sem.run_bind,run_underlying ht,Result.andThen_ok,run_sizeOf' hs,if_neg hbig,Sem.run_pure,Sem.run_ite]
 generalize harr:(Array.range (n*sz)).map ((if n*sz=0 then #[] else v.cells)[· % (if n*sz=0 then #[] else v.cells).size]!)=ini at g1
 by_cases h0:n*sz=0
 ·simp only [if_pos h0] at harr
  rw [if_pos h0,harr,g1]
  simp [newRow]
 ·simp only [if_neg h0] at harr
  rw [if_neg h0,run_zeroValue' hi hv,Result.andThen_ok,harr,g1]
  simp [newRow]
theorem new_free (H:HRel w G h) {arr:Array Value} {el:TypeId} {xs:List AVal} {sz cap:Nat} (h0:∀ x∈xs,x.cells.length=sz) (hr:∀ (k:Nat) (x:AVal),(flat xs)[k]?=some x→∃ u,arr[k]?=some u∧VRel w G u x)
  (h4:∀ x∈flat xs,x.one=true) (h5:∀ x∈flat xs,strip x=some x) (hcap:xs.length≤cap) :
  ∃ G',Ext w G h (w.alloc (.cells arr el)) G' h∧HRel (w.alloc (.cells arr el)) G' h∧VRel (w.alloc (.cells arr el)) G' (.slice (some ⟨w.heap.size,0,none⟩) xs.length cap) (.sl xs .none):=by
 have hX:=Ext.alloc_free (w:=w) (G:=G) (h:=h) arr el
 refine ⟨_,hX,HRel.alloc_free H arr el,.sl w.heap.size 0 cap sz xs .none (fun k=>(arr[k]?).getD (.bool false)) h0 (fun k x hk=>?_) (fun k x hk=>?_) (fun k hk m hm=>?_) h4 h5 hcap (by simp) (by simp)⟩
 ·obtain ⟨u,hu,_⟩:=hr k x hk
  rw [Nat.zero_add,World.cell?_alloc_new,hu];rfl
 ·obtain ⟨u,hu,hv⟩:=hr k x hk
  rw [hu];exact hv.mono hX
 ·simp at hm
theorem new_tok (H:HRel w G h) {arr:Array Value} {el:TypeId} {xs:List AVal} {sz cap:Nat} (h0:∀ x∈xs,x.cells.length=sz) (hr:∀ (k:Nat) (x:AVal),(flat xs)[k]?=some x→∃ u,arr[k]?=some u∧VRel w G u x)
  (h4:∀ x∈flat xs,x.one=true) (h5:∀ x∈flat xs,strip x=some x) (hcap:xs.length≤cap) (hsz:cap*sz≤arr.size) :
  ∃ G',Ext w G h (w.alloc (.cells arr el)) G' (h.push (.tok el))∧HRel (w.alloc (.cells arr el)) G' (h.push (.tok el))∧VRel (w.alloc (.cells arr el)) G' (.slice (some ⟨w.heap.size,0,none⟩) xs.length cap) (.sl xs (.own h.next sz)):=by
 have hX:=Ext.alloc_obj H arr el (xs.length*sz) (some (xs.length*sz)) (.tok el)
 have hsh:(w.alloc (.cells arr el)).shape? w.heap.size=some (el,arr.size):=by
  unfold World.shape?;rw [heap_alloc_new]
 have hfl:=flat_len h0
 have hle:xs.length*sz≤arr.size:=Nat.le_trans (Nat.mul_le_mul_right _ hcap) hsz
 refine ⟨_,hX,HRel.alloc_obj H arr el _ _ (.tok el) ?_,.sl w.heap.size 0 cap sz xs (.own h.next sz) (fun k=>(arr[k]?).getD (.bool false)) h0 (fun k x hk=>?_) (fun k x hk=>?_) (fun k hk m hm=>?_) h4 h5 hcap (by simp) (fun id s hs=>?_)⟩
 ·unfold OkObj
  simp only [Ghost.new,if_true]
  refine ⟨trivial,⟨arr.size,hsh,hle⟩,?_⟩
  unfold fzr;rw [heap_alloc_new];simp
 ·obtain ⟨u,hu,_⟩:=hr k x hk
  rw [Nat.zero_add,World.cell?_alloc_new,hu];rfl
 ·obtain ⟨u,hu,hv⟩:=hr k x hk
  rw [hu];exact hv.mono hX
 ·simp [Ghost.new] at hm
  omega
 ·simp only [Tok.own.injEq] at hs
  obtain ⟨rfl,rfl⟩:=hs
  refine ⟨rfl,rfl,by simp [Ghost.new,H.n_eq],by simp [Ghost.new,H.n_eq],by simp [Ghost.new,H.n_eq],el,arr.size,hsh,by omega⟩
theorem strip_chunk {cs cs' xs:List AVal} {sz n:Nat} {ag:Bool} {arr:Array Value} {off:Nat} (hst:stripL cs=some cs') (hch:chunk sz ag n cs'=some xs) (hone:∀ x∈cs,x.one=true) (hl:cs.length=n*sz)
  (hr:∀ (k:Nat) (x:AVal),cs[k]?=some x→∃ u,arr[off+k]?=some u∧VRel w G u x) :
  xs.length=n∧(∀ x∈xs,x.cells.length=sz)∧flat xs=cs'∧(∀ x∈flat xs,x.one=true)∧(∀ x∈flat xs,strip x=some x)∧(∀ (k:Nat) (x:AVal),(flat xs)[k]?=some x→∃ u,arr[off+k]?=some u∧VRel w G u x):=by
 have hk:=stripL_ok hst
 have hone':=stripL_one hst hone
 obtain ⟨c1,c2,c3,c4⟩:=chunk_ok hch hone'
 have hf:flat xs=cs':=by rw [c2];exact List.take_of_length_le (by rw [←hk.1,hl];exact Nat.le_refl _)
 refine ⟨c1,c3,hf,by rw [hf];exact hone',fun x hx=>?_,fun k x hx=>?_⟩
 ·rw [hf] at hx
  obtain ⟨k,hk'⟩:=mem_get hx
  obtain ⟨y,hy,hy'⟩:=back_get hk hk'
  obtain ⟨u,_,hu⟩:=hr k y hy
  exact hu.strip_strip hy'
 ·rw [hf] at hx
  obtain ⟨y,hy,hy'⟩:=back_get hk hx
  obtain ⟨u,hu,hv⟩:=hr k y hy
  exact ⟨u,hu,hv.strip_to (fun _ _ h=>h) hy'⟩
theorem freeze_ok:∀ {ids:List Nat} {G:Ghost} {h h1:Heap},HRel w G h→freeze h ids=some h1 →
  ∃ G1,Ext w G h w G1 h1∧HRel w G1 h1∧(∀ b k,stab G b k→stab G1 b k)∧(∀ id∈ids,∀ k,stab G1 (G.loc id) k)∧(∀ b,G.lim b=none→G1.lim b=none)∧G1.loc=G.loc
 | [],G,h,h1,H,e=>by simp [freeze] at e;subst e;exact ⟨G,Ext.refl _ _ _,H,fun _ _ hh=>hh,by simp,fun _ hh=>hh,rfl⟩
 | id::ids,G,h,h1,H,e=>by
   simp only [freeze] at e
   split at e
   ·rename_i mu s ag cs hg
    have ht:Turned w G (G.loc id) w none:=Turned.same (by simp)
    have hX:=Ext.update hg ht (some (.row false s ag cs))
    have hst:∀ b k,stab G b k→stab (G.at (G.loc id) none) b k:=fun b k hk m hm=>by
     by_cases eb:b=G.loc id
     ·subst eb;simp [Ghost.at] at hm
     ·simp [Ghost.at,eb] at hm;exact hk m hm
    have H1:=HRel.update H hg ht (some (.row false s ag cs)) (fun o ho=>by
     obtain rfl:=Option.some.inj ho
     obtain ⟨g1,g2,g3,g4,g5⟩:=H.obj id _ hg
     have hloc:(G.at (G.loc id) none).loc id=G.loc id:=rfl
     unfold OkObj
     rw [hloc]
     exact ⟨by simp [Ghost.at],fun k x hk=>(g2 k x hk).imp fun u hu=>⟨hu.1,hu.2.mono hX⟩,g3,g4,by simp⟩)
    obtain ⟨G1,x1,x2,x3,x4,x5,x6⟩:=freeze_ok H1 e
    refine ⟨G1,hX.trans x1,x2,fun b k hk=>x3 b k (hst b k hk),fun j hj k=>?_,fun b hb=>x5 b ?_,x6⟩
    ·rcases List.mem_cons.1 hj with rfl|hj
     ·intro m hm
      have:=x5 (G.loc j) (by simp [Ghost.at])
      rw [this] at hm;simp at hm
     ·exact x4 j hj k
    ·simp only [Ghost.at];split
     ·rfl
     ·exact hb
   ·simp at e
theorem op_lit (H:HRel w G h) (hc:Ops a w G c ev) {t el:TypeId} {mode n sz:Nat} {ag:Bool} {z:List AVal} {ps:Array (Nat×Operand)} {qs:List (Nat×Opd)} (ht:P.underlying t=some (.slice el)) (hs:tSize P el=some sz) (hz:tZero P el=some z)
  (hp:compParts c ps.toList=some qs) (hop:o.op = .buildSlice t n ps)
  (e:evalA (.lit mode el n sz ag z qs) ev h=some (r,h')):OpRes P o a w G h r h':=by
 simp only [evalA] at e
 split at e
 ·rename_i cs hfill
  split at e
  ·simp at e
  ·rename_i hcond
   simp only [Bool.not_eq_true,Bool.not_eq_false',Bool.and_eq_true,decide_eq_true_eq] at hcond
   obtain ⟨⟨⟨hzl,hzo⟩,hsm⟩,hsml⟩:=hcond
   obtain ⟨arr,hrun,hpts,hone,hlen⟩:=lit_run (P:=P) (o:=o) hc ht hs hz hp hop hzl hsm hfill
   have hrel:∀ (k:Nat) (x:AVal),cs[k]?=some x→∃ u,arr[0+k]?=some u∧VRel w G u x:=fun k x hk=>by
    rw [Nat.zero_add]
    obtain ⟨u,hu⟩:∃ u,arr[k]?=some u:=⟨_,Array.getElem?_eq_getElem (by rw [hpts.len];exact (List.getElem?_eq_some_iff.1 hk).1)⟩
    exact ⟨u,hu,hpts.rel k u x hu hk⟩
   split at e
   ·simp at e;obtain ⟨rfl,rfl⟩:=e
    obtain ⟨x1,x2,x3,x4,x5⟩:=new_row H arr el sz ag cs (Nat.le_of_eq hpts.len.symm) hpts.rel hone (small_ty hsml)
    refine ⟨_,_,_,.inl hrun,x1,x2,?_⟩
    have:=VRel.ref (w:=w.alloc (.cells arr el)) (G:=G.new w.heap.size 0 (some 0)) h.next 0 n sz n x4 (Nat.le_refl _) ⟨el,arr.size,by rw [x3];exact x5,by rw [hpts.len,hlen];omega⟩
    rwa [x3] at this
   ·split at e
    ·split at e
     ·rename_i cs1 h1 hpur hfrz
      split at e
      ·simp at e
      ·rename_i xs hch
       simp at e;obtain ⟨rfl,rfl⟩:=e
       obtain ⟨G1,y1,y2,y3,y4,_,_⟩:=freeze_ok H hfrz
       have hk:=purifyL_ok hpur
       have hone1:=purifyL_one hpur hone
       have hvr:∀ (k:Nat) (x:AVal),cs1[k]?=some x→∃ u,arr[k]?=some u∧VRel w G1 u x∧strip x=some x:=fun k x hk'=>by
        obtain ⟨y,hy,hy'⟩:=back_get hk hk'
        obtain ⟨u,hu,hv⟩:=hrel k y hy
        rw [Nat.zero_add] at hu
        exact ⟨u,hu,hv.purify_to H y3 (fun id hid=>y4 id (refIdsL_mem hy hid)) hy',hv.purify_strip hy'⟩
       obtain ⟨c1,c2,c3,c4⟩:=chunk_ok hch hone1
       have hf:flat xs=cs1:=by rw [c2];exact List.take_of_length_le (by rw [←hk.1,hlen];exact Nat.le_refl _)
       obtain ⟨G',z1,z2,z3⟩:=new_free y2 (arr:=arr) (el:=el) (xs:=xs) (sz:=sz) (cap:=n) c3 (fun k x hk'=>by rw [hf] at hk';obtain ⟨u,hu,hv,_⟩:=hvr k x hk';exact ⟨u,hu,hv⟩) (by rw [hf];exact hone1)
        (fun x hx=>by rw [hf] at hx;obtain ⟨k,hk'⟩:=mem_get hx;exact (hvr k x hk').choose_spec.2.2) (Nat.le_of_eq c1)
       rw [c1] at z3
       exact ⟨_,_,G',.inl hrun,y1.trans z1,z2,z3⟩
     ·simp at e
    ·split at e
     ·simp at e
     ·rename_i cs1 hst
      split at e
      ·simp at e
      ·rename_i xs hch
       obtain ⟨c1,c2,c3,c4,c5,c6⟩:=strip_chunk (w:=w) (G:=G) (arr:=arr) (off:=0) hst hch hone hlen hrel
       have c6':∀ (k:Nat) (x:AVal),(flat xs)[k]?=some x→∃ u,arr[k]?=some u∧VRel w G u x:=fun k x hk=>by simpa using c6 k x hk
       split at e
       ·simp at e;obtain ⟨rfl,rfl⟩:=e
        obtain ⟨G',z1,z2,z3⟩:=new_tok H (arr:=arr) (el:=el) (xs:=xs) (sz:=sz) (cap:=n) c2 c6' c4 c5 (Nat.le_of_eq c1) (by rw [hpts.len,hlen];exact Nat.le_refl _)
        rw [c1] at z3
        exact ⟨_,_,G',.inl hrun,z1,z2,z3⟩
       ·simp at e;obtain ⟨rfl,rfl⟩:=e
        obtain ⟨G',z1,z2,z3⟩:=new_free H (arr:=arr) (el:=el) (xs:=xs) (sz:=sz) (cap:=n) c2 c6' c4 c5 (Nat.le_of_eq c1)
        rw [c1] at z3
        exact ⟨_,_,G',.inl hrun,z1,z2,z3⟩
 ·simp at e
theorem wrap_in {x:Int} (h0:0≤x) (h1:x<9223372036854775808):IntKind.i64.wrap x=x:=IntWalk.i64_in x (by omega)
theorem op_mksl (H:HRel w G h) (hc:Ops a w G c ev) {x y:Operand} {x' y':Opd} {t el:TypeId} {bytes sz:Nat} {ag:Bool} {z:List AVal} (hx:c x=some x') (hy:c y=some y') (ht:P.underlying t=some (.slice el)) (hb:tBytes P el=some bytes)
  (hs:tSize P el=some sz) (hz:tZero P el=some z) (hop:o.op = .makeSlice t x y) (e:evalA (.mksl bytes sz ag z x' y') ev h=some (r,h')):OpRes P o a w G h r h':=by
 have rx:=hc _ _ hx
 have ry:=hc _ _ hy
 simp only [evalA] at e
 split at e
 ·rename_i k m k' n hbx hby
  rw [hbx] at rx;rw [hby] at ry
  generalize hv:a.eval x=v at rx
  generalize hv':a.eval y=v' at ry
  split at e
  ·rename_i hcond
   obtain ⟨c1,c2,c3,c4,c5,c6,c7⟩:=hcond
   simp at e;obtain ⟨rfl,rfl⟩:=e
   cases rx;cases ry
   obtain ⟨i,zv,hi,hzv,g1,g2,g3⟩:=tZero_ok hz
   have hib:i.bytes=bytes:=by simp [tBytes,hi] at hb;exact hb
   have his:i.size=sz:=by simp [tSize,hi] at hs;exact hs
   have hmn:m.toNat*sz≤n.toNat*sz:=Nat.mul_le_mul_right _ (by omega)
   generalize harr:(Array.range (n.toNat*sz)).map ((if n.toNat*sz=0 then #[] else zv.cells)[· % (if n.toNat*sz=0 then #[] else zv.cells).size]!)=arr
   have hsize:arr.size=n.toNat*sz:=by rw [←harr];simp
   have hrel:∀ (k:Nat) (c:Value) (x:AVal),arr[k]?=some c→(repl m.toNat z)[k]?=some x→VRel w G c x:=by
    intro k c x hk hx
    by_cases h0:n.toNat*sz=0
    ·have:k<arr.size:=(Array.getElem?_eq_some_iff.1 hk).1
     omega
    ·rw [←harr] at hk
     simp only [h0,if_false] at hk
     have hlt:k<(repl m.toNat z).length:=(List.getElem?_eq_some_iff.1 hx).1
     rw [repl_len] at hlt
     refine zero_pts (w:=w) (G:=G) g1 (g3 w G) (n.toNat*sz) n.toNat (by rw [c5];exact Nat.le_refl _) k c x hk ?_
     rw [repl_get _ _ _ hlt] at hx
     rw [repl_get _ _ _ (by rw [c5] at hlt ⊢;omega)];exact hx
   have hone:∀ x∈repl m.toNat z,x.one=true:=by
    intro x hx
    simp only [repl,List.mem_flatten,List.mem_replicate] at hx
    obtain ⟨l,⟨_,rfl⟩,hx⟩:=hx
    exact g2 x hx
   obtain ⟨x1,x2,x3,x4,x5⟩:=new_row H arr el sz ag (repl m.toNat z) (by rw [repl_len,c5,hsize];exact hmn) hrel hone (small_ty c7)
   refine ⟨.slice (some ⟨w.heap.size,0,none⟩) m.toNat n.toNat,_,_,.inl ?_,x1,x2,?_⟩
   ·have w1:=wrap_in (x:=m) (by omega) (by omega)
    have w2:=wrap_in (x:=n) (by omega) (by omega)
    have t1:¬ (281474976710656<(bytes:Int)*n):=by omega
    have t2:¬ (n<0):=by omega
    have t3:¬ (m<0):=by omega
    have t4:¬ (n<m):=by omega
    simp only [execOp,hop,hv,hv',Instr.makeSlice,Sem.run_bind,run_underlying ht,Result.andThen_ok,asInt,asIntOf,Sem.run_pure,typeInfo,run_program,hi,hib,w1,w2]
    simp only [gt_iff_lt,t2,t3,t4,decide_false,Bool.false_or,Bool.or_false,Bool.or_self,show (2:Int) ^ 48=281474976710656 from rfl,t1,Bool.false_eq_true,if_false,run_sizeOf' hs,run_askRoom,Sem.run_bind,Result.andThen_ok,Sem.run_ite]
    subst harr
    by_cases h0:n.toNat*sz=0
    ·simp [h0,newRow]
    ·simp [h0,newRow,run_zeroValue' hi hzv]
   ·have:=VRel.ref (w:=w.alloc (.cells arr el)) (G:=G.new w.heap.size 0 (some 0)) h.next 0 m.toNat sz n.toNat x4 (by omega) ⟨el,arr.size,by rw [x3];exact x5,by omega⟩
    rwa [x3] at this
  ·simp at e
 ·simp at e
theorem op_mkown (H:HRel w G h) (hc:Ops a w G c ev) {x y:Operand} {x' y':Opd} {t el:TypeId} {bytes sz:Nat} {z:List AVal} (hx:c x=some x') (hy:c y=some y') (ht:P.underlying t=some (.slice el)) (hb:tBytes P el=some bytes)
  (hs:tSize P el=some sz) (hz:tZero P el=some z) (hop:o.op = .makeSlice t x y) (e:evalA (.x (.mkown el bytes sz) [x',y']) ev h=some (r,h')):OpRes P o a w G h r h':=by
 have rx:=hc _ _ hx
 have ry:=hc _ _ hy
 simp only [evalA,evalX,List.map_cons,List.map_nil] at e
 split at e
 ·rename_i k m k' n hbx hby
  rw [hbx] at rx;rw [hby] at ry
  generalize hv:a.eval x=v at rx
  generalize hv':a.eval y=v' at ry
  split at e
  ·rename_i hcond
   obtain ⟨c0,c1,c3,c4,c7⟩:=hcond
   subst c0
   simp at e;obtain ⟨rfl,rfl⟩:=e
   cases rx;cases ry
   obtain ⟨i,zv,hi,hzv,g1,g2,g3⟩:=tZero_ok hz
   have hib:i.bytes=bytes:=by simp [tBytes,hi] at hb;exact hb
   have his:i.size=sz:=by simp [tSize,hi] at hs;exact hs
   generalize harr:(Array.range (n.toNat*sz)).map ((if n.toNat*sz=0 then #[] else zv.cells)[· % (if n.toNat*sz=0 then #[] else zv.cells).size]!)=arr
   have hsize:arr.size=n.toNat*sz:=by rw [←harr];simp
   obtain ⟨G',x1,x2,x3⟩:=new_tok (el:=el) (xs:=[]) (sz:=sz) (cap:=n.toNat) (arr:=arr) H (by simp) (by simp [flat]) (by simp [flat]) (by simp [flat]) (by simp) (by omega)
   refine ⟨.slice (some ⟨w.heap.size,0,none⟩) 0 n.toNat,_,G',.inl ?_,x1,x2,x3⟩
   ·have w1:=wrap_in (x:=0) (by omega) (by omega)
    have w2:=wrap_in (x:=n) (by omega) (by omega)
    have t1:¬ (281474976710656<(bytes:Int)*n):=by omega
    have t2:¬ (n<0):=by omega
    have t3:¬ ((0:Int)<0):=by omega
    have t4:¬ (n<0):=by omega
    simp only [execOp,hop,hv,hv',Instr.makeSlice,Sem.run_bind,run_underlying ht,Result.andThen_ok,asInt,asIntOf,Sem.run_pure,typeInfo,run_program,hi,hib,w1,w2]
    simp only [gt_iff_lt,t2,t3,t4,decide_false,Bool.false_or,Bool.or_false,Bool.or_self,show (2:Int) ^ 48=281474976710656 from rfl,t1,Bool.false_eq_true,if_false,run_sizeOf' hs,run_askRoom,Sem.run_bind,Result.andThen_ok,Sem.run_ite]
    subst harr
    by_cases h0:n.toNat*sz=0
    ·simp [h0,newRow]
    ·simp [h0,newRow,run_zeroValue' hi hzv]
  ·simp at e
 ·simp at e
end
end Go.Abs

namespace Go.Abs
section
variable {P:Program} {o:Oper} {a:Act} {w:World} {G:Ghost} {h:Heap} {c:Operand→Option Opd} {ev:Opd→AVal} {r:AVal} {h':Heap}
structure Elems (P:Program) (w:World) (G:Ghost) (sz:Nat) (yv:Value) (m:Nat) (newsA:List AVal) (news:List Value):Prop where
 lenOf:(Builtin.lenOf yv).run P w = .ok m w
 first:∀ (w':World) (n:Nat),w'.heap=w.heap→n≤m→(Builtin.firstCells sz n yv).run P w' = .ok (news.take (n*sz)).toArray w'
 len:news.length=m*sz
 lenA:newsA.length=m*sz
 rel:∀ (k:Nat) (v:Value) (x:AVal),news[k]?=some v→newsA[k]?=some x→VRel w G v x
 one:∀ x∈newsA,x.one=true
theorem Elems.one' {sz m:Nat} {yv:Value} {newsA:List AVal} {news:List Value} (E:Elems P w G sz yv m newsA news):∀ v∈news,v.oneCell'=true:=by
 intro v hv
 obtain ⟨k,hk⟩:=mem_get hv
 obtain ⟨x,hx⟩:∃ x,newsA[k]?=some x:=⟨_,List.getElem?_eq_getElem (by rw [E.lenA,←E.len];exact (List.getElem?_eq_some_iff.1 hk).1)⟩
 exact ((E.rel k v x hk hx).one (E.one x (List.mem_of_getElem? hx))).1
theorem elems_cells {sz m cp b off:Nat} {newsA:List AVal} (hC:CellsAt w G b off newsA) (hl:newsA.length=m*sz) (hone:∀ x∈newsA,x.one=true):∃ news,Elems P w G sz (.slice (some ⟨b,off,none⟩) m cp) m newsA news:=by
 obtain ⟨vs,e1,e2,e3⟩:=hC.vals
 refine ⟨vs,by simp [Builtin.lenOf],fun w' n hw hn=>?_,by rw [e1,hl],hl,e3,hone⟩
 have hlt:(vs.take (n*sz)).length=n*sz:=by
  rw [List.length_take,e1,hl];exact Nat.min_eq_left (Nat.mul_le_mul_right _ hn)
 refine run_firstCells_some w' sz n ⟨b,off,none⟩ m cp (vs.take (n*sz)) hlt (fun j v hj=>?_)
 rw [List.getElem?_take] at hj
 split at hj
 ·have:=e2 j v hj
  rw [Addr.add_lit]
  simpa [World.cell?,hw] using this
 ·simp at hj
theorem elems_ok (H:HRel w G h) {sz m:Nat} {y:AVal} {yv:Value} {newsA:List AVal} (ry:VRel w G yv y) (hm:lenA y=some m) (hn:elemsA h sz y=some newsA):∃ news,Elems P w G sz yv m newsA news:=by
 unfold elemsA at hn
 split at hn
 ·rename_i ys tk
  simp [lenA] at hm;subst hm
  split at hn
  ·rename_i hhead
   obtain rfl:=Option.some.inj hn
   cases ry with
   | nilsl=>exact ⟨[],by simp [Builtin.lenOf],fun w' n _ hn=>by simp [Builtin.firstCells],by simp,by simp [flat],by simp,by simp [flat]⟩
   | emp=>exact ⟨[],by simp [Builtin.lenOf],fun w' n _ hn=>by (obtain rfl:n=0:=by simpa using hn);simp [Builtin.firstCells,loadCells,loadCellsFrom],by simp,by simp [flat],by simp,by simp [flat]⟩
   | sl b off cap sz0 _ _ u h0 h1 h2 h3 h4 h5 hcp hnn ho =>
     refine elems_cells (fun k x hk=>⟨u k,h1 k x hk,h2 k x hk⟩) ?_ h4
     cases ys with
     | nil=>simp [flat]
     | cons y ys =>
       have:=flat_len h0
       rw [this,←h0 y (by simp),hhead y rfl]
  ·simp at hn
 ·rename_i id off len s
  simp [lenA] at hm;subst hm
  split at hn
  ·rename_i hs
   subst hs
   split at hn
   ·rename_i mu s' ag' cs hg
    split at hn
    ·rename_i hb
     obtain rfl:=Option.some.inj hn
     obtain ⟨_,h2,h3,_,_⟩:=H.obj id _ hg
     have hone:∀ x∈(cs.drop off).take (len*s),x.one=true:=fun x hx=>h3 x (List.mem_of_mem_drop (List.mem_of_mem_take hx))
     have hl:((cs.drop off).take (len*s)).length=len*s:=by simp;omega
     cases ry with
     | ref0 _ _ _ b bo hid=>exact elems_cells (m:=0) (by intro k x hk;simp at hk) (by simp) (by simp)
     | ref _ _ _ _ cap hid hcp hsh =>
       refine elems_cells ?_ hl hone
       have hC:CellsAt w G (G.loc id) 0 cs:=fun k x hk=>by simpa using h2 k x hk
       have:=(hC.drop off).take (len*s)
       rwa [Nat.zero_add] at this
    ·simp at hn
   ·simp at hn
  ·simp at hn
 ·rename_i s
  simp [lenA] at hm;subst hm
  split at hn
  ·rename_i hs
   subst hs
   obtain rfl:=Option.some.inj hn
   cases ry with
   | str s =>
     have hsz:s.data.toList.length=s.size:=rfl
     refine ⟨s.data.toList.map fun b => .int .u8 b.toNat,by simp [Builtin.lenOf],fun w' n _ hn=>?_,by simp,by simp,fun k v x hv hx=>?_,fun x hx=>?_⟩
     ·simp only [Builtin.firstCells,Sem.run_pure,Nat.mul_one]
      congr 1
      apply Array.ext'
      simp only [Array.toList_map,ByteArray.data_extract,Array.toList_extract,List.extract_eq_take_drop,List.drop_zero,Nat.sub_zero,List.toList_toArray,List.map_take]
     ·simp only [List.getElem?_map,Option.map_eq_some_iff] at hv hx
      obtain ⟨b,hb,rfl⟩:=hv
      obtain ⟨b',hb',rfl⟩:=hx
      rw [hb] at hb';obtain rfl:=Option.some.inj hb'
      exact .int _ _
     ·simp only [List.mem_map] at hx
      obtain ⟨b,_,rfl⟩:=hx;rfl
  ·simp at hn
 ·simp at hn
def appendable (P:Program) (u:TypeId):Prop:=(∃ e,P.underlying u=some (.slice e))∨P.underlying u=some .string
theorem run_append_same {t u ty el:TypeId} {sz bb oo len cap:Nat} {yv:Value} {newsA:List AVal} {news:List Value} {m:Nat} (ht:P.underlying t=some (.slice el)) (hu:appendable P u) (hs:tSize P el=some sz) (E:Elems P w G sz yv m newsA news)
  (hroom:len+m≤cap) {w1:World} (hst:(storeCells ⟨bb,oo+len*sz,none⟩ news 0).run P w = .ok () w1) :
  (Builtin.append_ #[t,u] ty #[.slice (some ⟨bb,oo,none⟩) len cap,yv]).run P w = .ok (.slice (some ⟨bb,oo,none⟩) (len+m) cap) w1:=by
 have hf:=E.first w m rfl (Nat.le_refl _)
 rw [List.take_of_length_le (by rw [E.len];exact Nat.le_refl _)] at hf
 rcases hu with ⟨e,hu⟩|hu<;>simp [Builtin.append_,run_underlying ht,run_underlying hu,run_sizeOf' hs,E.lenOf,hroom,hf,Addr.add_lit,hst]
theorem run_append_none {t u ty el:TypeId} {sz len cap:Nat} {b:Option Addr} {yv:Value} {newsA:List AVal} {news:List Value} (ht:P.underlying t=some (.slice el)) (hu:appendable P u) (hs:tSize P el=some sz) (E:Elems P w G sz yv 0 newsA news)
  (hc:len≤cap):(Builtin.append_ #[t,u] ty #[.slice b len cap,yv]).run P w = .ok (.slice b len cap) w:=by
 have hf:=E.first w 0 rfl (Nat.le_refl _)
 simp only [Nat.zero_mul,List.take_zero] at hf
 cases b<;>(rcases hu with ⟨e,hu⟩|hu<;>simp [Builtin.append_,run_underlying ht,run_underlying hu,run_sizeOf' hs,E.lenOf,hc,hf,storeCells])
theorem run_append_grow' {t u ty el:TypeId} {sz bytes len cap m:Nat} {b:Option Addr} {yv zv:Value} {i:TypeInfo} {newsA:List AVal} {news olds:List Value} (ht:P.underlying t=some (.slice el)) (hu:appendable P u) (hs:tSize P el=some sz)
  (hi:P.info? el=some i) (hz:i.zero=some zv) (hb:i.bytes=bytes) (E:Elems P w G sz yv m newsA news) (hgr:cap<len+m)
  (hold:∀ w':World,w'.heap=w.heap→(Builtin.firstCells sz len (.slice b len cap)).run P w' = .ok olds.toArray w') (hroom:roomOk (len+m) bytes=true) :
  (Builtin.append_ #[t,u] ty #[.slice b len cap,yv]).run P w = .ok (.slice (some ⟨w.heap.size,0,none⟩) (len+m) (grownCap w (len+m) cap el))
   (w.drew.alloc (.cells (olds.toArray++news.toArray++Builtin.zeroCells zv.cells (grownCap w (len+m) cap el - (len+m))) el)):=by
 have hn:¬ (len+m≤cap):=by omega
 have hf:=E.first w.drew m rfl (Nat.le_refl _)
 rw [List.take_of_length_le (by rw [E.len];exact Nat.le_refl _)] at hf
 have ho:=hold w.drew rfl
 simp only [roomOk,Bool.and_eq_true,decide_eq_true_eq] at hroom
 have h63':¬ (9223372036854775807<((len:Int)+(m:Int))):=by omega
 have h48':¬ (281474976710656<Builtin.nextslicecap (len+m) cap*bytes):=by
  have h1:=nextslicecap_le hgr
  have h2:Builtin.nextslicecap (len+m) cap*bytes≤(4*(len+m)+1024)*bytes:=Nat.mul_le_mul_right _ (by omega)
  omega
 rcases hu with ⟨e,hu⟩|hu<;>simp [Builtin.append_,run_underlying ht,run_underlying hu,run_sizeOf' hs,typeInfo,zeroValue,hi,hz,hb,E.lenOf,hn,h63',h48',Question.forced,hf,ho,newRow,grownCap]<;>(congr 2;apply Array.ext';simp [List.append_assoc])
theorem kill_ok (H:HRel w G h) {id:Nat} {ob:Obj} (hg:h.get id=some ob):∃ G1,Ext w G h w G1 (h.put id none)∧HRel w G1 (h.put id none)∧(∀ b k,stab G b k→stab G1 b k)∧G1.n=G.n:=by
 have ht:Turned w G (G.loc id) w (G.lim (G.loc id)):=Turned.same (fun k hk m hm=>hk m hm)
 refine ⟨_,Ext.update hg ht none,HRel.update H hg ht none (by simp),fun b k hk m hm=>?_,rfl⟩
 by_cases eb:b=G.loc id
 ·subst eb;simp [Ghost.at] at hm;exact hk m hm
 ·simp [Ghost.at,eb] at hm;exact hk m hm
theorem arr_get {olds news:List Value} {tl:Array Value} {k:Nat} {v:Value} (h:(olds++news)[k]?=some v):(olds.toArray++news.toArray++tl)[k]?=some v:=by
 have hlt:k<(olds++news).length:=(List.getElem?_eq_some_iff.1 h).1
 rw [Array.getElem?_append_left (by simpa using hlt)]
 simpa using h
theorem room_le {k cap:Nat} (s:Nat) (h:k≤cap):cap*s≤k*s+(cap - k)*s:=by
 rw [←Nat.add_mul];exact Nat.mul_le_mul_right _ (by omega)
theorem zeroCells_size (z:Array Value) (n:Nat):(Builtin.zeroCells z n).size=n*z.size:=by simp [Builtin.zeroCells]
set_option maxHeartbeats 1600000 in
theorem op_append (H:HRel w G h) (hc:Ops a w G c ev) {arr:Bool} {x y:Operand} {x' y':Opd} {t u el:TypeId} {bytes sz:Nat} {ag:Bool} {z:List AVal} (hx:c x=some x') (hy:c y=some y') (ht:P.underlying t=some (.slice el)) (hu:appendable P u)
  (hb:tBytes P el=some bytes) (hs:tSize P el=some sz) (hz:tZero P el=some z) (hzl:z.length=sz) (hop:o.op = .call { callee := .builtin .append,args:=#[x,y],argTypes:=#[t,u] })
  (e:evalA (.append arr el bytes sz ag x' y') ev h=some (r,h')):OpRes P o a w G h r h':=by
 have rx:=hc _ _ hx
 have ry:=hc _ _ hy
 simp only [evalA] at e
 unfold appendA at e
 split at e
 ·rename_i m newsA hm hnews
  obtain ⟨news,E⟩:=elems_ok (P:=P) H ry hm hnews
  obtain ⟨i,zv,hi,hzv,g1,g2,g3⟩:=tZero_ok hz
  have hib:i.bytes=bytes:=by simp [tBytes,hi] at hb;exact hb
  generalize hv:a.eval x=v at rx
  generalize hv':a.eval y=yv at ry E
  have hexec:∀ {res:Value} {w1:World},(Builtin.append_ #[t,u] o.type #[v,yv]).run P w = .ok res w1→(execOp a.eval o).run P w = .ok (.value res) w1:=fun hr=>by
   simp [execOp,hop,hv,hv',resolve,invoke,builtin,hr]
  -- the new block after a growth
  have hzs:∀ q,(Builtin.zeroCells zv.cells q).size=q*sz:=fun q=>by rw [zeroCells_size,g1,hzl]
  split at e
  ·rename_i hm0
   subst hm0
   split at e
   ·rename_i xs tk hbx
    simp at e;obtain ⟨rfl,rfl⟩:=e
    have rx':=rx
    rw [hbx] at rx
    cases rx with
    | nilsl=>exact OpRes.same H (hexec (run_append_none ht hu hs E (Nat.le_refl _))) rx'
    | emp=>exact OpRes.same H (hexec (run_append_none ht hu hs E (Nat.le_refl _))) rx'
    | sl b off cap sz0 _ _ u0 h0 h1 h2 h3 h4 h5 hcp hnn ho=>exact OpRes.same H (hexec (run_append_none ht hu hs E hcp)) rx'
   ·rename_i id off len s hbx
    simp at e;obtain ⟨rfl,rfl⟩:=e
    have rx':=rx
    rw [hbx] at rx
    cases rx with
    | ref0=>exact OpRes.same H (hexec (run_append_none ht hu hs E (Nat.le_refl _))) rx'
    | ref _ _ _ _ cap hid hcp hsh=>exact OpRes.same H (hexec (run_append_none ht hu hs E hcp)) rx'
   ·simp at e
  ·rename_i hm0
   split at e
   ·rename_i xs tk hbx
    rw [hbx] at rx
    split at e
    ·simp at e
    ·rename_i hroom
     simp only [Bool.not_eq_true,Bool.not_eq_false',Bool.and_eq_true,decide_eq_true_eq] at hroom
     obtain ⟨⟨hroom,hpos⟩,hsml⟩:=hroom
     split at e
     ·-- an array from nil
      have fromNil:∀ {bo:Option Addr},xs=[]→v = .slice bo 0 0→OpRes P o a w G h (.ref h.next 0 m sz) (h.push (.row true sz ag newsA)):=by
         intro bo hxs0 hveq
         rw [hxs0] at hroom
         subst hveq
         have hr:=run_append_grow' (P:=P) (ty:=o.type) (b:=bo) (len:=0) (cap:=0) (olds:=[]) ht hu hs hi hzv hib E (by omega) (fun w' _=>by cases bo<;>simp [Builtin.firstCells,loadCells,loadCellsFrom]) hroom
         have H1:=HRel.of_heap (w:=w) (w':=w.drew) ⟨rfl,rfl,rfl,rfl⟩ H
         have hge:=grownCap_ge w (0+m) 0 el
         obtain ⟨x1,x2,x3,x4,x5⟩:=new_row H1 ([].toArray++news.toArray++Builtin.zeroCells zv.cells (grownCap w (0+m) 0 el - (0+m))) el sz ag newsA (by simp [E.len,E.lenA]) (fun k cc xx hk hx=>by
           have hlt:k<news.length:=by rw [E.len,←E.lenA];exact (List.getElem?_eq_some_iff.1 hx).1
           obtain ⟨v0,hv0⟩:∃ v0,news[k]?=some v0:=⟨_,List.getElem?_eq_getElem hlt⟩
           have:=arr_get (olds:=[]) (news:=news) (tl:=Builtin.zeroCells zv.cells (grownCap w (0+m) 0 el - (0+m))) (k:=k) (v:=v0) (by simpa using hv0)
           rw [hk] at this;obtain rfl:=Option.some.inj this
           exact VRel.of_heap (w:=w) (w':=w.drew) ⟨rfl,rfl,rfl,rfl⟩ (E.rel k cc xx hv0 hx)) E.one (small_ty hsml)
         refine ⟨_,_,_,.inl (hexec hr),x1.drew,x2,?_⟩
         have:=VRel.ref (w:=w.drew.alloc (.cells ([].toArray++news.toArray++Builtin.zeroCells zv.cells (grownCap w (0+m) 0 el - (0+m))) el)) (G:=G.new w.drew.heap.size 0 (some 0)) h.next 0 (0+m) sz (grownCap w (0+m) 0 el) x4 hge ⟨el,_,by rw [x3];exact x5,by
          have hq:=room_le sz hge
          simp only [Array.size_append,List.size_toArray,hzs,E.len,List.length_nil,Nat.zero_add] at hq ⊢
          exact hq⟩
         rw [x3,Nat.zero_add] at this
         rw [Nat.zero_add]
         exact this
      split at e
      ·split at e
       ·rename_i hxs
        subst hxs
        simp at e;obtain ⟨rfl,rfl⟩:=e
        cases rx with
        | sl _ _ _ _ _ _ _ _ _ _ _ _ _ _ hnn=>exact absurd rfl hnn.1
        | nilsl=>exact fromNil rfl rfl
        | emp _ _ htk=>simp at htk
       ·simp at e
      ·split at e
       ·rename_i hxs
        subst hxs
        simp at e;obtain ⟨rfl,rfl⟩:=e
        cases rx with
        | sl b off cap sz0 _ _ u0 h0 h1 h2 h3 h4 h5 hcp hnn ho =>
          have hcap:=hnn.2 rfl
          subst hcap
          exact fromNil rfl rfl
        | nilsl=>exact fromNil rfl rfl
        | emp=>exact fromNil rfl rfl
       ·simp at e
      ·simp at e
     ·split at e
      ·simp at e
      ·rename_i news1 hstrip
       split at e
       ·simp at e
       ·rename_i ys hch
        have hrelA:∀ (k:Nat) (x:AVal),newsA[k]?=some x→∃ v0,news[k]?=some v0∧VRel w G v0 x:=fun k x hk=>by
         obtain ⟨v0,hv0⟩:∃ v0,news[k]?=some v0:=⟨_,List.getElem?_eq_getElem (by rw [E.len,←E.lenA];exact (List.getElem?_eq_some_iff.1 hk).1)⟩
         exact ⟨v0,hv0,E.rel k v0 x hv0 hk⟩
        obtain ⟨c1,c2,c3,c4,c5,c6⟩:=strip_chunk (w:=w) (G:=G) (arr:=news.toArray) (off:=0) hstrip hch E.one E.lenA (fun k x hk=>by obtain ⟨v0,q1,q2⟩:=hrelA k x hk;exact ⟨v0,by simpa using q1,q2⟩)
        have c6':∀ (k:Nat) (x:AVal),(flat ys)[k]?=some x→∃ v0,news[k]?=some v0∧VRel w G v0 x:=fun k x hk=>by simpa using c6 k x hk
        have fromNil:∀ {bo:Option Addr},xs=[]→v = .slice bo 0 0→OpRes P o a w G h (.sl ys (.own h.next sz)) (h.push (.tok el)):=by
           intro bo hxs0 hveq
           rw [hxs0] at hroom
           subst hveq
           have hr:=run_append_grow' (P:=P) (ty:=o.type) (b:=bo) (len:=0) (cap:=0) (olds:=[]) ht hu hs hi hzv hib E (by omega) (fun w' _=>by cases bo<;>simp [Builtin.firstCells,loadCells,loadCellsFrom]) hroom
           have H1:=HRel.of_heap (w:=w) (w':=w.drew) ⟨rfl,rfl,rfl,rfl⟩ H
           have hge:=grownCap_ge w (0+m) 0 el
           obtain ⟨G',z1,z2,z3⟩:=new_tok H1 (arr:=[].toArray++news.toArray++Builtin.zeroCells zv.cells (grownCap w (0+m) 0 el - (0+m))) (el:=el) (xs:=ys) (sz:=sz) (cap:=grownCap w (0+m) 0 el) c2 (fun k xx hk=>by
             obtain ⟨v0,hv0,hv1⟩:=c6' k xx hk
             exact ⟨v0,arr_get (olds:=[]) (by simpa using hv0),VRel.of_heap (w:=w) (w':=w.drew) ⟨rfl,rfl,rfl,rfl⟩ hv1⟩) c4 c5 (by rw [c1];omega) (by
             have hq:=room_le sz hge
             simp only [Array.size_append,List.size_toArray,hzs,E.len,List.length_nil,Nat.zero_add] at hq ⊢
             exact hq)
           refine ⟨_,_,G',.inl (hexec hr),z1.drew,z2,?_⟩
           rw [c1] at z3
           rw [Nat.zero_add] at z3 ⊢
           exact z3
        split at e
        ·-- a list from nil
         split at e
         ·rename_i hxs
          subst hxs
          simp at e;obtain ⟨rfl,rfl⟩:=e
          cases rx with
          | sl _ _ _ _ _ _ _ _ _ _ _ _ _ _ hnn=>exact absurd rfl hnn.1
          | nilsl=>exact fromNil rfl rfl
          | emp _ _ htk=>simp at htk
         ·simp at e
        ·split at e
         ·rename_i hxs
          subst hxs
          simp at e;obtain ⟨rfl,rfl⟩:=e
          cases rx with
          | sl b off cap sz0 _ _ u0 h0 h1 h2 h3 h4 h5 hcp hnn ho =>
            have hcap:=hnn.2 rfl
            subst hcap
            exact fromNil rfl rfl
          | nilsl=>exact fromNil rfl rfl
          | emp=>exact fromNil rfl rfl
         ·simp at e
        ·-- a list with its right
         rename_i id s
         split at e
         ·rename_i tyo hg
          split at e
          ·rename_i hss
           obtain ⟨hss,hty⟩:=hss
           subst hss
           rw [hty] at hg
           simp at e;obtain ⟨rfl,rfl⟩:=e
           cases rx with
           | nilsl _ htk=>simp at htk
           | emp _ _ htk=>simp at htk
           | sl b off cap sz0 _ _ u0 h0 h1 h2 h3 h4 h5 hcp hnn ho =>
             obtain ⟨k1,k0,k2,k3,k4,eT,nT,k5,k6⟩:=ho id s rfl
             subst k1
             subst k3
             obtain ⟨t1,t2,t3⟩:=H.obj id _ hg
             have heT:eT=el:=by
              obtain ⟨n',q1,_⟩:=t2
              rw [q1] at k5
              exact (congrArg (·.1) (Option.some.inj k5)).symm
             rw [heT] at k5
             have hfl:=flat_len h0
             have hstabs:∀ k,stab G (G.loc id) k→k<G.tip id:=fun k hk=>hk _ t1
             by_cases hfit:xs.length+m≤cap
             ·-- in place
              have hle:(xs.length+m)*s≤cap*s:=Nat.mul_le_mul_right _ hfit
              rw [Nat.add_mul] at hle
              have hcellex:∀ j,off+xs.length*s≤j→j<off+xs.length*s+news.length→(∃ u,w.cell? ⟨G.loc id,j,none⟩=some u)∧w.frozen? ⟨G.loc id,j,none⟩=false:=by
               intro j hj1 hj2
               rw [E.len] at hj2
               have hjn:j<nT:=by omega
               refine ⟨?_,fzr_frozen (Nat.le_trans t3 (by omega))⟩
               unfold World.shape? at k5
               split at k5
               ·rename_i ca ea fa hca
                simp at k5
                refine ⟨ca[j]'(by omega),?_⟩
                simp only [World.cell?,hca]
                simp [k5.2,hjn]
               ·simp at k5
              obtain ⟨w1,hst,hw⟩:=run_storeCells_ex (P:=P) (G.loc id) (off+xs.length*s) news 0 w (fun j hj=>hcellex _ (by omega) (by omega)) E.one'
              have hr:=run_append_same (P:=P) (ty:=o.type) ht hu hs E hfit hst
              have htip:G.tip id=off+xs.length*s:=k4
              have hTurn:Turned w G (G.loc id) w1 (some (off+(xs.length+m)*s)) := .of_shape ⟨_,k5⟩ hw.os hw.tape hw.out hw.size hw.other hw.shape (fun k hk=>by
                have:=hstabs k hk
                rw [hw.cell,if_neg (by omega)]) (fun k hk q hq=>by
                have:=hstabs k hk
                simp at hq;subst hq;rw [Nat.add_mul];omega)
              have hX:=Ext.replace H hg hTurn (off+(xs.length+m)*s) (.tok el)
              have hloc:(G.new (G.loc id) (off+(xs.length+m)*s) (some (off+(xs.length+m)*s))).loc G.n=G.loc id:=by simp [Ghost.new]
              have hcells:∀ (k:Nat) (xx:AVal),(flat (xs++ys))[k]?=some xx→∃ v0,w1.cell? ⟨G.loc id,off+k,none⟩=some v0∧VRel w G v0 xx:=by
               intro k xx hk
               rw [flat_append] at hk
               by_cases hkl:k<(flat xs).length
               ·rw [List.getElem?_append_left hkl] at hk
                refine ⟨u0 k,?_,h2 k xx hk⟩
                rw [hw.cell,if_neg (by omega)]
                exact h1 k xx hk
               ·rw [List.getElem?_append_right (by omega)] at hk
                obtain ⟨v0,hv0,hv1⟩:=c6' _ xx hk
                have hlt:=(List.getElem?_eq_some_iff.1 hv0).1
                refine ⟨v0,?_,hv1⟩
                rw [hw.cell,if_pos (by omega)]
                rw [←hv0];congr 1;omega
              have hlenys:(xs++ys).length=xs.length+m:=by rw [List.length_append,c1]
              have hsizes:∀ x∈xs++ys,x.cells.length=s:=fun q hq=>(List.mem_append.1 hq).elim (h0 q) (c2 q)
              refine ⟨_,w1,_,.inl (hexec hr),hX,HRel.replace H hg hTurn _ (.tok el) ?_,?_⟩
              ·unfold OkObj
               rw [hloc,hw.shape]
               refine ⟨by simp [Ghost.new],⟨nT,k5,by simp [Ghost.new];rw [Nat.add_mul];omega⟩,?_⟩
               rw [hw.fz]
               simp only [Ghost.new,if_true]
               rw [Nat.add_mul];omega
              ·have hvr:VRel w1 (G.new (G.loc id) (off+(xs.length+m)*s) (some (off+(xs.length+m)*s))) (.slice (some ⟨G.loc id,off,none⟩) (xs++ys).length cap) (.sl (xs++ys) (.own h.next s)):=?hvr
               ·rw [hlenys] at hvr;exact hvr
               refine .sl (G.loc id) off cap s (xs++ys) _ (fun k=>(w1.cell? ⟨G.loc id,off+k,none⟩).getD (.bool false)) hsizes (fun k xx hk=>?_) (fun k xx hk=>?_) (fun k hk q hq=>?_) (fun q hq=>?_) (fun q hq=>?_) (by rw [hlenys];exact hfit) (by simp) (fun id' s' hs'=>?_)
               ·obtain ⟨v0,q1,q2⟩:=hcells k xx hk
                rw [q1];rfl
               ·obtain ⟨v0,q1,q2⟩:=hcells k xx hk
                rw [q1];exact q2.mono hX
               ·simp [Ghost.new] at hq
                rw [flat_len hsizes,hlenys] at hk
                omega
               ·rw [flat_append] at hq;exact (List.mem_append.1 hq).elim (h4 q) (c4 q)
               ·rw [flat_append] at hq;exact (List.mem_append.1 hq).elim (h5 q) (c5 q)
               ·simp only [Tok.own.injEq] at hs'
                obtain ⟨rfl,rfl⟩:=hs'
                refine ⟨rfl,k0,by simp [Ghost.new,H.n_eq],by simp [Ghost.new,H.n_eq],by simp [Ghost.new,H.n_eq,hlenys,c1],el,nT,by rw [hw.shape];exact k5,k6⟩
             ·-- in a new block
              obtain ⟨olds,eo1,eo2,eo3⟩:=(show CellsAt w G (G.loc id) off (flat xs) from fun k xx hk=>⟨u0 k,h1 k xx hk,h2 k xx hk⟩).vals
              have hr:=run_append_grow' (P:=P) (ty:=o.type) (b:=some ⟨G.loc id,off,none⟩) (len:=xs.length) (cap:=cap) (olds:=olds) ht hu hs hi hzv hib E (by omega) (fun w' hw'=>by
               have:=run_firstCells_some (P:=P) w' s xs.length ⟨G.loc id,off,none⟩ xs.length cap olds (by rw [eo1,hfl]) (fun j v hj=>by rw [Addr.add_lit];simpa [World.cell?,hw'] using eo2 j v hj)
               exact this) hroom
              obtain ⟨G1,y1,y2,y3,y4⟩:=kill_ok H hg
              have H1:=HRel.of_heap (w:=w) (w':=w.drew) ⟨rfl,rfl,rfl,rfl⟩ y2
              have hge:=grownCap_ge w (xs.length+m) cap el
              have hlenys:(xs++ys).length=xs.length+m:=by rw [List.length_append,c1]
              have hsizes:∀ x∈xs++ys,x.cells.length=s:=fun q hq=>(List.mem_append.1 hq).elim (h0 q) (c2 q)
              have e1':Ext w G h w.drew G1 (h.put id none):=y1.trans (Ext.of_heap ⟨rfl,rfl,rfl,rfl⟩)
              obtain ⟨G',z1,z2,z3⟩:=new_tok H1 (arr:=olds.toArray++news.toArray++Builtin.zeroCells zv.cells (grownCap w (xs.length+m) cap el - (xs.length+m))) (el:=el) (xs:=xs++ys) (sz:=s) (cap:=grownCap w (xs.length+m) cap el) hsizes (fun k xx hk=>by
                rw [flat_append] at hk
                by_cases hkl:k<(flat xs).length
                ·rw [List.getElem?_append_left hkl] at hk
                 obtain ⟨v0,hv0⟩:∃ v0,olds[k]?=some v0:=⟨_,List.getElem?_eq_getElem (by rw [eo1];exact hkl)⟩
                 exact ⟨v0,arr_get (by rw [List.getElem?_append_left (by rw [eo1];exact hkl)];exact hv0),(eo3 k v0 xx hv0 hk).mono e1'⟩
                ·rw [List.getElem?_append_right (by omega)] at hk
                 obtain ⟨v0,hv0,hv1⟩:=c6' _ xx hk
                 exact ⟨v0,arr_get (by rw [List.getElem?_append_right (by rw [eo1];omega),eo1];exact hv0),hv1.mono e1'⟩) (fun q hq=>by rw [flat_append] at hq;exact (List.mem_append.1 hq).elim (h4 q) (c4 q)) (fun q hq=>by rw [flat_append] at hq;exact (List.mem_append.1 hq).elim (h5 q) (c5 q))
                (by rw [hlenys];exact hge) (by
                have hq:=room_le s hge
                simp only [Array.size_append,List.size_toArray,hzs,E.len,eo1,hfl]
                rw [Nat.add_mul] at hq
                exact hq)
              refine ⟨_,_,G',.inl (hexec hr),e1'.trans z1,z2,?_⟩
              rw [hlenys,Heap.next_put] at z3
              exact z3
          ·simp at e
         ·simp at e
        ·simp at e
   ·-- an array that grows
    rename_i id off len s0 hbx
    rw [hbx] at rx
    split at e
    ·rename_i s ag' cs hg
     split at e
     ·rename_i hcond
      obtain ⟨_,q1,q2,q3,q4,hroom,hpos,hsml⟩:=hcond
      subst q1;subst q2;subst q3
      simp at e;obtain ⟨rfl,rfl⟩:=e
      obtain ⟨o1,o2,o3,o4,o5⟩:=H.obj id _ hg
      have grow:∀ {b:Option Addr} {cap:Nat} {olds:List Value},cap<len+m→olds.length=cs.length→(∀ (k:Nat) (v:Value) (x:AVal),olds[k]?=some v→cs[k]?=some x→VRel w G v x) →
        (∀ w':World,w'.heap=w.heap→(Builtin.firstCells s len (.slice b len cap)).run P w' = .ok olds.toArray w')→v = .slice b len cap→OpRes P o a w G h (.ref h.next 0 (len+m) s) ((h.put id none).push (.row true s ag' (cs++newsA))):=by
       intro b cap olds hgr hol horel hfirst hveq
       have hr:=run_append_grow' (P:=P) (ty:=o.type) (b:=b) (len:=len) (cap:=cap) (olds:=olds) ht hu hs hi hzv hib E hgr hfirst hroom
       obtain ⟨G1,y1,y2,y3,y4⟩:=kill_ok H hg
       have H1:=HRel.of_heap (w:=w) (w':=w.drew) ⟨rfl,rfl,rfl,rfl⟩ y2
       have hge:=grownCap_ge w (len+m) cap el
       have e1':Ext w G h w.drew G1 (h.put id none):=y1.trans (Ext.of_heap ⟨rfl,rfl,rfl,rfl⟩)
       obtain ⟨x1,x2,x3,x4,x5⟩:=new_row H1 (olds.toArray++news.toArray++Builtin.zeroCells zv.cells (grownCap w (len+m) cap el - (len+m))) el s ag' (cs++newsA) (by simp [E.len,E.lenA,hol]) (fun k cc xx hk hx=>by
         have hlt:k<(cs++newsA).length:=(List.getElem?_eq_some_iff.1 hx).1
         rw [List.length_append,E.lenA] at hlt
         obtain ⟨v0,hv0⟩:∃ v0,(olds++news)[k]?=some v0:=⟨_,List.getElem?_eq_getElem (by rw [List.length_append,E.len,hol];exact hlt)⟩
         have:=arr_get (tl:=Builtin.zeroCells zv.cells (grownCap w (len+m) cap el - (len+m))) hv0
         rw [hk] at this;obtain rfl:=Option.some.inj this
         by_cases hkl:k<cs.length
         ·rw [List.getElem?_append_left hkl] at hx
          rw [List.getElem?_append_left (by rw [hol];exact hkl)] at hv0
          exact (horel k cc xx hv0 hx).mono e1'
         ·rw [List.getElem?_append_right (by omega)] at hx
          rw [List.getElem?_append_right (by rw [hol];omega),hol] at hv0
          exact (E.rel _ cc xx hv0 hx).mono e1') (fun q hq=>(List.mem_append.1 hq).elim (o3 q) (E.one q)) (small_ty hsml)
       subst hveq
       refine ⟨_,_,_,.inl (hexec hr),e1'.trans x1,x2,?_⟩
       have:=VRel.ref (w:=w.drew.alloc (.cells (olds.toArray++news.toArray++Builtin.zeroCells zv.cells (grownCap w (len+m) cap el - (len+m))) el)) (G:=G1.new w.drew.heap.size 0 (some 0)) (h.put id none).next 0 (len+m) s (grownCap w (len+m) cap el) x4 hge ⟨el,_,by rw [x3];exact x5,by
        have hq:=room_le s hge
        simp only [Array.size_append,List.size_toArray,hzs,E.len,hol,q4]
        rw [Nat.add_mul] at hq
        rw [Nat.zero_add]
        exact hq⟩
       rw [x3,Heap.next_put] at this
       exact this
      cases rx with
      | ref0 _ _ _ b bo hid =>
        have hcs:cs=[]:=List.eq_nil_of_length_eq_zero (by simpa using q4)
        subst hcs
        exact grow (cap:=0) (olds:=[]) (by omega) rfl (by simp) (fun w' _=>by simp [Builtin.firstCells,loadCells,loadCellsFrom]) rfl
      | ref _ _ _ _ cap hid hcp hsh =>
        obtain ⟨eT,nT,k5,k6⟩:=hsh
        by_cases hfit:len+m≤cap
        ·have hle:(len+m)*s≤cap*s:=Nat.mul_le_mul_right _ hfit
         rw [Nat.add_mul] at hle
         have hcellex:∀ j,0+len*s≤j→j<0+len*s+news.length→(∃ u,w.cell? ⟨G.loc id,j,none⟩=some u)∧w.frozen? ⟨G.loc id,j,none⟩=false:=by
          intro j hj1 hj2
          rw [E.len] at hj2
          have hjn:j<nT:=by omega
          refine ⟨?_,o5 rfl j eT nT k5 hjn⟩
          unfold World.shape? at k5
          split at k5
          ·rename_i ca ea fa hca
           simp at k5
           refine ⟨ca[j]'(by omega),?_⟩
           simp only [World.cell?,hca]
           simp [k5.2,hjn]
          ·simp at k5
         obtain ⟨w1,hst,hw⟩:=run_storeCells_ex (P:=P) (G.loc id) (0+len*s) news 0 w (fun j hj=>hcellex _ (by omega) (by omega)) E.one'
         have hr:=run_append_same (P:=P) (ty:=o.type) ht hu hs E hfit hst
         have hns:∀ k,¬ stab G (G.loc id) k:=fun k hk=>by have:=hk 0 o1;omega
         have hTurn:Turned w G (G.loc id) w1 (some 0) := .of_shape ⟨_,k5⟩ hw.os hw.tape hw.out hw.size hw.other hw.shape (fun k hk=>absurd hk (hns k)) (fun k hk=>absurd hk (hns k))
         have hX:=Ext.replace H hg hTurn 0 (.row true s ag' (cs++newsA))
         have hloc:(G.new (G.loc id) 0 (some 0)).loc G.n=G.loc id:=by simp [Ghost.new]
         refine ⟨_,w1,_,.inl (hexec hr),hX,HRel.replace H hg hTurn 0 _ ?_,?_⟩
         ·unfold OkObj
          rw [hloc,hw.shape]
          refine ⟨by simp [Ghost.new],fun k xx hk=>?_,fun q hq=>(List.mem_append.1 hq).elim (o3 q) (E.one q),⟨eT,nT,k5,by rw [List.length_append,E.lenA,q4];omega,small_ty hsml⟩,fun _ k e1 n1 p1 p2=>by rw [hw.frozen];exact o5 rfl k e1 n1 p1 p2⟩
          by_cases hkl:k<cs.length
          ·rw [List.getElem?_append_left hkl] at hk
           rw [hw.cell,if_neg (by omega)]
           exact (o2 k xx hk).imp fun u hu=>⟨hu.1,hu.2.mono hX⟩
          ·rw [List.getElem?_append_right (by omega)] at hk
           have hlt:=(List.getElem?_eq_some_iff.1 hk).1
           rw [E.lenA,←E.len] at hlt
           obtain ⟨v0,hv0⟩:∃ v0,news[k - cs.length]?=some v0:=⟨_,List.getElem?_eq_getElem hlt⟩
           refine ⟨v0,?_,(E.rel _ v0 xx hv0 hk).mono hX⟩
           rw [hw.cell,if_pos (by omega),←hv0];congr 1;omega
         ·have:=VRel.ref (w:=w1) (G:=G.new (G.loc id) 0 (some 0)) h.next 0 (len+m) s cap (by simp [Ghost.new,H.n_eq]) hfit ⟨eT,nT,by rw [←H.n_eq,hloc,hw.shape];exact k5,by omega⟩
          rwa [←H.n_eq,hloc,H.n_eq] at this
        ·obtain ⟨olds,eo1,eo2,eo3⟩:=(show CellsAt w G (G.loc id) 0 cs from fun k xx hk=>by simpa using o2 k xx hk).vals
         exact grow (b:=some ⟨G.loc id,0,none⟩) (cap:=cap) (olds:=olds) (by omega) eo1 eo3 (fun w' hw' =>
          run_firstCells_some (P:=P) w' s len ⟨G.loc id,0,none⟩ len cap olds (by rw [eo1,q4]) (fun j v hj=>by rw [Addr.add_lit];simpa [World.cell?,hw'] using eo2 j v hj)) rfl
     ·simp at e
    ·simp at e
   ·simp at e
 ·simp at e
set_option maxHeartbeats 800000 in
theorem op_copy (H:HRel w G h) (hc:Ops a w G c ev) {x y:Operand} {x' y':Opd} {t u el:TypeId} {sz:Nat} (hx:c x=some x') (hy:c y=some y') (ht:P.underlying t=some (.slice el)) (hs:tSize P el=some sz)
  (hop:o.op = .call { callee := .builtin .copy,args:=#[x,y],argTypes:=#[t,u] }) (e:evalA (.copy sz x' y') ev h=some (r,h')):OpRes P o a w G h r h':=by
 have rx:=hc _ _ hx
 have ry:=hc _ _ hy
 simp only [evalA] at e
 unfold copyA at e
 split at e
 ·rename_i m newsA hm hnews
  obtain ⟨news,E⟩:=elems_ok (P:=P) H ry hm hnews
  generalize hv:a.eval x=v at rx
  generalize hv':a.eval y=yv at ry E
  split at e
  ·rename_i id off len s hbx
   rw [hbx] at rx
   split at e
   ·rename_i s' ag cs hg
    split at e
    ·rename_i hcond
     obtain ⟨q1,q2,q3⟩:=hcond
     subst q1
     simp at e;obtain ⟨rfl,rfl⟩:=e
     have hmin:Nat.min m len=min m len:=rfl
     have hf:=E.first w (min m len) rfl (Nat.min_le_left _ _)
     have hle:min m len*s≤len*s:=Nat.mul_le_mul_right _ (Nat.min_le_right _ _)
     have hle2:min m len*s≤m*s:=Nat.mul_le_mul_right _ (Nat.min_le_left _ _)
     have hln:(news.take (min m len*s)).length=min m len*s:=by rw [List.length_take,E.len];omega
     have hlnA:(newsA.take (min m len*s)).length=min m len*s:=by rw [List.length_take,E.lenA];omega
     have hone:∀ q∈newsA.take (min m len*s),q.one=true:=fun q hq=>E.one q (List.mem_of_mem_take hq)
     have hrel:∀ (k:Nat) (v:Value) (x:AVal),(news.take (min m len*s))[k]?=some v→(newsA.take (min m len*s))[k]?=some x→VRel w G v x:=by
      intro k v x h1 h2
      rw [List.getElem?_take] at h1 h2
      split at h1
      ·rename_i hk;rw [if_pos hk] at h2;exact E.rel k v x h1 h2
      ·simp at h1
     cases rx with
     | ref0 _ _ _ b bo hid =>
       have hz:min m 0=0:=Nat.min_zero m
       rw [hz] at hf ⊢
       simp only [Nat.zero_mul,List.take_zero] at hf ⊢
       have hput:∃ G',Ext w G h w G' (h.put id (some (.row true s' ag (setCells cs off []))))∧HRel w G' (h.put id (some (.row true s' ag (setCells cs off [])))):=by
        have hw0:Wrote w (G.loc id) off [] w:=⟨rfl,rfl,rfl,rfl,fun _ _=>rfl,rfl,fun _=>rfl,rfl,fun k=>by simp;intro h1 h2;omega⟩
        exact write_row H hg hw0 rfl (by simp) (by simp) (by simp;omega)
       obtain ⟨G',x1,x2⟩:=hput
       refine ⟨.int .i64 0,w,G',.inl ?_,x1,x2,.int _ _⟩
       simp [execOp,hop,hv,hv',resolve,invoke,builtin,Builtin.copy_,run_underlying ht,E.lenOf,run_sizeOf' hs,hf,storeCells,goInt]
     | ref _ _ _ _ cap hid hcp hsh =>
       obtain ⟨w1,hst,hw⟩:=row_writable (P:=P) H hg (off:=off) (vs:=news.take (min m len*s)) (by rw [hln];omega) (fun v hv=>E.one' v (List.mem_of_mem_take hv))
       obtain ⟨G',x1,x2⟩:=write_row H hg hw (by rw [hln,hlnA]) hrel hone (by rw [hlnA];omega)
       refine ⟨.int .i64 (min m len:Nat),w1,G',.inl ?_,x1,x2,?_⟩
       ·simp [execOp,hop,hv,hv',resolve,invoke,builtin,Builtin.copy_,run_underlying ht,E.lenOf,run_sizeOf' hs,hmin,hf,hst,goInt]
       ·have:=VRel.int (w:=w1) (G:=G') .i64 ((min m len:Nat):Int)
        simpa using this
    ·simp at e
   ·simp at e
  ·rename_i tk hbx
   rw [hbx] at rx
   simp at e;obtain ⟨rfl,rfl⟩:=e
   have hf:=E.first w 0 rfl (Nat.zero_le _)
   simp only [Nat.zero_mul,List.take_zero] at hf
   cases rx with
   | nilsl=>exact OpRes.same H (v := .int .i64 0) (by simp [execOp,hop,hv,hv',resolve,invoke,builtin,Builtin.copy_,run_underlying ht,E.lenOf,run_sizeOf' hs,hf,goInt]) (.int _ _)
   | emp=>exact OpRes.same H (v := .int .i64 0) (by simp [execOp,hop,hv,hv',resolve,invoke,builtin,Builtin.copy_,run_underlying ht,E.lenOf,run_sizeOf' hs,hf,goInt,storeCells]) (.int _ _)
   | sl b off cap sz0 _ _ u0=>exact OpRes.same H (v := .int .i64 0) (by simp [execOp,hop,hv,hv',resolve,invoke,builtin,Builtin.copy_,run_underlying ht,E.lenOf,run_sizeOf' hs,hf,goInt,storeCells]) (.int _ _)
  ·simp at e
 ·simp at e
end
end Go.Abs

namespace Go.Abs
theorem Ext.alloc_any {w:World} {G:Ghost} {h:Heap} (H:HRel w G h) (ob:Go.Obj) (tip:Nat) (lim:Option Nat) (o:Obj) :
  Ext w G h (w.alloc ob) (G.new w.heap.size tip lim) (h.push o) where
 os:=rfl
 tape:=rfl
 out:=rfl
 size:=by simp
 keep:=fun b hb _=>⟨heap_push_old _ _ hb,by simp [Ghost.new,Nat.ne_of_lt hb]⟩
 stable:=fun b k hb hs=>⟨by simp [World.cell?,heap_push_old _ _ hb],by unfold stab Ghost.new;simp [Nat.ne_of_lt hb];exact hs⟩
 shape:=fun b hb=>by simp [World.shape?,heap_push_old _ _ hb]
 n_le:=by simp [Ghost.new]
 ids:=fun id hid=>by simp [Ghost.new,Nat.ne_of_lt hid]
 fresh:=fun b hb ho=>by
  obtain ⟨id,o',ho',rfl⟩:=ho
  rcases Heap.get_push_some ho' with ⟨rfl,_⟩|⟨hid,ho''⟩
  ·simp [Ghost.new,H.n_eq] at hb
  ·refine ⟨id,o',ho'',?_⟩
   simp [Ghost.new,H.n_eq,Nat.ne_of_lt hid]
 env:=rfl
 loops:=fun b r h=>⟨r,by rw [heap_push_old _ _ (Array.getElem?_eq_some_iff.1 h).1];exact h⟩
theorem HRel.alloc_any {w:World} {G:Ghost} {h:Heap} (H:HRel w G h) (ob:Go.Obj) (tip:Nat) (lim:Option Nat) (o:Obj)
  (ho:OkObj (w.alloc ob) (G.new w.heap.size tip lim) G.n o):HRel (w.alloc ob) (G.new w.heap.size tip lim) (h.push o) where
 n_eq:=by simp [Ghost.new,H.n_eq]
 lt:=fun id o' h'=>by
  rcases Heap.get_push_some h' with ⟨rfl,_⟩|⟨hid,h''⟩
  ·simp [Ghost.new,H.n_eq]
  ·have:=H.lt id o' h''
   simp [Ghost.new,H.n_eq,Nat.ne_of_lt hid];omega
 obj:=fun id o' h'=>by
  rcases Heap.get_push_some h' with ⟨rfl,rfl⟩|⟨hid,h''⟩
  ·rw [←H.n_eq];exact ho
  ·have hlt:=H.lt id o' h''
   exact OkObj.mono (Ext.alloc_any H ob tip lim o) (by rw [H.n_eq];exact hid) hlt (heap_push_old _ _ hlt) (by simp [Ghost.new,Nat.ne_of_lt hlt]) (H.obj id o' h'')
 inj:=fun i j oi oj hi hj he=>by
  rcases Heap.get_push_some hi with ⟨rfl,_⟩|⟨hi',hi''⟩<;>rcases Heap.get_push_some hj with ⟨rfl,_⟩|⟨hj',hj''⟩
  ·rfl
  ·have:=H.lt j oj hj''
   simp [Ghost.new,H.n_eq,Nat.ne_of_lt hj'] at he;omega
  ·have:=H.lt i oi hi''
   simp [Ghost.new,H.n_eq,Nat.ne_of_lt hi'] at he;omega
  ·simp only [Ghost.new,H.n_eq,Nat.ne_of_lt hi',Nat.ne_of_lt hj',if_false] at he
   exact H.inj i j oi oj hi'' hj'' he
 glob:=fun g cs hg=>⟨(H.glob g cs hg).1.mono (Ext.alloc_any H ob tip lim o),(H.glob g cs hg).2⟩
section
variable {P:Program} {o:Oper} {a:Act} {w:World} {G:Ghost} {h:Heap} {c:Operand→Option Opd} {ev:Opd→AVal} {r:AVal} {h':Heap}
theorem new_map {w:World} {G:Ghost} {h:Heap} (H:HRel w G h) (kd:KD) (entries:Array MapEntry) (clock:Nat) (es:List (Nat×AVal×AVal)) (hs:entries.size=es.length)
  (hrel:∀ (k:Nat) e x,entries[k]?=some e→es[k]?=some x→e.born=x.1∧VRel w G e.key x.2.1∧VRel w G e.val x.2.2) (hk:∀ x∈es,isKey kd x.2.1=true∧plain x.2.2=true) (hst:MapKept.Stamped entries clock) :
  ∃ G',Ext w G h (w.alloc (.map entries clock)) G' (h.push (.map kd clock es))∧HRel (w.alloc (.map entries clock)) G' (h.push (.map kd clock es))∧VRel (w.alloc (.map entries clock)) G' (.map (some w.heap.size)) (.mp h.next):=by
 have hX:=Ext.alloc_any H (.map entries clock) 0 (some 0) (.map kd clock es)
 have hloc:(G.new w.heap.size 0 (some 0)).loc G.n=w.heap.size:=by simp [Ghost.new]
 have hnew:(w.alloc (.map entries clock)).heap[w.heap.size]?=some (.map entries clock):=(MapKept.heap_alloc w _).1
 refine ⟨_,hX,HRel.alloc_any H _ 0 (some 0) _ ?_,?_⟩
 ·unfold OkObj
  rw [hloc]
  exact ⟨entries,hnew,hs,fun k e x he hx=>by obtain ⟨q1,q2,q3⟩:=hrel k e x he hx;exact ⟨q1,q2.mono hX,q3.mono hX⟩,hk,hst⟩
 ·have:=VRel.mp (w:=w.alloc (.map entries clock)) (G:=G.new w.heap.size 0 (some 0)) h.next (by simp [Ghost.new,H.n_eq])
  rwa [←H.n_eq,hloc,H.n_eq] at this
theorem map_turned {w:World} {G:Ghost} {b:Nat} {entries:Array MapEntry} {clock:Nat} (hg:w.heap[b]?=some (.map entries clock)) (entries':Array MapEntry) (clock':Nat) :
  Turned w G b { w with heap:=w.heap.setIfInBounds b (.map entries' clock') } (G.lim b):=by
 obtain ⟨s1,s2⟩:=MapKept.heap_set (o' := .map entries' clock') hg
 refine ⟨rfl,rfl,rfl,by simp,fun c hc=>s2 c hc,?_,fun k _=>?_,fun k hk m hm=>hk m hm,fun r hr=>by rw [hg] at hr;simp at hr⟩
 ·simp only [World.shape?,s1,hg]
 ·simp only [World.cell?,s1,hg]
theorem write_map {w:World} {G:Ghost} {h:Heap} (H:HRel w G h) {id:Nat} {kd kd':KD} {clock clock':Nat} {es es':List (Nat×AVal×AVal)} {entries entries':Array MapEntry} (hg:h.get id=some (.map kd clock es)) (hw:w.heap[G.loc id]?=some (.map entries clock))
  (hs:entries'.size=es'.length) (hrel:∀ (k:Nat) e x,entries'[k]?=some e→es'[k]?=some x→e.born=x.1∧VRel w G e.key x.2.1∧VRel w G e.val x.2.2)
  (hk:∀ x∈es',isKey kd' x.2.1=true∧plain x.2.2=true) (hst:MapKept.Stamped entries' clock') :
  ∃ G',Ext w G h { w with heap:=w.heap.setIfInBounds (G.loc id) (.map entries' clock') } G' (h.put id (some (.map kd' clock' es')))∧HRel { w with heap:=w.heap.setIfInBounds (G.loc id) (.map entries' clock') } G' (h.put id (some (.map kd' clock' es'))):=by
 have ht:=map_turned (G:=G) hw entries' clock'
 have hX:=Ext.update hg ht (some (.map kd' clock' es'))
 refine ⟨_,hX,HRel.update H hg ht _ fun ob ho=>?_⟩
 obtain rfl:=Option.some.inj ho
 unfold OkObj
 have hloc:(G.at (G.loc id) (G.lim (G.loc id))).loc id=G.loc id:=rfl
 rw [hloc]
 exact ⟨entries',(MapKept.heap_set hw).1,hs,fun k e x he hx=>by obtain ⟨q1,q2,q3⟩:=hrel k e x he hx;exact ⟨q1,q2.mono hX,q3.mono hX⟩,hk,hst⟩
theorem isSK_fun' {k:SK} {x y:AVal} {u v:Value} (h:isSK k x=true) (e:x=y) (ru:VRel w G u x) (rv:VRel w G v y):u=v:=by
 cases k<;>cases x<;>simp [isSK] at h<;>cases y<;>simp at e
 ·cases ru;cases rv;rw [e.1,e.2]
 ·cases ru;cases rv
  rename_i a b
  obtain ⟨⟨x⟩⟩:=a
  obtain ⟨⟨y⟩⟩:=b
  simp at e
  rw [e]
 ·cases ru;cases rv;rw [e]
theorem isSK_fun {k:SK} {x:AVal} {u v:Value} (h:isSK k x=true) (ru:VRel w G u x) (rv:VRel w G v x):u=v:=isSK_fun' h rfl ru rv
theorem isSK_inj {k:SK} {x y:AVal} {u:Value} (h:isSK k x=true) (h':isSK k y=true) (ru:VRel w G u x) (rv:VRel w G u y):x=y:=by
 cases k<;>cases x<;>simp [isSK] at h<;>cases y<;>simp [isSK] at h'
 ·cases ru;cases rv;rfl
 ·cases ru;cases rv;rfl
 ·cases ru;cases rv;rfl
theorem isSKs_len:∀ {ks:List SK} {xs:List AVal},isSKs ks xs=true→ks.length=xs.length
 | [],[],_=>rfl
 | [],_::_,h=>by simp [isSKs] at h
 | _::_,[],h=>by simp [isSKs] at h
 | k::ks,x::xs,h=>by
   simp only [isSKs,Bool.and_eq_true] at h
   simp [isSKs_len h.2]
theorem isSKs_get:∀ {ks:List SK} {xs:List AVal},isSKs ks xs=true→∀ {j:Nat} {x:AVal},xs[j]?=some x→∃ k,ks[j]?=some k∧isSK k x=true
 | [],[],_,j,x,hx=>by simp at hx
 | [],_::_,h,_,_,_=>by simp [isSKs] at h
 | _::_,[],h,_,_,_=>by simp [isSKs] at h
 | k::ks,y::xs,h,j,x,hx=>by
   simp only [isSKs,Bool.and_eq_true] at h
   cases j with
   | zero=>simp at hx;subst hx;exact ⟨k,rfl,h.1⟩
   | succ j=>exact isSKs_get h.2 (by simpa using hx)
theorem skEq_iff {k:SK} {x y:AVal} (h:isSK k x=true) (h':isSK k y=true):skEq k x y=true↔x=y:=by
 cases k<;>cases x<;>simp [isSK] at h<;>cases y<;>simp [isSK] at h'
 ·subst h;subst h';simp [skEq]
 ·simp [skEq]
 ·simp [skEq]
theorem sksEq_iff:∀ {ks:List SK} {xs ys:List AVal},isSKs ks xs=true→isSKs ks ys=true→(sksEq ks xs ys=true↔xs=ys)
 | [],[],[],_,_=>by simp [sksEq]
 | [],_::_,_,h,_=>by simp [isSKs] at h
 | [],[],_::_,_,h=>by simp [isSKs] at h
 | _::_,[],_,h,_=>by simp [isSKs] at h
 | _::_,_::_,[],_,h=>by simp [isSKs] at h
 | k::ks,x::xs,y::ys,h,h'=>by
   simp only [isSKs,Bool.and_eq_true] at h h'
   simp only [sksEq,Bool.and_eq_true,skEq_iff h.1 h'.1,sksEq_iff h.2 h'.2,List.cons.injEq]
def SK.ck:SK→CK
 | .int _ => .int
 | .str => .str
 | .bool => .bool
theorem cellsEq_sks:∀ {ks:List SK} {xs ys:List AVal},isSKs ks xs=true→isSKs ks ys=true→cellsEq (ks.map SK.ck) xs ys=some (sksEq ks xs ys)
 | [],[],[],_,_=>rfl
 | [],_::_,_,h,_=>by simp [isSKs] at h
 | [],[],_::_,_,h=>by simp [isSKs] at h
 | _::_,[],_,h,_=>by simp [isSKs] at h
 | _::_,_::_,[],_,h=>by simp [isSKs] at h
 | k::ks,x::xs,y::ys,h,h'=>by
   simp only [isSKs,Bool.and_eq_true] at h h'
   have hq:cellEq k.ck x y=some (skEq k x y):=by
    obtain ⟨h1,_⟩:=h
    obtain ⟨h2,_⟩:=h'
    cases k<;>cases x<;>simp [isSK] at h1<;>cases y<;>simp [isSK] at h2
    ·subst h1;subst h2;simp [SK.ck,cellEq,skEq]
    ·simp [SK.ck,cellEq,skEq]
    ·simp [SK.ck,cellEq,skEq]
   simp only [List.map_cons,cellsEq,hq,sksEq]
   cases skEq k x y with
   | true=>simp [cellsEq_sks h.2 h'.2]
   | false=>rfl
theorem field_sks:∀ {fs:List Field} {i:Nat} {cks:List CK} {ks:List SK},fieldKs P fs i=some cks→fieldSKs P fs=some ks→cks=ks.map SK.ck
 | [],i,cks,ks,h,h'=>by
   simp [fieldKs] at h;simp [fieldSKs] at h'
   subst h;subst h';rfl
 | f::fs,i,cks,ks,h,h'=>by
   simp only [fieldKs] at h
   simp only [fieldSKs] at h'
   split at h
   ·split at h
    ·rename_i a _ h1 h2
     rw [h1] at h'
     cases hs:fieldSKs P fs with
     | none=>rw [hs] at h';simp at h'
     | some ks2 =>
       rw [hs] at h'
       simp at h h'
       subst h;subst h'
       simp [SK.ck,field_sks h2 hs]
    ·rename_i h1 h2
     rw [h1] at h'
     cases hs:fieldSKs P fs with
     | none=>rw [hs] at h';simp at h'
     | some ks2 =>
       rw [hs] at h'
       simp at h h'
       subst h;subst h'
       simp [SK.ck,field_sks h2 hs]
    ·rename_i h1 h2
     rw [h1] at h'
     cases hs:fieldSKs P fs with
     | none=>rw [hs] at h';simp at h'
     | some ks2 =>
       rw [hs] at h'
       simp at h h'
       subst h;subst h'
       simp [SK.ck,field_sks h2 hs]
    ·simp at h
   ·simp at h
theorem check_cell {em:Bool} {n:Nat} {t:TypeId} {v:Value} (h:(∃ k,P.underlying t=some (.int k))∨P.underlying t=some .bool∨P.underlying t=some .string):(Instr.checkKey em (n+1) t v).run P w = .ok () w:=by
 rcases h with ⟨k,h⟩|h|h<;>simp [Instr.checkKey,run_underlying h,Result.andThen]
theorem check_fields {em:Bool} {n:Nat} {cs:Array Value}:∀ {fs:List Field} {i:Nat} {cks:List CK},fieldKs P fs i=some cks→i+fs.length≤cs.size →
  (forIn fs PUnit.unit (fun f _=>do
   if f.name ≠ "_" then Instr.checkKey em (n+1) f.type (←part f.type cs f.offset)
   pure (ForInStep.yield PUnit.unit)):Sem PUnit).run P w = .ok PUnit.unit w
 | [],i,cks,_,_=>by simp
 | f::fs,i,cks,h,hl=>by
   simp only [fieldKs] at h
   split at h
   ·rename_i hn
    obtain ⟨n1,n2⟩:=hn
    have key:∃ cks',fieldKs P fs (i+1)=some cks'∧tAgg P f.type=some false∧((∃ k,P.underlying f.type=some (.int k))∨P.underlying f.type=some .bool∨P.underlying f.type=some .string):=by
     split at h
     ·rename_i h1 h2;exact ⟨_,h2,by simp [tAgg,h1,isAggD],.inl ⟨_,h1⟩⟩
     ·rename_i h1 h2;exact ⟨_,h2,by simp [tAgg,h1,isAggD],.inr (.inl h1)⟩
     ·rename_i h1 h2;exact ⟨_,h2,by simp [tAgg,h1,isAggD],.inr (.inr h1)⟩
     ·simp at h
    obtain ⟨cks',k1,k2,k3⟩:=key
    simp only [List.length_cons] at hl
    have hp:(part f.type cs f.offset).run P w = .ok cs[i] w:=run_part k2 (by rw [n2];exact Array.getElem?_eq_getElem (by omega)) w
    simp only [List.forIn_cons,n1,ne_eq,not_false_eq_true,if_true,Sem.run_bind,hp,Result.andThen_ok,check_cell k3,Sem.run_pure]
    exact check_fields k1 (by omega)
   ·simp at h
theorem same_cells {n:Nat} {ks:List SK} {xs:List AVal} (hk:isSKs ks xs=true) {cs:List Value} (hl:cs.length=xs.length) (hr:∀ (j:Nat) (c:Value) (a:AVal),cs[j]?=some c→xs[j]?=some a→VRel w G c a):(cs.zip cs).all (fun (x,y)=>Instr.sameBits n x y)=true:=by
 rw [List.all_eq_true]
 rintro ⟨x,y⟩ hxy
 obtain ⟨j,hj⟩:=mem_get hxy
 rw [List.getElem?_zip_eq_some] at hj
 obtain ⟨h1,h2⟩:=hj
 dsimp only at h1 h2
 rw [h1] at h2
 have hxy:=Option.some.inj h2
 subst hxy
 obtain ⟨a,ha⟩:∃ a,xs[j]?=some a:=⟨_,List.getElem?_eq_getElem (by rw [←hl];exact (List.getElem?_eq_some_iff.1 h1).1)⟩
 obtain ⟨k,_,hk⟩:=isSKs_get hk ha
 have r:=hr j x a h1 ha
 cases k<;>cases a<;>simp [isSK] at hk<;>cases r<;>cases n<;>simp [Instr.sameBits,MapKept.bytes_beq]
theorem keyD_rec {kt:TypeId} {ks:List SK} (hkd:keyD P kt=some (.stk ks)):∃ fs cks,P.underlying kt=some (.struct fs)∧P.stoodInHeld kt=false∧P.eqGuardType P.depth kt=false∧fieldKs P fs.toList 0=some cks∧cks=ks.map SK.ck:=by
 unfold keyD at hkd
 split at hkd
 ·rename_i fs hu
  split at hkd
  ·rename_i cks ks' h1 h2
   simp only [Option.some.injEq,KD.stk.injEq] at hkd
   subst hkd
   unfold structKs at h1
   rw [hu] at h1
   simp only at h1
   split at h1
   ·rename_i hh
    exact ⟨fs,cks,hu,hh.1,hh.2,h1,field_sks h1 h2⟩
   ·simp at h1
  ·simp at hkd
 all_goals simp at hkd
theorem fieldKs_len:∀ {fs:List Field} {i:Nat} {cks:List CK},fieldKs P fs i=some cks→fs.length=cks.length
 | [],i,cks,h=>by simp [fieldKs] at h;subst h;rfl
 | f::fs,i,cks,h=>by
   simp only [fieldKs] at h
   split at h
   ·split at h
    ·rename_i h2;obtain rfl:=Option.some.inj h;simp [fieldKs_len h2]
    ·rename_i h2;obtain rfl:=Option.some.inj h;simp [fieldKs_len h2]
    ·rename_i h2;obtain rfl:=Option.some.inj h;simp [fieldKs_len h2]
    ·simp at h
   ·simp at h
theorem keyD_desc {kt:TypeId} {kd:KD} (hkd:keyD P kt=some kd) (hno:∀ ks,kd ≠ .stk ks):∃ d,P.underlying kt=some d∧∀ {u:Value} {x:AVal},VRel w G u x→isKey kd x=true→MapKept.IsKey d u:=by
 unfold keyD at hkd
 split at hkd
 ·rename_i fs hu
  split at hkd
  ·obtain rfl:=Option.some.inj hkd
   exact absurd rfl (hno _)
  ·obtain rfl:=Option.some.inj hkd
   exact ⟨_,hu,fun {u x} r hk=>by cases x<;>simp [isKey] at hk⟩
 ·rename_i k hu
  obtain rfl:=Option.some.inj hkd
  refine ⟨_,hu,fun {u x} r hk=>?_⟩
  cases x<;>simp [isKey] at hk
  cases r;subst hk;trivial
 ·rename_i hu
  obtain rfl:=Option.some.inj hkd
  refine ⟨_,hu,fun {u x} r hk=>?_⟩
  cases x<;>simp [isKey] at hk
  cases r;trivial
 ·rename_i hu
  obtain rfl:=Option.some.inj hkd
  refine ⟨_,hu,fun {u x} r hk=>?_⟩
  cases x<;>simp [isKey] at hk
  cases r;trivial
 ·rename_i n e hu
  obtain rfl:=Option.some.inj hkd
  exact ⟨_,hu,fun {u x} r hk=>by cases x<;>simp [isKey] at hk⟩
 ·simp at hkd
theorem str_inj {a b:ByteArray} (h:a.data.toList=b.data.toList):a=b:=by
 obtain ⟨⟨x⟩⟩:=a
 obtain ⟨⟨y⟩⟩:=b
 simp at h
 rw [h]
theorem key_ok {kt:TypeId} {kd:KD} (hkd:keyD P kt=some kd) {u:Value} {x:AVal} (r:VRel w G u x) (hk:isKey kd x=true) :
  (∃ d,P.underlying kt=some d)∧(∀ em,(Instr.checkKey em 10000 kt u).run P w = .ok () w)∧(Instr.keyThatStays u u).run P w = .ok u w:=by
 by_cases hno:∃ ks,kd = .stk ks
 ·obtain ⟨ks,rfl⟩:=hno
  obtain ⟨fs,cks,h1,h2,h3,h4,h5⟩:=keyD_rec hkd
  cases x<;>simp only [isKey,Bool.false_eq_true] at hk
  rename_i xs
  cases r with
  | agg cs _ hl hr _ =>
    have e1:=isSKs_len hk
    have e2:=fieldKs_len h4
    refine ⟨⟨_,h1⟩,fun em=>?_,?_⟩
    ·have:=check_fields (P:=P) (w:=w) (em:=em) (n:=9998) (cs:=cs) h4 (by rw [hl,←e1,e2,h5];simp)
     have key:∀ m,(forIn fs.toList PUnit.unit (fun f _=>do
       if f.name ≠ "_" then Instr.checkKey em m f.type (←part f.type cs f.offset)
       pure (ForInStep.yield PUnit.unit)):Sem PUnit).run P w = .ok PUnit.unit w→(Instr.checkKey em (m+1) kt (.agg cs)).run P w = .ok () w:=by
      intro m hm
      rw [Instr.checkKey]
      simp only [Sem.run_bind,run_underlying h1,Result.andThen_ok,←Array.forIn_toList]
      refine (congrArg (fun r=>Result.andThen r (fun a w'=>Sem.run P (pure ()) w')) hm).trans ?_
      simp
     exact key 9999 this
    ·have:=same_cells (n:=9999) hk (cs:=cs.toList) (by simpa using hl) (fun j c a hc ha=>hr j c a (by simpa using hc) ha)
     have hsb:Instr.sameBits 10000 (.agg cs) (.agg cs)=true:=by
      show (cs.size == cs.size && (cs.toList.zip cs.toList).all fun (x,y)=>Instr.sameBits 9999 x y)=true
      rw [this];simp
     simp only [Instr.keyThatStays,hsb,if_true,Sem.run_pure]
 ·obtain ⟨d,hd,hdk⟩:=keyD_desc (w:=w) (G:=G) hkd (fun ks e=>hno ⟨ks,e⟩)
  exact ⟨⟨d,hd⟩,fun em=>MapKept.run_checkKey hd (hdk r hk) em 9999,MapKept.run_keyThatStays (hdk r hk)⟩
theorem keyEq_iff {kd:KD} {u v:Value} {x y:AVal} (ru:VRel w G u x) (rv:VRel w G v y) (hx:isKey kd x=true) (hy:isKey kd y=true):keyEq kd x y=true↔u=v:=by
 cases kd with
 | stk ks =>
   cases x<;>simp only [isKey,Bool.false_eq_true] at hx
   cases y<;>simp only [isKey,Bool.false_eq_true] at hy
   rename_i xs ys
   simp only [keyEq,sksEq_iff hx hy]
   cases ru with
   | agg as0 _ hl hr _ =>
     cases rv with
     | agg bs0 _ hl' hr' _ =>
       constructor
       ·rintro rfl
        congr 1
        refine Array.ext (by omega) fun j h1 h2=>?_
        obtain ⟨a,ha⟩:∃ a,xs[j]?=some a:=⟨_,List.getElem?_eq_getElem (by omega)⟩
        obtain ⟨k,_,hk⟩:=isSKs_get hx ha
        exact isSK_fun hk (hr j _ a (Array.getElem?_eq_getElem h1) ha) (hr' j _ a (Array.getElem?_eq_getElem h2) ha)
       ·intro e
        simp only [Value.agg.injEq] at e
        subst e
        refine List.ext_getElem? fun j=>?_
        by_cases hj:j<as0.size
        ·obtain ⟨a,ha⟩:∃ a,xs[j]?=some a:=⟨_,List.getElem?_eq_getElem (by omega)⟩
         obtain ⟨b,hb⟩:∃ b,ys[j]?=some b:=⟨_,List.getElem?_eq_getElem (by omega)⟩
         obtain ⟨k,hk1,hk⟩:=isSKs_get hx ha
         obtain ⟨k',hk2,hk'⟩:=isSKs_get hy hb
         rw [hk1] at hk2
         obtain rfl:=Option.some.inj hk2
         rw [ha,hb,isSK_inj hk hk' (hr j _ a (Array.getElem?_eq_getElem hj) ha) (hr' j _ b (Array.getElem?_eq_getElem hj) hb)]
        ·rw [List.getElem?_eq_none (by omega),List.getElem?_eq_none (by omega)]
 | other=>cases x<;>simp [isKey] at hx
 | int k =>
   cases x<;>simp [isKey] at hx
   cases y<;>simp [isKey] at hy
   cases ru;cases rv
   subst hx;subst hy
   simp [keyEq]
 | str =>
   cases x<;>simp [isKey] at hx
   cases y<;>simp [isKey] at hy
   cases ru;cases rv
   simp only [keyEq,beq_iff_eq,Value.string.injEq]
   exact ⟨str_inj,fun e=>by rw [e]⟩
 | bool =>
   cases x<;>simp [isKey] at hx
   cases y<;>simp [isKey] at hy
   cases ru;cases rv
   simp [keyEq]
theorem find_rel {kd:KD} {u:Value} {x:AVal} (ru:VRel w G u x) (hx:isKey kd x=true):∀ (L:List MapEntry) (es:List (Nat×AVal×AVal)) (i:Nat),L.length=es.length →
  (∀ (k:Nat) e y,L[k]?=some e→es[k]?=some y→e.born=y.1∧VRel w G e.key y.2.1∧VRel w G e.val y.2.2)→(∀ y∈es,isKey kd y.2.1=true) →
  (findE kd x es i=none∧∀ e∈L,e.key≠u)∨∃ (j:Nat) (e:MapEntry) (y:Nat×AVal×AVal),findE kd x es i=some (i+j,y.2.2)∧L[j]?=some e∧es[j]?=some y∧e.key=u
 | [],[],i,_,_,_ => .inl ⟨rfl,by simp⟩
 | [],_::_,i,h,_,_=>by simp at h
 | _::_,[],i,h,_,_=>by simp at h
 | e::L,y::es,i,hl,hr,hk=>by
   obtain ⟨q1,q2,q3⟩:=hr 0 e y rfl rfl
   have hiff:=keyEq_iff ru q2 hx (hk y (by simp))
   by_cases he:keyEq kd x y.2.1=true
   ·exact .inr ⟨0,e,y,by simp [findE,he],rfl,rfl,(hiff.1 he).symm⟩
   ·have hne:e.key≠u:=fun q=>he (hiff.2 q.symm)
    rcases find_rel ru hx L es (i+1) (by simpa using hl) (fun k e' y' h1 h2=>hr (k+1) e' y' (by simpa using h1) (by simpa using h2)) (fun y' hy=>hk y' (by simp [hy])) with ⟨h1,h2⟩|⟨j,e',y',h1,h2,h3,h4⟩
    ·exact .inl ⟨by simp [findE,he,h1],fun z hz=>by
      rcases List.mem_cons.1 hz with rfl|hz
      ·exact hne
      ·exact h2 z hz⟩
    ·exact .inr ⟨j+1,e',y',by simp [findE,he,h1];omega,by simpa using h2,by simpa using h3,h4⟩
theorem asking_ok {kt:TypeId} {ks:List SK} (hkd:keyD P kt=some (.stk ks)) {u:Value} {x:AVal} (ru:VRel w G u x) (hx:isKey (.stk ks) x=true):∀ (L:List MapEntry) (es:List (Nat×AVal×AVal)) (i:Nat),L.length=es.length →
  (∀ (k:Nat) e y,L[k]?=some e→es[k]?=some y→e.born=y.1∧VRel w G e.key y.2.1∧VRel w G e.val y.2.2)→(∀ y∈es,isKey (.stk ks) y.2.1=true) →
  (findE (.stk ks) x es i=none∧(Instr.findAsking kt u L i).run P w = .ok none w∧∀ e∈L,e.key≠u)∨∃ (j:Nat) (e:MapEntry) (y:Nat×AVal×AVal),findE (.stk ks) x es i=some (i+j,y.2.2)∧(Instr.findAsking kt u L i).run P w = .ok (some (i+j,e.val)) w∧L[j]?=some e∧es[j]?=some y∧e.key=u
 | [],[],i,_,_,_ => .inl ⟨rfl,by simp [Instr.findAsking],by simp⟩
 | [],_::_,i,h,_,_=>by simp at h
 | _::_,[],i,h,_,_=>by simp at h
 | e::L,y::es,i,hl,hr,hk=>by
   obtain ⟨q1,q2,q3⟩:=hr 0 e y rfl rfl
   have hky:=hk y (by simp)
   have hiff:=keyEq_iff ru q2 hx hky
   obtain ⟨fs,cks,h1,h2,h3,h4,h5⟩:=keyD_rec hkd
   obtain ⟨e1,e2⟩:=fieldsOf_struct h1
   have heq:(Op.equal kt u e.key).run P w = .ok (keyEq (.stk ks) x y.2.1) w:=by
    cases x<;>simp only [isKey,Bool.false_eq_true] at hx
    rename_i xs
    generalize hyv:y.2.1=yv at q2 hky hiff ⊢
    cases yv<;>simp only [isKey,Bool.false_eq_true] at hky
    rename_i ys
    generalize e.key=ek at q2 ⊢
    cases ru with
    | agg as0 _ hl1 hr1 _ =>
      cases q2 with
      | agg bs0 _ hl2 hr2 _ =>
        have hE:=eqFields_ok (P:=P) (w:=w) (G:=G) (xs:=as0) (ys:=bs0) h4 (by rw [h5];exact cellsEq_sks hx hky) (fun k z hz=>by
          obtain ⟨u,hu⟩:∃ u,as0[k]?=some u:=⟨_,Array.getElem?_eq_getElem (by rw [hl1];exact (List.getElem?_eq_some_iff.1 hz).1)⟩
          exact ⟨u,by simpa using hu,hr1 k u z hu hz⟩) (fun k z hz=>by
          obtain ⟨u,hu⟩:∃ u,bs0[k]?=some u:=⟨_,Array.getElem?_eq_getElem (by rw [hl2];exact (List.getElem?_eq_some_iff.1 hz).1)⟩
          exact ⟨u,by simpa using hu,hr2 k u z hu hz⟩)
        show (Op.equalIn 10000 kt (.agg as0) (.agg bs0)).run P w=_
        rw [run_equalIn_struct w 9999 kt as0 bs0 e1 h2,e2]
        exact hE
   by_cases he:keyEq (.stk ks) x y.2.1=true
   ·rw [he] at heq
    exact .inr ⟨0,e,y,by simp [findE,he],by simp [Instr.findAsking,heq,Result.andThen],rfl,rfl,(hiff.1 he).symm⟩
   ·have hne:e.key≠u:=fun q=>he (hiff.2 q.symm)
    rw [Bool.not_eq_true] at he
    rw [he] at heq
    have hstep:(Instr.findAsking kt u (e::L) i).run P w=(Instr.findAsking kt u L (i+1)).run P w:=by simp [Instr.findAsking,heq,Result.andThen]
    rcases asking_ok hkd ru hx L es (i+1) (by simpa using hl) (fun k e' y' h1 h2=>hr (k+1) e' y' (by simpa using h1) (by simpa using h2)) (fun y' hy=>hk y' (by simp [hy])) with ⟨h1,h1',h2⟩|⟨j,e',y',h1,h1',h2,h3,h4⟩
    ·exact .inl ⟨by simp [findE,he,h1],by rw [hstep];exact h1',fun z hz=>by
      rcases List.mem_cons.1 hz with rfl|hz
      ·exact hne
      ·exact h2 z hz⟩
    ·exact .inr ⟨j+1,e',y',by simp [findE,he,h1];omega,by rw [hstep,h1'];congr 3;omega,by simpa using h2,by simpa using h3,h4⟩
theorem find_ok {kt:TypeId} {kd:KD} (hkd:keyD P kt=some kd) {u:Value} {x:AVal} (ru:VRel w G u x) (hx:isKey kd x=true) {entries:Array MapEntry} {es:List (Nat×AVal×AVal)} (hs:entries.size=es.length)
  (hrel:∀ (k:Nat) e y,entries[k]?=some e→es[k]?=some y→e.born=y.1∧VRel w G e.key y.2.1∧VRel w G e.val y.2.2) (hk:∀ y∈es,isKey kd y.2.1=true∧plain y.2.2=true) {clock:Nat} (hst:MapKept.Stamped entries clock) :
  (findE kd x es 0=none∧(Instr.findKey kt u entries.toList).run P w = .ok none w∧∀ e∈entries.toList,e.key≠u) ∨
  ∃ (j:Nat) (e:MapEntry) (y:Nat×AVal×AVal),findE kd x es 0=some (j,y.2.2)∧(Instr.findKey kt u entries.toList).run P w = .ok (some (j,e.val)) w∧entries[j]?=some e∧es[j]?=some y∧e.key=u:=by
 by_cases hrec:∃ ks,kd = .stk ks
 ·obtain ⟨ks,rfl⟩:=hrec
  obtain ⟨fs,cks,g1,_⟩:=keyD_rec hkd
  have hrel':∀ (k:Nat) e y,entries.toList[k]?=some e→es[k]?=some y→e.born=y.1∧VRel w G e.key y.2.1∧VRel w G e.val y.2.2:=fun k e y h1 h2=>hrel k e y (by simpa using h1) h2
  have hfa:(Instr.findKey kt u entries.toList).run P w=(Instr.findAsking kt u entries.toList 0).run P w:=by
   cases hL:entries.toList with
   | nil=>simp [Instr.findKey,run_underlying g1,Instr.findNow,Instr.findAsking,Result.andThen]
   | cons a L=>simp [Instr.findKey,run_underlying g1,Instr.findNow,Instr.sameNow,Result.andThen]
  rcases asking_ok hkd ru hx entries.toList es 0 (by simpa using hs) hrel' (fun y hy=>(hk y hy).1) with ⟨h1,h1',h2⟩|⟨j,e,y,h1,h1',h2,h3,h4⟩
  ·exact .inl ⟨h1,by rw [hfa];exact h1',h2⟩
  ·exact .inr ⟨j,e,y,by simpa using h1,by rw [hfa,h1'];simp,by simpa using h2,h3,h4⟩
 obtain ⟨d,hd,hkey⟩:=keyD_desc (w:=w) (G:=G) hkd (fun ks e=>hrec ⟨ks,e⟩)
 have hku:=hkey ru hx
 have hrel':∀ (k:Nat) e y,entries.toList[k]?=some e→es[k]?=some y→e.born=y.1∧VRel w G e.key y.2.1∧VRel w G e.val y.2.2:=fun k e y h1 h2=>hrel k e y (by simpa using h1) h2
 have hall:∀ e∈entries.toList,MapKept.IsKey d e.key:=fun e he=>by
  obtain ⟨k,hk'⟩:=mem_get he
  obtain ⟨y,hy⟩:∃ y,es[k]?=some y:=⟨_,List.getElem?_eq_getElem (by rw [←hs];simpa using (List.getElem?_eq_some_iff.1 hk').1)⟩
  exact hkey (hrel' k e y hk' hy).2.1 (hk y (List.mem_of_getElem? hy)).1
 rcases find_rel ru hx entries.toList es 0 (by simpa using hs) hrel' (fun y hy=>(hk y hy).1) with ⟨h1,h2⟩|⟨j,e,y,h1,h2,h3,h4⟩
 ·rcases MapKept.findNow_spec hku entries.toList 0 hall with ⟨k1,k2⟩|⟨j,e,k1,k2,k3⟩
  ·exact .inl ⟨h1,MapKept.run_findKey hd k1,h2⟩
  ·exact absurd k3 (h2 e (List.mem_of_getElem? k2))
 ·rcases MapKept.findNow_spec hku entries.toList 0 hall with ⟨k1,k2⟩|⟨j',e',k1,k2,k3⟩
  ·exact absurd h4 (k2 e (List.mem_of_getElem? h2))
  ·-- the same place: keys are all different is not needed,both are the first
   rw [Nat.zero_add] at h1 k1
   have hjj:j=j':=by
    have hlt:j<(entries.toList.map (·.key)).length:=by simpa using (List.getElem?_eq_some_iff.1 h2).1
    refine (List.getElem?_inj hlt hst.2.2).1 ?_
    rw [List.getElem?_map,List.getElem?_map,h2,k2]
    simp [h4,k3]
   subst hjj
   rw [h2] at k2
   obtain rfl:=Option.some.inj k2
   exact .inr ⟨j,e,y,h1,MapKept.run_findKey hd k1,by simpa using h2,h3,h4⟩
theorem op_mkmap1 (H:HRel w G h) (hc:Ops a w G c ev) {x:Operand} {x':Opd} {t kt et:TypeId} {kd:KD} (hx:c x=some x') (ht:P.underlying t=some (.map kt et)) (hop:o.op = .makeMap t (some x)) (e:evalA (.x (.mkmap kd) [x']) ev h=some (r,h')):OpRes P o a w G h r h':=by
 have rx:=hc _ _ hx
 simp only [evalA,evalX,List.map_cons,List.map_nil] at e
 generalize hv:a.eval x=u at rx
 split at e
 ·rename_i k n hb
  rw [hb] at rx
  cases rx
  simp at e
  obtain ⟨rfl,rfl⟩:=e
  obtain ⟨G',x1,x2,x3⟩:=new_map H kd #[] 0 [] rfl (by simp) (by simp) (MapKept.stamped_empty 0)
  exact ⟨_,_,G',.inl (by simp [execOp,hop,hv,Instr.makeMap,run_underlying ht,asInt,asIntOf,Result.andThen]),x1,x2,x3⟩
 ·simp at e
theorem op_mkmap (H:HRel w G h) {t kt et:TypeId} {kd:KD} (hop:o.op = .makeMap t none) (e:evalA (.x (.mkmap kd) []) ev h=some (r,h')):OpRes P o a w G h r h':=by
 simp [evalA,evalX] at e
 obtain ⟨rfl,rfl⟩:=e
 obtain ⟨G',x1,x2,x3⟩:=new_map H kd #[] 0 [] rfl (by simp) (by simp) (MapKept.stamped_empty 0)
 exact ⟨_,_,G',.inl (by simp [execOp,hop,Instr.makeMap]),x1,x2,x3⟩
theorem obj_map (H:HRel w G h) {id:Nat} {kd:KD} {clock:Nat} {es:List (Nat×AVal×AVal)} (hg:h.get id=some (.map kd clock es)):∃ entries,w.heap[G.loc id]?=some (.map entries clock)∧entries.size=es.length ∧
  (∀ (k:Nat) e x,entries[k]?=some e→es[k]?=some x→e.born=x.1∧VRel w G e.key x.2.1∧VRel w G e.val x.2.2)∧(∀ x∈es,isKey kd x.2.1=true∧plain x.2.2=true)∧MapKept.Stamped entries clock:=H.obj id _ hg
theorem op_mlook (H:HRel w G h) (hc:Ops a w G c ev) {x y:Operand} {x' y':Opd} {t kt et:TypeId} {kd:KD} {z:AVal} {ok:Bool} (hx:c x=some x') (hy:c y=some y') (ht:P.underlying t=some (.map kt et)) (hkd:keyD P kt=some kd) (hz:tZeroA P et=some z) (hop:o.op = .lookup t x y ok)
  (e:evalA (.x (.mlook kd z ok) [x',y']) ev h=some (r,h')):OpRes P o a w G h r h':=by
 have rx:=hc _ _ hx
 have ry:=hc _ _ hy
 simp only [evalA,evalX,List.map_cons,List.map_nil] at e
 generalize hv:a.eval x=u at rx
 generalize hv':a.eval y=v at ry
 obtain ⟨zv,hzr,hzv⟩:∃ zv,(zeroValue et).run P w = .ok zv w∧VRel w G zv z:=by
  unfold tZeroA at hz
  split at hz
  ·rename_i i hi
   split at hz
   ·rename_i zv hzv
    exact ⟨zv,run_zeroValue' hi hzv w,constA_ok hz⟩
   ·simp at hz
  ·simp at hz
 have fin:∀ {cv:Value} {cr:AVal} {b:Bool},VRel w G cv cr→VRel w G (if ok then .tuple #[cv,.bool b] else cv) (if ok then .tup [cr,.bool b] else cr):=by
  intro cv cr b hr
  cases ok
  ·exact hr
  ·refine .tup _ _ rfl fun k c' a' h1 h2=>?_
   match k with
   | 0=>simp at h1 h2;subst h1;subst h2;exact hr
   | 1=>simp at h1 h2;subst h1;subst h2;exact .bool b
   | k+2=>simp at h2
 split at e
 ·rename_i hkey
  obtain ⟨⟨d,hd⟩,hch,hst0⟩:=key_ok (P:=P) hkd ry hkey
  split at e
  ·rename_i hb
   rw [hb] at rx
   simp at e;obtain ⟨rfl,rfl⟩:=e
   cases rx
   have hf:(Instr.findKey kt v []).run P w = .ok none w:=MapKept.run_findKey hd rfl
   refine OpRes.same H (v:=if ok then .tuple #[zv,.bool false] else zv) ?_ (fin hzv)
   simp [execOp,hop,hv,hv',Instr.lookup,run_underlying ht,hch,hf,hzr,Result.andThen]
  ·rename_i id hb
   rw [hb] at rx
   cases rx
   split at e
   ·rename_i kd' clock es hg
    split at e
    ·rename_i hkk
     subst hkk
     obtain ⟨entries,h1,h2,h3,h4,h5⟩:=obj_map H hg
     have hgo:(getObj (G.loc id)).run P w = .ok (.map entries clock) w:=MapKept.run_getObj_map h1
     rcases find_ok (P:=P) hkd ry hkey h2 h3 h4 h5 with ⟨f1,f2,_⟩|⟨j,en,yy,f1,f2,f3,f4,_⟩
     ·rw [f1] at e
      simp at e;obtain ⟨rfl,rfl⟩:=e
      refine OpRes.same H (v:=if ok then .tuple #[zv,.bool false] else zv) ?_ (fin hzv)
      simp [execOp,hop,hv,hv',Instr.lookup,run_underlying ht,hgo,hch,f2,hzr,Result.andThen]
     ·rw [f1] at e
      simp at e;obtain ⟨rfl,rfl⟩:=e
      refine OpRes.same H (v:=if ok then .tuple #[en.val,.bool true] else en.val) ?_ (fin (h3 j en yy f3 f4).2.2)
      simp [execOp,hop,hv,hv',Instr.lookup,run_underlying ht,hgo,hch,f2,Result.andThen]
    ·simp at e
   ·simp at e
  ·simp at e
 ·simp at e
theorem op_mput (H:HRel w G h) (hc:Ops a w G c ev) {x y z:Operand} {x' y' z':Opd} {t kt et:TypeId} {kd:KD} (hx:c x=some x') (hy:c y=some y') (hz:c z=some z') (ht:P.underlying t=some (.map kt et)) (hkd:keyD P kt=some kd) (hop:o.op = .mapUpdate t x y z∨o.op = .insert t x y z)
  (e:evalA (.x (.mput kd) [x',y',z']) ev h=some (r,h')):OpRes P o a w G h r h':=by
 have rx:=hc _ _ hx
 have ry:=hc _ _ hy
 have rz:=hc _ _ hz
 simp only [evalA,evalX,List.map_cons,List.map_nil] at e
 generalize hv:a.eval x=u at rx
 generalize hv':a.eval y=v at ry
 generalize hv2:a.eval z=vv at rz
 have hexec:∀ {w1},(Instr.mapUpdate t u v vv).run P w = .ok () w1→(execOp a.eval o).run P w = .ok .skip w1:=fun hr=>by
  rcases hop with hop|hop<;>simp [execOp,hop,hv,hv',hv2,hr]
 split at e
 ·rename_i hkey
  obtain ⟨⟨d,hd⟩,hch,hst0⟩:=key_ok (P:=P) hkd ry hkey
  split at e
  ·rename_i id hb
   rw [hb] at rx
   cases rx
   split at e
   ·rename_i kd' clock es hg
    split at e
    ·rename_i hkk
     obtain ⟨hkk,hpl⟩:=hkk
     obtain rfl:=hkk
     simp at e;obtain ⟨rfl,rfl⟩:=e
     obtain ⟨entries,h1,h2,h3,h4,h5⟩:=obj_map H hg
     have hgo:(getObj (G.loc id)).run P w = .ok (.map entries clock) w:=MapKept.run_getObj_map h1
     rcases find_ok (P:=P) hkd ry hkey h2 h3 h4 h5 with ⟨f1,f2,f3⟩|⟨j,en,yy,f1,f2,f3,f4,f5⟩
     ·have hm:mput kd' (ev y') (ev z') clock es=(clock+1,es++[(clock,ev y',ev z')]):=by simp [mput,f1]
      rw [hm]
      obtain ⟨G',x1,x2⟩:=write_map (kd':=kd') (clock':=clock+1) (es':=es++[(clock,ev y',ev z')]) (entries':=entries.push { key:=v,val:=vv,born:=clock }) H hg h1 (by simp [h2]) (fun k e' y0 he hy0=>by
        rw [Array.getElem?_push] at he
        split at he
        ·rename_i hk
         obtain rfl:=Option.some.inj he
         rw [hk,h2,List.getElem?_append_right (Nat.le_refl _)] at hy0
         simp at hy0;subst hy0
         exact ⟨rfl,ry,rz⟩
        ·have hlt:=(Array.getElem?_eq_some_iff.1 he).1
         rw [List.getElem?_append_left (by omega)] at hy0
         exact h3 k e' y0 he hy0) (fun y0 hy0=>by
        rcases List.mem_append.1 hy0 with hy0|hy0
        ·exact h4 y0 hy0
        ·simp at hy0;subst hy0;exact ⟨hkey,hpl⟩) (MapKept.stamped_push h5 f3)
      refine ⟨undef,_,G',.inr ⟨hexec ?_,rfl⟩,x1,x2,.tup #[] [] rfl (by simp)⟩
      simp [Instr.mapUpdate,run_underlying ht,hgo,hch,f2,MapKept.run_setObj_map _ h1,Result.andThen]
     ·have hm:mput kd' (ev y') (ev z') clock es=(clock,es.modify j fun e=>(e.1,ev y',ev z')):=by simp [mput,f1]
      rw [hm]
      obtain ⟨G',x1,x2⟩:=write_map (kd':=kd') (clock':=clock) (es':=es.modify j fun e=>(e.1,ev y',ev z')) (entries':=entries.modify j fun e=>{ e with key:=v,val:=vv }) H hg h1 (by simp [h2]) (fun k e' y0 he hy0=>by
        rw [Array.getElem?_modify] at he
        rw [List.getElem?_modify] at hy0
        by_cases hk:j=k
        ·subst hk
         simp only [if_true,f3,f4,Option.map_eq_map,Option.map_some,Option.some.injEq] at he hy0
         subst he;subst hy0
         exact ⟨(h3 j en yy f3 f4).1,ry,rz⟩
        ·rw [if_neg hk] at he
         simp only [hk,if_false,id_map,Option.map_id',Option.map_id] at hy0
         exact h3 k e' y0 he (by simpa using hy0)) (fun y0 hy0=>by
        obtain ⟨k,hk'⟩:=mem_get hy0
        rw [List.getElem?_modify] at hk'
        by_cases hk:j=k
        ·subst hk
         simp only [if_true,f4,Option.map_eq_map,Option.map_some,Option.some.injEq] at hk'
         subst hk'
         exact ⟨hkey,hpl⟩
        ·simp only [hk,if_false] at hk'
         exact h4 y0 (List.mem_of_getElem? (by simpa using hk'))) (MapKept.stamped_modify h5 _ _ (fun _ _=>rfl) (fun e' _ he'=>by rw [f3] at he';obtain rfl:=Option.some.inj he';exact f5.symm))
      refine ⟨undef,_,G',.inr ⟨hexec ?_,rfl⟩,x1,x2,.tup #[] [] rfl (by simp)⟩
      simp [Instr.mapUpdate,run_underlying ht,hgo,hch,f2,f3,f5,hst0,MapKept.run_setObj_map _ h1,Result.andThen]
    ·simp at e
   ·simp at e
  ·simp at e
 ·simp at e
theorem op_mentry (H:HRel w G h) (hc:Ops a w G c ev) {x y:Operand} {x' y':Opd} {t kt et:TypeId} {kd:KD} {z:AVal} (hx:c x=some x') (hy:c y=some y') (ht:P.underlying t=some (.map kt et)) (hkd:keyD P kt=some kd) (hz:tZeroA P et=some z) (hop:o.op = .mapEntry t x y)
  (e:evalA (.x (.mentry kd z) [x',y']) ev h=some (r,h')):OpRes P o a w G h r h':=by
 have rx:=hc _ _ hx
 have ry:=hc _ _ hy
 simp only [evalA,evalX,List.map_cons,List.map_nil] at e
 generalize hv:a.eval x=u at rx
 generalize hv':a.eval y=v at ry
 obtain ⟨zv,hzr,hzv⟩:∃ zv,(∀ w,(zeroValue et).run P w = .ok zv w)∧∀ w G,VRel w G zv z:=by
  unfold tZeroA at hz
  split at hz
  ·rename_i i hi
   split at hz
   ·rename_i zv hzv
    exact ⟨zv,run_zeroValue' hi hzv,fun w G=>constA_ok hz⟩
   ·simp at hz
  ·simp at hz
 split at e
 ·rename_i hkey
  obtain ⟨⟨d,hd⟩,hch,hst0⟩:=key_ok (P:=P) hkd ry hkey
  split at e
  ·rename_i id hb
   rw [hb] at rx
   cases rx
   split at e
   ·rename_i kd' clock es hg
    split at e
    ·rename_i hkk
     obtain ⟨hkk,hpl⟩:=hkk
     obtain rfl:=hkk
     obtain ⟨entries,h1,h2,h3,h4,h5⟩:=obj_map H hg
     have hgo:(getObj (G.loc id)).run P w = .ok (.map entries clock) w:=MapKept.run_getObj_map h1
     rcases find_ok (P:=P) hkd ry hkey h2 h3 h4 h5 with ⟨f1,f2,f3⟩|⟨j,en,yy,f1,f2,f3,f4,f5⟩
     ·rw [f1] at e
      simp at e;obtain ⟨rfl,rfl⟩:=e
      obtain ⟨G',x1,x2⟩:=write_map (kd':=kd') (clock':=clock+1) (es':=es++[(clock,ev y',z)]) (entries':=entries.push { key:=v,val:=zv,born:=clock }) H hg h1 (by simp [h2]) (fun k e' y0 he hy0=>by
        rw [Array.getElem?_push] at he
        split at he
        ·rename_i hk
         obtain rfl:=Option.some.inj he
         rw [hk,h2,List.getElem?_append_right (Nat.le_refl _)] at hy0
         simp at hy0;subst hy0
         exact ⟨rfl,ry,hzv _ _⟩
        ·have hlt:=(Array.getElem?_eq_some_iff.1 he).1
         rw [List.getElem?_append_left (by omega)] at hy0
         exact h3 k e' y0 he hy0) (fun y0 hy0=>by
        rcases List.mem_append.1 hy0 with hy0|hy0
        ·exact h4 y0 hy0
        ·simp at hy0;subst hy0;exact ⟨hkey,hpl⟩) (MapKept.stamped_push h5 f3)
      refine ⟨.tuple #[zv,goInt clock],_,G',.inl ?_,x1,x2,.tup _ _ rfl fun k c' a' q1 q2=>?_⟩
      ·simp [execOp,hop,hv,hv',Instr.mapEntry,run_underlying ht,hgo,hch,f2,hzr,MapKept.run_setObj_map _ h1,Result.andThen]
      ·match k with
       | 0=>simp at q1 q2;subst q1;subst q2;exact hzv _ _
       | 1=>simp at q1 q2;subst q1;subst q2;exact .int _ _
       | k+2=>simp at q2
     ·rw [f1] at e
      simp at e;obtain ⟨rfl,rfl⟩:=e
      obtain ⟨G',x1,x2⟩:=write_map (kd':=kd') (clock':=clock) (es':=es.modify j fun e=>(e.1,ev y',e.2.2)) (entries':=entries.modify j fun e=>{ e with key:=v }) H hg h1 (by simp [h2]) (fun k e' y0 he hy0=>by
        rw [Array.getElem?_modify] at he
        rw [List.getElem?_modify] at hy0
        by_cases hk:j=k
        ·subst hk
         simp only [if_true,f3,f4,Option.map_eq_map,Option.map_some,Option.some.injEq] at he hy0
         subst he;subst hy0
         exact ⟨(h3 j en yy f3 f4).1,ry,(h3 j en yy f3 f4).2.2⟩
        ·rw [if_neg hk] at he
         simp only [hk,if_false,id_map,Option.map_id',Option.map_id] at hy0
         exact h3 k e' y0 he (by simpa using hy0)) (fun y0 hy0=>by
        obtain ⟨k,hk'⟩:=mem_get hy0
        rw [List.getElem?_modify] at hk'
        by_cases hk:j=k
        ·subst hk
         simp only [if_true,f4,Option.map_eq_map,Option.map_some,Option.some.injEq] at hk'
         subst hk'
         exact ⟨hkey,(h4 yy (List.mem_of_getElem? f4)).2⟩
        ·simp only [hk,if_false] at hk'
         exact h4 y0 (List.mem_of_getElem? (by simpa using hk'))) (MapKept.stamped_modify h5 _ _ (fun _ _=>rfl) (fun e' _ he'=>by rw [f3] at he';obtain rfl:=Option.some.inj he';exact f5.symm))
      have hborn:=(h3 j en yy f3 f4).1
      refine ⟨.tuple #[en.val,goInt en.born],_,G',.inl ?_,x1,x2,.tup _ _ rfl fun k c' a' q1 q2=>?_⟩
      ·simp [execOp,hop,hv,hv',Instr.mapEntry,run_underlying ht,hgo,hch,f2,f3,f5,hst0,MapKept.run_setObj_map _ h1,Result.andThen]
      ·match k with
       | 0=>simp at q1 q2;subst q1;subst q2;exact ((h3 j en yy f3 f4).2.2).mono x1
       | 1=>simp [f4] at q1 q2;subst q1;subst q2;rw [hborn];exact .int _ _
       | k+2=>simp at q2
    ·simp at e
   ·simp at e
  ·simp at e
 ·simp at e
theorem findIdx_rel:∀ {L:List MapEntry} {es:List (Nat×AVal×AVal)} {b:Int},L.length=es.length→(∀ (k:Nat) e y,L[k]?=some e→es[k]?=some y→e.born=y.1)→L.findIdx? (fun e=>(e.born:Int) == b)=es.findIdx? (fun e=>(e.1:Int) == b)
 | [],[],b,_,_=>rfl
 | [],_::_,_,h,_=>by simp at h
 | _::_,[],_,h,_=>by simp at h
 | e::L,y::es,b,hl,h=>by
   have h0:=h 0 e y rfl rfl
   rw [List.findIdx?_cons,List.findIdx?_cons,h0,findIdx_rel (by simpa using hl) (fun k e' y' h1 h2=>h (k+1) e' y' (by simpa using h1) (by simpa using h2))]
theorem op_mestore (H:HRel w G h) (hc:Ops a w G c ev) {x y z:Operand} {x' y' z':Opd} {t:TypeId} (hx:c x=some x') (hy:c y=some y') (hz:c z=some z') (hop:o.op = .entryStore t x y z)
  (e:evalA (.x .mestore [x',y',z']) ev h=some (r,h')):OpRes P o a w G h r h':=by
 have rx:=hc _ _ hx
 have ry:=hc _ _ hy
 have rz:=hc _ _ hz
 simp only [evalA,evalX,List.map_cons,List.map_nil] at e
 generalize hv:a.eval x=u at rx
 generalize hv':a.eval y=v at ry
 generalize hv2:a.eval z=vv at rz
 have hexec:∀ {w1},(Instr.entryStore t u v vv).run P w = .ok () w1→(execOp a.eval o).run P w = .ok .skip w1:=fun hr=>by simp [execOp,hop,hv,hv',hv2,hr]
 split at e
 ·rename_i id k b hb hb'
  rw [hb] at rx
  rw [hb'] at ry
  cases rx
  cases ry
  split at e
  ·rename_i kd clock es hg
   split at e
   ·rename_i hpl
    obtain ⟨entries,h1,h2,h3,h4,h5⟩:=obj_map H hg
    have hgo:(getObj (G.loc id)).run P w = .ok (.map entries clock) w:=MapKept.run_getObj_map h1
    have hfi:entries.findIdx? (fun e=>(e.born:Int) == b)=es.findIdx? (fun e=>(e.1:Int) == b):=by
     rw [show entries.findIdx? (fun e=>(e.born:Int) == b)=entries.toList.findIdx? (fun e=>(e.born:Int) == b) by cases entries;simp]
     exact findIdx_rel (by simpa using h2) (fun k e y q1 q2=>(h3 k e y (by simpa using q1) q2).1)
    split at e
    ·rename_i i hi
     simp at e;obtain ⟨rfl,rfl⟩:=e
     rw [hi] at hfi
     obtain ⟨G',x1,x2⟩:=write_map (kd':=kd) (clock':=clock) (es':=es.modify i fun e=>(e.1,e.2.1,ev z')) (entries':=entries.modify i fun e=>{ e with val:=vv }) H hg h1 (by simp [h2]) (fun k e' y0 he hy0=>by
       rw [Array.getElem?_modify] at he
       rw [List.getElem?_modify] at hy0
       by_cases hk:i=k
       ·subst hk
        simp only [if_true,Option.map_eq_map,Option.map_eq_some_iff] at he hy0
        obtain ⟨e0,he0,rfl⟩:=he
        obtain ⟨y1,hy1,rfl⟩:=hy0
        exact ⟨(h3 i e0 y1 he0 hy1).1,(h3 i e0 y1 he0 hy1).2.1,rz⟩
       ·rw [if_neg hk] at he
        simp only [hk,if_false,id_map,Option.map_id',Option.map_id] at hy0
        exact h3 k e' y0 he (by simpa using hy0)) (fun y0 hy0=>by
       obtain ⟨k,hk'⟩:=mem_get hy0
       rw [List.getElem?_modify] at hk'
       by_cases hk:i=k
       ·subst hk
        simp only [if_true,Option.map_eq_map,Option.map_eq_some_iff] at hk'
        obtain ⟨y1,hy1,rfl⟩:=hk'
        exact ⟨(h4 y1 (List.mem_of_getElem? hy1)).1,hpl⟩
       ·simp only [hk,if_false] at hk'
        exact h4 y0 (List.mem_of_getElem? (by simpa using hk'))) (MapKept.stamped_modify h5 _ _ (fun _ _=>rfl) (fun _ _ _=>rfl))
     refine ⟨undef,_,G',.inr ⟨hexec ?_,rfl⟩,x1,x2,.tup #[] [] rfl (by simp)⟩
     simp [Instr.entryStore,hgo,hfi,asInt,asIntOf,MapKept.run_setObj_map _ h1,Result.andThen]
    ·simp at e
   ·simp at e
  ·simp at e
 ·simp at e
theorem op_mdel (H:HRel w G h) (hc:Ops a w G c ev) {x y:Operand} {x' y':Opd} {t kt et:TypeId} {ts:Array TypeId} {kd:KD} (hx:c x=some x') (hy:c y=some y') (ht:P.underlying t=some (.map kt et)) (hts:ts[0]?=some t) (hkd:keyD P kt=some kd) (hop:o.op = .call { callee := .builtin .delete,args:=#[x,y],argTypes:=ts })
  (e:evalA (.x (.mdel kd) [x',y']) ev h=some (r,h')):OpRes P o a w G h r h':=by
 have rx:=hc _ _ hx
 have ry:=hc _ _ hy
 simp only [evalA,evalX,List.map_cons,List.map_nil] at e
 generalize hv:a.eval x=u at rx
 generalize hv':a.eval y=v at ry
 have hexec:∀ {w1 v1},(Builtin.delete_ ts o.type #[u,v]).run P w = .ok v1 w1→(execOp a.eval o).run P w = .ok (.value v1) w1:=fun hr=>by
  simp [execOp,hop,hv,hv',resolve,invoke,builtin,hr]
 split at e
 ·rename_i hkey
  obtain ⟨⟨d,hd⟩,hch,hst0⟩:=key_ok (P:=P) hkd ry hkey
  split at e
  ·rename_i hb
   rw [hb] at rx
   simp at e;obtain ⟨rfl,rfl⟩:=e
   cases rx
   exact OpRes.same H (hexec (v1 := .tuple #[]) (by simp [Builtin.delete_,hts,run_underlying ht,hch,Result.andThen])) (.tup #[] [] rfl (by simp))
  ·rename_i id hb
   rw [hb] at rx
   cases rx
   split at e
   ·rename_i kd' clock es hg
    split at e
    ·rename_i hkk
     subst hkk
     obtain ⟨entries,h1,h2,h3,h4,h5⟩:=obj_map H hg
     have hgo:(getObj (G.loc id)).run P w = .ok (.map entries clock) w:=MapKept.run_getObj_map h1
     rcases find_ok (P:=P) hkd ry hkey h2 h3 h4 h5 with ⟨f1,f2,f3⟩|⟨j,en,yy,f1,f2,f3,f4,f5⟩
     ·rw [f1] at e
      simp at e;obtain ⟨rfl,rfl⟩:=e
      obtain ⟨G',x1,x2⟩:=write_map (kd':=kd') (clock':=clock) (es':=es) (entries':=entries) H hg h1 h2 h3 h4 h5
      refine ⟨.tuple #[],_,G',.inl (hexec ?_),x1,x2,.tup #[] [] rfl (by simp)⟩
      simp [Builtin.delete_,hts,run_underlying ht,hgo,hch,f2,MapKept.run_setObj_map _ h1,Result.andThen]
     ·rw [f1] at e
      simp at e;obtain ⟨rfl,rfl⟩:=e
      have hjlt:j<entries.size:=(Array.getElem?_eq_some_iff.1 f3).1
      have hje:entries.eraseIdxIfInBounds j=entries.eraseIdx j hjlt:=by simp [Array.eraseIdxIfInBounds,hjlt]
      obtain ⟨G',x1,x2⟩:=write_map (kd':=kd') (clock':=clock) (es':=es.eraseIdx j) (entries':=entries.eraseIdxIfInBounds j) H hg h1 (by rw [hje,Array.size_eraseIdx,List.length_eraseIdx,if_pos (by omega),h2]) (fun k e' y0 he hy0=>by
        rw [←Array.getElem?_toList,hje,Array.toList_eraseIdx,List.getElem?_eraseIdx] at he
        rw [List.getElem?_eraseIdx] at hy0
        by_cases hk:k<j
        ·rw [if_pos hk] at he hy0;exact h3 k e' y0 (by simpa using he) hy0
        ·rw [if_neg hk] at he hy0;exact h3 (k+1) e' y0 (by simpa using he) hy0) (fun y0 hy0=>h4 y0 ((List.eraseIdx_sublist _ _).subset hy0)) (MapKept.stamped_erase h5 j)
      refine ⟨.tuple #[],_,G',.inl (hexec ?_),x1,x2,.tup #[] [] rfl (by simp)⟩
      simp [Builtin.delete_,hts,run_underlying ht,hgo,hch,f2,MapKept.run_setObj_map _ h1,Result.andThen]
    ·simp at e
   ·simp at e
  ·simp at e
 ·simp at e
theorem op_mlen (H:HRel w G h) (hc:Ops a w G c ev) {x:Operand} {x':Opd} {t kt et:TypeId} (hx:c x=some x') (ht:P.underlying t=some (.map kt et)) (hop:o.op = .call { callee := .builtin .len,args:=#[x],argTypes:=#[t] })
  (e:evalA (.x .mlen [x']) ev h=some (r,h')):OpRes P o a w G h r h':=by
 have rx:=hc _ _ hx
 simp only [evalA,evalX,List.map_cons,List.map_nil] at e
 generalize hv:a.eval x=u at rx
 split at e
 ·rename_i hb
  rw [hb] at rx
  simp at e;obtain ⟨rfl,rfl⟩:=e
  cases rx
  exact OpRes.same H (v := .int .i64 0) (by simp [execOp,hop,hv,resolve,invoke,builtin,Builtin.len_,run_underlying ht,goInt]) (.int _ _)
 ·rename_i id hb
  rw [hb] at rx
  cases rx
  split at e
  ·rename_i kd clock es hg
   simp at e;obtain ⟨rfl,rfl⟩:=e
   obtain ⟨entries,h1,h2,h3,h4,h5⟩:=obj_map H hg
   have hgo:(getObj (G.loc id)).run P w = .ok (.map entries clock) w:=MapKept.run_getObj_map h1
   exact OpRes.same H (v := .int .i64 es.length) (by simp [execOp,hop,hv,resolve,invoke,builtin,Builtin.len_,run_underlying ht,hgo,goInt,h2,Result.andThen]) (.int _ _)
  ·simp at e
 ·simp at e
end
end Go.Abs

namespace Go.Abs
section
variable {P:Program} {o:Oper} {a:Act} {w:World} {G:Ghost} {h:Heap} {c:Operand→Option Opd} {ev:Opd→AVal} {r:AVal} {h':Heap}
theorem bytesRow_get {s:ByteArray} {cap:Nat} {k:Nat} {b:UInt8} (h:s.data.toList[k]?=some b):(bytesRow s cap)[k]?=some (.int .u8 b.toNat):=by
 unfold bytesRow
 have hlt:k<s.data.size:=by simpa using (List.getElem?_eq_some_iff.1 h).1
 rw [Array.getElem?_append_left (by simpa using hlt)]
 rw [Array.getElem?_map]
 have:s.data[k]?=some b:=by simpa using h
 rw [this];rfl
theorem op_s2b (H:HRel w G h) (hc:Ops a w G c ev) {x:Operand} {x':Opd} {sT dT el:TypeId} {row:Bool} (hx:c x=some x') (hs:P.underlying sT=some .string) (hd:P.underlying dT=some (.slice el)) (he:P.underlying el=some (.int .u8)) (hsz:tSize P el=some 1) (hop:o.op = .convert sT dT x)
  (e:evalA (.x (.s2b row) [x']) ev h=some (r,h')):OpRes P o a w G h r h':=by
 have rx:=hc _ _ hx
 simp only [evalA,evalX,List.map_cons,List.map_nil] at e
 generalize hv:a.eval x=u at rx
 split at e
 ·rename_i s hb
  rw [hb] at rx
  cases rx with
  | str s =>
    have hcv:=run_bytes_of_string (P:=P) w sT dT el s hs hd he
    have hexec:(execOp a.eval o).run P w = .ok (.value (.slice (some ⟨w.heap.size,0,none⟩) s.size (grownCap w s.size 0 el))) (w.drew.alloc (.cells (bytesRow s (grownCap w s.size 0 el)) el ((bytesRow s (grownCap w s.size 0 el)).size,(bytesRow s (grownCap w s.size 0 el)).size+1))):=by
     simp [execOp,hop,hv,hcv]
    have hlen:s.data.toList.length=s.size:=rfl
    have hge:s.size≤grownCap w s.size 0 el:=by have:=grownCap_ge w s.size 0 el;exact this
    have hrow:(bytesRow s (grownCap w s.size 0 el)).size=grownCap w s.size 0 el:=by
     unfold bytesRow
     have:(s.data.map fun b=>Value.int .u8 b.toNat).size=s.size:=by simp
     rw [Array.size_append,this,Array.size_replicate];omega
    generalize hcap:grownCap w s.size 0 el=cap at *
    have hnew:(w.drew.alloc (.cells (bytesRow s cap) el ((bytesRow s cap).size,(bytesRow s cap).size+1))).heap[w.heap.size]?=some (.cells (bytesRow s cap) el ((bytesRow s cap).size,(bytesRow s cap).size+1)):=(MapKept.heap_alloc w.drew _).1
    generalize hW:w.drew.alloc (.cells (bytesRow s cap) el ((bytesRow s cap).size,(bytesRow s cap).size+1))=W at *
    have hsh:W.shape? w.heap.size=some (el,(bytesRow s cap).size):=by unfold World.shape?;rw [hnew]
    have hcl:∀ k,W.cell? ⟨w.heap.size,k,none⟩=(bytesRow s cap)[k]?:=fun k=>by unfold World.cell?;rw [hnew];rfl
    have hfz:∀ k,k<(bytesRow s cap).size→W.frozen? ⟨w.heap.size,k,none⟩=false:=fun k hk=>by unfold World.frozen?;rw [hnew];simp;omega
    have H1:=HRel.of_heap (w:=w) (w':=w.drew) ⟨rfl,rfl,rfl,rfl⟩ H
    have hcell:∀ (k:Nat) (x:AVal),(s.data.toList.map fun b=>AVal.int .u8 b.toNat)[k]?=some x→∃ b:UInt8,x = .int .u8 b.toNat∧(bytesRow s cap)[k]?=some (.int .u8 b.toNat):=fun k x hk=>by
     rw [List.getElem?_map,Option.map_eq_some_iff] at hk
     obtain ⟨b,hb,rfl⟩:=hk
     exact ⟨b,rfl,bytesRow_get hb⟩
    split at e
    ·split at e
     ·rename_i hle hr
      subst hr
      simp at e;obtain ⟨rfl,rfl⟩:=e
      have hX:=Ext.alloc_any H1 (.cells (bytesRow s cap) el ((bytesRow s cap).size,(bytesRow s cap).size+1)) 0 (some 0) (.row true 1 false (s.data.toList.map fun b=>AVal.int .u8 b.toNat))
      have hloc:(G.new w.drew.heap.size 0 (some 0)).loc G.n=w.heap.size:=by simp [Ghost.new]
      have hHR:=HRel.alloc_any H1 (.cells (bytesRow s cap) el ((bytesRow s cap).size,(bytesRow s cap).size+1)) 0 (some 0) (.row true 1 false (s.data.toList.map fun b=>AVal.int .u8 b.toNat))
      rw [hW] at hX hHR
      refine ⟨_,_,_,.inl hexec,hX.drew,hHR ?_,?_⟩
      ·unfold OkObj
       rw [hloc]
       refine ⟨by simp [Ghost.new],fun k x hk=>?_,fun x hx=>?_,⟨el,(bytesRow s cap).size,hsh,by rw [hrow];simp;exact hge,fun T hT=>by simp only [typed] at hT;omega⟩,fun _ k e1 n1 h1 h2=>?_⟩
       ·obtain ⟨b,rfl,hb⟩:=hcell k x hk
        exact ⟨_,by rw [hcl,hb],.int _ _⟩
       ·rw [List.mem_map] at hx
        obtain ⟨b,_,rfl⟩:=hx;rfl
       ·rw [hsh] at h1
        simp at h1
        exact hfz k (by omega)
      ·have:=VRel.ref (w:=W) (G:=G.new w.drew.heap.size 0 (some 0)) h.next 0 s.size 1 cap (by simp [Ghost.new,H.n_eq]) hge ⟨el,(bytesRow s cap).size,by rw [←H.n_eq,hloc];exact hsh,by rw [hrow];omega⟩
       rw [←H.n_eq,hloc,H.n_eq] at this
       simpa [hlen] using this
     ·rename_i hle hr
      simp at e;obtain ⟨rfl,rfl⟩:=e
      have hX:=Ext.alloc_free (w:=w.drew) (G:=G) (h:=h) (bytesRow s cap) el ((bytesRow s cap).size,(bytesRow s cap).size+1)
      have hHR:=HRel.alloc_free H1 (bytesRow s cap) el ((bytesRow s cap).size,(bytesRow s cap).size+1)
      rw [hW] at hX hHR
      refine ⟨_,_,_,.inl hexec,hX.drew,hHR,?_⟩
      have hflat:flat (s.data.toList.map fun b=>AVal.int .u8 b.toNat)=s.data.toList.map fun b=>AVal.int .u8 b.toNat:=by
       induction s.data.toList with
       | nil=>rfl
       | cons b l ih=>simp only [flat,List.map_cons,List.flatMap_cons,AVal.cells] at ih ⊢;rw [ih];rfl
      have hsl:=VRel.sl (w:=W) (G:={ G with lim:=fun b=>if b=w.drew.heap.size then none else G.lim b }) w.heap.size 0 cap 1 (s.data.toList.map fun b=>AVal.int .u8 b.toNat) .none
       (fun k=>((bytesRow s cap)[k]?).getD (.bool false)) (fun x hx=>by rw [List.mem_map] at hx;obtain ⟨b,_,rfl⟩:=hx;rfl)
       (fun k x hk=>by
        rw [hflat] at hk
        obtain ⟨b,rfl,hb⟩:=hcell k x hk
        rw [Nat.zero_add,hcl,hb];rfl)
       (fun k x hk=>by
        rw [hflat] at hk
        obtain ⟨b,rfl,hb⟩:=hcell k x hk
        rw [hb];exact .int _ _)
       (fun k hk m hm=>by
        have:w.drew.heap.size=w.heap.size:=rfl
        simp [this] at hm)
       (fun x hx=>by rw [hflat,List.mem_map] at hx;obtain ⟨b,_,rfl⟩:=hx;rfl)
       (fun x hx=>by rw [hflat,List.mem_map] at hx;obtain ⟨b,_,rfl⟩:=hx;rfl)
       (by simp;exact hge) (by simp) (by simp)
      rw [List.length_map,hlen] at hsl
      exact hsl
    ·simp at e
 ·simp at e
theorem bytesL_ok:∀ {cs:List AVal} {l:List UInt8},cs.all u8cell=true→bytesL cs=some l→l.length=cs.length∧∀ (k:Nat) (x:AVal),cs[k]?=some x→∃ b,l[k]?=some b∧x = .int .u8 b.toNat
 | [],l,_,e=>by simp [bytesL] at e;subst e;simp
 | x::cs,l,ha,e=>by
   simp only [List.all_cons,Bool.and_eq_true] at ha
   cases x with
   | int k n =>
     cases k<;>simp [bytesL] at e
     obtain ⟨l',h1,rfl⟩:=e
     obtain ⟨e1,e2⟩:=bytesL_ok ha.2 h1
     have hn:=ha.1
     simp [u8cell] at hn
     refine ⟨by simp [e1],fun k x hk=>?_⟩
     cases k with
     | zero =>
       simp at hk;subst hk
       refine ⟨_,rfl,?_⟩
       rw [UInt8.toNat_ofNat']
       congr 1
       omega
     | succ k=>simpa using e2 k x (by simpa using hk)
   | _=>simp [bytesL] at e
theorem op_b2s (H:HRel w G h) (hc:Ops a w G c ev) {x:Operand} {x':Opd} {sT dT el:TypeId} (hx:c x=some x') (hs:P.underlying sT=some (.slice el)) (hd:P.underlying dT=some .string) (he:P.underlying el=some (.int .u8)) (hop:o.op = .convert sT dT x)
  (e:evalA (.x .b2s [x']) ev h=some (r,h')):OpRes P o a w G h r h':=by
 have rx:=hc _ _ hx
 simp only [evalA,evalX,List.map_cons,List.map_nil] at e
 generalize hv:a.eval x=u at rx
 split at e
 ·rename_i cs hcs
  split at e
  ·rename_i hall
   simp only [Option.map_eq_some_iff,Prod.mk.injEq] at e
   obtain ⟨l,hl,rfl,rfl⟩:=e
   obtain ⟨l1,l2⟩:=bytesL_ok hall hl
   have fin:∀ {b off cap:Nat},CellsAt w G b off cs→(convert sT dT (.slice (some ⟨b,off,none⟩) l.length cap)).run P w = .ok (.string ⟨l.toArray⟩) w:=fun {b off cap} hC=>by
    refine run_convert_bytes_back w sT dT el ⟨b,off,none⟩ cap l hs he hd fun j hj=>?_
    obtain ⟨x,hx⟩:∃ x,cs[j]?=some x:=⟨_,List.getElem?_eq_getElem (by omega)⟩
    obtain ⟨v,hv1,hv2⟩:=hC j x hx
    obtain ⟨b',hb1,rfl⟩:=l2 j x hx
    rw [List.getElem?_eq_getElem hj] at hb1
    obtain rfl:=Option.some.inj hb1
    rw [Addr.add_lit,hv1]
    cases hv2
    rfl
   have hstr:VRel w G (.string ⟨l.toArray⟩) (.str l):=by
    have:=VRel.str (w:=w) (G:=G) ⟨l.toArray⟩
    simpa using this
   have done:∀ {v:Value},u=v→(convert sT dT v).run P w = .ok (.string ⟨l.toArray⟩) w→OpRes P o a w G h (.str l) h:=fun hu hr=>by
    subst hu
    exact OpRes.same H (by simp [execOp,hop,hv,hr]) hstr
   unfold bytesA at hcs
   split at hcs
   ·simp at hcs
   rename_i hns
   unfold elemsA at hcs
   split at hcs
   ·rename_i ys tk hb
    rw [hb] at rx
    split at hcs
    ·rename_i hy
     obtain rfl:=Option.some.inj hcs
     cases rx with
     | nilsl =>
       have:l=[]:=List.eq_nil_of_length_eq_zero (by rw [l1];simp [flat])
       subst this
       exact done rfl (run_convert_bytes_nil w sT el hs he 0 0 dT hd)
     | emp =>
       have:l=[]:=List.eq_nil_of_length_eq_zero (by rw [l1];simp [flat])
       subst this
       exact done rfl (run_convert_bytes_back w sT dT el _ 0 [] hs he hd (by intro j hj;simp at hj))
     | sl b off cap sz xs t u0 h0 h1 h2 h3 h4 h5 hcp hnn ho =>
       have hlen:(flat ys).length=ys.length:=by
        cases ys with
        | nil=>rfl
        | cons y ys' =>
          have hsz:sz=1:=by rw [←h0 y (by simp)];exact hy y rfl
          rw [flat_len h0,hsz,Nat.mul_one]
       refine done rfl ?_
       rw [show ys.length=l.length by omega]
       exact fin fun k x hk=>⟨u0 k,h1 k x hk,h2 k x hk⟩
    ·simp at hcs
   ·rename_i id off len s hb
    rw [hb] at rx
    split at hcs
    ·rename_i hs1
     subst hs1
     split at hcs
     ·rename_i mu s' ag' cs0 hg
      split at hcs
      ·rename_i hbd
       obtain rfl:=Option.some.inj hcs
       have hll:l.length=len:=by rw [l1];simp;omega
       obtain ⟨_,o2,_,_,_⟩:=H.obj id _ hg
       cases rx with
       | ref0 _ _ _ b bo hid =>
         have:l=[]:=List.eq_nil_of_length_eq_zero hll
         subst this
         refine done rfl ?_
         exact fin (b:=b) (off:=bo) (cap:=0) (by intro k x hk;simp at hk)
       | ref _ _ _ _ cap hid hcp hsh =>
         refine done rfl ?_
         rw [←hll]
         refine fin ?_
         have hC:CellsAt w G (G.loc id) 0 cs0:=fun k x hk=>by simpa using o2 k x hk
         have:=(hC.drop off).take (len*1)
         rwa [Nat.zero_add] at this
      ·simp at hcs
     ·simp at hcs
    ·simp at hcs
   ·rename_i s hb
    exact absurd hb (hns s)
   ·simp at hcs
  ·simp at e
 ·simp at e
theorem flatv_strip {x:AVal} (h:flatv x=true):strip x=some x:=by cases x<;>simp [flatv] at h<;>rfl
theorem op_aslice (H:HRel w G h) (hc:Ops a w G c ev) {x:Operand} {x':Opd} {lo hi:Option Operand} {lo' hi':Option Opd} {t el:TypeId} {n sz:Nat} {ag:Bool} (hx:c x=some x') (hlo:optO c lo=some lo') (hhi:optO c hi=some hi') (ht:P.underlying t=some (.array n el)) (hs:tSize P el=some sz) (hop:o.op = .slice t x lo hi none)
  (e:evalA (.x (.aslice n sz ag lo'.isSome hi'.isSome) (x'::(lo'.toList++hi'.toList))) ev h=some (r,h')):OpRes P o a w G h r h':=by
 have rx:=hc _ _ hx
 have e':(match boundA (hi'.map ev) n n with
  | some b=>match boundA (lo'.map ev) 0 b with
    | some a=>match ev x' with
      | .ptr id off=>match h.get id with
        | some (.row _ _ _ cs)=>if off+n*sz≤cs.length∧0<sz then some (AVal.ref id (off+a*sz) (b - a) sz,h) else none
        | _=>none
      | .rp cs=>if n*sz≤cs.length∧0<sz∧cs.all flatv then (chunk sz ag (b - a) (cs.drop (a*sz))).map fun xs=>(AVal.sl xs .none,h) else none
      | _=>none
    | none=>none
  | none=>none)=some (r,h'):=by
  rw [←e]
  cases lo'<;>cases hi'<;>rfl
 clear e
 generalize hv:a.eval x=v at rx
 split at e'
 ·rename_i hh eh
  split at e'
  ·rename_i l elo
   obtain ⟨hb1,hb2,hb3⟩:=bounds_ok (P:=P) (w:=w) (G:=G) (isSlice:=false) (cap:=n) (y:=0) (d:=0) (optO_ok hc hlo) (optO_ok hc hhi) (Nat.le_refl _) eh elo
   have hexec:∀ {b off:Nat},v = .pointer (some ⟨b,off,none⟩)→(execOp a.eval o).run P w = .ok (.value (.slice (if n=l then some ⟨b,off,none⟩ else some ⟨b,off+l*sz,none⟩) (hh - l) (n - l))) w:=fun hvv=>by
    subst hvv
    by_cases hnl:n=l
    ·subst hnl
     simp [execOp,hop,hv,Instr.sliceAt,Instr.sureAddr,run_underlying ht,hb1,run_sizeOf' hs,Addr.add_lit]
    ·simp [execOp,hop,hv,Instr.sliceAt,Instr.sureAddr,run_underlying ht,hb1,run_sizeOf' hs,Addr.add_lit,hnl]
   split at e'
   ·rename_i id off hb
    rw [hb] at rx
    split at e'
    ·rename_i mu s ag' cs hg
     split at e'
     ·rename_i hcond
      obtain ⟨hcl,hpos⟩:=hcond
      simp at e';obtain ⟨rfl,rfl⟩:=e'
      obtain ⟨_,_,_,⟨e1,n1,q1,q2,_⟩,_⟩:=H.obj id _ hg
      cases rx with
      | ptr _ _ hid =>
        refine OpRes.same H (hexec rfl) ?_
        by_cases hnl:n=l
        ·have h0:hh - l=0:=by omega
         have h1:n - l=0:=by omega
         rw [if_pos hnl,h0,h1]
         exact .ref0 _ _ _ _ _ hid
        ·rw [if_neg hnl]
         refine .ref id (off+l*sz) (hh - l) sz (n - l) hid (by omega) ⟨e1,n1,q1,?_⟩
         have:l*sz+(n - l)*sz=n*sz:=by rw [←Nat.add_mul];congr 1;omega
         omega
     ·simp at e'
    ·simp at e'
   ·rename_i cs hb
    rw [hb] at rx
    split at e'
    ·rename_i hcond
     obtain ⟨hcl,hpos,hfl⟩:=hcond
     simp only [Option.map_eq_some_iff,Prod.mk.injEq] at e'
     obtain ⟨xs,hch,rfl,rfl⟩:=e'
     cases rx with
     | rp b off _ u h1 h2 h3 h4 =>
       obtain ⟨c1,c2,c3,c4⟩:=chunk_ok hch (fun c hc'=>h4 c (List.mem_of_mem_drop hc'))
       refine OpRes.same H (hexec rfl) ?_
       by_cases hnl:n=l
       ·have h0:hh - l=0:=by omega
        have hx0:xs=[]:=List.eq_nil_of_length_eq_zero (by rw [c1,h0])
        rw [if_pos hnl,h0,show n - l=0 by omega,hx0]
        exact vrel_sl0 b off
       ·rw [if_neg hnl,←c1]
        have hget:∀ (k:Nat) (cc:AVal),(flat xs)[k]?=some cc→cs[l*sz+k]?=some cc:=fun k cc hk=>by
         rw [c2,List.getElem?_take] at hk
         split at hk
         ·rwa [List.getElem?_drop] at hk
         ·simp at hk
        refine .sl b (off+l*sz) (n - l) sz xs .none (fun k=>u (l*sz+k)) c3 (fun k cc hk=>?_) (fun k cc hk=>h2 _ cc (hget k cc hk)) (fun k hk=>?_) (fun cc hcc=>?_) (fun cc hcc=>?_) (by rw [c1];omega) (by simp) (by simp)
        ·rw [Nat.add_assoc];exact h1 _ cc (hget k cc hk)
        ·rw [Nat.add_assoc]
         have:=hget k _ (List.getElem?_eq_getElem hk)
         exact h3 _ (List.getElem?_eq_some_iff.1 this).1
        ·obtain ⟨k,hk⟩:=mem_get hcc
         exact h4 cc (List.mem_of_getElem? (hget k cc hk))
        ·obtain ⟨k,hk⟩:=mem_get hcc
         exact flatv_strip (List.all_eq_true.1 hfl cc (List.mem_of_getElem? (hget k cc hk)))
    ·simp at e'
   ·simp at e'
  ·simp at e'
 ·simp at e'
theorem op_s2ap (H:HRel w G h) (hc:Ops a w G c ev) {x:Operand} {x':Opd} {t el:TypeId} {n sz:Nat} (hx:c x=some x') (ht:P.underlying t=some (.array n el)) (hs:tSize P el=some sz) (hop:o.op = .sliceToArrayPointer t x)
  (e:evalA (.x (.s2ap n sz) [x']) ev h=some (r,h')):OpRes P o a w G h r h':=by
 have rx:=hc _ _ hx
 simp only [evalA,evalX,List.map_cons,List.map_nil] at e
 generalize hv:a.eval x=v at rx
 have hexec:∀ {ad:Option Addr} {len cap:Nat},v = .slice ad len cap→n≤len→(execOp a.eval o).run P w = .ok (.value (.pointer ad)) w:=fun hvv hle=>by
  subst hvv
  simp [execOp,hop,hv,Instr.arrayAt,run_underlying ht,Nat.not_lt.2 hle]
 split at e
 ·rename_i id off len s hb
  rw [hb] at rx
  split at e
  ·rename_i hcond
   obtain ⟨rfl,hle,hpos⟩:=hcond
   simp at e;obtain ⟨rfl,rfl⟩:=e
   cases rx with
   | ref0=>omega
   | ref _ _ _ _ cap hid hcp hsh=>exact OpRes.same H (hexec rfl hle) (.ptr _ _ hid)
  ·simp at e
 ·rename_i xs tk hb
  rw [hb] at rx
  split at e
  ·rename_i hcond
   obtain ⟨hle,hpos,hhd⟩:=hcond
   simp at e;obtain ⟨rfl,rfl⟩:=e
   cases rx with
   | nilsl=>simp at hle;omega
   | emp=>simp at hle;omega
   | sl b off cap sz0 _ _ u h0 h1 h2 h3 h4 h5 hcp hnn ho =>
     refine OpRes.same H (hexec rfl hle) (.rp b off _ u (fun k cc hk=>?_) (fun k cc hk=>?_) (fun k hk=>?_) (fun cc hcc=>h4 cc (List.mem_of_mem_take hcc)))
     ·rw [List.getElem?_take] at hk
      split at hk
      ·exact h1 k cc hk
      ·simp at hk
     ·rw [List.getElem?_take] at hk
      split at hk
      ·exact h2 k cc hk
      ·simp at hk
     ·rw [List.length_take] at hk
      exact h3 k (by omega)
  ·simp at e
 ·simp at e
theorem op_slice30 (H:HRel w G h) (hc:Ops a w G c ev) {x y z:Operand} {x' y' z':Opd} {t el:TypeId} {sz:Nat} (hx:c x=some x') (hy:c y=some y') (hz:c z=some z') (ht:P.underlying t=some (.slice el)) (hs:tSize P el=some sz) (hop:o.op = .slice t x none (some y) (some z))
  (e:evalA (.x (.slice30 sz) [x',y',z']) ev h=some (r,h')):OpRes P o a w G h r h':=by
 have rx:=hc _ _ hx
 have ry:=hc _ _ hy
 have rz:=hc _ _ hz
 simp only [evalA,evalX,List.map_cons,List.map_nil] at e
 generalize hv:a.eval x=v at rx
 generalize hv1:a.eval y=v1 at ry
 generalize hv2:a.eval z=v2 at rz
 split at e
 ·rename_i k1 k2 hb1 hb2
  rw [hb1] at ry;rw [hb2] at rz
  cases ry;cases rz
  have hexec:∀ {ad:Option Addr} {len cap:Nat},v = .slice ad len cap→(execOp a.eval o).run P w = .ok (.value (.slice ad 0 0)) w:=fun hvv=>by
   subst hvv
   simp [execOp,hop,hv,hv1,hv2,Instr.sliceAt,Instr.slice,Instr.sliceBounds,Instr.sliceBound,asIntOf,run_underlying ht,run_sizeOf' hs]
  split at e
  ·rename_i xs tk hb
   rw [hb] at rx
   simp at e;obtain ⟨rfl,rfl⟩:=e
   cases rx with
   | nilsl _ htk =>
     refine OpRes.same H (hexec rfl) ?_
     rcases htk with rfl|rfl|rfl
     ·exact .nilsl _ (by simp)
     ·exact .nilsl _ (by simp)
     ·exact .nilsl _ (by simp)
   | emp ad _ htk =>
     refine OpRes.same H (hexec rfl) ?_
     rcases htk with rfl|rfl
     ·exact .emp _ _ (by simp)
     ·exact .emp _ _ (by simp)
   | sl b off cap sz0 _ _ u h0 h1 h2 h3 h4 h5 hcp hnn ho =>
     refine OpRes.same H (hexec rfl) ?_
     rw [if_neg hnn.1]
     exact .sl b off 0 0 [] .full (fun _ => .bool false) (by simp) (by simp [flat]) (by simp [flat]) (by simp [flat]) (by simp [flat]) (by simp [flat]) (by simp) (by simp) (by simp)
  ·rename_i id off len s hb
   rw [hb] at rx
   simp at e;obtain ⟨rfl,rfl⟩:=e
   cases rx with
   | ref0 _ _ _ b bo hid =>
     refine OpRes.same H (hexec rfl) ?_
     exact .sl b bo 0 0 [] .full (fun _ => .bool false) (by simp) (by simp [flat]) (by simp [flat]) (by simp [flat]) (by simp [flat]) (by simp [flat]) (by simp) (by simp) (by simp)
   | ref _ _ _ _ cap hid hcp hsh =>
     refine OpRes.same H (hexec rfl) ?_
     exact .sl (G.loc id) off 0 0 [] .full (fun _ => .bool false) (by simp) (by simp [flat]) (by simp [flat]) (by simp [flat]) (by simp [flat]) (by simp [flat]) (by simp) (by simp) (by simp)
  ·simp at e
 ·simp at e
theorem op_elit (H:HRel w G h) (hc:Ops a w G c ev) {t el:TypeId} {sz:Nat} {z:List AVal} {ps:Array (Nat×Operand)} (ht:P.underlying t=some (.slice el)) (hs:tSize P el=some sz) (hz:tZero P el=some z) (hzl:z.length=sz)
  (hp:compParts c ps.toList=some []) (hop:o.op = .buildSlice t 0 ps) (e:evalA (.x .elit []) ev h=some (r,h')):OpRes P o a w G h r h':=by
 simp [evalA,evalX] at e
 obtain ⟨rfl,rfl⟩:=e
 obtain ⟨arr,hrun,hpts,hone,hlen⟩:=lit_run (P:=P) (o:=o) (cs:=[]) hc ht hs hz hp hop hzl (by omega) (by simp [repl,fillA])
 have harr:arr=#[]:=Array.eq_empty_of_size_eq_zero (by rw [hpts.len];rfl)
 obtain ⟨G',z1,z2,z3⟩:=new_free H (arr:=arr) (el:=el) (xs:=[]) (sz:=sz) (cap:=0) (by simp) (by simp [flat]) (by simp [flat]) (by simp [flat]) (by simp)
 refine ⟨_,_,G',.inl hrun,z1,z2,?_⟩
 exact .sl w.heap.size 0 0 0 [] .full (fun _ => .bool false) (by simp) (by simp [flat]) (by simp [flat]) (by simp [flat]) (by simp [flat]) (by simp [flat]) (by simp) (by simp) (by simp)
theorem op_afresh (H:HRel w G h) (hc:Ops a w G c ev) {x y:Operand} {x' y':Opd} {t u el:TypeId} {bytes sz:Nat} {ag:Bool} {z:List AVal} (hx:c x=some x') (hy:c y=some y') (ht:P.underlying t=some (.slice el)) (hu:appendable P u)
  (hb:tBytes P el=some bytes) (hs:tSize P el=some sz) (hz:tZero P el=some z) (hzl:z.length=sz) (hop:o.op = .call { callee := .builtin .append,args:=#[x,y],argTypes:=#[t,u] })
  (e:evalA (.x (.afresh el bytes sz ag) [x',y']) ev h=some (r,h')):OpRes P o a w G h r h':=by
 refine op_append (arr:=true) (ag:=ag) H hc hx hy ht hu hb hs hz hzl hop ?_
 simp only [evalA,evalX,List.map_cons,List.map_nil] at e ⊢
 split at e
 ·rename_i hb;rw [hb] at e ⊢;exact e
 ·rename_i hb;rw [hb] at e ⊢;exact e
 ·simp at e
end
end Go.Abs

namespace Go.Abs
theorem iter_turned {w:World} {G:Ghost} {b:Nat} {m:Option Nat} {s k:Nat} {l:Array Nat} (hg:w.heap[b]?=some (.mapIter m s l k)) (m':Option Nat) (s':Nat) (l':Array Nat) (k':Nat) :
  Turned w G b { w with heap:=w.heap.setIfInBounds b (.mapIter m' s' l' k') } (G.lim b):=by
 obtain ⟨s1,s2⟩:=MapKept.heap_set (o' := .mapIter m' s' l' k') hg
 refine ⟨rfl,rfl,rfl,by simp,fun c hc=>s2 c hc,?_,fun k _=>?_,fun k hk m hm=>hk m hm,fun r hr=>by rw [hg] at hr;simp at hr⟩
 ·simp only [World.shape?,s1,hg]
 ·simp only [World.cell?,s1,hg]
section
variable {P:Program} {o:Oper} {a:Act} {w:World} {G:Ghost} {h:Heap} {c:Operand→Option Opd} {ev:Opd→AVal} {r:AVal} {h':Heap}
theorem filter_rel {R:MapEntry→(Nat×AVal×AVal)→Prop} (p:Nat→Bool):∀ (L:List MapEntry) (es:List (Nat×AVal×AVal)),L.length=es.length→(∀ (k:Nat) e x,L[k]?=some e→es[k]?=some x→e.born=x.1∧R e x) →
  (L.filter fun e=>p e.born).length=(es.filter fun x=>p x.1).length∧∀ (k:Nat) e x,(L.filter fun e=>p e.born)[k]?=some e→(es.filter fun x=>p x.1)[k]?=some x→e.born=x.1∧R e x
 | [],[],_,_=>by simp
 | [],_::_,h,_=>by simp at h
 | _::_,[],h,_=>by simp at h
 | e::L,x::es,hl,h=>by
   obtain ⟨h0,h0'⟩:=h 0 e x rfl rfl
   obtain ⟨i1,i2⟩:=filter_rel p L es (by simpa using hl) (fun k e' x' h1 h2=>h (k+1) e' x' (by simpa using h1) (by simpa using h2))
   rw [List.filter_cons,List.filter_cons,h0]
   split
   ·refine ⟨by simp [i1],fun k e' x' h1 h2=>?_⟩
    cases k with
    | zero=>simp at h1 h2;subst h1;subst h2;exact ⟨h0,h0'⟩
    | succ k=>exact i2 k e' x' (by simpa using h1) (by simpa using h2)
   ·exact ⟨i1,i2⟩
theorem next_run {w:World} {r bm since c0 clock:Nat} {seen:Array Nat} {es:Array MapEntry} {ty:TypeId} (hr:w.heap[r]?=some (.mapIter (some bm) since seen c0)) (hb:w.heap[bm]?=some (.map es clock))
  (hold:∀ x∈es.toList,x.born<since) (hsc:since≤c0) :
  ((leftOf es seen).size=0∧(Instr.next (.pointer (some ⟨r,0,none⟩)) false ty).run P w = .ok (.tuple #[.bool false]) w) ∨
  ∃ e∈(leftOf es seen).toList,∃ w1:World,(w1=w∨w1=w.drew)∧(Instr.next (.pointer (some ⟨r,0,none⟩)) false ty).run P w = .ok (.tuple #[.bool true,e.key,e.val]) { w1 with heap:=w1.heap.setIfInBounds r (.mapIter (some bm) since (seen.push e.born) clock) }:=by
 simp only [Instr.next,getObj,Sem.run_bind,Sem.run,hr,hb,Result.andThen,next_test_false seen es since c0 hold hsc,Bool.false_eq_true,if_false]
 unfold leftOf
 have hmem:∀ x∈(Array.filter (fun e=>!seen.contains e.born) es).toList,x.born<since:=fun x hx=>hold x (by simp at hx ⊢;exact hx.1)
 generalize Array.filter (fun e=>!seen.contains e.born) es=L at hmem ⊢
 have e1:L.filter (fun x=>decide (x.born<since))=L:=Array.filter_eq_self.2 (fun x hx=>by simpa using hmem x (by simpa using hx))
 have e2:L.filter (fun x=>decide (x.born≥since))=#[]:=by
  rw [Array.filter_eq_empty_iff]
  intro x hx
  have:=hmem x (by simpa using hx)
  simp
  omega
 simp only [e1,e2,Array.append_empty]
 by_cases h0:L.size=0
 ·left
  have:L=#[]:=Array.eq_empty_of_size_eq_zero h0
  subst this
  refine ⟨rfl,?_⟩
  simp [choose,Sem.run,Question.forced]
 ·right
  have hne:L.isEmpty=false:=by simp [Array.isEmpty,h0]
  simp only [hne,Bool.false_eq_true,if_false,Array.empty_append,Array.size_map]
  have hch:∃ (j:Nat) (w1:World),j<L.size∧(w1=w∨w1=w.drew)∧(choose (Question.mapNext L.size)).run P w = .ok j w1:=by
   by_cases hf:L.size≤1
   ·exact ⟨0,w,by omega,.inl rfl,by simp [choose,Sem.run,Question.forced,hf]⟩
   ·exact ⟨_,w.drew,Nat.mod_lt _ (by omega),.inr rfl,by
     simp only [choose,Sem.run,Question.forced,decide_eq_true_eq,hf,if_false,Question.cut]
     rfl⟩
  obtain ⟨j,w1,hj,hal,hrun⟩:=hch
  refine ⟨L[j],by simp,w1,hal,?_⟩
  have hh:w1.heap[r]?=some (.mapIter (some bm) since seen c0):=by rcases hal with rfl|rfl<;>exact hr
  have hset:∀ (o':Go.Obj),(setObj r o').run P w1 = .ok () { w1 with heap:=w1.heap.setIfInBounds r o' }:=fun o'=>by
   simp only [setObj,Sem.run,hh]
  simp only [hrun,Array.getElem?_map,Array.getElem?_eq_getElem hj,Option.map_some,Sem.run_bind,hset,Result.andThen]
  rfl
theorem obj_iter (H:HRel w G h) {id:Nat} {m:Option Nat} {since last:Nat} {seen:List Nat} (hg:h.get id=some (.iter m since seen last)):w.heap[G.loc id]?=some (.mapIter (m.map G.loc) since seen.toArray last)∧∀ i,m=some i→i<G.n:=H.obj id _ hg
theorem check_arr {kt e:TypeId} {n:Nat} (hu:P.underlying kt=some (.array n e)) (he:(∃ k,P.underlying e=some (.int k))∨P.underlying e=some .bool∨P.underlying e=some .string) (hs:tSize P e=some 1) {cs:Array Value} (hl:n=cs.size) (em:Bool) :
  (Instr.checkKey em 10000 kt (.agg cs)).run P w = .ok () w:=by
 have hag:tAgg P e=some false:=by rcases he with ⟨k,h⟩|h|h<;>simp [tAgg,h,isAggD]
 have key:∀ (m a:Nat),a+m=n→(forIn (List.range' a m) PUnit.unit (fun i _=>do
   Instr.checkKey em 9999 e (←part e cs (i*(←sizeOf e)))
   pure (ForInStep.yield PUnit.unit)):Sem PUnit).run P w = .ok PUnit.unit w:=by
  intro m
  induction m with
  | zero=>intro a _;simp
  | succ m ih =>
    intro a ha
    have hlt:a<cs.size:=by omega
    have hp:(part e cs a).run P w = .ok cs[a] w:=run_part hag (Array.getElem?_eq_getElem hlt) w
    rw [List.range'_succ]
    simp only [List.forIn_cons,Sem.run_bind,run_sizeOf' hs,Nat.mul_one,hp,Result.andThen_ok,check_cell (n:=9998) he,Sem.run_pure]
    exact ih (a+1) (by omega)
 have h0:=key n 0 (by omega)
 rw [Instr.checkKey]
 simp only [Sem.run_bind,run_underlying hu,Result.andThen_ok,Std.Legacy.Range.forIn_eq_forIn_range',Std.Legacy.Range.size,Nat.sub_zero,Nat.add_one_sub_one,Nat.div_one]
 refine (congrArg (fun r=>Result.andThen r (fun a w'=>Sem.run P (pure ()) w')) h0).trans ?_
 simp
theorem op_mlook0 (H:HRel w G h) (hc:Ops a w G c ev) {x y:Operand} {x' y':Opd} {t kt et:TypeId} {n:Nat} {sk:SK} {z:AVal} {ok:Bool} (hx:c x=some x') (hy:c y=some y') (ht:P.underlying t=some (.map kt et)) (hkd:arrD P kt=some (n,sk)) (hz:tZeroA P et=some z) (hop:o.op = .lookup t x y ok)
  (e:evalA (.x (.mlook0 n sk z ok) [x',y']) ev h=some (r,h')):OpRes P o a w G h r h':=by
 have rx:=hc _ _ hx
 have ry:=hc _ _ hy
 simp only [evalA,evalX,List.map_cons,List.map_nil] at e
 generalize hv:a.eval x=u at rx
 generalize hv':a.eval y=v at ry
 obtain ⟨el,hu,he,hs⟩:∃ el,P.underlying kt=some (.array n el)∧((∃ k,P.underlying el=some (.int k))∨P.underlying el=some .bool∨P.underlying el=some .string)∧tSize P el=some 1:=by
  unfold arrD at hkd
  split at hkd
  ·rename_i n' el hu
   split at hkd
   ·rename_i k h1 h2;simp only [Option.some.injEq,Prod.mk.injEq] at hkd;obtain ⟨rfl,rfl⟩:=hkd;exact ⟨el,hu,.inl ⟨k,h1⟩,h2⟩
   ·rename_i h1 h2;simp only [Option.some.injEq,Prod.mk.injEq] at hkd;obtain ⟨rfl,rfl⟩:=hkd;exact ⟨el,hu,.inr (.inr h1),h2⟩
   ·rename_i h1 h2;simp only [Option.some.injEq,Prod.mk.injEq] at hkd;obtain ⟨rfl,rfl⟩:=hkd;exact ⟨el,hu,.inr (.inl h1),h2⟩
   ·simp at hkd
  ·simp at hkd
 obtain ⟨zv,hzr,hzv⟩:∃ zv,(zeroValue et).run P w = .ok zv w∧VRel w G zv z:=by
  unfold tZeroA at hz
  split at hz
  ·rename_i i hi
   split at hz
   ·rename_i zv hzv
    exact ⟨zv,run_zeroValue' hi hzv w,constA_ok hz⟩
   ·simp at hz
  ·simp at hz
 have fin:VRel w G (if ok then .tuple #[zv,.bool false] else zv) (if ok then .tup [z,.bool false] else z):=by
  cases ok
  ·exact hzv
  ·refine .tup _ _ rfl fun k c' a' h1 h2=>?_
   match k with
   | 0=>simp at h1 h2;subst h1;subst h2;exact hzv
   | 1=>simp at h1 h2;subst h1;subst h2;exact .bool false
   | k+2=>simp at h2
 split at e
 ·rename_i xs hb'
  rw [hb'] at ry
  cases ry with
  | agg cs _ hl hr _ =>
  split at e
  ·rename_i hxs
   have hch:∀ em,(Instr.checkKey em 10000 kt (.agg cs)).run P w = .ok () w:=fun em=>check_arr hu he hs (by rw [hl];exact hxs.1.symm) em
   have hf:(Instr.findKey kt (.agg cs) []).run P w = .ok none w:=by simp [Instr.findKey,run_underlying hu,Instr.findNow,Result.andThen]
   split at e
   ·rename_i hb
    rw [hb] at rx
    simp at e;obtain ⟨rfl,rfl⟩:=e
    cases rx
    refine OpRes.same H (v:=if ok then .tuple #[zv,.bool false] else zv) ?_ fin
    simp [execOp,hop,hv,hv',Instr.lookup,run_underlying ht,hch,hf,hzr,Result.andThen]
   ·rename_i id hb
    rw [hb] at rx
    cases rx
    split at e
    ·rename_i kd clock hg
     simp at e;obtain ⟨rfl,rfl⟩:=e
     obtain ⟨entries,h1,h2,h3,h4,h5⟩:=obj_map H hg
     have hgo:(getObj (G.loc id)).run P w = .ok (.map entries clock) w:=MapKept.run_getObj_map h1
     have hnil:entries=#[]:=Array.eq_empty_of_size_eq_zero (by simpa using h2)
     subst hnil
     refine OpRes.same H (v:=if ok then .tuple #[zv,.bool false] else zv) ?_ fin
     simp [execOp,hop,hv,hv',Instr.lookup,run_underlying ht,hgo,hch,hf,hzr,Result.andThen]
    ·simp at e
   ·simp at e
  ·simp at e
 ·simp at e
theorem op_mrange (H:HRel w G h) (hc:Ops a w G c ev) {x:Operand} {x':Opd} {t kt et:TypeId} (hx:c x=some x') (ht:P.underlying t=some (.map kt et)) (hop:o.op = .range t x)
  (e:evalA (.x .mrange [x']) ev h=some (r,h')):OpRes P o a w G h r h':=by
 have rx:=hc _ _ hx
 simp only [evalA,evalX,List.map_cons,List.map_nil] at e
 generalize hv:a.eval x=u at rx
 have key:∀ (m:Option Nat) (s k:Nat),(∀ i,m=some i→i<G.n)→(Instr.range t u).run P w = .ok (.pointer (some ⟨w.heap.size,0,none⟩)) (w.alloc (.mapIter (m.map G.loc) s #[] k)) →
   OpRes P o a w G h (.ptr h.next 0) (h.push (.iter m s [] k)):=by
  intro m s k hm hrun
  have hX:=Ext.alloc_any H (.mapIter (m.map G.loc) s #[] k) 0 (some 0) (.iter m s [] k)
  have hloc:(G.new w.heap.size 0 (some 0)).loc G.n=w.heap.size:=by simp [Ghost.new]
  refine ⟨.pointer (some ⟨w.heap.size,0,none⟩),_,_,.inl ?_,hX,HRel.alloc_any H _ 0 (some 0) _ ?_,?_⟩
  ·simp [execOp,hop,hv,hrun]
  ·unfold OkObj
   rw [hloc]
   refine ⟨?_,fun i q=>Nat.lt_succ_of_lt (hm i q)⟩
   have e:m.map (G.new w.heap.size 0 (some 0)).loc=m.map G.loc:=by
    cases m with
    | none=>rfl
    | some i=>simp [Ghost.new,Nat.ne_of_lt (hm i rfl)]
   rw [e]
   exact (MapKept.heap_alloc w _).1
  ·have:=VRel.ptr (w:=w.alloc (.mapIter (m.map G.loc) s #[] k)) (G:=G.new w.heap.size 0 (some 0)) h.next 0 (by simp [Ghost.new,H.n_eq])
   rwa [←H.n_eq,hloc,H.n_eq] at this
 split at e
 ·rename_i hb
  rw [hb] at rx
  simp at e;obtain ⟨rfl,rfl⟩:=e
  cases rx
  exact key none 0 0 (by simp) (run_range_nilMap w t kt et ht)
 ·rename_i id hb
  rw [hb] at rx
  cases rx
  rename_i hid
  split at e
  ·rename_i kd clock es hg
   simp at e;obtain ⟨rfl,rfl⟩:=e
   obtain ⟨entries,h1,h2,h3,h4,h5⟩:=obj_map H hg
   exact key (some id) clock clock (fun i q=>by obtain rfl:=Option.some.inj q;exact hid) (run_range_map w t kt et _ entries clock ht h1)
  ·simp at e
 ·simp at e
theorem iter_write {w:World} {G:Ghost} {h:Heap} (H:HRel w G h) {id mid since last clock:Nat} {seen:List Nat} (hg:h.get id=some (.iter (some mid) since seen last)) (b:Nat) :
  ∃ G',Ext w G h { w with heap:=w.heap.setIfInBounds (G.loc id) (.mapIter (some (G.loc mid)) since (seen.toArray.push b) clock) } G' (h.put id (some (.iter (some mid) since (seen++[b]) clock))) ∧
    HRel { w with heap:=w.heap.setIfInBounds (G.loc id) (.mapIter (some (G.loc mid)) since (seen.toArray.push b) clock) } G' (h.put id (some (.iter (some mid) since (seen++[b]) clock))):=by
 obtain ⟨h1,h2⟩:=obj_iter H hg
 have ht:=iter_turned (G:=G) h1 (some (G.loc mid)) since (seen.toArray.push b) clock
 refine ⟨_,Ext.update hg ht _,HRel.update H hg ht _ fun ob ho=>?_⟩
 obtain rfl:=Option.some.inj ho
 unfold OkObj
 have hloc:(G.at (G.loc id) (G.lim (G.loc id))).loc=G.loc:=rfl
 rw [hloc]
 refine ⟨?_,h2⟩
 rw [(MapKept.heap_set h1).1]
 simp
theorem op_mnext (H:HRel w G h) (hc:Ops a w G c ev) {x:Operand} {x':Opd} {b:Bool} (hx:c x=some x') (hb0:b=false) (hop:o.op = .next x b)
  (e:evalA (.x .mnext [x']) ev h=some (r,h')):OpRes P o a w G h r h':=by
 subst hb0
 have rx:=hc _ _ hx
 simp only [evalA,evalX,List.map_cons,List.map_nil] at e
 generalize hv:a.eval x=u at rx
 have hexec:∀ {v w1},(Instr.next u false o.type).run P w = .ok v w1→(execOp a.eval o).run P w = .ok (.value v) w1:=fun hr=>by simp [execOp,hop,hv,hr]
 split at e
 ·rename_i id hb
  rw [hb] at rx
  cases rx
  split at e
  ·rename_i s0 l0 k0 hg
   simp at e;obtain ⟨rfl,rfl⟩:=e
   obtain ⟨h1,_⟩:=obj_iter H hg
   refine OpRes.same H (v := .tuple #[.bool false]) (hexec ?_) (.tup _ _ rfl fun k c' a' q1 q2=>?_)
   ·simp only [Instr.next,getObj,Sem.run_bind,Sem.run,h1,Result.andThen,Option.map_none]
    rfl
   ·match k with
    | 0=>simp at q1 q2;subst q1;subst q2;exact .bool _
    | k+1=>simp at q2
  ·rename_i mid since seen last hg
   obtain ⟨h1,h2⟩:=obj_iter H hg
   simp only [Option.map_some] at h1
   split at e
   ·rename_i kd clock es hgm
    split at e
    ·rename_i hold
     obtain ⟨entries,m1,m2,m3,m4,m5⟩:=obj_map H hgm
     simp only [oldE,Bool.and_eq_true,List.all_eq_true,decide_eq_true_eq] at hold
     obtain ⟨ho1,ho2⟩:=hold
     obtain ⟨f1,f2⟩:=filter_rel (R:=fun e x=>VRel w G e.key x.2.1∧VRel w G e.val x.2.2) (fun n=>!seen.contains n) entries.toList es (by simpa using m2) (fun k e x q1 q2=>m3 k e x (by simpa using q1) q2)
     have hleft:(leftOf entries seen.toArray).toList=entries.toList.filter fun e=>!seen.contains e.born:=by
      unfold leftOf
      rw [Array.toList_filter]
      congr 1
      funext e
      simp
     have hold':∀ x∈entries.toList,x.born<since:=fun x hx=>by
      obtain ⟨k,hk⟩:=mem_get hx
      obtain ⟨y,hy⟩:∃ y,es[k]?=some y:=⟨_,List.getElem?_eq_getElem (by have:=(List.getElem?_eq_some_iff.1 hk).1;simp at this;omega)⟩
      rw [(m3 k x y (by simpa using hk) hy).1]
      exact ho1 y (List.mem_of_getElem? hy)
     rcases next_run (P:=P) (ty:=o.type) h1 m1 hold' ho2 with ⟨n1,n2⟩|⟨en,n1,w1,n2,n3⟩
     ·have hnil:leftE seen es=[]:=by
       unfold leftE
       rw [←List.length_eq_zero_iff,←f1,←hleft]
       simpa using n1
      rw [hnil] at e
      simp at e;obtain ⟨rfl,rfl⟩:=e
      refine OpRes.same H (hexec n2) (.tup _ _ rfl fun k c' a' q1 q2=>?_)
      match k with
      | 0=>simp at q1 q2;subst q1;subst q2;exact .bool _
      | k+1=>simp at q2
     ·rw [hleft] at n1
      split at e
      ·rename_i hnil
       unfold leftE at hnil
       rw [hnil] at f1
       rw [List.length_eq_zero_iff.1 f1] at n1
       simp at n1
      ·rename_i y hone
       simp at e;obtain ⟨rfl,rfl⟩:=e
       unfold leftE at hone
       rw [hone] at f1 f2
       obtain ⟨z,hz⟩:∃ z,(entries.toList.filter fun e=>!seen.contains e.born)=[z]:=List.length_eq_one_iff.1 (by simpa using f1)
       rw [hz] at n1 f2
       simp at n1;subst n1
       obtain ⟨g1,g2,g3⟩:=f2 0 en y rfl rfl
       have H1:HRel w1 G h:=by rcases n2 with e|e<;>subst e<;>first|exact H|exact HRel.of_heap (w:=w) (w':=w.drew) ⟨rfl,rfl,rfl,rfl⟩ H
       obtain ⟨G',x1,x2⟩:=iter_write (clock:=clock) H1 hg en.born
       rw [g1] at x1 x2 n3
       have hX:Ext w G h { w1 with heap:=w1.heap.setIfInBounds (G.loc id) (.mapIter (some (G.loc mid)) since (seen.toArray.push y.1) clock) } G' (h.put id (some (.iter (some mid) since (seen++[y.1]) clock))):=by
        rcases n2 with rfl|rfl
        ·exact x1
        ·exact x1.drew
       refine ⟨_,_,G',.inl (hexec n3),hX,x2,.tup _ _ rfl fun k c' a' q1 q2=>?_⟩
       match k with
       | 0=>simp at q1 q2;subst q1;subst q2;exact .bool _
       | 1=>simp at q1 q2;subst q1;subst q2;exact g2.mono hX
       | 2=>simp at q1 q2;subst q1;subst q2;exact g3.mono hX
       | k+3=>simp at q2
      ·simp at e
    ·simp at e
   ·simp at e
  ·simp at e
 ·simp at e
theorem find_born_rel:∀ {L:List MapEntry} {es:List (Nat×AVal×AVal)} {b:Nat},L.length=es.length→(∀ (k:Nat) e y,L[k]?=some e→es[k]?=some y→e.born=y.1∧VRel w G e.key y.2.1∧VRel w G e.val y.2.2)→∀ {y:Nat×AVal×AVal},es.find? (fun e=>e.1 == b)=some y →
  ∃ e,L.find? (fun e=>e.born == b)=some e∧VRel w G e.key y.2.1∧VRel w G e.val y.2.2
 | [],[],b,_,_,y,h=>by simp at h
 | [],_::_,_,h,_,_,_=>by simp at h
 | _::_,[],_,h,_,_,_=>by simp at h
 | e::L,y0::es,b,hl,h,y,hf=>by
   obtain ⟨g1,g2,g3⟩:=h 0 e y0 rfl rfl
   rw [List.find?_cons] at hf ⊢
   rw [g1]
   split at hf
   ·rename_i hb
    obtain rfl:=Option.some.inj hf
    exact ⟨e,by first|rfl|rw [hb],g2,g3⟩
   ·rename_i hb
    try rw [hb]
    exact find_born_rel (by simpa using hl) (fun k e' y' h1 h2=>h (k+1) e' y' (by simpa using h1) (by simpa using h2)) hf
theorem op_mstep (H:HRel w G h) (hc:Ops a w G c ev) {x:Operand} {x':Opd} (hx:c x=some x') (hop:o.op = .entry x)
  (e:evalA (.x .mstep [x']) ev h=some (r,h')):OpRes P o a w G h r h':=by
 have rx:=hc _ _ hx
 simp only [evalA,evalX,List.map_cons,List.map_nil] at e
 generalize hv:a.eval x=u at rx
 split at e
 ·rename_i id hb
  rw [hb] at rx
  cases rx
  split at e
  ·rename_i mid since seen last hg
   obtain ⟨h1,h2⟩:=obj_iter H hg
   simp only [Option.map_some] at h1
   split at e
   ·rename_i kd clock es hgm
    split at e
    ·rename_i hcl
     split at e
     ·rename_i bb hlast
      split at e
      ·rename_i y hy
       simp at e;obtain ⟨rfl,rfl⟩:=e
       obtain ⟨entries,m1,m2,m3,m4,m5⟩:=obj_map H hgm
       obtain ⟨en,q1,q2,q3⟩:=find_born_rel (w:=w) (G:=G) (L:=entries.toList) (by simpa using m2) (fun k e x r1 r2=>m3 k e x (by simpa using r1) r2) hy
       refine OpRes.same H (v := .tuple #[en.key,en.val]) ?_ (.tup _ _ rfl fun k c' a' r1 r2=>?_)
       ·have hbk:seen.toArray.back?=some bb:=by rw [List.back?_toArray];exact hlast
        have hne:(clock != last)=false:=by simp [hcl]
        have hfd:entries.find? (fun e=>e.born == bb)=some en:=by rw [←Array.find?_toList];exact q1
        simp only [execOp,hop,hv,Instr.entry,getObj,Sem.run_bind,Sem.run,h1,m1,Result.andThen,hbk,hne,Bool.false_eq_true,if_false,hfd]
        rfl
       ·match k with
        | 0=>simp at r1 r2;subst r1;subst r2;exact q2
        | 1=>simp at r1 r2;subst r1;subst r2;exact q3
        | k+2=>simp at r2
      ·simp at e
     ·simp at e
    ·simp at e
   ·simp at e
  ·simp at e
 ·simp at e
end
end Go.Abs

namespace Go.Abs
section
variable {P:Program} {o:Oper} {a:Act} {w:World} {G:Ghost} {h:Heap} {c:Operand→Option Opd} {ev:Opd→AVal} {r:AVal} {h':Heap} {Hh:Hints} {fid dst:Nat}
theorem list1 {α:Type} {a:Array α} {x:α} (h:a.toList=[x]):a=#[x]:=by cases a;simp_all
theorem list2 {α:Type} {a:Array α} {x y:α} (h:a.toList=[x,y]):a=#[x,y]:=by cases a;simp_all
theorem builtin_ok (H:HRel w G h) (hc:Ops a w G c ev) {k:Call} {b:Builtin} {aop:AOp} (hop:o.op = .call k) (hb:k.callee = .builtin b) (hcomp:compBuiltin P Hh fid c dst b k.args.toList k.argTypes.toList=some aop)
  (e:evalA aop ev h=some (r,h')):OpRes P o a w G h r h':=by
 obtain ⟨cal,args,ts⟩:=k
 simp only at hb hcomp
 subst hb
 unfold compBuiltin at hcomp
 split at hcomp
 ·rename_i x t ha ht
  have:=list1 ha;have:=list1 ht;subst_vars
  split at hcomp
  ·rename_i el x' hu hx;obtain rfl:=Option.some.inj hcomp;exact op_len H hc hx hu hop e
  ·rename_i x' hu hx;obtain rfl:=Option.some.inj hcomp;exact op_slen H hc hx hu hop e
  ·rename_i kt et x' hu hx;obtain rfl:=Option.some.inj hcomp;exact op_mlen H hc hx hu hop e
  ·simp at hcomp
 ·rename_i x y t ts' ha ht
  have:=list2 ha;subst_vars
  split at hcomp
  ·rename_i kt et x' y' hu hx hy
   simp only [Option.map_eq_some_iff] at hcomp
   obtain ⟨kd,hkd,rfl⟩:=hcomp
   exact op_mdel H hc hx hy hu (by rw [←Array.getElem?_toList,ht];rfl) hkd hop e
  ·simp at hcomp
 ·rename_i x y t u ha ht
  have:=list2 ha;have:=list2 ht;subst_vars
  split at hcomp
  ·rename_i el ud x' y' hu hu' hx hy
   split at hcomp
   ·rename_i e' b s ag z h1 h2 h3 h4
    split at hcomp
    ·rename_i hzl
     obtain rfl:=Option.some.inj hcomp
     split at e
     ·exact op_afresh H hc hx hy hu (.inl ⟨_,hu'⟩) h1 h2 h4 hzl hop e
     ·exact op_append H hc hx hy hu (.inl ⟨_,hu'⟩) h1 h2 h4 hzl hop e
    ·simp at hcomp
   ·rename_i b s ag z h1 h2 h3 h4
    split at hcomp
    ·rename_i hzl
     obtain rfl:=Option.some.inj hcomp
     split at e
     ·exact op_afresh H hc hx hy hu (.inr hu') h1 h2 h4 hzl hop e
     ·exact op_append H hc hx hy hu (.inr hu') h1 h2 h4 hzl hop e
    ·simp at hcomp
   ·simp at hcomp
  ·simp at hcomp
 ·rename_i x y t u ha ht
  have:=list2 ha;have:=list2 ht;subst_vars
  split at hcomp
  ·rename_i el x' y' hu hx hy
   simp only [Option.map_eq_some_iff] at hcomp
   obtain ⟨s,hs,rfl⟩:=hcomp
   exact op_copy H hc hx hy hu hs hop e
  ·simp at hcomp
 ·rename_i x y ts' ha
  have:=list2 ha;subst_vars
  split at hcomp
  ·rename_i x' y' hx hy;obtain rfl:=Option.some.inj hcomp;exact op_mnx (mx:=false) H hc hx hy hop e
  ·simp at hcomp
 ·rename_i x y ts' ha
  have:=list2 ha;subst_vars
  split at hcomp
  ·rename_i x' y' hx hy;obtain rfl:=Option.some.inj hcomp;exact op_mnx (mx:=true) H hc hx hy hop e
  ·simp at hcomp
 ·simp at hcomp
def isCall:AOp→Bool
 | .call _ _ | .pcall _ _ | .gcall _ _ | .vcall _ _=>true
 | _=>false
theorem op_ok (H:HRel w G h) (hc:Ops a w G c ev) {aop:AOp} (hcomp:compOp P Hh fid c dst o.op=some aop) (hnc:isCall aop=false) (e:evalA aop ev h=some (r,h')):OpRes P o a w G h r h':=by
 generalize hop:o.op=op at hcomp
 cases op<;>simp only [compOp,Option.map_eq_some_iff] at hcomp
 case move x=>obtain ⟨x',hx,rfl⟩:=hcomp;exact op_mov H hc hx (.inl hop) e
 case assign x=>obtain ⟨x',hx,rfl⟩:=hcomp;exact op_mov H hc hx (.inr hop) e
 case pick x y z =>
  split at hcomp
  ·rename_i x' y' z' hx hy hz;obtain rfl:=Option.some.inj hcomp;exact op_pick H hc hx hy hz hop e
  ·simp at hcomp
 case alloc t =>
  split at hcomp
  ·rename_i s ag z hs ha hz;obtain rfl:=Option.some.inj hcomp;exact op_alloc H hs hz hop e
  ·simp at hcomp
 case box t x =>
  split at hcomp
  ·rename_i s ag x' hs ha hx;obtain rfl:=Option.some.inj hcomp;exact op_box H hc hx hs hop e
  ·simp at hcomp
 case build t ps =>
  split at hcomp
  ·rename_i fs z qs ht hz hp
   split at hcomp
   ·rename_i hall
    simp only [Option.map_eq_some_iff] at hcomp
    obtain ⟨qs',hq,rfl⟩:=hcomp
    exact op_build_struct H hc ht hz hp hall (by simpa using hq) hop e
   ·simp at hcomp
  ·rename_i n el z qs ht hz hp
   simp only [Option.map_eq_some_iff] at hcomp
   obtain ⟨s,hs,rfl⟩:=hcomp
   exact op_build_array H hc ht hz hs hp hop e
  ·simp at hcomp
 case buildSlice t n ps =>
  split at hcomp
  ·rename_i el qs ht hp
   have ht':P.underlying t=some (.slice el):=by
    unfold tElem at ht;split at ht
    ·simp at ht;subst ht;assumption
    ·simp at ht
   split at hcomp
   ·rename_i s ag z hs ha hz
    split at hcomp
    ·rename_i hcond
     simp only [Bool.and_eq_true,decide_eq_true_eq] at hcond
     obtain rfl:=Option.some.inj hcomp
     have h0:=hcond.1.1.1.1.1
     have hzl:=hcond.1.1.1.2
     have hq:qs=[]:=by have:=hcond.1.1.1.1.2;simpa using this
     subst hq
     rw [h0] at hop
     exact op_elit H hc ht' hs hz hzl hp hop e
    ·obtain rfl:=Option.some.inj hcomp;exact op_lit H hc ht' hs hz hp hop e
   ·simp at hcomp
  ·simp at hcomp
 case load t x =>
  split at hcomp
  ·rename_i s ag x' hs ha hx;obtain rfl:=Option.some.inj hcomp;exact op_load H hc hx hs ha hop e
  ·simp at hcomp
 case store t x y =>
  split at hcomp
  ·rename_i s x' y' hs hx hy;obtain rfl:=Option.some.inj hcomp;exact op_store H hc hx hy hs hop e
  ·simp at hcomp
 case nilCheck x=>obtain ⟨x',hx,rfl⟩:=hcomp;exact op_nilc H hc hx hop e
 case binOp op t x y yt =>
  split at hcomp
  ·rename_i k x' y' ht hx hy;obtain rfl:=Option.some.inj hcomp;exact op_bin H hc (bk := .arith) hx hy trivial hop e
  ·rename_i x' y' ht hx hy;obtain rfl:=Option.some.inj hcomp;exact op_bin H hc (bk := .arith) hx hy trivial hop e
  ·rename_i x' y' ht hx hy;obtain rfl:=Option.some.inj hcomp;exact op_bin H hc (bk := .bool) hx hy ht hop e
  ·rename_i fs x' y' ht hx hy
   simp only [Option.map_eq_some_iff] at hcomp
   obtain ⟨ks,hks,rfl⟩:=hcomp
   exact op_bin H hc (bk := .struct ks) hx hy (.inl hks) hop e
  ·rename_i n0 e0 x' y' ht hx hy
   simp only [Option.map_eq_some_iff] at hcomp
   obtain ⟨ks,hks,rfl⟩:=hcomp
   exact op_bin H hc (bk := .struct ks) hx hy (.inr hks) hop e
  ·rename_i el x' y' ht hx hy;obtain rfl:=Option.some.inj hcomp;exact op_bin H hc (bk := .ptr) hx hy ⟨_,ht⟩ hop e
  ·rename_i el x' y' ht hx hy;obtain rfl:=Option.some.inj hcomp;exact op_bin H hc (bk := .sl) hx hy ⟨_,ht⟩ hop e
  ·rename_i p1 p2 p3 x' y' ht hx hy;obtain rfl:=Option.some.inj hcomp;exact op_bin H hc (bk := .fn) hx hy ⟨_,_,_,ht⟩ hop e
  ·rename_i p1 p2 x' y' ht hx hy;obtain rfl:=Option.some.inj hcomp;exact op_bin H hc (bk := .mp) hx hy ⟨_,_,ht⟩ hop e
  ·simp at hcomp
 case unOp op t x=>obtain ⟨x',hx,rfl⟩:=hcomp;exact op_un H hc hx hop e
 case convert s d x =>
  split at hcomp
  ·rename_i k0 k x' hs hd hx;obtain rfl:=Option.some.inj hcomp;exact op_toInt H hc hx hs hd hop e
  ·rename_i x' hs hd hx;obtain rfl:=Option.some.inj hcomp;exact op_idstr H hc hx hs hd hop e
  ·rename_i el x' hs hd hx
   split at hcomp
   ·rename_i he hsz;obtain rfl:=Option.some.inj hcomp;exact op_s2b H hc hx hs hd he hsz hop e
   ·simp at hcomp
  ·rename_i el x' hs hd hx
   split at hcomp
   ·rename_i he;obtain rfl:=Option.some.inj hcomp;exact op_b2s H hc hx hs hd he hop e
   ·simp at hcomp
  ·simp at hcomp
 case makeMap t r0 =>
  split at hcomp
  ·rename_i kt et ht
   simp only [Option.map_eq_some_iff] at hcomp
   obtain ⟨kd,hkd,rfl⟩:=hcomp
   exact op_mkmap (kt:=kt) (et:=et) H hop e
  ·rename_i kt et n ht
   split at hcomp
   ·rename_i n' kd hn hkd;obtain rfl:=Option.some.inj hcomp;exact op_mkmap1 H hc hn ht hop e
   ·simp at hcomp
  ·simp at hcomp
 case mapEntry t x y =>
  split at hcomp
  ·rename_i kt et x' y' ht hx hy
   split at hcomp
   ·rename_i kd z hkd hz;obtain rfl:=Option.some.inj hcomp;exact op_mentry H hc hx hy ht hkd hz hop e
   ·simp at hcomp
  ·simp at hcomp
 case entryStore t x y z =>
  split at hcomp
  ·rename_i x' y' z' hx hy hz;obtain rfl:=Option.some.inj hcomp;exact op_mestore H hc hx hy hz hop e
  ·simp at hcomp
 case range t x =>
  split at hcomp
  ·rename_i kt et x' ht hx;obtain rfl:=Option.some.inj hcomp;exact op_mrange H hc hx ht hop e
  ·simp at hcomp
 case next it b =>
  split at hcomp
  ·simp at hcomp
  ·rename_i hb
   simp only [Option.map_eq_some_iff] at hcomp
   obtain ⟨x',hx,rfl⟩:=hcomp
   exact op_mnext H hc hx (by simpa using hb) hop e
 case entry it =>
  obtain ⟨x',hx,rfl⟩:=hcomp
  exact op_mstep H hc hx hop e
 case lookup t x y ok =>
  split at hcomp
  ·rename_i kt et x' y' ht hx hy
   split at hcomp
   ·rename_i n sk z hkd hz;obtain rfl:=Option.some.inj hcomp;exact op_mlook0 H hc hx hy ht hkd hz hop e
   ·rename_i z _ hz
    simp only [Option.map_eq_some_iff] at hcomp
    obtain ⟨kd,hkd,rfl⟩:=hcomp
    exact op_mlook H hc hx hy ht hkd hz hop e
   ·simp at hcomp
  ·simp at hcomp
 case mapUpdate t x y z =>
  split at hcomp
  ·rename_i kt et x' y' z' ht hx hy hz
   simp only [Option.map_eq_some_iff] at hcomp
   obtain ⟨kd,hkd,rfl⟩:=hcomp
   exact op_mput H hc hx hy hz ht hkd (.inl hop) e
  ·simp at hcomp
 case insert t x y z =>
  split at hcomp
  ·rename_i kt et x' y' z' ht hx hy hz
   simp only [Option.map_eq_some_iff] at hcomp
   obtain ⟨kd,hkd,rfl⟩:=hcomp
   exact op_mput H hc hx hy hz ht hkd (.inr hop) e
  ·simp at hcomp
 case sliceToArrayPointer t x =>
  split at hcomp
  ·rename_i n el x' ht hx
   simp only [Option.map_eq_some_iff] at hcomp
   obtain ⟨s,hs,rfl⟩:=hcomp
   exact op_s2ap H hc hx ht hs hop e
  ·simp at hcomp
 case makeFunc fn first cap =>
  cases fn<;>simp only [Option.map_eq_some_iff] at hcomp
  case func f =>
   split at hcomp
   ·rename_i hz
    simp only [Option.map_eq_some_iff] at hcomp
    obtain ⟨cs,hcs,rfl⟩:=hcomp
    have:first=#[]:=Array.eq_empty_of_size_eq_zero hz
    subst this
    exact op_clo H hc hcs hop e
   ·simp at hcomp
  all_goals simp at hcomp
 case makeSlice t l m =>
  split at hcomp
  ·rename_i el l' m' ht hl hm
   have ht':P.underlying t=some (.slice el):=by
    unfold tElem at ht;split at ht
    ·simp at ht;subst ht;assumption
    ·simp at ht
   split at hcomp
   ·rename_i b s ag z h1 h2 h3 h4
    have hc':=Option.some.inj hcomp
    split at hc'
    ·subst hc';exact op_mkown H hc hl hm ht' h1 h2 h4 hop e
    ·subst hc';exact op_mksl H hc hl hm ht' h1 h2 h4 hop e
   ·simp at hcomp
  ·simp at hcomp
 case slice t x lo hi mx =>
  cases mx with
  | some q =>
    cases lo with
    | some q2=>simp at hcomp
    | none =>
      cases hi with
      | none=>simp at hcomp
      | some q3 =>
        simp only at hcomp
        split at hcomp
        ·rename_i el x' hi' mx' ht hx hhi hmx
         simp only [Option.map_eq_some_iff] at hcomp
         obtain ⟨s,hs,rfl⟩:=hcomp
         exact op_slice30 H hc hx hhi hmx ht hs hop e
        ·simp at hcomp
  | none =>
    simp only at hcomp
    split at hcomp
    ·rename_i el x' lo' hi' ht hx hlo hhi
     simp only [Option.map_eq_some_iff] at hcomp
     obtain ⟨s,hs,rfl⟩:=hcomp
     exact op_slice H hc hx hlo hhi ht hs hop e
    ·rename_i x' lo' hi' ht hx hlo hhi;obtain rfl:=Option.some.inj hcomp;exact op_sslice H hc hx hlo hhi ht hop e
    ·rename_i n el x' lo' hi' ht hx hlo hhi
     split at hcomp
     ·rename_i s ag hs ha;obtain rfl:=Option.some.inj hcomp;exact op_aslice H hc hx hlo hhi ht hs hop e
     ·simp at hcomp
    ·simp at hcomp
 case fieldAddr t x i =>
  split at hcomp
  ·rename_i fs x' ht hx
   split at hcomp
   ·rename_i f hf
    split at hcomp
    ·rename_i n hn
     split at hcomp
     ·simp at hcomp
     ·rename_i hne;obtain rfl:=Option.some.inj hcomp;exact op_faddr H hc hx ht hf hn hne hop e
    ·simp at hcomp
   ·simp at hcomp
  ·simp at hcomp
 case field t x i =>
  split at hcomp
  ·rename_i fs x' ht hx
   split at hcomp
   ·rename_i f hf
    split at hcomp
    ·rename_i s ag hs ha;obtain rfl:=Option.some.inj hcomp;exact op_field H hc hx ht hf hs ha hop e
    ·simp at hcomp
   ·simp at hcomp
  ·simp at hcomp
 case indexAddr t x i =>
  split at hcomp
  ·rename_i el x' i' ht hx hi
   simp only [Option.map_eq_some_iff] at hcomp
   obtain ⟨s,hs,rfl⟩:=hcomp
   exact op_iaddr H hc hx hi ht hs hop e
  ·rename_i n el x' i' ht hx hi
   simp only [Option.map_eq_some_iff] at hcomp
   obtain ⟨s,hs,rfl⟩:=hcomp
   exact op_aaddr H hc hx hi ht hs hop e
  ·simp at hcomp
 case index t x i =>
  split at hcomp
  ·rename_i x' i' ht hx hi;obtain rfl:=Option.some.inj hcomp;exact op_sidx H hc hx hi ht hop e
  ·rename_i n el x' i' ht hx hi
   split at hcomp
   ·rename_i s ag hs ha;obtain rfl:=Option.some.inj hcomp;exact op_aidx H hc hx hi ht hs ha hop e
   ·simp at hcomp
  ·simp at hcomp
 case extract x i=>obtain ⟨x',hx,rfl⟩:=hcomp;exact op_ext H hc hx hop e
 case call k =>
  unfold compCall at hcomp
  split at hcomp
  ·rename_i b hb;exact builtin_ok H hc hop hb hcomp e
  ·split at hcomp
   ·repeat' split at hcomp
    all_goals (obtain rfl:=Option.some.inj hcomp;simp [isCall] at hnc)
   ·simp only [Option.map_eq_some_iff] at hcomp
    obtain ⟨_,_,rfl⟩:=hcomp;split at hnc<;>simp [isCall] at hnc
   ·simp at hcomp
  ·simp at hcomp
 all_goals simp at hcomp
theorem call_of_comp {aop:AOp} (hcomp:compOp P Hh fid c dst o.op=some aop) (hic:isCall aop=true) :
  ∃ f args asx ts,o.op = .call { callee := .value f,args:=args,argTypes:=ts }∧optL c args.toList=some asx ∧
    ((∃ g,f = .func g∧aop = .pcall g asx)∨(∃ f',(c f=some f'∨∃ g,f = .func g∧f' = .c (.fn g []))∧aop = .call f' asx)∨(∃ g,f = .func g∧aop = .gcall g asx)∨∃ f',c f=some f'∧aop = .vcall f' asx):=by
 generalize hop:o.op=op at hcomp
 cases op
 case call k =>
  obtain ⟨cal,args,ts⟩:=k
  simp only [compOp,compCall] at hcomp
  split at hcomp
  ·rename_i b
   unfold compBuiltin at hcomp
   repeat' split at hcomp
   all_goals first
    | (simp at hcomp;done)
    | (simp only [Option.map_eq_some_iff] at hcomp;obtain ⟨_,_,rfl⟩:=hcomp;simp [isCall] at hic;done)
    | (obtain rfl:=Option.some.inj hcomp;simp [isCall] at hic)
  ·rename_i f
   split at hcomp
   ·rename_i g asx ha
    split at hcomp
    ·obtain rfl:=Option.some.inj hcomp;exact ⟨_,args,asx,ts,rfl,ha,.inl ⟨g,rfl,rfl⟩⟩
    ·split at hcomp
     ·obtain rfl:=Option.some.inj hcomp;exact ⟨_,args,asx,ts,rfl,ha,.inr (.inr (.inl ⟨g,rfl,rfl⟩))⟩
     ·obtain rfl:=Option.some.inj hcomp;exact ⟨_,args,asx,ts,rfl,ha,.inr (.inl ⟨_,.inr ⟨g,rfl,rfl⟩,rfl⟩)⟩
   ·rename_i f asx _ ha
    simp only [Option.map_eq_some_iff] at hcomp
    obtain ⟨f',hf,rfl⟩:=hcomp
    split
    ·exact ⟨_,args,asx,ts,rfl,ha,.inr (.inr (.inr ⟨f',hf,rfl⟩))⟩
    ·exact ⟨_,args,asx,ts,rfl,ha,.inr (.inl ⟨f',.inl hf,rfl⟩)⟩
   ·simp at hcomp
  ·simp at hcomp
 all_goals
  exfalso
  simp only [compOp] at hcomp
  repeat' split at hcomp
  all_goals first
   | contradiction
   | (simp at hcomp;done)
   | (simp only [Option.map_eq_some_iff] at hcomp;obtain ⟨_,_,rfl⟩:=hcomp;simp [isCall] at hic;done)
   | (obtain rfl:=Option.some.inj hcomp;simp [isCall] at hic)
end
end Go.Abs

namespace Go.Abs
mutual
theorem AVal.beq_eq:∀ (x y:AVal),AVal.beq x y=true→x=y
 | .bool a,y,h=>by cases y<;>simp_all [AVal.beq]
 | .int k a,y,h=>by cases y<;>simp_all [AVal.beq]
 | .str a,y,h=>by cases y<;>simp_all [AVal.beq]
 | .sl xs t,y,h=>by
   cases y<;>simp [AVal.beq] at h
   rename_i ys t'
   rw [AVal.beqL_eq xs ys h.1,h.2]
 | .nilptr,y,h=>by cases y<;>simp_all [AVal.beq]
 | .ptr a b,y,h=>by cases y<;>simp_all [AVal.beq]
 | .rp xs,y,h=>by
   cases y<;>simp [AVal.beq] at h
   rename_i ys
   rw [AVal.beqL_eq xs ys h]
 | .ref a b c d,y,h=>by cases y<;>simp_all [AVal.beq]
 | .fn f xs,y,h=>by
   cases y<;>simp [AVal.beq] at h
   rename_i g ys
   rw [AVal.beqL_eq xs ys h.2,h.1]
 | .nilfn,y,h=>by cases y<;>simp_all [AVal.beq]
 | .nilif,y,h=>by cases y<;>simp_all [AVal.beq]
 | .agg xs,y,h=>by
   cases y<;>simp [AVal.beq] at h
   rename_i ys
   rw [AVal.beqL_eq xs ys h]
 | .tup xs,y,h=>by
   cases y<;>simp [AVal.beq] at h
   rename_i ys
   rw [AVal.beqL_eq xs ys h]
 | .mp a,y,h=>by cases y<;>simp_all [AVal.beq]
 | .nilmp,y,h=>by cases y<;>simp_all [AVal.beq]
 | .yld a,y,h=>by cases y<;>simp_all [AVal.beq]
 | .bad,y,h=>by cases y<;>simp_all [AVal.beq]
theorem AVal.beqL_eq:∀ (xs ys:List AVal),AVal.beqL xs ys=true→xs=ys
 | [],ys,h=>by cases ys<;>simp_all [AVal.beqL]
 | x::xs,ys,h=>by
   cases ys with
   | nil=>simp [AVal.beqL] at h
   | cons y ys =>
     simp [AVal.beqL] at h
     rw [AVal.beq_eq x y h.1,AVal.beqL_eq xs ys h.2]
end
mutual
theorem AVal.beq_refl:∀ (x:AVal),AVal.beq x x=true
 | .bool a=>by simp [AVal.beq]
 | .int k a=>by simp [AVal.beq]
 | .str a=>by simp [AVal.beq]
 | .sl xs t=>by simp [AVal.beq,AVal.beqL_refl xs]
 | .nilptr=>by simp [AVal.beq]
 | .ptr a b=>by simp [AVal.beq]
 | .rp xs=>by simp [AVal.beq,AVal.beqL_refl xs]
 | .ref a b c d=>by simp [AVal.beq]
 | .fn f xs=>by simp [AVal.beq,AVal.beqL_refl xs]
 | .nilfn=>by simp [AVal.beq]
 | .nilif=>by simp [AVal.beq]
 | .agg xs=>by simp [AVal.beq,AVal.beqL_refl xs]
 | .tup xs=>by simp [AVal.beq,AVal.beqL_refl xs]
 | .mp a=>by simp [AVal.beq]
 | .nilmp=>by simp [AVal.beq]
 | .yld a=>by simp [AVal.beq]
 | .bad=>by simp [AVal.beq]
theorem AVal.beqL_refl:∀ (xs:List AVal),AVal.beqL xs xs=true
 | []=>by simp [AVal.beqL]
 | x::xs=>by simp [AVal.beqL,AVal.beq_refl x,AVal.beqL_refl xs]
end
theorem beqEs_eq:∀ (xs ys:List (Nat×AVal×AVal)),beqEs xs ys=true→xs=ys
 | [],ys,h=>by cases ys<;>simp_all [beqEs]
 | x::xs,ys,h=>by
   cases ys with
   | nil=>simp [beqEs] at h
   | cons y ys =>
     simp only [beqEs,Bool.and_eq_true,beq_iff_eq] at h
     obtain ⟨⟨⟨h1,h2⟩,h3⟩,h4⟩:=h
     obtain ⟨a,b,c⟩:=x
     obtain ⟨a',b',c'⟩:=y
     simp only at h1 h2 h3
     rw [h1,AVal.beq_eq _ _ h2,AVal.beq_eq _ _ h3,beqEs_eq xs ys h4]
theorem beqEs_refl:∀ (xs:List (Nat×AVal×AVal)),beqEs xs xs=true
 | []=>rfl
 | x::xs=>by simp [beqEs,AVal.beq_refl,beqEs_refl xs]
theorem Obj.beq_eq {a b:Obj} (h:a.beq b=true):a=b:=by
 cases a<;>cases b<;>simp [Obj.beq] at h
 ·obtain ⟨⟨⟨h1,h2⟩,h3⟩,h4⟩:=h
  rw [h1,h2,h3,AVal.beqL_eq _ _ h4]
 ·rw [h]
 ·obtain ⟨⟨h1,h2⟩,h3⟩:=h
  rw [h1,h2,beqEs_eq _ _ h3]
 ·obtain ⟨⟨⟨⟨h1,h2⟩,h3⟩,h4⟩,h5⟩:=h
  rw [h1,h2,h3,h4,AVal.beqL_eq _ _ h5]
 ·obtain ⟨⟨⟨h1,h2⟩,h3⟩,h4⟩:=h
  rw [h1,h2,h3,h4]
theorem Obj.beq_refl (a:Obj):a.beq a=true:=by
 cases a<;>simp [Obj.beq,AVal.beqL_refl,beqEs_refl]
theorem beqO_eq {a b:Option Obj} (h:beqO a b=true):a=b:=by
 cases a<;>cases b<;>simp [beqO] at h
 ·rfl
 ·rw [Obj.beq_eq h]
theorem beqO_refl (a:Option Obj):beqO a a=true:=by cases a<;>simp [beqO,Obj.beq_refl]
theorem extB_iff {h h':Heap}:extB h h'=true↔h.next≤h'.next∧∀ id,id<h.next→h'.get id=h.get id:=by
 unfold extB
 simp only [Bool.and_eq_true,decide_eq_true_eq,List.all_eq_true,List.mem_range]
 exact ⟨fun ⟨h1,h2⟩=>⟨h1,fun id hid=>beqO_eq (h2 id hid)⟩,fun ⟨h1,h2⟩=>⟨h1,fun id hid=>by rw [h2 id hid];exact beqO_refl _⟩⟩
theorem extB_refl (h:Heap):extB h h=true:=extB_iff.2 ⟨Nat.le_refl _,fun _ _=>rfl⟩
theorem HT.beq_eq:∀ {a b:HT},HT.beq a b=true→a=b
 | .leaf,b,h=>by cases b<;>simp_all [HT.beq]
 | .node v l r,b,h=>by
   cases b with
   | leaf=>simp [HT.beq] at h
   | node v' l' r' =>
     simp only [HT.beq,Bool.and_eq_true] at h
     rw [beqO_eq h.1.1,HT.beq_eq h.1.2,HT.beq_eq h.2]
theorem HT.beq_refl:∀ (a:HT),HT.beq a a=true
 | .leaf=>rfl
 | .node v l r=>by simp [HT.beq,beqO_refl,HT.beq_refl l,HT.beq_refl r]
theorem heapBeq_eq {a b:Heap} (h:heapBeq a b=true):a=b:=by
 obtain ⟨n,l⟩:=a
 obtain ⟨n',l'⟩:=b
 simp only [heapBeq,Bool.and_eq_true,beq_iff_eq] at h
 rw [h.1,HT.beq_eq h.2]
theorem heapBeq_refl (a:Heap):heapBeq a a=true:=by simp [heapBeq,HT.beq_refl]
theorem altsA_iff {cf:CallF} {vs:List AVal} {h:Heap} {r:List AVal×Heap}:∀ {ls:List (List AOper)},altsA cf vs h ls=some r↔ls≠[]∧∀ l∈ls,∃ s,foldA cf l 0 ⟨vs,List.replicate l.length .bad,h⟩=some s∧s.vs=r.1∧s.h=r.2
 | []=>by simp [altsA]
 | [l]=>by
   simp only [altsA]
   cases hf:foldA cf l 0 ⟨vs,List.replicate l.length .bad,h⟩ with
   | none=>simp [hf]
   | some s =>
     simp only [Option.some.injEq,ne_eq,reduceCtorEq,not_false_eq_true,List.mem_singleton,forall_eq,hf,exists_eq_left',true_and]
     constructor
     ·rintro rfl;exact ⟨rfl,rfl⟩
     ·rintro ⟨h1,h2⟩
      obtain ⟨r1,r2⟩:=r
      simp only at h1 h2
      rw [h1,h2]
 | l::l'::ls=>by
   have ih:=altsA_iff (cf:=cf) (vs:=vs) (h:=h) (r:=r) (ls:=l'::ls)
   rw [altsA]
   cases hf:foldA cf l 0 ⟨vs,List.replicate l.length .bad,h⟩ with
   | none=>simp [hf]
   | some s =>
     simp only []
     constructor
     ·intro e
      split at e
      ·rename_i r' hr'
       split at e
       ·rename_i hb
        simp only [Option.some.injEq] at e
        subst e
        simp only [Bool.and_eq_true] at hb
        obtain ⟨_,h2⟩:=ih.1 hr'
        refine ⟨by simp,fun x hx=>?_⟩
        rcases List.mem_cons.1 hx with rfl|hx
        ·exact ⟨s,hf,AVal.beqL_eq _ _ hb.1,heapBeq_eq hb.2⟩
        ·exact h2 x hx
       ·simp at e
      ·simp at e
     ·rintro ⟨_,h2⟩
      have hr':=ih.2 ⟨by simp,fun x hx=>h2 x (by simp [hx])⟩
      obtain ⟨s',e1,e2,e3⟩:=h2 l (by simp)
      rw [hf] at e1
      simp only [Option.some.injEq] at e1
      subst e1
      rw [hr']
      simp only [e2,e3,AVal.beqL_refl,heapBeq_refl,Bool.and_self,if_true]
end Go.Abs

namespace Go.Abs
theorem evalA_congr {op:AOp} {ev ev':Opd→AVal} {h:Heap} (hx:∀ x∈opdsOf op,ev x=ev' x):evalA op ev h=evalA op ev' h:=by
 cases op with
 | build z ps =>
   simp only [evalA]
   have:(ps.map fun p=>(p.1,p.2.1,ev p.2.2))=ps.map fun p=>(p.1,p.2.1,ev' p.2.2):=List.map_congr_left fun p hp=>by rw [hx p.2.2 (by simp only [opdsOf];exact List.mem_map_of_mem (f:=fun p:Nat×Nat×Opd=>p.2.2) hp)]
   rw [this]
 | lit mode ty n sz ag z ps =>
   simp only [evalA]
   have:(ps.map fun p=>(p.1*sz,sz,ev p.2))=ps.map fun p=>(p.1*sz,sz,ev' p.2):=List.map_congr_left fun p hp=>by rw [hx p.2 (by simp only [opdsOf];exact List.mem_map_of_mem (f:=fun p:Nat×Opd=>p.2) hp)]
   rw [this]
 | clo f cap =>
   simp only [evalA]
   rw [List.map_congr_left (f:=ev) (g:=ev') (l:=cap) (fun x hx'=>hx x hx')]
 | slice sz x lo hi =>
   simp only [evalA]
   rw [hx x (by simp [opdsOf])]
   have h1:lo.map ev=lo.map ev':=by cases lo with
    | none=>rfl
    | some y=>simp [hx y (by simp [opdsOf])]
   have h2:hi.map ev=hi.map ev':=by cases hi with
    | none=>rfl
    | some y=>simp [hx y (by simp [opdsOf])]
   rw [h1,h2]
 | sslice x lo hi =>
   simp only [evalA]
   rw [hx x (by simp [opdsOf])]
   have h1:lo.map ev=lo.map ev':=by cases lo with
    | none=>rfl
    | some y=>simp [hx y (by simp [opdsOf])]
   have h2:hi.map ev=hi.map ev':=by cases hi with
    | none=>rfl
    | some y=>simp [hx y (by simp [opdsOf])]
   rw [h1,h2]
 | pick a b c=>simp only [evalA];rw [hx a (by simp [opdsOf]),hx b (by simp [opdsOf]),hx c (by simp [opdsOf])]
 | x op args=>simp only [evalA];rw [List.map_congr_left (fun x hx'=>hx x (by simpa [opdsOf] using hx'))]
 | alloc=>rfl
 | call=>rfl
 | pcall=>rfl
 | gcall=>rfl
 | vcall=>rfl
 | mov x=>simp only [evalA];rw [hx x (by simp [opdsOf])]
 | box _ _ x=>simp only [evalA];rw [hx x (by simp [opdsOf])]
 | load _ _ x=>simp only [evalA];rw [hx x (by simp [opdsOf])]
 | nilc x=>simp only [evalA];rw [hx x (by simp [opdsOf])]
 | un _ x=>simp only [evalA];rw [hx x (by simp [opdsOf])]
 | toInt _ x=>simp only [evalA];rw [hx x (by simp [opdsOf])]
 | idstr x=>simp only [evalA];rw [hx x (by simp [opdsOf])]
 | faddr _ x=>simp only [evalA];rw [hx x (by simp [opdsOf])]
 | field _ _ _ x=>simp only [evalA];rw [hx x (by simp [opdsOf])]
 | len x=>simp only [evalA];rw [hx x (by simp [opdsOf])]
 | slen x=>simp only [evalA];rw [hx x (by simp [opdsOf])]
 | ext x _=>simp only [evalA];rw [hx x (by simp [opdsOf])]
 | store _ x y=>simp only [evalA];rw [hx x (by simp [opdsOf]),hx y (by simp [opdsOf])]
 | bin _ _ x y=>simp only [evalA];rw [hx x (by simp [opdsOf]),hx y (by simp [opdsOf])]
 | mksl _ _ _ _ x y=>simp only [evalA];rw [hx x (by simp [opdsOf]),hx y (by simp [opdsOf])]
 | iaddr _ x y=>simp only [evalA];rw [hx x (by simp [opdsOf]),hx y (by simp [opdsOf])]
 | aaddr _ _ x y=>simp only [evalA];rw [hx x (by simp [opdsOf]),hx y (by simp [opdsOf])]
 | sidx x y=>simp only [evalA];rw [hx x (by simp [opdsOf]),hx y (by simp [opdsOf])]
 | aidx _ _ _ x y=>simp only [evalA];rw [hx x (by simp [opdsOf]),hx y (by simp [opdsOf])]
 | append _ _ _ _ _ x y=>simp only [evalA];rw [hx x (by simp [opdsOf]),hx y (by simp [opdsOf])]
 | copy _ x y=>simp only [evalA];rw [hx x (by simp [opdsOf]),hx y (by simp [opdsOf])]
 | mnx _ x y=>simp only [evalA];rw [hx x (by simp [opdsOf]),hx y (by simp [opdsOf])]
theorem execA_congr {cf:CallF} {op:AOp} {ev ev':Opd→AVal} {h:Heap} (hx:∀ x∈opdsOf op,ev x=ev' x):execA cf op ev h=execA cf op ev' h:=by
 cases op with
 | call f args =>
   simp only [execA]
   rw [hx f (by simp [opdsOf]),List.map_congr_left (fun x hx'=>hx x (by simp [opdsOf,hx']))]
 | pcall f args =>
   simp only [execA]
   rw [List.map_congr_left (fun x hx'=>hx x (by simp [opdsOf,hx']))]
 | gcall f args =>
   simp only [execA]
   rw [List.map_congr_left (fun x hx'=>hx x (by simp [opdsOf,hx']))]
 | vcall f args =>
   simp only [execA]
   rw [hx f (by simp [opdsOf]),List.map_congr_left (fun x hx'=>hx x (by simp [opdsOf,hx']))]
 | _=>simp only [execA];exact evalA_congr hx
def TokExt (h h2:Heap):Prop:=∀ id o,h.get id=some o→(∀ ty,o ≠ .tok ty)→h2.get id=some o
theorem TokExt.push (h:Heap) (ob:Obj):TokExt h (h.push ob):=fun id o hg _=>by rw [Heap.get_push_old _ (Heap.get_lt hg)];exact hg
theorem elemsA_ext {h h2:Heap} (hT:TokExt h h2) {sz:Nat} {x:AVal} {c:List AVal} (e:elemsA h sz x=some c):elemsA h2 sz x=some c:=by
 unfold elemsA at e ⊢
 split at e
 ·exact e
 ·split at e
  ·rename_i hs
   rw [if_pos hs]
   split at e
   ·rename_i hg
    rw [hT _ _ hg (by intro ty hh;cases hh)];exact e
   ·simp at e
  ·simp at e
 ·exact e
 ·simp at e
mutual
theorem purify_ext {h h2:Heap} (hT:TokExt h h2):∀ (x:AVal) {y:AVal},purify h x=some y→purify h2 x=some y
 | .bool _,_,e=>by simpa [purify] using e
 | .int _ _,_,e=>by simpa [purify] using e
 | .str _,_,e=>by simpa [purify] using e
 | .sl xs (.own _ _),_,e=>by simpa [purify] using e
 | .sl xs .nil,_,e=>by simpa [purify] using e
 | .sl xs .none,_,e=>by simpa [purify] using e
 | .sl xs .full,_,e=>by simpa [purify] using e
 | .nilptr,_,e=>by simpa [purify] using e
 | .ptr _ _,_,e=>by simp [purify] at e
 | .rp _,_,e=>by simp [purify] at e
 | .ref id off len sz,y,e=>by
   simp only [purify,Option.map_eq_some_iff] at e ⊢
   obtain ⟨xs,hx,rfl⟩:=e
   refine ⟨xs,?_,rfl⟩
   unfold readRef at hx ⊢
   split at hx
   ·rename_i hg
    rw [hT _ _ hg (by intro ty hh;cases hh)];exact hx
   ·simp at hx
 | .fn f cap,y,e=>by
   simp only [purify,Option.map_eq_some_iff] at e ⊢
   obtain ⟨c,hc,rfl⟩:=e
   exact ⟨c,purifyL_ext hT cap hc,rfl⟩
 | .nilfn,_,e=>by simpa [purify] using e
 | .nilif,_,e=>by simpa [purify] using e
 | .mp _,_,e=>by simp [purify] at e
 | .nilmp,_,e=>by simpa [purify] using e
 | .agg cs,y,e=>by
   simp only [purify,Option.map_eq_some_iff] at e ⊢
   obtain ⟨c,hc,rfl⟩:=e
   exact ⟨c,purifyL_ext hT cs hc,rfl⟩
 | .tup cs,y,e=>by
   simp only [purify,Option.map_eq_some_iff] at e ⊢
   obtain ⟨c,hc,rfl⟩:=e
   exact ⟨c,purifyL_ext hT cs hc,rfl⟩
 | .bad,_,e=>by simp [purify] at e
theorem purifyL_ext {h h2:Heap} (hT:TokExt h h2):∀ (xs:List AVal) {ys:List AVal},purifyL h xs=some ys→purifyL h2 xs=some ys
 | [],_,e=>by simpa [purifyL] using e
 | x::xs,ys,e=>by
   simp only [purifyL] at e ⊢
   split at e
   ·rename_i y ys' h1 h2
    rw [purify_ext hT x h1,purifyL_ext hT xs h2];exact e
   ·simp at e
end
theorem borrow_ext {h h2:Heap} (hT:TokExt h h2) {x y:AVal} (e:borrow h x=some y):borrow h2 x=some y:=by
 cases x<;>try exact purify_ext hT _ e
 simp only [borrow] at e ⊢
 split at e
 ·rename_i hg
  rw [hT _ _ hg (by intro ty hh;cases hh)];exact e
 ·simp at e
theorem borrowL_ext {h h2:Heap} (hT:TokExt h h2):∀ (xs:List AVal) {ys:List AVal},borrowL h xs=some ys→borrowL h2 xs=some ys
 | [],_,e=>by simpa [borrowL] using e
 | x::xs,ys,e=>by
   simp only [borrowL] at e ⊢
   split at e
   ·rename_i y ys' h1 h2
    rw [borrow_ext hT h1,borrowL_ext hT xs h2];exact e
   ·simp at e
theorem cls_n {Hh:Hints} {cf:CallF} {op:AOp} {ev:Opd→AVal} {h h':Heap} {r:AVal} (hc:clsOf Hh op = .n) (e:execA cf op ev h=some (r,h')):h'=h∧∀ h2,execA cf op ev h2=some (r,h2):=by
 cases op<;>simp only [clsOf] at hc<;>try (simp at hc;done)
 case x op args =>
  cases op<;>simp only [clsX] at hc<;>try (simp at hc;done)
  case s2b row =>
   split at hc
   ·simp at hc
   ·rename_i hr
    simp only [execA,evalA] at e ⊢
    unfold evalX at e ⊢
    split at e<;>try (simp at e;done)
    all_goals (rename_i h1 h2;cases h1)
    split at e
    ·split at e
     ·try rw [if_neg hr] at e
      simp only [Option.some.injEq,Prod.mk.injEq] at e
      obtain ⟨rfl,rfl⟩:=e
      refine ⟨rfl,fun h2=>?_⟩
      simp_all
     ·simp at e
    ·simp at e
  all_goals
   simp only [execA,evalA] at e ⊢
   unfold evalX at e ⊢
   split at e<;>try (simp at e;done)
   all_goals (rename_i h1 h2;cases h1)
   repeat' split at e
   all_goals first
    | (simp at e;done)
    | (simp only [Option.some.injEq,Prod.mk.injEq] at e;obtain ⟨rfl,rfl⟩:=e;exact ⟨rfl,fun h2=>by simp_all⟩)
 case append arr _ _ _ _ _ _=>cases arr<;>simp at hc
 case call f args=>split at hc<;>first|(simp at hc;done)|(split at hc<;>simp at hc)
 case lit mode ty n sz ag z ps =>
  have hm:mode=0:=by
   repeat' split at hc
   all_goals first
    | assumption
    | (simp at hc;done)
  subst hm
  simp only [execA,evalA] at e ⊢
  split at e
  ·rename_i cs hf
   split at e
   ·simp at e
   ·rename_i hcond
    simp only [show ¬ ((0:Nat)=2) by omega,show ¬ ((0:Nat)=3) by omega,show ¬ ((0:Nat)=1) by omega,if_false] at e
    split at e
    ·simp at e
    ·rename_i cs' hs
     split at e
     ·simp at e
     ·rename_i xs hch
      simp at e;obtain ⟨rfl,rfl⟩:=e
      refine ⟨rfl,fun h2=>?_⟩
      simp only [hcond,show ¬ ((0:Nat)=2) by omega,show ¬ ((0:Nat)=3) by omega,show ¬ ((0:Nat)=1) by omega,if_false,hs,hch]
      simp
  ·simp at e
 all_goals
  simp only [execA,evalA] at e ⊢
  repeat' split at e
  all_goals first
   | (simp at e;done)
   | (simp only [Option.some.injEq,Prod.mk.injEq] at e;obtain ⟨rfl,rfl⟩:=e;exact ⟨rfl,fun h2=>by simp [*]⟩)
   | (simp only [Option.map_eq_some_iff,Prod.mk.injEq] at e;obtain ⟨x,e,rfl,rfl⟩:=e;exact ⟨rfl,fun h2=>by simp [*]⟩)
theorem cls_v {cf:CallF} {f:Opd} {args:List Opd} {ev:Opd→AVal} {h h':Heap} {r:AVal} (e:execA cf (.vcall f args) ev h=some (r,h')):h'=h∧∀ h2,TokExt h h2→execA cf (.vcall f args) ev h2=some (r,h2):=by
 simp only [execA] at e ⊢
 split at e
 ·rename_i g cap hfn
  split at e
  ·rename_i asx hb
   split at e
   ·rename_i r0 h0 hcf
    split at e
    ·rename_i hsc
     simp at e;obtain ⟨rfl,rfl⟩:=e
     exact ⟨rfl,fun h2 hT=>by simp [borrowL_ext hT _ hb,hcf,hsc]⟩
    ·simp at e
   ·simp at e
  ·simp at e
 ·simp at e
theorem cls_r {Hh:Hints} {cf:CallF} {op:AOp} {ev:Opd→AVal} {h h':Heap} {r:AVal} (hc:clsOf Hh op = .r) (e:execA cf op ev h=some (r,h')):h'=h∧∀ h2,TokExt h h2→execA cf op ev h2=some (r,h2):=by
 cases op<;>simp only [clsOf] at hc<;>try (simp at hc;done)
 case vcall f args=>exact cls_v e
 case append arr _ _ _ _ _ _=>cases arr<;>simp at hc
 case call f args=>split at hc<;>first|(simp at hc;done)|(split at hc<;>simp at hc)
 case x op args =>
  cases op<;>simp only [clsX] at hc<;>try (simp at hc;done)
  case s2b row=>cases row<;>simp at hc
  case b2s =>
   simp only [execA,evalA] at e ⊢
   generalize args.map ev=L at e ⊢
   match L,e with
   | [v],e =>
     simp only [evalX] at e ⊢
     split at e
     ·rename_i cs hcs
      split at e
      ·rename_i hall
       simp only [Option.map_eq_some_iff,Prod.mk.injEq] at e
       obtain ⟨s,hs,rfl,rfl⟩:=e
       refine ⟨rfl,fun h2 hT=>?_⟩
       have hcs2:bytesA h2 v=some cs:=by
        unfold bytesA at hcs ⊢
        split at hcs
        ·simp at hcs
        ·rename_i hns
         have he:=elemsA_ext hT hcs
         cases v<;>first
          | exact absurd rfl (hns _)
          | exact he
       rw [hcs2]
       simp [hall,hs]
      ·simp at e
     ·simp at e
   | [],e=>simp [evalX] at e
   | _::_::_,e=>simp [evalX] at e
  all_goals
   simp only [execA,evalA] at e ⊢
   unfold evalX at e ⊢
   split at e<;>try (simp at e;done)
   all_goals (rename_i h1 h2;cases h1)
   repeat' split at e
   all_goals first
    | (simp at e;done)
    | (simp only [Option.some.injEq,Prod.mk.injEq] at e;obtain ⟨rfl,rfl⟩:=e;refine ⟨rfl,fun h2 hT=>?_⟩;first|(simp_all;done)|(have hq:=hT _ _ (by assumption) (by intro ty hh;cases hh);simp_all;done))
    | (simp only [Option.map_eq_some_iff,Prod.mk.injEq] at e;obtain ⟨x,e,rfl,rfl⟩:=e;refine ⟨rfl,fun h2 hT=>?_⟩;first|(simp_all;done)|(have hq:=hT _ _ (by assumption) (by intro ty hh;cases hh);simp_all;done))
 case lit mode ty n sz ag z ps =>
  repeat' split at hc
  all_goals simp at hc
 case pcall f args =>
  simp only [execA] at e ⊢
  split at e
  ·rename_i asx hs
   split at e
   ·rename_i r0 h0 hcf
    simp only [Option.map_eq_some_iff,Prod.mk.injEq] at e
    obtain ⟨x,hp,rfl,rfl⟩:=e
    exact ⟨rfl,fun h2 hT=>by simp [hs,hcf,hp]⟩
   ·simp at e
  ·rename_i hs
   split at e
   ·rename_i asx hp
    split at e
    ·rename_i r0 h0 hcf
     split at e
     ·rename_i hsc
      simp at e;obtain ⟨rfl,rfl⟩:=e
      exact ⟨rfl,fun h2 hT=>by simp [hs,purifyL_ext hT _ hp,hcf,hsc]⟩
     ·simp at e
    ·simp at e
   ·simp at e
theorem cls_l {Hh:Hints} {cf:CallF} {op:AOp} {ev:Opd→AVal} {h h':Heap} {r:AVal} (hc:clsOf Hh op = .l) (e:execA cf op ev h=some (r,h')):h'=h∧∀ h2,(∀ id m s ag cs,h.get id=some (.row m s ag cs)→h2.get id=some (.row m s ag cs))→execA cf op ev h2=some (r,h2):=by
 cases op<;>simp only [clsOf] at hc<;>try (simp at hc;done)
 case append arr _ _ _ _ _ _=>cases arr<;>simp at hc
 case call f args=>split at hc<;>first|(simp at hc;done)|(split at hc<;>simp at hc)
 case x op args=>cases op<;>simp only [clsX] at hc<;>first|(simp at hc;done)|(split at hc<;>simp at hc)
 case lit mode ty n sz ag z ps =>
  repeat' split at hc
  all_goals simp at hc
 case load n ag x =>
  simp only [execA,evalA,Option.map_eq_some_iff,Prod.mk.injEq] at e ⊢
  obtain ⟨x',e,rfl,rfl⟩:=e
  refine ⟨rfl,fun h2 hT=>⟨x',?_,rfl,trivial⟩⟩
  unfold loadA at e ⊢
  split at e
  ·split at e
   ·rename_i hg
    rw [hT _ _ _ _ _ hg];exact e
   ·simp at e
  ·exact e
  ·simp at e
theorem cls_q {Hh:Hints} {cf:CallF} {op:AOp} {ev:Opd→AVal} {h h':Heap} {r:AVal} (hc:clsOf Hh op = .l) (e:execA cf op ev h=some (r,h')):h'=h∧∀ h2,TokExt h h2→execA cf op ev h2=some (r,h2):=by
 obtain ⟨q1,q2⟩:=cls_l hc e
 exact ⟨q1,fun h2 hT=>q2 h2 fun id m s ag cs hg=>hT _ _ hg (by intro ty hh;cases hh)⟩
theorem Heap.put_push (h:Heap) {id:Nat} (hid:id<h.next) (o:Option Obj) (ob:Obj):(h.push ob).put id o=(h.put id o).push ob:=by
 exact Heap.put_push_lt h hid o ob
theorem cls_m {Hh:Hints} {cf:CallF} {op:AOp} {ev:Opd→AVal} {h h':Heap} {r:AVal} (hc:clsOf Hh op = .m) (e:execA cf op ev h=some (r,h')) :
  (∀ id m s ag cs,h.get id=some (.row m s ag cs)→h'.get id=some (.row m s ag cs))∧h'.next=h.next∧∀ ob,execA cf op ev (h.push ob)=some (r,h'.push ob):=by
 cases op<;>simp only [clsOf] at hc<;>try (simp at hc;done)
 case append arr _ _ _ _ _ _=>cases arr<;>simp at hc
 case call f args=>split at hc<;>first|(simp at hc;done)|(split at hc<;>simp at hc)
 case lit mode ty n sz ag z ps =>
  repeat' split at hc
  all_goals simp at hc
 case x op args =>
  cases op<;>simp only [clsX] at hc<;>try (first|(simp at hc;done)|(split at hc<;>simp at hc;done))
  rename_i kd
  simp only [execA,evalA] at e ⊢
  generalize args.map ev=L at e ⊢
  match L,e with
  | [m,k,v],e =>
    simp only [evalX] at e ⊢
    split at e
    ·rename_i hk
     simp only [if_pos hk]
     split at e
     ·rename_i id
      split at e
      ·rename_i kd' clock es hg
       split at e
       ·rename_i hcond
        simp only [Option.some.injEq,Prod.mk.injEq] at e
        obtain ⟨rfl,rfl⟩:=e
        refine ⟨fun i m s ag cs hi=>?_,by simp,fun ob=>?_⟩
        ·have hne:i≠id:=fun q=>by subst q;rw [hg] at hi;simp at hi
         rw [Heap.get_put_other _ hne];exact hi
        ·rw [Heap.get_push_old _ (Heap.get_lt hg),hg]
         simp only [hcond,and_self,if_true]
         rw [Heap.put_push _ (Heap.get_lt hg)]
       ·simp at e
      ·simp at e
     ·simp at e
    ·simp at e
  | [],e=>simp [evalX] at e
  | [_],e=>simp [evalX] at e
  | [_,_],e=>simp [evalX] at e
  | _::_::_::_::_,e=>simp [evalX] at e
theorem cls_a {Hh:Hints} {cf:CallF} {op:AOp} {ev:Opd→AVal} {h h':Heap} {r:AVal} (hc:clsOf Hh op = .a) (e:execA cf op ev h=some (r,h')):∃ ob,h'=h.push ob∧∀ h2:Heap,h2.next=h.next→execA cf op ev h2=some (r,h2.push ob):=by
 cases op<;>simp only [clsOf] at hc<;>try (simp at hc;done)
 case append arr _ _ _ _ _ _=>cases arr<;>simp at hc
 case call f args=>split at hc<;>first|(simp at hc;done)|(split at hc<;>simp at hc)
 case x op args =>
  cases op<;>simp only [clsX] at hc<;>try (simp at hc;done)
  all_goals
   simp only [execA,evalA] at e ⊢
   unfold evalX at e ⊢
   split at e<;>try (simp at e;done)
   all_goals (rename_i h1 h2;cases h1)
   repeat' split at e
   all_goals first
    | (simp at e;done)
    | (simp only [Option.some.injEq,Prod.mk.injEq] at e;obtain ⟨rfl,rfl⟩:=e;exact ⟨_,rfl,fun h2 hn=>by simp_all⟩)
    | (simp_all;done)
 case lit mode ty n sz ag z ps =>
  have hm:mode=1∨mode=2:=by
   repeat' split at hc
   all_goals first
    | exact .inl (by assumption)
    | exact .inr (by assumption)
    | (simp at hc;done)
  simp only [execA,evalA] at e ⊢
  split at e
  ·rename_i cs hf
   split at e
   ·simp at e
   ·rename_i hcond
    rcases hm with rfl|rfl
    ·simp only [show ¬ ((1:Nat)=2) by omega,show ¬ ((1:Nat)=3) by omega,if_false,if_true] at e
     split at e
     ·simp at e
     ·rename_i cs' hs
      split at e
      ·simp at e
      ·rename_i xs hch
       simp at e;obtain ⟨rfl,rfl⟩:=e
       exact ⟨_,rfl,fun h2' hn=>by simp only [hcond,if_false,show ¬ ((1:Nat)=2) by omega,show ¬ ((1:Nat)=3) by omega,hs,hch,if_true,hn];simp⟩
    ·simp only [if_true] at e
     simp at e;obtain ⟨rfl,rfl⟩:=e
     exact ⟨_,rfl,fun h2' hn=>by simp only [hcond,if_false,if_true,hn];simp⟩
  ·simp at e
 all_goals
  simp only [execA,evalA] at e ⊢
  repeat' split at e
  all_goals first
   | (simp at e;done)
   | (simp only [Option.some.injEq,Prod.mk.injEq] at e;obtain ⟨rfl,rfl⟩:=e;exact ⟨_,rfl,fun h2 hn=>by simp [*]⟩)
theorem TokExt.refl (h:Heap):TokExt h h:=fun _ _ hg _=>hg
theorem tok_push {h:Heap} (ty:Nat):TokExt h (h.push (.tok ty))∧TokExt (h.push (.tok ty)) h:=by
 refine ⟨TokExt.push h _,fun id o hg hn=>?_⟩
 rcases Heap.get_push_some hg with ⟨_,rfl⟩|⟨_,h2⟩
 ·exact absurd rfl (hn ty)
 ·exact h2
theorem tok_put {h:Heap} {id ty ty2:Nat} (hg:h.get id=some (.tok ty)):TokExt h ((h.put id none).push (.tok ty2))∧TokExt ((h.put id none).push (.tok ty2)) h:=by
 refine ⟨fun j o hj hn=>?_,fun j o hj hn=>?_⟩
 ·have hne:j≠id:=fun e=>by subst e;rw [hg] at hj;exact hn ty (Option.some.inj hj).symm
  have:(h.put id none).get j=some o:=by rw [Heap.get_put_other _ hne];exact hj
  rw [Heap.get_push_old _ (Heap.get_lt this)];exact this
 ·rcases Heap.get_push_some hj with ⟨_,rfl⟩|⟨_,h2⟩
  ·exact absurd rfl (hn ty2)
  ·by_cases hne:j=id
   ·subst hne;rw [Heap.get_put _ hg] at h2;simp at h2
   ·rwa [Heap.get_put_other _ hne] at h2
theorem cls_t {Hh:Hints} {cf:CallF} {op:AOp} {ev:Opd→AVal} {h h':Heap} {r:AVal} (hc:clsOf Hh op = .t) (e:execA cf op ev h=some (r,h')):TokExt h h'∧TokExt h' h:=by
 cases op<;>simp only [clsOf] at hc<;>try (simp at hc;done)
 case x op args=>cases op<;>simp only [clsX] at hc<;>first|(simp at hc;done)|(split at hc<;>simp at hc)
 case lit mode ty n sz ag z ps=>repeat' split at hc
                                all_goals simp at hc
 case call f args=>split at hc<;>first|(simp at hc;done)|(split at hc<;>simp at hc)
 case append arr ty bytes sz ag x y =>
  have harr:arr=false:=by cases arr<;>simp at hc<;>rfl
  subst harr
  simp only [execA,evalA] at e
  unfold appendA at e
  split at e
  ·split at e
   ·split at e<;>first
     | (simp only [Option.some.injEq,Prod.mk.injEq] at e;obtain ⟨_,rfl⟩:=e;exact ⟨TokExt.refl _,TokExt.refl _⟩)
     | (simp at e;done)
   ·split at e
    ·split at e
     ·simp at e
     ·simp only [Bool.false_eq_true,if_false] at e
      split at e
      ·simp at e
      ·split at e
       ·simp at e
       ·split at e
        ·split at e
         ·simp only [Option.some.injEq,Prod.mk.injEq] at e;obtain ⟨_,rfl⟩:=e;exact tok_push _
         ·simp at e
        ·split at e
         ·simp only [Option.some.injEq,Prod.mk.injEq] at e;obtain ⟨_,rfl⟩:=e;exact tok_push _
         ·simp at e
        ·split at e
         ·rename_i hg
          split at e
          ·simp only [Option.some.injEq,Prod.mk.injEq] at e;obtain ⟨_,rfl⟩:=e;exact tok_put hg
          ·simp at e
         ·simp at e
        ·simp at e
    ·split at e<;>simp at e
    ·simp at e
  ·simp at e
theorem cls_g {Hh:Hints} {cf:CallF} (hgr:∀ g args h r h',Hh.grow g=true→cf false g args h=some (r,h')→TokExt h h') {op:AOp} {vs ts:List AVal} {h h':Heap} {r:AVal} (hc:clsOf Hh op = .g) (e:execA cf op (evOpd vs ts) h=some (r,h')):TokExt h h':=by
 cases op<;>simp only [clsOf] at hc<;>try (simp at hc;done)
 case x op args =>
  cases op<;>simp only [clsX] at hc<;>first|(simp at hc;done)|(split at hc<;>simp at hc;done)|skip
  case afresh ty bytes sz ag =>
   simp only [execA,evalA] at e
   generalize args.map (evOpd vs ts)=L at e
   have key:∀ {t:Tok} {y:AVal},appendA true ty bytes sz ag (.sl [] t) y h=some (r,h')→TokExt h h':=by
    intro t y e
    unfold appendA at e
    split at e
    ·split at e
     ·simp only [Option.some.injEq,Prod.mk.injEq] at e;obtain ⟨_,rfl⟩:=e;exact TokExt.refl _
     ·simp only [if_true] at e
      split at e
      ·simp at e
      ·split at e
       ·simp only [Option.some.injEq,Prod.mk.injEq] at e;obtain ⟨_,rfl⟩:=e;exact TokExt.push _ _
       ·simp only [Option.some.injEq,Prod.mk.injEq] at e;obtain ⟨_,rfl⟩:=e;exact TokExt.push _ _
       ·simp at e
    ·simp at e
   match L,e with
   | [x,y],e =>
     simp only [evalX] at e
     split at e
     ·exact key e
     ·exact key e
     ·simp at e
   | [],e=>simp [evalX] at e
   | [_],e=>simp [evalX] at e
   | _::_::_::_,e=>simp [evalX] at e
 case lit mode ty n sz ag z ps=>repeat' split at hc
                                all_goals simp at hc
 case append arr _ _ _ _ _ _=>cases arr<;>simp at hc
 case call f args =>
  split at hc
  ·rename_i g
   split at hc
   ·rename_i hg
    exact hgr g _ _ _ _ hg e
   ·simp at hc
  ·simp at hc
 case gcall g args =>
  simp only [execA] at e
  split at e
  ·split at e
   ·rename_i hx
    simp only [Option.some.injEq,Prod.mk.injEq] at e
    obtain ⟨rfl,rfl⟩:=e
    intro id o ho _
    rw [(extB_iff.1 hx).2 id (Heap.get_lt ho)];exact ho
   ·simp at e
  ·simp at e
end Go.Abs
