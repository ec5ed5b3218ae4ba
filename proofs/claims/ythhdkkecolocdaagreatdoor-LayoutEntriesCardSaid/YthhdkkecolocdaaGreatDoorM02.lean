/-
  Merged from AbsPerm AbsRen AbsSound AbsWP AbsLaw: Independent steps of a region may be exchanged, and so every drawn order gives what the text's order gives.
-/
import Derived.Test.YthhdkkecolocdaaGreatDoorM01
import Derived.Test.YthhdkkecolocdaaGreatDoorM00
import Derived.Scope
import Derived.RangeFuncRecord
import Derived.RangeFuncIn
import Derived.RangeFuncCalls
import Derived.OwnWalkIn
import Derived.ProofKit
set_option linter.unusedSimpArgs false
set_option linter.unusedVariables false
set_option linter.defProp false
set_option linter.constructorNameAsVariable false
/-
 Independent steps of a region may be exchanged, and so every drawn order gives what the text's order gives.
-/
namespace Go.Abs
theorem readsV_false {o:AOper} {i:Nat} (h:readsV o i=false):∀ x∈readsOf o,x ≠ .v i:=by
 intro x hx he
 subst he
 have:readsV o i=true:=List.any_eq_true.2 ⟨.v i,hx,by simp⟩
 rw [h] at this;simp at this
theorem readsT_false {o:AOper} {k:Nat} (h:readsT o k=false):∀ x∈readsOf o,x ≠ .t k:=by
 intro x hx he
 subst he
 have:readsT o k=true:=List.any_eq_true.2 ⟨.t k,hx,by simp⟩
 rw [h] at this;simp at this
theorem ev_put {s:St} {k:Nat} {d:ADst} {r:AVal} {h:Heap} {x:Opd} (hv:∀ i,d = .var i→x ≠ .v i) (ht:x ≠ .t k):evOpd (s.put k d r h).vs (s.put k d r h).ts x=evOpd s.vs s.ts x:=by
 cases x with
 | c y=>rfl
 | v i =>
   cases d with
   | no=>rfl
   | tmp=>rfl
   | var j =>
     have:j≠i:=fun e=>hv j rfl (by rw [e])
     simp [evOpd,St.put,List.getElem?_set_ne this]
 | t j =>
   cases d with
   | no=>rfl
   | tmp =>
     have:k≠j:=fun e=>ht (by rw [e])
     simp [evOpd,St.put,List.getElem?_set_ne this]
   | var i=>rfl
structure Told (cf:CallF) (o:AOper) (s:St) (g:Bool) (r:AVal) (h':Heap):Prop where
 want:wantA (evOpd s.vs s.ts) o.guard=some g
 run:if g then execA cf o.op (evOpd s.vs s.ts) s.h=some (r,h') else r = .tup []∧h'=s.h
theorem step_told {cf:CallF} {o:AOper} {k:Nat} {s s':St} (e:stepA cf o k s=some s'):∃ g r h',Told cf o s g r h'∧s'=s.put k o.dst r h':=by
 unfold stepA at e
 split at e
 ·simp at e
 ·rename_i hw
  obtain rfl:=Option.some.inj e
  exact ⟨false,_,_,⟨hw,by simp⟩,rfl⟩
 ·rename_i hw
  split at e
  ·rename_i r h' he
   obtain rfl:=Option.some.inj e
   exact ⟨true,r,h',⟨hw,by simpa using he⟩,rfl⟩
  ·simp at e
theorem told_step {cf:CallF} {o:AOper} {k:Nat} {s:St} {g:Bool} {r:AVal} {h':Heap} (t:Told cf o s g r h'):stepA cf o k s=some (s.put k o.dst r h'):=by
 unfold stepA
 rw [t.want]
 have hr:=t.run
 cases g
 ·simp at hr;simp [hr.1,hr.2]
 ·simp at hr;simp [hr]
theorem told_congr {cf:CallF} {o:AOper} {s s':St} {g:Bool} {r:AVal} {h':Heap} (t:Told cf o s g r h') (hx:∀ x∈readsOf o,evOpd s.vs s.ts x=evOpd s'.vs s'.ts x) (hh:s'.h=s.h):Told cf o s' g r h':=by
 refine ⟨?_,?_⟩
 ·rw [←t.want]
  cases hg:o.guard with
  | none=>rfl
  | some p =>
    simp only [wantA]
    rw [hx p.1 (by simp [readsOf,hg])]
 ·have hr:=t.run
  rw [hh,←execA_congr (cf:=cf) (ev:=evOpd s.vs s.ts) (fun x hx'=>hx x (by simp [readsOf,hx']))]
  exact hr
theorem told_heap {Hh:Hints} {cf:CallF} (hgr:∀ g args h r h',Hh.grow g=true→cf false g args h=some (r,h')→TokExt h h') {a b:AOper} {s:St} {g g':Bool} {r r':AVal} {h1 h2:Heap} (hcl:heapConf (clsOf Hh a.op) (clsOf Hh b.op)=false) (ta:Told cf a s g r h1) (tb:Told cf b { s with h:=h1 } g' r' h2) :
  ∃ h1',Told cf b s g' r' h1'∧Told cf a { s with h:=h1' } g r h2:=by
 have wa:=ta.want
 have wb:=tb.want
 have ra:=ta.run
 have rb:=tb.run
 cases g with
 | false =>
   simp at ra
   obtain ⟨rfl,rfl⟩:=ra
   exact ⟨h2,⟨wb,rb⟩,⟨wa,by simp⟩⟩
 | true =>
   simp at ra
   cases g' with
   | false =>
     simp at rb
     obtain ⟨rfl,rfl⟩:=rb
     exact ⟨s.h,⟨wb,by simp⟩,⟨wa,by simpa using ra⟩⟩
   | true =>
     simp at rb
     cases ca:clsOf Hh a.op<;>cases cb:clsOf Hh b.op<;>rw [ca,cb] at hcl<;>simp [heapConf] at hcl<;>first
      | (obtain ⟨rfl,q⟩:=cls_n ca ra;exact ⟨h2,⟨wb,by simpa using rb⟩,⟨wa,by simpa using q h2⟩⟩)
      | (obtain ⟨rfl,q⟩:=cls_n cb rb;exact ⟨s.h,⟨wb,by simpa using q s.h⟩,⟨wa,by simpa using ra⟩⟩)
      | (obtain ⟨q,_,_⟩:=cls_m cb rb
         obtain ⟨rfl,q'⟩:=cls_l ca ra
         exact ⟨h2,⟨wb,by simpa using rb⟩,⟨wa,by simpa using q' h2 q⟩⟩)
      | (obtain ⟨_,q1,q⟩:=cls_m ca ra
         obtain ⟨ob,rfl,q'⟩:=cls_a cb rb
         exact ⟨s.h.push ob,⟨wb,by simpa using q' s.h q1.symm⟩,⟨wa,by simpa using q ob⟩⟩)
      | (obtain ⟨rfl,_⟩:=cls_r ca ra;obtain ⟨rfl,_⟩:=cls_r cb rb;exact ⟨s.h,⟨wb,by simpa using rb⟩,⟨wa,by simpa using ra⟩⟩)
      | (obtain ⟨rfl,_⟩:=cls_r ca ra;obtain ⟨rfl,_⟩:=cls_q cb rb;exact ⟨s.h,⟨wb,by simpa using rb⟩,⟨wa,by simpa using ra⟩⟩)
      | (obtain ⟨rfl,_⟩:=cls_q ca ra;obtain ⟨rfl,_⟩:=cls_r cb rb;exact ⟨s.h,⟨wb,by simpa using rb⟩,⟨wa,by simpa using ra⟩⟩)
      | (obtain ⟨rfl,_⟩:=cls_q ca ra;obtain ⟨rfl,_⟩:=cls_q cb rb;exact ⟨s.h,⟨wb,by simpa using rb⟩,⟨wa,by simpa using ra⟩⟩)
      | (obtain ⟨rfl,q⟩:=cls_r ca ra
         obtain ⟨ob,rfl,q'⟩:=cls_a cb rb
         exact ⟨s.h.push ob,⟨wb,by simpa using q' s.h rfl⟩,⟨wa,by simpa using q _ (TokExt.push _ ob)⟩⟩)
      | (obtain ⟨rfl,q⟩:=cls_r ca ra
         obtain ⟨t1,_⟩:=cls_t cb rb
         exact ⟨h2,⟨wb,by simpa using rb⟩,⟨wa,by simpa using q h2 t1⟩⟩)
      | (obtain ⟨rfl,q⟩:=cls_r ca ra
         exact ⟨h2,⟨wb,by simpa using rb⟩,⟨wa,by simpa using q h2 (cls_g hgr cb rb)⟩⟩)
      | (obtain ⟨rfl,q⟩:=cls_r cb rb
         obtain ⟨_,t2⟩:=cls_t ca ra
         exact ⟨s.h,⟨wb,by simpa using q s.h t2⟩,⟨wa,by simpa using ra⟩⟩)
      | (obtain ⟨rfl,q⟩:=cls_q ca ra
         obtain ⟨ob,rfl,q'⟩:=cls_a cb rb
         exact ⟨s.h.push ob,⟨wb,by simpa using q' s.h rfl⟩,⟨wa,by simpa using q _ (TokExt.push _ ob)⟩⟩)
      | (obtain ⟨rfl,q⟩:=cls_q ca ra
         obtain ⟨t1,_⟩:=cls_t cb rb
         exact ⟨h2,⟨wb,by simpa using rb⟩,⟨wa,by simpa using q h2 t1⟩⟩)
      | (obtain ⟨rfl,q⟩:=cls_q ca ra
         exact ⟨h2,⟨wb,by simpa using rb⟩,⟨wa,by simpa using q h2 (cls_g hgr cb rb)⟩⟩)
      | (obtain ⟨rfl,q⟩:=cls_q cb rb
         obtain ⟨_,t2⟩:=cls_t ca ra
         exact ⟨s.h,⟨wb,by simpa using q s.h t2⟩,⟨wa,by simpa using ra⟩⟩)
theorem put_comm {s:St} {i j:Nat} {a b:ADst} {r r':AVal} {h1 h2 h3:Heap} (hij:i≠j) (hv:∀ x y,a = .var x→b = .var y→x≠y):(s.put i a r h1).put j b r' h2=(s.put j b r' h3).put i a r h2:=by
 cases a with
 | no=>cases b<;>rfl
 | tmp=>cases b with
   | no=>rfl
   | tmp=>simp only [St.put,St.mk.injEq,and_true,true_and];exact List.set_comm _ _ hij
   | var y=>rfl
 | var x=>cases b with
   | no=>rfl
   | tmp=>rfl
   | var y=>simp only [St.put,St.mk.injEq,and_true];exact List.set_comm _ _ (hv x y rfl rfl)
theorem step_comm {Hh:Hints} {cf:CallF} (hgr:∀ g args h r h',Hh.grow g=true→cf false g args h=some (r,h')→TokExt h h') {a b:AOper} {i j:Nat} {s s1 s2:St} (hij:i≠j) (hc:conf Hh i a j b=false) (e1:stepA cf a i s=some s1) (e2:stepA cf b j s1=some s2):∃ s1',stepA cf b j s=some s1'∧stepA cf a i s1'=some s2:=by
 simp only [conf,Bool.or_eq_false_iff] at hc
 obtain ⟨⟨⟨⟨⟨c1,c2⟩,c3⟩,c4⟩,c5⟩,c6⟩:=hc
 obtain ⟨g,r,h1,ta,rfl⟩:=step_told e1
 obtain ⟨g',r',h2,tb,rfl⟩:=step_told e2
 have hb:∀ x∈readsOf b,evOpd (s.put i a.dst r h1).vs (s.put i a.dst r h1).ts x=evOpd s.vs s.ts x:=fun x hx =>
  ev_put (fun k hk=>by rw [hk] at c4;exact readsV_false c4 x hx) (readsT_false c1 x hx)
 have tb':Told cf b { s with h:=h1 } g' r' h2:=told_congr tb hb (by cases a.dst<;>rfl)
 obtain ⟨h1',q1,q2⟩:=told_heap hgr c3 ta tb'
 have ha:∀ x∈readsOf a,evOpd s.vs s.ts x=evOpd (s.put j b.dst r' h1').vs (s.put j b.dst r' h1').ts x:=fun x hx =>
  (ev_put (fun k hk=>by rw [hk] at c5;exact readsV_false c5 x hx) (readsT_false c2 x hx)).symm
 have q2':Told cf a (s.put j b.dst r' h1') g r h2:=told_congr q2 ha (by cases b.dst<;>rfl)
 refine ⟨_,told_step q1,?_⟩
 rw [told_step q2',put_comm hij (fun x y hx hy=>by rw [hx,hy] at c6;simpa using c6)]
def foldI (cf:CallF) (asx:List AOper):List Nat→St→Option St
 | [],s=>some s
 | k::l,s=>match asx[k]? with
   | some o=>match stepA cf o k s with
     | some s'=>foldI cf asx l s'
     | none=>none
   | none=>none
theorem foldA_eq (cf:CallF) (asx:List AOper):∀ (l:List AOper) (k:Nat) (s:St),(∀ j,l[j]?=asx[k+j]?)→foldA cf l k s=foldI cf asx (List.range' k l.length) s
 | [],k,s,_=>rfl
 | o::l,k,s,h=>by
   have h0:asx[k]?=some o:=by simpa using (h 0).symm
   simp only [foldA,List.length_cons,List.range'_succ,foldI,h0]
   cases stepA cf o k s with
   | none=>rfl
   | some s'=>exact foldA_eq cf asx l (k+1) s' (fun j=>by have:=h (j+1);rw [List.getElem?_cons_succ] at this;rw [this];congr 1;omega)
theorem foldI_move {Hh:Hints} {cf:CallF} (hgr:∀ g args h r h',Hh.grow g=true→cf false g args h=some (r,h')→TokExt h h') {asx:List AOper} {i:Nat} {a:AOper} (ha:asx[i]?=some a):∀ (l1:List Nat) {l2:List Nat} {s s1 τ:St},(∀ j∈l1,i≠j∧∀ b,asx[j]?=some b→conf Hh i a j b=false)→stepA cf a i s=some s1 →
  foldI cf asx (l1++l2) s1=some τ→foldI cf asx (l1++i::l2) s=some τ
 | [],l2,s,s1,τ,_,e1,e2=>by simp only [List.nil_append] at e2 ⊢;simp only [foldI,ha,e1];exact e2
 | j::l1,l2,s,s1,τ,h,e1,e2=>by
   simp only [List.cons_append,foldI] at e2 ⊢
   split at e2
   ·rename_i b hb
    split at e2
    ·rename_i s2 hs2
     obtain ⟨h1,h2⟩:=h j (by simp)
     obtain ⟨s1',q1,q2⟩:=step_comm hgr h1 (h2 b hb) e1 hs2
     simp only [q1]
     exact foldI_move hgr ha l1 (fun k hk=>h k (by simp [hk])) q2 e2
    ·simp at e2
   ·simp at e2
def okPair (Hh:Hints) (asx:List AOper) (B:Nat→Nat→Prop) (x y:Nat):Prop:=B y x→∀ a b,asx[y]?=some a→asx[x]?=some b→conf Hh y a x b=false
theorem foldI_perm {Hh:Hints} {cf:CallF} (hgr:∀ g args h r h',Hh.grow g=true→cf false g args h=some (r,h')→TokExt h h') {asx:List AOper} {B:Nat→Nat→Prop} (hne:∀ x,¬ B x x):∀ {bs l:List Nat} {s τ:St},bs.Pairwise B→l.Perm bs→l.Pairwise (okPair Hh asx B)→foldI cf asx bs s=some τ→foldI cf asx l s=some τ
 | [],l,s,τ,_,hp,_,e=>by
   have:l=[]:=by simpa using hp
   subst this;exact e
 | m::bs,l,s,τ,hB,hp,hw,e=>by
   have hm:m∈l:=hp.symm.subset (by simp)
   obtain ⟨l1,l2,rfl⟩:=List.append_of_mem hm
   rw [List.pairwise_cons] at hB
   have hp':(l1++l2).Perm bs:=by
    have:=(List.perm_middle (a:=m) (l₁:=l1) (l₂:=l2)).symm.trans hp
    exact (List.perm_cons m).1 this
   simp only [foldI] at e
   split at e
   ·rename_i a ha
    split at e
    ·rename_i s1 hs1
     have hw':(l1++l2).Pairwise (okPair Hh asx B):=hw.sublist (by simp)
     have ih:=foldI_perm hgr hne hB.2 hp' hw' e
     refine foldI_move hgr ha l1 (fun j hj=>?_) hs1 ih
     have hjm:B m j:=hB.1 j (hp'.subset (by simp [hj]))
     refine ⟨fun e=>hne j (e ▸ hjm),fun b hb=>?_⟩
     have:=(List.pairwise_append.1 hw).2.2 j hj m (by simp)
     exact this hjm a b ha hb
    ·simp at e
   ·simp at e
def Ord (ops:List Oper):List Nat→Prop
 | []=>True
 | x::tl=>(∀ o,ops[x]?=some o→∀ e∈o.after.toList,Region.binds .any e=true→e.on∈tl)∧Ord ops tl
theorem edgesOk_get:∀ {l:List Oper} {k j:Nat} {o:Oper},edgesOk l k=true→l[j]?=some o→∀ e∈o.after.toList,Region.binds .any e=true→e.on<k+j
 | [],k,j,o,_,h=>by simp at h
 | o'::l,k,j,o,h,hj=>by
   simp only [edgesOk,Bool.and_eq_true] at h
   cases j with
   | zero =>
     simp at hj;subst hj
     intro e he hb
     have:=List.all_eq_true.1 h.1 e he
     simp [hb] at this;omega
   | succ j =>
     intro e he hb
     have:=edgesOk_get h.2 (by simpa using hj) e he hb
     omega
theorem lin_go {ops:Array Oper} (hE:edgesOk ops.toList 0=true):∀ (fuel t:Nat) (listed:Array Bool) (acc:List Nat),acc.length+fuel=ops.size→acc.Nodup→(∀ x∈acc,x<ops.size)→listed.size=ops.size→(∀ i,i<ops.size→(listed.getD i true=true↔i∈acc))→Ord ops.toList acc →
  ∃ acc',Region.linearise.go .any ops fuel t listed acc=acc'.reverse∧acc'.length=ops.size∧acc'.Nodup∧(∀ x∈acc',x<ops.size)∧Ord ops.toList acc'
 | 0,t,listed,acc,hl,hn,hlt,hs,hli,ho=>⟨acc,rfl,by omega,hn,hlt,ho⟩
 | fuel+1,t,listed,acc,hl,hn,hlt,hs,hli,ho=>by
   unfold Region.linearise.go
   simp only
   generalize hrs:(List.range ops.size).filter (fun i=>!listed.getD i true && ((ops[i]?).map (fun o=>o.after.all fun e=>!Region.binds .any e || listed.getD e.on false)).getD false)=rs
   have hmem:∀ i,i∈rs↔(i<ops.size∧i∉acc∧∀ o,ops[i]?=some o→∀ e∈o.after.toList,Region.binds .any e=true→listed.getD e.on false=true):=by
    intro i
    rw [←hrs,List.mem_filter,List.mem_range]
    constructor
    ·rintro ⟨h1,h2⟩
     simp only [Bool.and_eq_true,Bool.not_eq_true'] at h2
     refine ⟨h1,fun hm=>?_,fun o hoo e he hb=>?_⟩
     ·rw [(hli i h1).2 hm] at h2;simp at h2
     ·rw [hoo] at h2
      simp only [Option.map_some,Option.getD_some,Array.all_eq_true_iff_forall_mem] at h2
      have:=h2.2 e (by simpa using he)
      simpa [hb] using this
    ·rintro ⟨h1,h2,h3⟩
     refine ⟨h1,?_⟩
     simp only [Bool.and_eq_true,Bool.not_eq_true']
     refine ⟨?_,?_⟩
     ·cases hq:listed.getD i true with
      | false=>rfl
      | true=>exact absurd ((hli i h1).1 hq) h2
     ·obtain ⟨o,hoo⟩:∃ o,ops[i]?=some o:=⟨_,Array.getElem?_eq_getElem h1⟩
      rw [hoo]
      simp only [Option.map_some,Option.getD_some,Array.all_eq_true_iff_forall_mem]
      intro e he
      cases hb:Region.binds .any e with
      | false=>rfl
      | true=>simp [h3 o hoo e (by simpa using he) hb]
   have hne:rs≠[]:=by
    -- the smallest that is not listed
    have hex:∃ i,i<ops.size∧i∉acc:=by
     apply Classical.byContradiction
     intro hno
     have hall:∀ i,i<ops.size→i∈acc:=fun i hi=>Classical.byContradiction fun hc=>hno ⟨i,hi,hc⟩
     have hsub:(List.range ops.size) ⊆ acc:=fun i hi=>hall i (by simpa using hi)
     have:=(List.nodup_range (n:=ops.size)).length_le_of_subset hsub
     simp at this;omega
    have hmin:∃ i,(i<ops.size∧i∉acc)∧∀ j,j<i→¬ (j<ops.size∧j∉acc):=by
     obtain ⟨i,hi⟩:=hex
     induction i using Nat.strongRecOn with
     | _ i ih =>
       by_cases h:∃ j,j<i∧(j<ops.size∧j∉acc)
       ·obtain ⟨j,hj,hj'⟩:=h;exact ih j hj hj'
       ·exact ⟨i,hi,fun j hj hc=>h ⟨j,hj,hc⟩⟩
    obtain ⟨i,⟨h1,h2⟩,h3⟩:=hmin
    have:i∈rs:=(hmem i).2 ⟨h1,h2,fun o hoo e he hb=>by
     have hlt':=edgesOk_get hE (j:=i) (by simpa using hoo) e he hb
     rw [Nat.zero_add] at hlt'
     have hin:e.on∈acc:=Classical.byContradiction fun hc=>h3 e.on hlt' ⟨by omega,hc⟩
     have:=(hli e.on (by omega)).2 hin
     rw [Array.getD_eq_getD_getElem?] at this ⊢
     rw [Array.getElem?_eq_getElem (by omega)] at this ⊢
     simpa using this⟩
    intro he;rw [he] at this;simp at this
   have hpos:0<rs.length:=List.length_pos_iff.2 hne
   have hlt2:t % rs.length<rs.length:=Nat.mod_lt _ hpos
   rw [List.getElem?_eq_getElem hlt2]
   simp only
   generalize hi:rs[t % rs.length]=i
   have him:i∈rs:=by rw [←hi];exact List.getElem_mem _
   obtain ⟨h1,h2,h3⟩:=(hmem i).1 him
   refine lin_go hE fuel (t / rs.length) (listed.setIfInBounds i true) (i::acc) (by simp;omega) (List.nodup_cons.2 ⟨h2,hn⟩) (fun x hx=>?_) (by simp [hs]) (fun j hj=>?_) ⟨fun o hoo e he hb=>?_,ho⟩
   ·rcases List.mem_cons.1 hx with rfl|hx
    ·exact h1
    ·exact hlt x hx
   ·rw [Array.getD_eq_getD_getElem?,Array.getElem?_setIfInBounds]
    by_cases hij:i=j
    ·subst hij;simp [hs,h1]
    ·have:=hli j hj
     rw [Array.getD_eq_getD_getElem?] at this
     simp [hij,this,List.mem_cons,Ne.symm hij]
   ·have hb2:=h3 o (by simpa using hoo) e he hb
    have hlt':=edgesOk_get hE (j:=i) (by simpa using hoo) e he hb
    rw [Nat.zero_add] at hlt'
    refine (hli e.on (by omega)).1 ?_
    rw [Array.getD_eq_getD_getElem?] at hb2 ⊢
    rw [Array.getElem?_eq_getElem (by omega)] at hb2 ⊢
    simpa using hb2
theorem mem_uniq {x:Nat}:∀ {l:List Nat},x∈uniq l↔x∈l
 | []=>Iff.rfl
 | y::ys=>by
   have ih:=mem_uniq (x:=x) (l:=ys)
   simp only [uniq]
   split
   ·rename_i hc
    have hm:y∈ys:=mem_uniq.1 (by simpa using hc)
    rw [ih,List.mem_cons]
    exact ⟨.inr,fun h=>h.elim (fun e=>e ▸ hm) (fun q=>q)⟩
   ·rw [List.mem_cons,List.mem_cons,ih]
theorem befs_get:∀ {l:List Oper} {acc:List (List Nat)} {j:Nat},(∀ k,acc.length≤k→acc[k]?=none) → 
  (befs l acc).length=acc.length+l.length∧(∀ k,k<acc.length→(befs l acc)[k]?=acc[k]?) ∧
  (∀ k o,l[k]?=some o→(befs l acc)[acc.length+k]?=some (uniq (o.after.toList.flatMap fun e=>if Region.binds .any e then e.on::(((befs l acc).take (acc.length+k))[e.on]?).getD [] else [])))
 | [],acc,j,_=>by simp [befs]
 | o::l,acc,j,h=>by
   simp only [befs]
   generalize hx:uniq (o.after.toList.flatMap fun e=>if Region.binds .any e then e.on::((acc[e.on]?).getD []) else [])=x
   obtain ⟨e1,e2,e3⟩:=befs_get (l:=l) (acc:=acc++[x]) (j:=j) (fun k hk=>List.getElem?_eq_none hk)
   have htake:(befs l (acc++[x])).take acc.length=acc:=by
    apply List.ext_getElem?
    intro k
    rw [List.getElem?_take]
    split
    ·rename_i hk
     rw [e2 k (by simp;omega),List.getElem?_append_left hk]
    ·rename_i hk
     rw [List.getElem?_eq_none (by omega)]
   refine ⟨by rw [e1];simp;omega,fun k hk=>?_,fun k o' hk=>?_⟩
   ·rw [e2 k (by simp;omega),List.getElem?_append_left hk]
   ·cases k with
    | zero =>
      simp at hk;subst hk
      rw [Nat.add_zero,e2 acc.length (by simp),htake]
      simp [←hx]
    | succ k =>
      have:=e3 k o' (by simpa using hk)
      simp only [List.length_append,List.length_cons,List.length_nil] at this
      rw [show acc.length+(k+1)=acc.length+(0+1)+k by omega]
      exact this
theorem befs_ord {ops:List Oper}:∀ (j:Nat) {p q:List Nat},j<ops.length→Ord ops (p++j::q)→∀ i∈((befs ops [])[j]?).getD [],i∈q:=by
 intro j
 induction j using Nat.strongRecOn with
 | _ j ih =>
   intro p q hj ho i hi
   have hoq:Ord ops (j::q):=by
    clear hi ih
    induction p with
    | nil=>exact ho
    | cons x p ihp=>exact ihp ho.2
   obtain ⟨_,_,e3⟩:=befs_get (l:=ops) (acc:=[]) (j:=0) (by simp)
   obtain ⟨o,hoo⟩:∃ o,ops[j]?=some o:=⟨_,List.getElem?_eq_getElem hj⟩
   have:=e3 j o hoo
   simp only [List.length_nil,Nat.zero_add] at this
   rw [this] at hi
   simp only [Option.getD_some,mem_uniq,List.mem_flatMap] at hi
   obtain ⟨e,he,hi⟩:=hi
   split at hi
   ·rename_i hb
    have hon:=hoq.1 o hoo e he hb
    rcases List.mem_cons.1 hi with rfl|hi
    ·exact hon
    ·rw [List.getElem?_take] at hi
     split at hi
     ·rename_i hlt
      obtain ⟨q1,q2,rfl⟩:=List.append_of_mem hon
      have:=ih e.on hlt (p:=q1) (q:=q2) (by omega) hoq.2 i hi
      simp [this]
     ·simp at hi
   ·simp at hi
theorem ord_pairs {Hh:Hints} {ops:List Oper} {asx:List AOper} {B:Nat→Nat→Prop} (hl:asx.length=ops.length)
  (hp:∀ x y,B x y→∀ a b,asx[x]?=some a→asx[y]?=some b→conf Hh x a y b=true→x∈((befs ops [])[y]?).getD []):∀ {acc:List Nat},Ord ops acc→acc.Nodup→(∀ x∈acc,x<ops.length)→acc.Pairwise (fun x y=>okPair Hh asx B y x)
 | [],_,_,_ => .nil
 | x::tl,ho,hn,hlt=>by
   refine List.Pairwise.cons (fun y hy=>?_) (ord_pairs hl hp ho.2 (List.nodup_cons.1 hn).2 (fun z hz=>hlt z (by simp [hz])))
   intro hxy a b ha hb
   cases hc:conf Hh x a y b with
   | false=>rfl
   | true =>
     exfalso
     have hylt:=hlt y (by simp [hy])
     have hmem:=hp x y hxy a b ha hb hc
     obtain ⟨q1,q2,rfl⟩:=List.append_of_mem hy
     have:=befs_ord y (p:=q1) (q:=q2) hylt ho.2 x hmem
     exact (List.nodup_cons.1 hn).1 (by simp [this])
theorem draw_gen {Hh:Hints} {cf:CallF} (hgr:∀ g args h r h',Hh.grow g=true→cf false g args h=some (r,h')→TokExt h h') {ops:Array Oper} {asx:List AOper} {s τ:St} {B:Nat→Nat→Prop} (hne:∀ x,¬ B x x) {base:List Nat} (hB:base.Pairwise B) (hbp:base.Perm (List.range ops.size))
  (hl:asx.length=ops.size) (hE:edgesOk ops.toList 0=true) (hp:∀ x y,B x y→∀ a b,asx[x]?=some a→asx[y]?=some b→conf Hh x a y b=true→x∈((befs ops.toList [])[y]?).getD [])
  (e:foldI cf asx base s=some τ) (t:Nat):foldI cf asx (Region.schedule true ops t) s=some τ:=by
 have hs:Region.schedule true ops t=Region.linearise .any ops t:=by simp [Region.schedule]
 rw [hs]
 obtain ⟨acc,q1,q2,q3,q4,q5⟩:=lin_go hE ops.size t (Array.replicate ops.size false) [] (by simp) (by simp) (by simp) (by simp) (fun i hi=>by simp [Array.getD_eq_getD_getElem?,hi]) trivial
 have hlin:Region.linearise .any ops t=acc.reverse:=q1
 rw [hlin]
 have hperm:acc.Perm (List.range ops.size):=by
  have hmem:∀ i,i∈acc↔i∈List.range ops.size:=fun i=>by
   rw [List.mem_range]
   refine ⟨fun hi=>q4 i hi,fun hi=>Classical.byContradiction fun hc=>?_⟩
   have hn:(i::acc).Nodup:=List.nodup_cons.2 ⟨hc,q3⟩
   have hsub:(i::acc) ⊆ List.range ops.size:=fun x hx=>by
    rcases List.mem_cons.1 hx with rfl|hx
    ·simpa using hi
    ·simpa using q4 x hx
   have:=hn.length_le_of_subset hsub
   simp at this;omega
  rw [List.perm_iff_count]
  intro i
  rw [q3.count,(List.nodup_range (n:=ops.size)).count]
  simp only [hmem i]
 refine foldI_perm hgr hne hB ?_ ?_ e
 ·exact ((List.reverse_perm acc).trans hperm).trans hbp.symm
 ·rw [List.pairwise_reverse]
  exact ord_pairs (by rw [hl];simp) hp q5 q3 (fun x hx=>by simpa using q4 x hx)
theorem draw_ok {Hh:Hints} {cf:CallF} (hgr:∀ g args h r h',Hh.grow g=true→cf false g args h=some (r,h')→TokExt h h') {ops:Array Oper} {asx:List AOper} {s τ:St} (hl:asx.length=ops.size) (hd:drawOk Hh ops.toList asx=true) (e:foldI cf asx (List.range' 0 asx.length) s=some τ) (t:Nat):foldI cf asx (Region.schedule true ops t) s=some τ:=by
 simp only [drawOk,Bool.and_eq_true] at hd
 refine draw_gen hgr (B:=(· < ·)) (fun x=>Nat.lt_irrefl x) (base:=List.range' 0 asx.length) (List.pairwise_lt_range') (by rw [hl,←List.range_eq_range']) hl hd.1 ?_ e t
 intro x y hxy a b ha hb hc
 have hylt:y<asx.length:=(List.getElem?_eq_some_iff.1 hb).1
 have hp:=hd.2
 simp only [pairsOk,List.all_eq_true,List.mem_range] at hp
 have:=hp y hylt x hxy
 rw [ha,hb] at this
 simpa [hc] using this
theorem placeOf_get:∀ {ord:List Nat} {p k:Nat},ord.Nodup→ord[p]?=some k→placeOf ord k=p
 | [],p,k,_,h=>by simp at h
 | x::xs,0,k,_,h=>by simp at h;simp [placeOf,h]
 | x::xs,p+1,k,hn,h=>by
   have h':xs[p]?=some k:=by simpa using h
   have hne:x≠k:=fun e=>by subst e;exact (List.nodup_cons.1 hn).1 (List.mem_of_getElem? h')
   simp [placeOf,hne,placeOf_get (List.nodup_cons.1 hn).2 h']
theorem placeOf_inj:∀ {ord:List Nat} {j p k:Nat},ord[p]?=some k→placeOf ord j=p→j=k
 | [],j,p,k,h,_=>by simp at h
 | x::xs,j,0,k,h,e=>by
   simp at h;subst h
   unfold placeOf at e
   split at e
   ·rename_i hx;exact hx.symm
   ·omega
 | x::xs,j,p+1,k,h,e=>by
   unfold placeOf at e
   split at e
   ·omega
   ·exact placeOf_inj (p:=p) (by simpa using h) (by omega)
theorem execA_map {cf:CallF} {f:Opd→Opd} {ev:Opd→AVal} {op:AOp} {h:Heap}:execA cf (mapOp f op) ev h=execA cf op (fun x=>ev (f x)) h:=by
 cases op<;>simp [mapOp,execA,evalA,Function.comp_def,Option.map_map,List.map_map]
theorem ren_fold {cf:CallF} {asx:List AOper} {ord:List Nat} (hn:ord.Nodup):∀ (p:Nat) (rest:List Nat) (l:List AOper) (s1 s2 s2':St),ord.drop p=rest→renOpers ord asx rest=some l→s1.vs=s2.vs→s1.h=s2.h→s2.ts.length=ord.length→(∀ k,k<s1.ts.length↔k∈ord) →
  (∀ k,evOpd s1.vs s1.ts (.t k)=evOpd s2.vs s2.ts (.t (placeOf ord k)))→foldA cf l p s2=some s2'→∃ s1',foldI cf asx rest s1=some s1'∧s1'.vs=s2'.vs∧s1'.h=s2'.h
 | p,[],l,s1,s2,s2',_,hl,hv,hh,_,_,_,e=>by
   simp [renOpers] at hl;subst hl
   simp [foldA] at e;subst e
   exact ⟨s1,rfl,hv,hh⟩
 | p,k::rest,l,s1,s2,s2',hd,hl,hv,hh,hlen,hmem,hT,e=>by
   simp only [renOpers] at hl
   split at hl
   ·rename_i o r ho hr
    obtain rfl:=Option.some.inj hl
    have hk:ord[p]?=some k:=by
     have:(ord.drop p)[0]?=some k:=by rw [hd];rfl
     simpa using this
    have hpk:=placeOf_get hn hk
    have hplt:p<ord.length:=(List.getElem?_eq_some_iff.1 hk).1
    have hkmem:k∈ord:=List.mem_of_getElem? hk
    have hklt:=(hmem k).2 hkmem
    have hev:(fun x=>evOpd s2.vs s2.ts (renO ord x))=evOpd s1.vs s1.ts:=by
     funext x
     cases x with
     | v i=>simp [renO,evOpd,hv]
     | c x=>rfl
     | t j=>simp only [renO];exact (hT j).symm
    have hwant:wantA (evOpd s2.vs s2.ts) (renOper ord o).guard=wantA (evOpd s1.vs s1.ts) o.guard:=by
     rw [←hev]
     cases hg:o.guard with
     | none=>simp [renOper,hg,wantA]
     | some q=>simp [renOper,hg,wantA]
    have hput:∀ (rr:AVal) (hp:Heap),(s1.put k o.dst rr hp).vs=(s2.put p o.dst rr hp).vs∧(s1.put k o.dst rr hp).h=(s2.put p o.dst rr hp).h∧(s2.put p o.dst rr hp).ts.length=ord.length∧(∀ j,j<(s1.put k o.dst rr hp).ts.length↔j∈ord) ∧
      ∀ j,evOpd (s1.put k o.dst rr hp).vs (s1.put k o.dst rr hp).ts (.t j)=evOpd (s2.put p o.dst rr hp).vs (s2.put p o.dst rr hp).ts (.t (placeOf ord j)):=by
     intro rr hp
     cases o.dst with
     | no=>exact ⟨hv,rfl,hlen,hmem,hT⟩
     | var i=>exact ⟨by simp [St.put,hv],rfl,hlen,hmem,hT⟩
     | tmp =>
       refine ⟨hv,rfl,by simp [St.put,hlen],by simpa [St.put] using hmem,fun j=>?_⟩
       simp only [St.put,evOpd]
       by_cases hj:j=k
       ·subst hj
        rw [hpk,List.getElem?_set_self hklt,List.getElem?_set_self (by rw [hlen];exact hplt)]
       ·have hne:placeOf ord j≠p:=fun e=>hj (placeOf_inj hk e)
        rw [List.getElem?_set_ne (Ne.symm hj),List.getElem?_set_ne (Ne.symm hne)]
        exact hT j
    have hd':ord.drop (p+1)=rest:=by rw [←List.drop_drop,hd];rfl
    simp only [foldA] at e
    split at e
    ·rename_i s2n hs2
     have hstep:∃ s1n,stepA cf o k s1=some s1n∧s1n.vs=s2n.vs∧s1n.h=s2n.h∧s2n.ts.length=ord.length∧(∀ j,j<s1n.ts.length↔j∈ord)∧∀ j,evOpd s1n.vs s1n.ts (.t j)=evOpd s2n.vs s2n.ts (.t (placeOf ord j)):=by
      unfold stepA at hs2 ⊢
      rw [hwant] at hs2
      split at hs2
      ·simp at hs2
      ·rename_i hw
       obtain rfl:=Option.some.inj hs2
       rw [hh]
       exact ⟨_,rfl,hput _ _⟩
      ·rename_i hw
       have hx:execA cf (renOper ord o).op (evOpd s2.vs s2.ts) s2.h=execA cf o.op (evOpd s1.vs s1.ts) s1.h:=by
        rw [←hev,hh];exact execA_map
       rw [hx] at hs2
       split at hs2
       ·rename_i rr hp hex
        obtain rfl:=Option.some.inj hs2
        exact ⟨_,rfl,hput _ _⟩
       ·simp at hs2
     obtain ⟨s1n,q1,q2,q3,q4,q5,q6⟩:=hstep
     obtain ⟨s1',r1,r2,r3⟩:=ren_fold hn (p+1) rest r s1n s2n s2' hd' hr q2 q3 q4 q5 q6 e
     refine ⟨s1',?_,r2,r3⟩
     simp only [foldI,ho,q1]
     exact r1
    ·simp at e
   ·simp at hl
theorem renOpers_len {ord:List Nat} {l:List AOper}:∀ {ks:List Nat} {r:List AOper},renOpers ord l ks=some r→r.length=ks.length
 | [],r,h=>by simp [renOpers] at h;subst h;rfl
 | k::ks,r,h=>by
   simp only [renOpers] at h
   split at h
   ·rename_i o r' _ hr
    obtain rfl:=Option.some.inj h
    simp [renOpers_len hr]
   ·simp at h
theorem pairsOkO_get {Hh:Hints} {bs:List (List Nat)} {asx:List AOper}:∀ {ord:List Nat},pairsOkO Hh bs asx ord=true→ord.Pairwise fun x y=>∀ a b,asx[x]?=some a→asx[y]?=some b→conf Hh x a y b=true→x∈(bs[y]?).getD []
 | [],_ => .nil
 | i::rest,h=>by
   simp only [pairsOkO,Bool.and_eq_true,List.all_eq_true] at h
   refine List.Pairwise.cons (fun y hy a b ha hb hc=>?_) (pairsOkO_get h.2)
   have:=h.1 y hy
   rw [ha,hb] at this
   simpa [hc] using this
def Before (l:List Nat) (i j:Nat):Prop:=∃ p q:Nat,p<q∧l[p]?=some i∧l[q]?=some j
theorem Before.irrefl {l:List Nat} (hn:l.Nodup) (x:Nat):¬ Before l x x:=by
 rintro ⟨p,q,hpq,h1,h2⟩
 have:=(List.getElem?_inj (List.getElem?_eq_some_iff.1 h1).1 hn).1 (h1.trans h2.symm)
 omega
theorem Before.asymm {l:List Nat} (hn:l.Nodup) {x y:Nat} (a:Before l x y) (b:Before l y x):False:=by
 obtain ⟨p,q,hpq,h1,h2⟩:=a
 obtain ⟨p',q',hpq',h1',h2'⟩:=b
 have e1:=(List.getElem?_inj (List.getElem?_eq_some_iff.1 h1).1 hn).1 (h1.trans h2'.symm)
 have e2:=(List.getElem?_inj (List.getElem?_eq_some_iff.1 h2).1 hn).1 (h2.trans h1'.symm)
 omega
theorem before_total {l:List Nat} {x y:Nat} (hx:x∈l) (hy:y∈l) (hne:x≠y):Before l x y∨Before l y x:=by
 obtain ⟨p,hp⟩:=List.getElem?_of_mem hx
 obtain ⟨q,hq⟩:=List.getElem?_of_mem hy
 rcases Nat.lt_trichotomy p q with h|h|h
 ·exact .inl ⟨p,q,h,hp,hq⟩
 ·subst h;rw [hp] at hq;exact absurd (Option.some.inj hq) hne
 ·exact .inr ⟨q,p,h,hq,hp⟩
theorem reqs_get {H:Hints} {bs:List (List Nat)} {asx:List AOper}:∀ {l:List Nat} {i j:Nat} {a b:AOper},Before l i j→asx[i]?=some a→asx[j]?=some b→conf H i a j b=true→i∈((bs[j]?).getD [])∨(i,j)∈reqs H bs asx l
 | [],i,j,a,b,hB,_,_,_=>by obtain ⟨p,q,_,h,_⟩:=hB;simp at h
 | x::l,i,j,a,b,hB,ha,hb,hc=>by
   obtain ⟨p,q,hpq,h1,h2⟩:=hB
   cases p with
   | zero =>
     simp at h1;subst h1
     by_cases hm:x∈((bs[j]?).getD [])
     ·exact .inl hm
     ·refine .inr ?_
      simp only [reqs,List.mem_append,List.mem_map,List.mem_filter]
      refine .inl ⟨j,⟨?_,?_⟩,rfl⟩
      ·cases q with
       | zero=>omega
       | succ q=>exact List.mem_of_getElem? (by simpa using h2)
      ·rw [ha,hb];simp [hc,hm]
   | succ p =>
     cases q with
     | zero=>omega
     | succ q =>
       rcases reqs_get ⟨p,q,by omega,by simpa using h1,by simpa using h2⟩ ha hb hc with h|h
       ·exact .inl h
       ·exact .inr (by simp only [reqs,List.mem_append];exact .inr h)
theorem allAssign_get {τ:List Nat} {k:List (Nat×Nat)→Bool}:∀ {ps acc:List (Nat×Nat)},(∀ p∈ps,p.1∈τ∧p.2∈τ∧p.1≠p.2)→(∀ p∈acc,Before τ p.1 p.2)→allAssign ps acc k=true→∃ os,(∀ p∈os,Before τ p.1 p.2)∧k os=true
 | [],acc,_,ha,h=>⟨acc,ha,h⟩
 | (i,j)::ps,acc,hp,ha,h=>by
   simp only [allAssign,Bool.and_eq_true] at h
   obtain ⟨h1,h2,h3⟩:=hp (i,j) (by simp)
   have hp':∀ p∈ps,p.1∈τ∧p.2∈τ∧p.1≠p.2:=fun p hq=>hp p (by simp [hq])
   rcases before_total h1 h2 h3 with hb|hb
   ·exact allAssign_get hp' (fun p hq=>by
     rcases List.mem_cons.1 hq with rfl|hq
     ·exact hb
     ·exact ha p hq) h.1
   ·exact allAssign_get hp' (fun p hq=>by
     rcases List.mem_cons.1 hq with rfl|hq
     ·exact hb
     ·exact ha p hq) h.2
theorem permOk_perm {ord:List Nat} {n:Nat} (h:permOk ord n=true):ord.Nodup∧ord.Perm (List.range n):=by
 simp only [permOk,Bool.and_eq_true,decide_eq_true_eq] at h
 obtain ⟨⟨ho1,ho2⟩,ho3⟩:=h
 have hsub:List.range n ⊆ ord:=fun k hk=>by
  have:=List.all_eq_true.1 ho2 k hk
  simpa using this
 have hmem:∀ k,k∈ord↔k<n:=by
  intro k
  constructor
  ·intro hk
   refine Classical.byContradiction fun hc=>?_
   have hn:(k::List.range n).Nodup:=List.nodup_cons.2 ⟨by simpa using hc,List.nodup_range⟩
   have:=hn.length_le_of_subset (fun x hx=>by
    rcases List.mem_cons.1 hx with rfl|hx
    ·exact hk
    ·exact hsub hx)
   simp only [List.length_cons,List.length_range] at this
   omega
  ·intro hk;exact hsub (by simpa using hk)
 refine ⟨ho3,?_⟩
 rw [List.perm_iff_count]
 intro i
 rw [ho3.count,(List.nodup_range (n:=n)).count]
 simp only [hmem i,List.mem_range]
theorem Before.trans {l:List Nat} (hn:l.Nodup) {x y z:Nat} (a:Before l x y) (b:Before l y z):Before l x z:=by
 obtain ⟨p,q,h1,h2,h3⟩:=a
 obtain ⟨p',q',k1,k2,k3⟩:=b
 have:q=p':=(List.getElem?_inj (List.getElem?_eq_some_iff.1 h3).1 hn).1 (h3.trans k2.symm)
 exact ⟨p,q',by omega,h2,k3⟩
theorem before_befs {ops:List Oper} {acc:List Nat} (ho:Ord ops acc) (hlt:∀ x∈acc,x<ops.length) {x z:Nat} (hz:z∈acc) (hx:x∈((befs ops [])[z]?).getD []):Before acc.reverse x z:=by
 obtain ⟨p,q,rfl⟩:=List.append_of_mem hz
 have hq:=befs_ord z (hlt z (by simp)) ho x hx
 obtain ⟨q1,q2,rfl⟩:=List.append_of_mem hq
 refine ⟨q2.length,q2.length+1+q1.length,by omega,?_,?_⟩
 ·simp
 ·have e:(p++z::(q1++x::q2)).reverse=(q2.reverse++x::q1.reverse)++(z::p.reverse):=by simp
  rw [e,List.getElem?_append_right (by simp;omega)]
  have:q2.length+1+q1.length - (q2.reverse++x::q1.reverse).length=0:=by simp;omega
  rw [this];rfl
theorem draw_reps {Hh:Hints} {cf:CallF} (hgr:∀ g args h r h',Hh.grow g=true→cf false g args h=some (r,h')→TokExt h h') {ops:Array Oper} {asx:List AOper} {s:St} {pairs:List (Nat×Nat)} {reps:List (List Nat)} (hl:asx.length=ops.size) (hr:repsOk Hh ops.toList asx pairs reps=true) (t:Nat) :
  ∃ r∈reps,∀ τ,foldI cf asx r s=some τ→foldI cf asx (Region.schedule true ops t) s=some τ:=by
 simp only [repsOk,Bool.and_eq_true,List.all_eq_true,decide_eq_true_eq] at hr
 obtain ⟨⟨⟨hE,hpairs⟩,hperm⟩,hall⟩:=hr
 have hs:Region.schedule true ops t=Region.linearise .any ops t:=by simp [Region.schedule]
 obtain ⟨acc,q1,q2,q3,q4,q5⟩:=lin_go hE ops.size t (Array.replicate ops.size false) [] (by simp) (by simp) (by simp) (by simp) (fun i hi=>by simp [Array.getD_eq_getD_getElem?,hi]) trivial
 have hlin:Region.linearise .any ops t=acc.reverse:=q1
 have hmem:∀ i,i∈acc↔i<ops.size:=fun i=>by
  refine ⟨fun hi=>q4 i hi,fun hi=>Classical.byContradiction fun hc=>?_⟩
  have hn:(i::acc).Nodup:=List.nodup_cons.2 ⟨hc,q3⟩
  have hsub:(i::acc) ⊆ List.range ops.size:=fun x hx=>by
   rcases List.mem_cons.1 hx with rfl|hx
   ·simpa using hi
   ·simpa using q4 x hx
  have:=hn.length_le_of_subset hsub
  simp at this;omega
 have hpermA:acc.Perm (List.range ops.size):=by
  rw [List.perm_iff_count]
  intro i
  rw [q3.count,(List.nodup_range (n:=ops.size)).count]
  simp only [hmem i,List.mem_range]
 have hnr:acc.reverse.Nodup:=((List.reverse_perm acc).nodup_iff).2 q3
 obtain ⟨os,ho1,ho2⟩:=allAssign_get (τ:=acc.reverse) (fun p hp=>by
  obtain ⟨⟨h1,h2⟩,h3⟩:=hpairs p hp
  exact ⟨by rw [List.mem_reverse,hmem];omega,by rw [List.mem_reverse,hmem];omega,h3⟩) (by simp) hall
 have hz:∀ e∈os,e.1∈acc:=fun e he=>by
  obtain ⟨pp,_,_,h3,_⟩:=ho1 e he
  simpa using List.mem_of_getElem? h3
 rw [Bool.or_eq_true] at ho2
 rcases ho2 with ho2|ho2
 ·exfalso
  simp only [List.any_eq_true,Bool.and_eq_true,Bool.or_eq_true,beq_iff_eq] at ho2
  obtain ⟨⟨i,j⟩,he,⟨j',k⟩,hf,h1,h2⟩:=ho2
  simp only at h1 h2
  subst h1
  have b2:=Before.trans hnr (ho1 _ he) (ho1 _ hf)
  rcases h2 with (h2|rfl)|⟨⟨k',l⟩,hg,rfl,h2⟩
  ·exact Before.asymm hnr b2 (before_befs q5 (fun x hx=>by simpa using q4 x hx) (hz _ he) (by simpa using h2))
  ·exact Before.irrefl hnr _ b2
  ·have b3:=Before.trans hnr b2 (ho1 _ hg)
   rcases h2 with h2|rfl
   ·exact Before.asymm hnr b3 (before_befs q5 (fun x hx=>by simpa using q4 x hx) (hz _ he) (by simpa using h2))
   ·exact Before.irrefl hnr _ b3
 simp only [List.any_eq_true,List.mem_map,List.all_eq_true] at ho2
 obtain ⟨_,⟨r,hr1,rfl⟩,hr2⟩:=ho2
 refine ⟨r,hr1,fun τ e=>?_⟩
 obtain ⟨hrn,hrp⟩:=permOk_perm (hperm r hr1)
 rw [hs,hlin]
 have hBr:r.Pairwise (Before r):=by
  rw [List.pairwise_iff_getElem]
  intro i j hi hj hij
  exact ⟨i,j,hij,List.getElem?_eq_getElem hi,List.getElem?_eq_getElem hj⟩
 refine foldI_perm hgr (Before.irrefl hrn) hBr ?_ ?_ e
 ·exact ((List.reverse_perm acc).trans hpermA).trans (by rw [←hl];exact hrp.symm)
 ·have key:=ord_pairs (Hh:=Hh) (asx:=asx) (B:=fun x y=>Before r x y∧¬ Before acc.reverse x y) (by rw [hl];simp) (fun x y hxy a b ha hb hc=>by
   rcases reqs_get (bs:=befs ops.toList []) hxy.1 ha hb hc with h|h
   ·exact h
   ·have h0:=hr2 _ h
    simp only [Bool.or_eq_true,List.any_eq_true,Bool.and_eq_true,beq_iff_eq] at h0
    rcases h0 with h0|⟨e,he,h1,h2⟩
    ·exact absurd (ho1 (x,y) (by simpa using h0)) hxy.2
    ·obtain ⟨e1,e2⟩:=e
     simp only at h1 h2
     subst h1
     have hb:=ho1 _ he
     have hz:e1∈acc:=by
      obtain ⟨pp,_,_,h3,_⟩:=hb
      simpa using List.mem_of_getElem? h3
     exact absurd (Before.trans hnr (before_befs q5 (fun x hx=>by simpa using q4 x hx) hz (by simpa using h2)) hb) hxy.2) q5 q3 (fun x hx=>by simpa using q4 x hx)
  rw [List.pairwise_reverse]
  have hidx:=List.pairwise_iff_getElem.1 key
  rw [List.pairwise_iff_getElem]
  intro i j hi hj hij hB a b ha hb
  -- acc[i] was taken after acc[j]
  refine hidx i j hi hj hij ⟨hB,fun hc=>?_⟩ a b ha hb
  refine Before.asymm hnr hc ⟨acc.length - 1 - j,acc.length - 1 - i,by omega,?_,?_⟩
  ·rw [List.getElem?_reverse (by omega),show acc.length - 1 - (acc.length - 1 - j)=j by omega];exact List.getElem?_eq_getElem hj
  ·rw [List.getElem?_reverse (by omega),show acc.length - 1 - (acc.length - 1 - i)=i by omega];exact List.getElem?_eq_getElem hi
end Go.Abs

namespace Go.Abs
theorem AVal.renL_map (p:Nat→Nat):∀ xs:List AVal,AVal.renL p xs=xs.map (AVal.ren p)
 | []=>rfl
 | x::xs=>by simp only [AVal.renL,List.map_cons,AVal.renL_map p xs]
theorem AVal.ren_one (p:Nat→Nat) (x:AVal):(x.ren p).one=x.one:=by cases x<;>rfl
theorem AVal.ren_cells (p:Nat→Nat) (x:AVal):(x.ren p).cells=AVal.renL p x.cells:=by cases x<;>rfl
theorem isSK_ren (p:Nat→Nat) (k:SK) (x:AVal):isSK k (x.ren p)=isSK k x:=by cases x<;>cases k<;>rfl
theorem isSKs_ren (p:Nat→Nat):∀ (ks:List SK) (xs:List AVal),isSKs ks (AVal.renL p xs)=isSKs ks xs
 | [],[]=>rfl
 | [],_::_=>rfl
 | _::_,[]=>rfl
 | k::ks,x::xs=>by simp only [AVal.renL,isSKs,isSK_ren,isSKs_ren p ks xs]
theorem isKey_ren (p:Nat→Nat) (kd:KD) (x:AVal):isKey kd (x.ren p)=isKey kd x:=by
 cases x<;>cases kd<;>simp only [AVal.ren,isKey,isSKs_ren]
theorem plain_ren (p:Nat→Nat) (x:AVal):plain (x.ren p)=plain x:=by
 unfold plain
 rw [AVal.ren_cells,AVal.renL_map,List.all_map]
 congr 1
 funext y
 exact AVal.ren_one p y
def Ghost.ren (G:Ghost) (p:Nat→Nat):Ghost:={ G with loc:=fun i=>G.loc (p i),tip:=fun i=>G.tip (p i) }
theorem VRel.ren_to {w:World} {G:Ghost} {p:Nat→Nat} (hp:∀ i,p i<G.n→i<G.n) {v:Value} {a':AVal} (r:VRel w G v a'):∀ a,a'=AVal.ren p a→VRel w (G.ren p) v a:=by
 have hst:∀ b k,stab G b k→stab (G.ren p) b k:=fun _ _ h=>h
 have hget:∀ {xs:List AVal} {k:Nat} {c:AVal},xs[k]?=some c→(AVal.renL p xs)[k]?=some (c.ren p):=fun h=>by rw [AVal.renL_map,List.getElem?_map,h];rfl
 have hlen:∀ xs:List AVal,(AVal.renL p xs).length=xs.length:=fun xs=>by rw [AVal.renL_map,List.length_map]
 induction r with
 | bool b=>intro a e;cases a<;>simp [AVal.ren] at e;subst e;exact .bool _
 | int k n=>intro a e;cases a<;>simp [AVal.ren] at e;obtain ⟨rfl,rfl⟩:=e;exact .int _ _
 | str s=>intro a e;cases a<;>simp [AVal.ren] at e;subst e;exact .str _
 | nilptr=>intro a e;cases a<;>simp [AVal.ren] at e;exact .nilptr
 | ptr id off hid =>
   intro a e;cases a<;>simp [AVal.ren] at e
   obtain ⟨rfl,rfl⟩:=e
   exact .ptr (G:=G.ren p) _ _ (hp _ hid)
 | rp b off cs u h1 h2 h3 h4 ih =>
   intro a e;cases a<;>simp [AVal.ren] at e
   rename_i cs'
   subst e
   refine .rp b off cs' u (fun k c hk=>h1 k _ (hget hk)) (fun k c hk=>ih k _ (hget hk) c rfl) (fun k hk=>hst _ _ (h3 k (by rw [hlen];exact hk))) (fun c hc=>?_)
   obtain ⟨k,hk⟩:=mem_get hc
   rw [←AVal.ren_one p]
   exact h4 _ (List.mem_of_getElem? (hget hk))
 | nilsl t ht =>
   intro a e;cases a<;>simp [AVal.ren] at e
   rename_i xs t'
   obtain ⟨rfl,e⟩:=e
   refine .nilsl t' ?_
   cases t'<;>simp [Tok.ren] at e<;>subst e<;>simp at ht ⊢
 | emp ad t ht =>
   intro a e;cases a<;>simp [AVal.ren] at e
   rename_i xs t'
   obtain ⟨rfl,e⟩:=e
   refine .emp ad t' ?_
   cases t'<;>simp [Tok.ren] at e<;>subst e<;>simp at ht ⊢
 | sl b off cap sz xs t u h0 h1 h2 h3 h4 h5 hc hn ho ih =>
   intro a e;cases a<;>simp [AVal.ren] at e
   rename_i xs' t'
   obtain ⟨rfl,e⟩:=e
   refine .sl b off cap sz _ t' u h0 h1 (fun k c hk=>(h2 k c hk).strip_to hst (h5 c (List.mem_of_getElem? hk))) (fun k hk=>hst _ _ (h3 k hk)) h4 h5 hc ?_ (fun id s hs=>?_)
   ·cases t'<;>simp [Tok.ren] at e<;>subst e<;>first|exact hn|simp at hn ⊢
   ·subst hs
    obtain ⟨q1,q2,q3,q4,q5,q6⟩:=ho (p id) s e
    exact ⟨q1,q2,hp _ q3,q4,q5,q6⟩
 | ref id off len sz cap hid hc hs =>
   intro a e;cases a<;>simp [AVal.ren] at e
   obtain ⟨rfl,rfl,rfl,rfl⟩:=e
   exact .ref (G:=G.ren p) _ _ _ _ cap (hp _ hid) hc hs
 | ref0 id off sz b bo hid =>
   intro a e;cases a<;>simp [AVal.ren] at e
   obtain ⟨rfl,rfl,rfl,rfl⟩:=e
   exact .ref0 (G:=G.ren p) _ _ _ b bo (hp _ hid)
 | fn f cs asx hl _ ih =>
   intro a e;cases a<;>simp [AVal.ren] at e
   obtain ⟨rfl,rfl⟩:=e
   exact .fn _ cs _ (by rw [hl,hlen]) fun k c x hc hx=>ih k c _ hc (hget hx) x rfl
 | nilfn=>intro a e;cases a<;>simp [AVal.ren] at e;exact .nilfn
 | nilif=>intro a e;cases a<;>simp [AVal.ren] at e;exact .nilif
 | mp id hid =>
   intro a e;cases a<;>simp [AVal.ren] at e
   subst e
   exact .mp (G:=G.ren p) _ (hp _ hid)
 | nilmp=>intro a e;cases a<;>simp [AVal.ren] at e;exact .nilmp
 | yld id hid =>
   intro a e;cases a<;>simp [AVal.ren] at e
   subst e
   exact .yld (G:=G.ren p) _ (hp _ hid)
 | agg cs asx hl _ h4 ih =>
   intro a e;cases a<;>simp [AVal.ren] at e
   rename_i asx'
   subst e
   refine .agg cs _ (by rw [hl,hlen]) (fun k c x hc hx=>ih k c _ hc (hget hx) x rfl) (fun c hc=>?_)
   obtain ⟨k,hk⟩:=mem_get hc
   rw [←AVal.ren_one p]
   exact h4 _ (List.mem_of_getElem? (hget hk))
 | tup cs asx hl _ ih =>
   intro a e;cases a<;>simp [AVal.ren] at e
   subst e
   exact .tup cs _ (by rw [hl,hlen]) fun k c x hc hx=>ih k c _ hc (hget hx) x rfl
 | bad v=>intro a e;cases a<;>simp [AVal.ren] at e;exact .bad _
theorem OkObj.ren_to {w:World} {G:Ghost} {p:Nat→Nat} (hp:∀ i,p i<G.n→i<G.n) {id:Nat} {o:Obj} (r:OkObj w G (p id) (o.ren p)):OkObj w (G.ren p) id o:=by
 have hget:∀ {xs:List AVal} {k:Nat} {c:AVal},xs[k]?=some c→(AVal.renL p xs)[k]?=some (c.ren p):=fun h=>by rw [AVal.renL_map,List.getElem?_map,h];rfl
 cases o with
 | row mu sz ag cs =>
   obtain ⟨h1,h2,h3,h4,h5⟩:=r
   refine ⟨h1,fun k c hk=>?_,fun c hc=>?_,?_,h5⟩
   ·obtain ⟨u,hu,hv⟩:=h2 k _ (hget hk)
    exact ⟨u,hu,hv.ren_to hp c rfl⟩
   ·obtain ⟨k,hk⟩:=mem_get hc
    rw [←AVal.ren_one p]
    exact h3 _ (List.mem_of_getElem? (hget hk))
   ·rw [AVal.renL_map,List.length_map] at h4
    exact h4
 | tok ty=>exact r
 | map kd clock es =>
   obtain ⟨entries,h1,h2,h3,h4,h5⟩:=r
   refine ⟨entries,h1,by simpa using h2,fun k e x he hx=>?_,fun x hx=>?_,h5⟩
   ·obtain ⟨q1,q2,q3⟩:=h3 k e (x.1,x.2.1.ren p,x.2.2.ren p) he (by rw [List.getElem?_map,hx];rfl)
    exact ⟨q1,q2.ren_to hp _ rfl,q3.ren_to hp _ rfl⟩
   ·have:=h4 (x.1,x.2.1.ren p,x.2.2.ren p) (List.mem_map.2 ⟨x,hx,rfl⟩)
    rwa [isKey_ren,plain_ren] at this
 | lrec st fid k slots vs =>
   obtain ⟨lr,nt,h1,h3,h4,h5,h6,h7⟩:=r
   exact ⟨lr,nt,h1,h3,h4,by rw [AVal.renL_map,List.length_map] at h5;exact h5,fun i s x q1 q2=>(h6 i s _ q1 (hget q2)).ren_to hp x rfl,h7⟩
 | iter m since seen last =>
   obtain ⟨h1,h2⟩:=r
   refine ⟨?_,fun i hi=>?_⟩
   ·show w.heap[G.loc (p id)]?=some (.mapIter (m.map fun i=>G.loc (p i)) since seen.toArray last)
    rw [h1,Option.map_map];rfl
   ·subst hi
    exact hp _ (h2 (p i) rfl)
structure RenOk (p:Nat→Nat) (lo:Nat) (h0 h:Heap):Prop where
 next:h.next=h0.next
 old:∀ i,i<lo→p i=i
 back:∀ i,p i<h0.next→i<h0.next
 inj:∀ i j,i<h0.next→j<h0.next→p i=p j→i=j
 get:∀ i o,h0.get i=some o→h.get (p i)=some (o.ren p)
theorem HRel.ren_to {w:World} {G:Ghost} {p:Nat→Nat} {lo:Nat} {h0 h:Heap} (H:HRel w G h) (R:RenOk p lo h0 h):HRel w (G.ren p) h0 where
 n_eq:=H.n_eq.trans R.next
 lt:=fun id o ho=>H.lt (p id) _ (R.get id o ho)
 obj:=fun id o ho=>OkObj.ren_to (fun i hi=>by rw [H.n_eq,R.next] at hi ⊢;exact R.back i hi) (H.obj (p id) _ (R.get id o ho))
 inj:=fun i j oi oj hi hj e=>R.inj i j (Heap.get_lt hi) (Heap.get_lt hj) (H.inj (p i) (p j) _ _ (R.get i oi hi) (R.get j oj hj) e)
 glob:=fun g cs hg=>by
  obtain ⟨q1,q2⟩:=H.glob g cs hg
  refine ⟨?_,q2⟩
  cases q1 with
  | rp b off _ u h1 h2 h3 h4=>exact .rp g 0 cs u h1 (fun k c hk=>VRel.strip_to (G:=G) (G2:=G.ren p) (fun _ _ h=>h) (h2 k c hk) (q2 c (List.mem_of_getElem? hk))) h3 h4
theorem Ext.ren_to {w w':World} {G G':Ghost} {p:Nat→Nat} {h0 h hh:Heap} (hn:G.n=hh.next) (R:RenOk p hh.next h0 h) (x:Ext w G hh w' G' h):Ext w G hh w' (G'.ren p) h0 where
 os:=x.os
 tape:=x.tape
 out:=x.out
 size:=x.size
 keep:=x.keep
 stable:=x.stable
 shape:=x.shape
 n_le:=x.n_le
 ids:=fun id hid=>by
  have e:=R.old id (by rw [←hn];exact hid)
  show G'.loc (p id)=G.loc id∧G'.tip (p id)=G.tip id
  rw [e]
  exact x.ids id hid
 fresh:=fun b hb ⟨id,o,ho,hl⟩=>x.fresh b hb ⟨p id,_,R.get id o ho,hl⟩
 env:=x.env
 loops:=x.loops
theorem foldN_fold {cf:CallF}:∀ {l:List AOper} {k:Nat} {s t:St} {ns:List Nat},foldN cf l k s=some (t,ns)→foldA cf l k s=some t
 | [],k,s,t,ns,e=>by simp [foldN] at e;simp [foldA,e.1]
 | o::l,k,s,t,ns,e=>by
   simp only [foldN,foldA] at e ⊢
   split at e
   ·rename_i s1 hs
    split at e
    ·rename_i t' ns' ht
     simp only [Option.some.injEq,Prod.mk.injEq] at e
     rw [foldN_fold ht,e.1]
    ·simp at e
   ·simp at e
theorem sameRen_ok {lo:Nat} {bs:List (Nat×Nat×Nat)} {s0 s:St} (e:sameRen lo bs s0 s=true):∃ p,RenOk p lo s0.h s.h∧s.vs=AVal.renL p s0.vs:=by
 simp only [sameRen,Bool.and_eq_true,beq_iff_eq,decide_eq_true_eq,List.all_eq_true,List.mem_range] at e
 obtain ⟨⟨⟨⟨e1,e2⟩,e3⟩,e4⟩,e5⟩:=e
 generalize hp:mapP lo s0.h.next bs=p at e3 e4 e5
 have pold:∀ i,i<lo→p i=i:=fun i hi=>by rw [←hp,mapP,if_neg (by omega)]
 have pbig:∀ i,s0.h.next≤i→p i=i:=fun i hi=>by rw [←hp,mapP,if_neg (by omega)]
 have pnew:∀ i,lo≤i→i<s0.h.next→lo≤p i∧p i<s0.h.next∧mapB (bs.map fun b=>(b.2.1,b.1,b.2.2)) (p i)=i∧s.h.get (p i)=(s0.h.get i).map (Obj.ren p):=fun i h1 h2=>by
  have:=e5 (i - lo) (by omega)
  rw [show lo+(i - lo)=i by omega] at this
  exact ⟨this.1.1.1,this.1.1.2,this.1.2,beqO_eq this.2⟩
 refine ⟨p,⟨e1,pold,fun i hi=>?_,fun i j hi hj h=>?_,fun i o ho=>?_⟩,(AVal.beqL_eq _ _ e3).symm⟩
 ·rcases Nat.lt_or_ge i s0.h.next with h|h
  ·exact h
  ·rw [pbig i h] at hi;omega
 ·by_cases h1:lo≤i<;>by_cases h2:lo≤j
  ·rw [←(pnew i h1 hi).2.2.1,←(pnew j h2 hj).2.2.1,h]
  ·rw [pold j (by omega)] at h;have:=(pnew i h1 hi).1;omega
  ·rw [pold i (by omega)] at h;have:=(pnew j h2 hj).1;omega
  ·rwa [pold i (by omega),pold j (by omega)] at h
 ·have hlt:=Heap.get_lt ho
  by_cases h1:lo≤i
  ·rw [(pnew i h1 hlt).2.2.2,ho];rfl
  ·rw [pold i (by omega)]
   have q:=beqO_eq (e4 i (by omega))
   rw [q,ho];rfl
theorem altpC_ok {cf:CallF} {vs:List AVal} {h:Heap} {r0 n0:List Nat} {s0:St}:∀ {rs:List (List Nat)} {ls:List (List AOper)},altpC cf vs h r0 n0 s0 rs ls=true→∀ l∈ls,∃ s,foldA cf l 0 ⟨vs,List.replicate l.length .bad,h⟩=some s∧∃ p,RenOk p h.next s0.h s.h∧s.vs=AVal.renL p s0.vs
 | [],[],_,l,hl=>by simp at hl
 | [],_::_,e,_,_=>by simp [altpC] at e
 | _::_,[],e,_,hl=>by simp at hl
 | r::rs,l::ls,e,x,hx=>by
   simp only [altpC] at e
   split at e
   ·simp at e
   ·rename_i s n hs
    simp only [Bool.and_eq_true] at e
    rcases List.mem_cons.1 hx with rfl|hx
    ·exact ⟨s,foldN_fold hs,sameRen_ok e.1⟩
    ·exact altpC_ok e.2 x hx
theorem AVal.renL_id:∀ xs:List AVal,AVal.renL (fun i=>i) xs=xs:=by
 have key:∀ x:AVal,AVal.ren (fun i=>i) x=x:=by
  intro x
  refine AVal.rec (motive_1:=fun x=>AVal.ren (fun i=>i) x=x) (motive_2:=fun xs=>AVal.renL (fun i=>i) xs=xs) ?_ ?_ ?_ ?_ ?_ ?_ ?_ ?_ ?_ ?_ ?_ ?_ ?_ ?_ ?_ ?_ ?_ ?_ ?_ x<;>intros<;>simp_all [AVal.ren,AVal.renL]
  rename_i t _
  cases t<;>rfl
 intro xs
 rw [AVal.renL_map]
 conv=>rhs;rw [←List.map_id xs]
 exact List.map_congr_left fun x _=>key x
theorem Obj.ren_id (o:Obj):o.ren (fun i=>i)=o:=by
 cases o with
 | row mu sz ag cs=>simp [Obj.ren,AVal.renL_id]
 | tok ty=>rfl
 | map kd clock es =>
   simp only [Obj.ren,Obj.map.injEq,true_and]
   conv=>rhs;rw [←List.map_id es]
   refine List.map_congr_left fun e _=>?_
   have h1:=AVal.renL_id [e.2.1,e.2.2]
   simp only [AVal.renL,List.cons.injEq,and_true] at h1
   rw [h1.1,h1.2];rfl
 | lrec st fid k slots vs=>simp [Obj.ren,AVal.renL_id]
 | iter m since seen last=>cases m<;>rfl
theorem altpA_ok {cf:CallF} {vs:List AVal} {h:Heap} {r:List AVal×Heap}:∀ {rs:List (List Nat)} {ls:List (List AOper)},altpA cf vs h rs ls=some r→∀ l∈ls,∃ s,foldA cf l 0 ⟨vs,List.replicate l.length .bad,h⟩=some s∧∃ p,RenOk p h.next r.2 s.h∧s.vs=AVal.renL p r.1
 | [],_,e=>by simp [altpA] at e
 | _::_,[],e=>by simp [altpA] at e
 | r0::rs,l0::ls,e=>by
   simp only [altpA] at e
   split at e
   ·simp at e
   ·rename_i s0 n0 hs
    split at e
    ·rename_i hc
     simp only [Option.some.injEq] at e
     subst e
     intro x hx
     rcases List.mem_cons.1 hx with rfl|hx
     ·exact ⟨s0,foldN_fold hs,fun i=>i,⟨rfl,fun _ _=>rfl,fun _ h=>h,fun _ _ _ _ h=>h,fun i o ho=>by rw [Obj.ren_id];exact ho⟩,(AVal.renL_id _).symm⟩
     ·exact altpC_ok hc x hx
    ·simp at e
end Go.Abs

namespace Go.Abs
theorem look_go:∀ {l:List Nat} {t i k:Nat},look.go l t k=some i→k≤i∧l[i - k]?=some t
 | [],t,i,k,h=>by simp [look.go] at h
 | x::l,t,i,k,h=>by
   simp only [look.go] at h
   split at h
   ·rename_i e;obtain rfl:=Option.some.inj h;subst e;simp
   ·obtain ⟨h1,h2⟩:=look_go h
    refine ⟨by omega,?_⟩
    rw [show i - k=(i - (k+1))+1 by omega,List.getElem?_cons_succ];exact h2
theorem look_some {l:List Nat} {t i:Nat} (h:look l t=some i):l[i]?=some t:=by
 have:=look_go h;simpa using this.2
theorem look_go_none:∀ {l:List Nat} {t k:Nat},look.go l t k=none→t∉l
 | [],t,k,_=>by simp
 | x::l,t,k,h=>by
   simp only [look.go] at h
   split at h
   ·simp at h
   ·rename_i e
    have:=look_go_none h
    simp only [List.mem_cons,not_or];exact ⟨fun q=>e q.symm,this⟩
theorem lookT_go:∀ {l:List Oper} {k t j i:Nat} {r:Option Nat},lookT.go k t l i r=some j→(r=some j)∨(i≤j∧j<k∧∃ o,l[j - i]?=some o∧o.dst=some t)
 | [],k,t,j,i,r,h=>by simp [lookT.go] at h;exact .inl h
 | o::l,k,t,j,i,r,h=>by
   simp only [lookT.go] at h
   split at h
   ·rename_i hik
    rcases lookT_go h with h'|⟨h1,h2,o',h3,h4⟩
    ·split at h'
     ·rename_i hd
      obtain rfl:=Option.some.inj h'
      exact .inr ⟨Nat.le_refl _,hik,o,by simp,hd⟩
     ·exact .inl h'
    ·refine .inr ⟨by omega,h2,o',?_,h4⟩
     rw [show j - i=(j - (i+1))+1 by omega,List.getElem?_cons_succ];exact h3
   ·exact .inl h
theorem lookT_some {ops:List Oper} {k t j:Nat} (h:lookT ops k t=some j):j<k∧∃ o,ops[j]?=some o∧o.dst=some t:=by
 rcases lookT_go h with h'|⟨_,h2,o,h3,h4⟩
 ·simp at h'
 ·exact ⟨h2,o,by simpa using h3,h4⟩
structure FRel (w:World) (G:Ghost) (tmps:Array Value) (slots:List Nat) (vs:List AVal):Prop where
 len:vs.length=slots.length
 rel:∀ (i s:Nat) (x:AVal),slots[i]?=some s→vs[i]?=some x→VRel w G (tmps.getD s undef) x
structure TRel (w:World) (G:Ghost) (tmps:Array Value) (slots:List Nat) (ops:List Oper) (ts:List AVal):Prop where
 len:ts.length=ops.length
 rel:∀ (k t:Nat) (o:Oper) (x:AVal),ops[k]?=some o→o.dst=some t→look slots t=none→ts[k]?=some x→VRel w G (tmps.getD t undef) x
theorem FRel.mono {w G h w' G' h'} (x:Ext w G h w' G' h') {tmps:Array Value} {slots:List Nat} {vs:List AVal} (r:FRel w G tmps slots vs):FRel w' G' tmps slots vs:=⟨r.len,fun i s y h1 h2=>(r.rel i s y h1 h2).mono x⟩
theorem TRel.mono {w G h w' G' h'} (x:Ext w G h w' G' h') {tmps:Array Value} {slots:List Nat} {ops:List Oper} {ts:List AVal} (r:TRel w G tmps slots ops ts):TRel w' G' tmps slots ops ts:=⟨r.len,fun i s o y h1 h2 h3 h4=>(r.rel i s o y h1 h2 h3 h4).mono x⟩
theorem operand_ok {w:World} {G:Ghost} {a:Act} {glob:Nat→Option (List AVal)} (hG:∀ g cs,glob g=some cs→VRel w G (.pointer (some ⟨g,0,none⟩)) (.rp cs)) {slots:List Nat} {ops:List Oper} {k:Nat} {vs ts:List AVal} (F:FRel w G a.tmps slots vs) (T:TRel w G a.tmps slots ops ts):Ops a w G (compOpd glob slots ops k) (evOpd vs ts):=by
 intro x y e
 cases x with
 | tmp t =>
   simp only [compOpd] at e
   split at e
   ·rename_i i hi
    obtain rfl:=Option.some.inj e
    have hs:=look_some hi
    obtain ⟨v,hv⟩:∃ v,vs[i]?=some v:=⟨_,List.getElem?_eq_getElem (by rw [F.len];exact (List.getElem?_eq_some_iff.1 hs).1)⟩
    simp only [evOpd,hv,Option.getD_some]
    exact F.rel i t v hs hv
   ·rename_i hn
    simp only [Option.map_eq_some_iff] at e
    obtain ⟨j,hj,rfl⟩:=e
    obtain ⟨_,o,ho,hd⟩:=lookT_some hj
    obtain ⟨v,hv⟩:∃ v,ts[j]?=some v:=⟨_,List.getElem?_eq_getElem (by rw [T.len];exact (List.getElem?_eq_some_iff.1 ho).1)⟩
    simp only [evOpd,hv,Option.getD_some]
    exact T.rel j t o v ho hd hn hv
 | const v =>
   simp only [compOpd,Option.map_eq_some_iff] at e
   obtain ⟨z,hz,rfl⟩:=e
   exact constA_ok hz
 | func f =>
   simp only [compOpd,Option.some.injEq] at e
   subst e
   exact .fn f #[] [] rfl (by simp)
 | global g =>
   simp only [compOpd,Option.map_eq_some_iff] at e
   obtain ⟨cs,hcs,rfl⟩:=e
   exact hG g cs hcs
theorem fm_inj {α β:Type} {f:α→Option β}:∀ {l:List α},(l.filterMap f).Nodup→∀ (i j:Nat) (x y:α) (b:β),l[i]?=some x→l[j]?=some y→f x=some b→f y=some b→i=j
 | [],_,i,j,x,y,b,hi,_,_,_=>by simp at hi
 | z::l,hn,i,j,x,y,b,hi,hj,hx,hy=>by
   cases i with
   | zero =>
     cases j with
     | zero=>rfl
     | succ j =>
       simp at hi;subst hi
       simp only [List.filterMap_cons,hx,List.nodup_cons] at hn
       exact absurd (List.mem_filterMap.2 ⟨y,List.mem_of_getElem? (by simpa using hj),hy⟩) hn.1
   | succ i =>
     have hn':(l.filterMap f).Nodup:=by
      simp only [List.filterMap_cons] at hn
      split at hn
      ·exact hn
      ·exact (List.nodup_cons.1 hn).2
     cases j with
     | zero =>
       simp at hj;subst hj
       simp only [List.filterMap_cons,hy,List.nodup_cons] at hn
       exact absurd (List.mem_filterMap.2 ⟨x,List.mem_of_getElem? (by simpa using hi),hx⟩) hn.1
     | succ j=>rw [fm_inj hn' i j x y b (by simpa using hi) (by simpa using hj) hx hy]
structure SRel (w:World) (G:Ghost) (a:Act) (nt:Nat) (slots:List Nat) (ops:List Oper) (s:St):Prop where
 H:HRel w G s.h
 F:FRel w G a.tmps slots s.vs
 T:TRel w G a.tmps slots ops s.ts
 size:nt≤a.tmps.size
theorem getD_set {tmps:Array Value} {d t:Nat} {v:Value} (h:d<tmps.size):(tmps.setIfInBounds d v).getD t undef=if d=t then v else tmps.getD t undef:=by
 rw [Array.getD_eq_getD_getElem?,Array.getElem?_setIfInBounds,Array.getD_eq_getD_getElem?]
 split
 ·rename_i e;subst e;simp [h]
 ·rfl
theorem put_rel {w w':World} {G G':Ghost} {a:Act} {nt:Nat} {slots:List Nat} {ops:List Oper} {s:St} {h':Heap} {k:Nat} {o:Oper} {v:Value} {r:AVal} (hnd:slots.Nodup) (hd:dstsOk nt slots ops=true) (ho:ops[k]?=some o)
  (S:SRel w G a nt slots ops s) (x:Ext w G s.h w' G' h') (H':HRel w' G' h') (hv:VRel w' G' v r):SRel w' G' (a.put o.dst v) nt slots ops (s.put k (compDst slots o.dst) r h'):=by
 simp only [dstsOk,Bool.and_eq_true,List.all_eq_true,decide_eq_true_eq] at hd
 obtain ⟨hd1,hd2⟩:=hd
 have F':=S.F.mono x
 have T':=S.T.mono x
 cases hdst:o.dst with
 | none =>
   simp only [Act.put,compDst,St.put]
   exact ⟨H',F',T',S.size⟩
 | some t =>
   have hlt:t<nt:=by have:=hd1 o (List.mem_of_getElem? ho);rw [hdst] at this;simpa using this
   have hltS:t<a.tmps.size:=Nat.lt_of_lt_of_le hlt S.size
   simp only [Act.put,compDst]
   cases hlk:look slots t with
   | some i =>
     have hs:=look_some hlk
     simp only [St.put]
     refine ⟨H',⟨by simp [F'.len],fun j s' y h1 h2=>?_⟩,⟨T'.len,fun j t' o' y h1 h2 h3 h4=>?_⟩,by simp [S.size]⟩
     ·rw [getD_set hltS]
      rw [List.getElem?_set] at h2
      by_cases hji:i=j
      ·subst hji
       rw [hs] at h1;obtain rfl:=Option.some.inj h1
       split at h2
       ·split at h2
        ·obtain rfl:=Option.some.inj h2
         simpa using hv
        ·simp at h2
       ·rename_i hc;exact absurd rfl hc
      ·rw [if_neg hji] at h2
       have hne:t≠s':=fun e=>by
        subst e
        have h1':=(List.getElem?_eq_some_iff.1 hs)
        have h2':=(List.getElem?_eq_some_iff.1 h1)
        exact hji ((List.getElem_inj hnd).1 (h1'.2.trans h2'.2.symm))
       rw [if_neg hne]
       exact F'.rel j s' y h1 h2
     ·rw [getD_set hltS]
      have hne:t≠t':=fun e=>by subst e;rw [hlk] at h3;simp at h3
      rw [if_neg hne]
      exact T'.rel j t' o' y h1 h2 h3 h4
   | none =>
     simp only [St.put]
     refine ⟨H',⟨F'.len,fun j s' y h1 h2=>?_⟩,⟨by simp [T'.len],fun j t' o' y h1 h2 h3 h4=>?_⟩,by simp [S.size]⟩
     ·rw [getD_set hltS]
      have hne:t≠s':=fun e=>by
       subst e
       exact look_go_none hlk (List.mem_of_getElem? h1)
      rw [if_neg hne]
      exact F'.rel j s' y h1 h2
     ·rw [getD_set hltS]
      rw [List.getElem?_set] at h4
      by_cases hjk:k=j
      ·subst hjk
       rw [ho] at h1;obtain rfl:=Option.some.inj h1
       rw [hdst] at h2;obtain rfl:=Option.some.inj h2
       split at h4
       ·split at h4
        ·obtain rfl:=Option.some.inj h4
         simpa using hv
        ·simp at h4
       ·rename_i hc;exact absurd rfl hc
      ·rw [if_neg hjk] at h4
       have hne:t≠t':=fun e=>by
        subst e
        exact hjk (fm_inj hd2 k j o o' t ho h1 (by simp [hdst,hlk]) (by simp [h2,hlk]))
       rw [if_neg hne]
       exact T'.rel j t' o' y h1 h2 h3 h4
def CallRel (P:Program) (f:Nat) (args:List AVal) (h:Heap) (r:AVal) (h':Heap):Prop :=
 ∀ (w:World) (G:Ghost) (cargs:Array Value),HRel w G h→Pts w G cargs args→Calls P f cargs w (fun e w'=>∃ v G',e = .returned v∧Ext w G h w' G' h'∧HRel w' G' h'∧VRel w' G' v r)
variable {P:Program} {Hh:Hints} {F:Nat→Option AEnt}
def siteOf (P:Program) (fid k:Nat):Option (Nat×Array Tmp×Code×Code) :=
 match P.funcs[fid]? with
 | some fn=>match fn.body with
   | some c=>(loopsM c)[k]?.map fun x=>(fn.ntmps,x)
   | none=>none
 | none=>none
def envOf (P:Program) (Hh:Hints):Env:=⟨Hh.glob,siteOf P⟩
def CallRelE (P:Program) (Hh:Hints) (f:Nat) (args:List AVal) (h:Heap) (r:AVal) (h':Heap):Prop :=
 ∀ (w:World) (G:Ghost) (cargs:Array Value),G.env=envOf P Hh→HRel w G h→Pts w G cargs args→Calls P f cargs w (fun e w'=>∃ v G',e = .returned v∧Ext w G h w' G' h'∧HRel w' G' h'∧VRel w' G' v r)
def rF (r:Option Nat):Fence:={ fn:=fun _=>True,depth:=none,alive:=false,round:=r }
theorem callsIn_rF {r:Option Nat} {n:Nat} {f:FuncId} {args:Array Value} {w:World} {R:Ending→World→Prop} (h:Calls P f args w R):CallsIn (rF r) n P f args w R:=(callsIn_wide (n:=n)).2 h
def YieldRel (P:Program) (Hh:Hints) (id:Nat) (args:List AVal) (h:Heap) (r:AVal) (h':Heap):Prop :=
 ∀ (w:World) (G:Ghost) (cargs:Array Value) (ro:Option Nat) (m:Nat),G.env=envOf P Hh→HRel w G h→Pts w G cargs args →
   ∃ (L:Loop),w.heap[G.loc id]?=some (.loop L)∧cargs.size=L.params.size ∧
     RoundIn (rF ro) m P (G.loc id) L.fn ((L.params.zip cargs).foldl (fun tmps (t,a)=>tmps.setIfInBounds t a) L.tmps) L.assign L.body w (fun e w'=>∃ v G',e = .returned v∧Ext w G h w' G' h'∧HRel w' G' h'∧VRel w' G' v r)
def HandOk (P:Program) (g:Nat) (s:List AVal→Heap→Option (AVal×Heap)):Prop :=
 (∀ args h r h',s args h=some (r,h')→CallRel P g args h r h')∧∀ (args:Array Value) (w:World),(callFunc g args).run P w = .ok (.enter g args) w
def HandOkE (P:Program) (Hh:Hints) (g:Nat) (s:List AVal→Heap→Option (AVal×Heap)):Prop :=
 (∀ args h r h',s args h=some (r,h')→CallRelE P Hh g args h r h')∧∀ (args:Array Value) (w:World),(callFunc g args).run P w = .ok (.enter g args) w
theorem HandOk.e {g:Nat} {s:List AVal→Heap→Option (AVal×Heap)} (h:HandOk P g s):HandOkE P Hh g s:=⟨fun args h0 r h' e w G cargs _ H hp=>h.1 args h0 r h' e w G cargs H hp,h.2⟩
def EntOk (P:Program) (Hh:Hints) (g:Nat):Option AEnt→Prop
 | none=>True
 | some (.comp af)=>compFunc P Hh g=some af∧Hh.grow g=false
 | some (.hand s)=>HandOkE P Hh g s∧(Hh.grow g=true→∀ args h r h',s args h=some (r,h')→TokExt h h')
def Table (P:Program) (Hh:Hints) (F:Nat→Option AEnt):Prop:=∀ g,EntOk P Hh g (F g)
theorem Table.comp (hT:Table P Hh F) {g:Nat} {af:AFunc} (h:F g=some (.comp af)):compFunc P Hh g=some af:=by have:=hT g;rw [h] at this;exact this.1
theorem Table.hand (hT:Table P Hh F) {g:Nat} {s} (h:F g=some (.hand s)):HandOkE P Hh g s:=by have:=hT g;rw [h] at this;exact this.1
theorem compFunc_some {g:Nat} {af:AFunc} (h:compFunc P Hh g=some af):∃ fn c,P.funcs[g]?=some fn∧fn.body=some c∧(fn.name == "runtime.NumGoroutine")=false∧resRVs P af.slots fn.results.toList=some af.results ∧
  af.slots.Nodup∧(∀ s∈af.slots,s<fn.ntmps)∧af.body=compCode P Hh g fn.ntmps af.slots true 0 c∧af.loops=compLoops P Hh g fn.ntmps af.slots 0 c:=by
 unfold compFunc at h
 split at h
 ·simp at h
 ·rename_i fn hf
  split at h
  ·rename_i c hb
   simp only at h
   split at h
   ·rename_i ris hi
    split at h
    ·rename_i hcond
     simp only [Bool.and_eq_true,Bool.not_eq_true',decide_eq_true_eq,List.all_eq_true] at hcond
     obtain rfl:=Option.some.inj h
     exact ⟨fn,c,hf,hb,hcond.1.1,hi,hcond.1.2,hcond.2,rfl,rfl⟩
    ·simp at h
   ·simp at h
  ·simp at h
theorem callFunc_enter {g:Nat} {af:AFunc} (h:compFunc P Hh g=some af) (args:Array Value) (w:World):(callFunc g args).run P w = .ok (.enter g args) w:=by
 obtain ⟨fn,c,hf,hb,hn,_⟩:=compFunc_some h
 have hn':fn.name ≠ "runtime.NumGoroutine":=by simpa using hn
 simp [callFunc,hf,hb,hn']
theorem scal_to {w:World} {G G2:Ghost} {v:Value} {x:AVal} (r:VRel w G v x):scal x=true→VRel w G2 v x:=by
 have key:∀ {asx:List AVal},scalL asx=true→∀ (k:Nat) (a:AVal),asx[k]?=some a→scal a=true:=by
  intro asx
  induction asx with
  | nil=>intro _ k a h;simp at h
  | cons x xs ih =>
    intro h k a hk
    simp only [scalL,Bool.and_eq_true] at h
    cases k with
    | zero=>simp at hk;subst hk;exact h.1
    | succ k=>exact ih h.2 k a (by simpa using hk)
 induction r with
 | bool b=>intro _;exact .bool b
 | int k n=>intro _;exact .int k n
 | str s=>intro _;exact .str s
 | nilptr=>intro _;exact .nilptr
 | ptr=>intro h;simp [scal] at h
 | rp=>intro h;simp [scal] at h
 | nilsl t ht=>intro _;exact .nilsl t ht
 | emp a t ht=>intro _;exact .emp a t ht
 | sl b off cap sz xs t u h0 h1 h2 h3 h4 h5 hc hn ho ih=>intro h;simp [scal] at h;exact absurd h.2 hn.1
 | ref=>intro h;simp [scal] at h
 | ref0=>intro h;simp [scal] at h
 | fn=>intro h;simp [scal] at h
 | nilfn=>intro _;exact .nilfn
 | nilif=>intro _;exact .nilif
 | mp=>intro h;simp [scal] at h
 | yld=>intro h;simp [scal] at h
 | nilmp=>intro _;exact .nilmp
 | agg cs asx hl _ h4 ih=>intro h;simp only [scal] at h;exact .agg cs asx hl (fun k c a hc ha=>ih k c a hc ha (key h k a ha)) h4
 | tup cs asx hl _ ih=>intro h;simp only [scal] at h;exact .tup cs asx hl (fun k c a hc ha=>ih k c a hc ha (key h k a ha))
 | bad v=>intro h;simp [scal] at h
mutual
theorem refs_live (h:Heap):∀ (x:AVal) {y:AVal},purify h x=some y→∀ id∈refIds x,∃ o,h.get id=some o
 | .bool _,_,_,id,hid=>by simp [refIds] at hid
 | .int _ _,_,_,id,hid=>by simp [refIds] at hid
 | .str _,_,_,id,hid=>by simp [refIds] at hid
 | .sl _ _,_,_,id,hid=>by simp [refIds] at hid
 | .nilptr,_,_,id,hid=>by simp [refIds] at hid
 | .ptr _ _,_,_,id,hid=>by simp [refIds] at hid
 | .rp _,_,_,id,hid=>by simp [refIds] at hid
 | .ref j off len sz,y,e,id,hid=>by
   simp only [refIds,List.mem_singleton] at hid
   subst hid
   simp only [purify,Option.map_eq_some_iff] at e
   obtain ⟨xs,hx,_⟩:=e
   unfold readRef at hx
   split at hx
   ·rename_i hg;exact ⟨_,hg⟩
   ·simp at hx
 | .fn f cap,y,e,id,hid=>by
   simp only [purify,Option.map_eq_some_iff] at e
   obtain ⟨c,hc,_⟩:=e
   exact refsL_live h cap hc id (by simpa [refIds] using hid)
 | .nilfn,_,_,id,hid=>by simp [refIds] at hid
 | .nilif,_,_,id,hid=>by simp [refIds] at hid
 | .mp _,_,_,id,hid=>by simp [refIds] at hid
 | .yld _,_,_,id,hid=>by simp [refIds] at hid
 | .nilmp,_,_,id,hid=>by simp [refIds] at hid
 | .agg cs,y,e,id,hid=>by
   simp only [purify,Option.map_eq_some_iff] at e
   obtain ⟨c,hc,_⟩:=e
   exact refsL_live h cs hc id (by simpa [refIds] using hid)
 | .tup cs,y,e,id,hid=>by
   simp only [purify,Option.map_eq_some_iff] at e
   obtain ⟨c,hc,_⟩:=e
   exact refsL_live h cs hc id (by simpa [refIds] using hid)
 | .bad,_,_,id,hid=>by simp [refIds] at hid
theorem refsL_live (h:Heap):∀ (xs:List AVal) {ys:List AVal},purifyL h xs=some ys→∀ id∈refIdsL xs,∃ o,h.get id=some o
 | [],_,_,id,hid=>by simp [refIdsL] at hid
 | x::xs,ys,e,id,hid=>by
   simp only [purifyL] at e
   split at e
   ·rename_i y ys' h1 h2
    simp only [refIdsL,List.mem_append] at hid
    exact hid.elim (refs_live h x h1 id) (refsL_live h xs h2 id)
   ·simp at e
end
theorem iso_call {g:Nat} {asx as0:List AVal} {r r':AVal} {h0 h:Heap} {w:World} {G:Ghost} {cargs:Array Value} (C:CallRelE P Hh g asx Heap.empty r h0) (hEnv:G.env=envOf P Hh) (H:HRel w G h) (hp:Pts w G cargs as0)
  (hcase:(stripL as0=some asx∧purify h0 r=some r')∨(purifyL h as0=some asx∧scal r=true∧r'=r)∨(borrowL h as0=some asx∧scal r=true∧r'=r)) :
  Calls P g cargs w (fun e w'=>∃ v G',e = .returned v∧Ext w G h w' G' h∧HRel w' G' h∧VRel w' G' v r'):=by
 have hempty:∀ id o,Heap.empty.get id=some o→False:=fun id o e=>by rw [Heap.get_empty] at e;simp at e
 have hno:∀ (G0:Ghost) b,¬ owned G0 Heap.empty b:=fun G0 b ⟨id,o,e,_⟩=>hempty id o e
 have hH0:∀ G0:Ghost,G0.n=0→G0.env=G.env→(∀ b k,stab G b k→stab G0 b k)→HRel w G0 Heap.empty:=fun G0 hn he hst=>⟨hn,fun id o e=>(hempty id o e).elim,fun id o e=>(hempty id o e).elim,fun i j oi oj e=>(hempty i oi e).elim,fun g cs hg=>by
  rw [he] at hg
  obtain ⟨q1,q2⟩:=H.glob g cs hg
  refine ⟨?_,q2⟩
  cases q1 with
  | rp b off _ u h1 h2 h3 h4=>exact .rp g 0 cs u h1 (fun k c hk=>VRel.strip_to hst (h2 k c hk) (q2 c (List.mem_of_getElem? hk))) (fun k hk=>hst _ _ (h3 k hk)) h4⟩
 have out:∀ {w':World} {G0 G1:Ghost},Ext w G0 Heap.empty w' G1 h0→∃ G':Ghost,G'={ G with lim:=fun b=>if b<w.heap.size then G.lim b else none }∧Ext w G h w' G' h∧HRel w' G' h:=by
  intro w' G0 G1 hX
  have hkeep:∀ b,b<w.heap.size→w'.heap[b]?=w.heap[b]?:=fun b hb=>(hX.keep b hb (hno G0 b)).1
  have hE:Ext w G h w' { G with lim:=fun b=>if b<w.heap.size then G.lim b else none } h:=⟨hX.os,hX.tape,hX.out,hX.size,fun b hb _=>⟨hkeep b hb,by simp [hb]⟩,fun b k hb hst=>⟨by simp [World.cell?,hkeep b hb],fun m hm=>by simp [hb] at hm;exact hst m hm⟩,fun b hb=>by simp [World.shape?,hkeep b hb],Nat.le_refl _,fun _ _=>⟨rfl,rfl⟩,fun b hb ho=>ho,rfl,fun b r hr=>⟨r,by rw [hkeep b (Array.getElem?_eq_some_iff.1 hr).1];exact hr⟩⟩
  exact ⟨_,rfl,hE,⟨H.n_eq,fun id o e=>Nat.lt_of_lt_of_le (H.lt id o e) hX.size,fun id o e=>OkObj.mono hE (by rw [H.n_eq];exact Heap.get_lt e) (H.lt id o e) (hkeep _ (H.lt id o e)) (by simp [H.lt id o e]) (H.obj id o e),H.inj,fun g cs hg=>⟨(H.glob g cs hg).1.mono hE,(H.glob g cs hg).2⟩⟩⟩
 rcases hcase with ⟨hs,hpur⟩|⟨hs,hsc,rfl⟩|⟨hs,hsc,rfl⟩
 ·have hk:=stripL_ok hs
  have hp0:Pts w { G with n:=0 } cargs asx:=⟨by rw [hp.len,hk.1],fun k c a hc ha=>by
   obtain ⟨x,hx,hx'⟩:=back_get hk ha
   exact VRel.strip_to (G:=G) (G2:={ G with n:=0 }) (fun _ _ h=>h) (hp.rel k c x hc hx) hx'⟩
  refine (C w { G with n:=0 } cargs hEnv (hH0 _ rfl rfl (fun _ _ h=>h)) hp0).mono fun e w' ⟨v,G1,he,hX,H1,hv⟩=>?_
  obtain ⟨G',hG',hE,hH⟩:=out hX
  refine ⟨v,G',he,hE,hH,hv.purify_to H1 (fun b k hst=>?_) (fun id hid k=>?_) hpur⟩
  ·subst hG'
   by_cases hb:b<w.heap.size
   ·have hl:=(hX.keep b hb (hno _ b)).2
    intro m hm
    simp [hb] at hm
    exact hst m (by rw [hl];exact hm)
   ·intro m hm;simp [hb] at hm
  ·subst hG'
   by_cases hb:G1.loc id<w.heap.size
   ·obtain ⟨o,ho⟩:=refs_live h0 r hpur id hid
    exact absurd (hX.fresh _ hb ⟨id,o,ho,rfl⟩) (hno _ _)
   ·intro m hm;simp [hb] at hm
 ·have hk:=purifyL_ok hs
  have hp0:Pts w { G with n:=0,lim:=fun _=>none } cargs asx:=⟨by rw [hp.len,hk.1],fun k c a hc ha=>by
   obtain ⟨x,hx,hx'⟩:=back_get hk ha
   exact VRel.purify_to (G:=G) (G2:={ G with n:=0,lim:=fun _=>none }) H (fun _ _ _ m hm=>by simp at hm) (hp.rel k c x hc hx) (fun _ _ _ m hm=>by simp at hm) hx'⟩
  refine (C w { G with n:=0,lim:=fun _=>none } cargs hEnv (hH0 _ rfl rfl (fun _ _ _ m hm=>by simp at hm)) hp0).mono fun e w' ⟨v,G1,he,hX,H1,hv⟩=>?_
  obtain ⟨G',hG',hE,hH⟩:=out hX
  exact ⟨v,G',he,hE,hH,scal_to hv hsc⟩
 ·have hk:=borrowL_ok hs
  have hp0:Pts w { G with n:=0,lim:=fun _=>none } cargs asx:=⟨by rw [hp.len,hk.1],fun k c a hc ha=>by
   obtain ⟨x,hx,hx'⟩:=back_get hk ha
   exact VRel.borrow_to (G:=G) (G2:={ G with n:=0,lim:=fun _=>none }) H (fun _ _ m hm=>by simp at hm) (hp.rel k c x hc hx) hx'⟩
  refine (C w { G with n:=0,lim:=fun _=>none } cargs hEnv (hH0 _ rfl rfl (fun _ _ _ m hm=>by simp at hm)) hp0).mono fun e w' ⟨v,G1,he,hX,H1,hv⟩=>?_
  obtain ⟨G',hG',hE,hH⟩:=out hX
  exact ⟨v,G',he,hE,hH,scal_to hv hsc⟩
theorem compOpers_get {slots:List Nat} {ops:List Oper} {fid:Nat}:∀ {l:List Oper} {k:Nat} {asx:List AOper},compOpers P Hh fid slots ops l k=some asx→asx.length=l.length∧∀ j o,l[j]?=some o→∃ a,asx[j]?=some a∧compOper P Hh fid slots ops (k+j) o=some a
 | [],k,asx,h=>by simp [compOpers] at h;subst h;simp
 | o::l,k,asx,h=>by
   simp only [compOpers] at h
   split at h
   ·rename_i a as' h1 h2
    obtain rfl:=Option.some.inj h
    obtain ⟨e1,e2⟩:=compOpers_get h2
    refine ⟨by simp [e1],fun j o' hj=>?_⟩
    cases j with
    | zero=>simp at hj;subst hj;exact ⟨a,by simp,by simpa using h1⟩
    | succ j =>
      obtain ⟨a',q1,q2⟩:=e2 j o' (by simpa using hj)
      exact ⟨a',by simpa using q1,by rw [show k+(j+1)=k+1+j by omega];exact q2⟩
   ·simp at h
def CfOk (P:Program) (Hh:Hints) (cf:CallF):Prop :=
 (∀ g args h r h',cf false g args h=some (r,h')→CallRelE P Hh g args h r h'∧(∀ (cargs:Array Value) (w:World),(callFunc g cargs).run P w = .ok (.enter g cargs) w)∧(Hh.grow g=true→TokExt h h')) ∧
 ∀ id args h r h',cf true id args h=some (r,h')→YieldRel P Hh id args h r h'
theorem pts_append {w:World} {G:Ghost} {a b:Array Value} {x y:List AVal} (h1:Pts w G a x) (h2:Pts w G b y):Pts w G (a++b) (x++y):=by
 refine ⟨by simp [h1.len,h2.len],fun k c z hc hz=>?_⟩
 by_cases hk:k<a.size
 ·rw [Array.getElem?_append_left hk] at hc
  rw [List.getElem?_append_left (by rw [←h1.len];exact hk)] at hz
  exact h1.rel k c z hc hz
 ·rw [Array.getElem?_append_right (by omega)] at hc
  rw [List.getElem?_append_right (by rw [←h1.len];omega),←h1.len] at hz
  exact h2.rel _ c z hc hz
theorem step_ok {cf:CallF} (hcf:CfOk P Hh cf) {fid nt:Nat} {slots:List Nat} {ops:Array Oper} {k:Nat} {o:Oper} {ao:AOper} (hnd:slots.Nodup) (hd:dstsOk nt slots ops.toList=true) (ho:ops[k]?=some o) (hcomp:compOper P Hh fid slots ops.toList k o=some ao)
  {a:Act} {w:World} {G:Ghost} {s s':St} (hEnv:G.env=envOf P Hh) (S:SRel w G a nt slots ops.toList s) (e:stepA cf ao k s=some s') {ro:Option Nat} {m:Nat} {next:Act→World→Prop} {Q:Exit→Act→World→Prop}
  (hK:∀ a' w' G',Ext w G s.h w' G' s'.h→SRel w' G' a' nt slots ops.toList s'→a'.defers=a.defers→next a' w') :
  if Region.wanted o (yielded ops a.tmps) then o.wpIn (rF ro) m P a w next Q else next (a.put o.dst undef) w:=by
 have hops:Ops a w G (compOpd Hh.glob slots ops.toList k) (evOpd s.vs s.ts):=operand_ok (fun g cs hg=>(S.H.glob g cs (by rw [hEnv];exact hg)).1) S.F S.T
 have hol:ops.toList[k]?=some o:=by simpa using ho
 unfold compOper at hcomp
 split at hcomp
 ·rename_i aop g hop hg
  obtain rfl:=Option.some.inj hcomp
  -- the guard
  have hwant:∀ b,wantA (evOpd s.vs s.ts) g=some b→Region.wanted o (yielded ops a.tmps)=b:=by
   intro b hb
   cases hgd:o.guard with
   | none =>
     rw [hgd] at hg
     simp [compGuard] at hg;subst hg
     simp [wantA] at hb;subst hb
     simp [Region.wanted,hgd]
   | some p =>
     obtain ⟨j,want⟩:=p
     rw [hgd] at hg
     simp only [compGuard] at hg
     split at hg
     ·rename_i oj hoj
      split at hg
      ·rename_i t ht
       split at hg
       ·rename_i hjk
        have hoj':ops[j]?=some oj:=by simpa using hoj
        have hlt:t<a.tmps.size:=by
         simp only [dstsOk,Bool.and_eq_true,List.all_eq_true] at hd
         have:=hd.1 oj (List.mem_of_getElem? hoj)
         rw [ht] at this;exact Nat.lt_of_lt_of_le (by simpa using this) S.size
        have hy:yielded ops a.tmps j=match (a.tmps.getD t undef) with | .bool b=>some b|_=>none:=by
         simp only [yielded,hoj',Option.bind_some,ht]
         rw [Array.getD_eq_getD_getElem?,Array.getElem?_eq_getElem hlt]
         simp only [Option.getD_some]
         cases a.tmps[t]<;>rfl
        have hval:∃ x,g=some (x,want)∧VRel w G (a.tmps.getD t undef) (evOpd s.vs s.ts x):=by
         split at hg
         ·rename_i i hi
          simp at hg;subst hg
          refine ⟨.v i,rfl,?_⟩
          have hs:=look_some hi
          obtain ⟨v,hv⟩:∃ v,s.vs[i]?=some v:=⟨_,List.getElem?_eq_getElem (by rw [S.F.len];exact (List.getElem?_eq_some_iff.1 hs).1)⟩
          simp only [evOpd,hv,Option.getD_some]
          exact S.F.rel i t v hs hv
         ·rename_i hn
          simp at hg;subst hg
          refine ⟨.t j,rfl,?_⟩
          obtain ⟨v,hv⟩:∃ v,s.ts[j]?=some v:=⟨_,List.getElem?_eq_getElem (by rw [S.T.len];exact (List.getElem?_eq_some_iff.1 hoj).1)⟩
          simp only [evOpd,hv,Option.getD_some]
          exact S.T.rel j t oj v hoj ht hn hv
        obtain ⟨x,rfl,hx⟩:=hval
        simp only [wantA] at hb
        simp only [Region.wanted,hgd,hy]
        split at hb
        ·rename_i c hc
         rw [hc] at hx
         obtain rfl:=Option.some.inj hb
         generalize a.tmps.getD t undef=vv at hx
         cases hx
         simp
        ·rename_i hc
         rw [hc] at hx
         obtain rfl:=Option.some.inj hb
         generalize a.tmps.getD t undef=vv at hx
         cases hx
         simp
        ·simp at hb
       ·simp at hg
      ·simp at hg
     ·simp at hg
  unfold stepA at e
  simp only at e
  split at e
  ·simp at e
  ·rename_i hw
   rw [hwant _ hw]
   obtain rfl:=Option.some.inj e
   simp only [Bool.false_eq_true,if_false]
   exact hK _ w G (by cases compDst slots o.dst<;>exact Ext.refl _ _ _) (put_rel hnd hd hol S (Ext.refl _ _ _) S.H (.tup #[] [] rfl (by simp))) (by cases o.dst<;>rfl)
  ·rename_i hw
   rw [hwant _ hw]
   simp only [if_true]
   have hnde:∀ c,o.op ≠ .defer c:=fun c hc=>by rw [hc] at hop;simp [compOp] at hop
   refine ⟨fun _ _=>trivial,?_⟩
   rw [Oper.semAt_plain (rF ro) a.eval o hnde]
   split at e
   ·rename_i r h' hex
    obtain rfl:=Option.some.inj e
    have fin:∀ {v:Value} {w':World} {G':Ghost},Ext w G s.h w' G' h'→HRel w' G' h'→VRel w' G' v r→next (a.put o.dst v) w':=fun hX hH hv =>
     hK _ _ _ (by cases compDst slots o.dst<;>exact hX) (put_rel hnd hd hol S hX hH hv) (by cases o.dst<;>rfl)
    cases hic:isCall aop with
    | false =>
      have hev:evalA aop (evOpd s.vs s.ts) s.h=some (r,h'):=by
       cases aop<;>first
        | exact hex
        | (simp [isCall] at hic)
      obtain ⟨v,w',G',hr,hX,hH,hv⟩:=op_ok S.H hops hop hic hev
      rcases hr with hr|⟨hr,rfl⟩
      ·rw [hr,Oper.uponIn_value];exact fin hX hH hv
      ·rw [hr,Oper.uponIn_skip];exact fin hX hH hv
    | true =>
      obtain ⟨f,args,asx,ts,hcall,has,hkind⟩:=call_of_comp hop hic
      obtain ⟨p1,p2⟩:=opds_ok hops has
      have hpts:Pts w G (args.map a.eval) (asx.map (evOpd s.vs s.ts)):=⟨by simpa using p1,fun k c x hc hx=>p2 k c x (by simpa using hc) hx⟩
      have done:∀ {g:Nat} {cargs:Array Value},(execOp a.eval o).run P w = .ok (.enter g cargs) w→Calls P g cargs w (fun e w'=>∃ v G',e = .returned v∧Ext w G s.h w' G' h'∧HRel w' G' h'∧VRel w' G' v r)→o.uponIn (rF ro) m P a next Q ((execOp a.eval o).run P w):=by
       intro g cargs hr hC
       rw [hr,Oper.uponIn_enter]
       refine ⟨fun q=>by simp [rF] at q,callsIn_rF (hC.mono fun e w' ⟨v,G',he,hX,hH,hv⟩=>?_)⟩
       subst he
       exact fin hX hH hv
      rcases hkind with ⟨g,rfl,rfl⟩|⟨f',hf',rfl⟩|⟨g,rfl,rfl⟩|⟨f',hf',rfl⟩
      ·simp only [execA] at hex
       have hrun:∀ {as' r0 h0},cf false g as' Heap.empty=some (r0,h0)→(execOp a.eval o).run P w = .ok (.enter g (args.map a.eval)) w:=fun hc=>by
        have:=(hcf.1 g _ _ _ _ hc).2.1 (args.map a.eval) w
        simp [execOp,hcall,resolve,Act.eval,Deferred.ofValue,invoke,this]
       split at hex
       ·rename_i as' hs
        split at hex
        ·rename_i r0 h0 hc
         simp only [Option.map_eq_some_iff,Prod.mk.injEq] at hex
         obtain ⟨x,hpur,rfl,rfl⟩:=hex
         exact done (hrun hc) (iso_call (hcf.1 g _ _ _ _ hc).1 hEnv S.H hpts (.inl ⟨hs,hpur⟩))
        ·simp at hex
       ·split at hex
        ·rename_i as' hs
         split at hex
         ·rename_i r0 h0 hc
          split at hex
          ·rename_i hsc
           simp at hex;obtain ⟨rfl,rfl⟩:=hex
           exact done (hrun hc) (iso_call (hcf.1 g _ _ _ _ hc).1 hEnv S.H hpts (.inr (.inl ⟨hs,hsc,rfl⟩)))
          ·simp at hex
         ·simp at hex
        ·simp at hex
      ·simp only [execA] at hex
       split at hex
       ·rename_i g cap hfn
        have hfv:VRel w G (a.eval f) (evOpd s.vs s.ts f'):=by
         rcases hf' with hf'|⟨g',rfl,rfl⟩
         ·exact hops _ _ hf'
         ·exact .fn g' #[] [] rfl (by simp)
        rw [hfn] at hfv
        generalize hfe:a.eval f=fv at hfv
        cases hfv with
        | fn _ cs _ hl hr =>
          have hrun:=(hcf.1 g _ _ _ _ hex).2.1 (args.map a.eval++cs) w
          refine done (g:=g) (cargs:=args.map a.eval++cs) ?_ ((hcf.1 g _ _ _ _ hex).1 w G _ hEnv S.H (pts_append hpts ⟨hl,hr⟩))
          simp [execOp,hcall,resolve,hfe,Deferred.ofValue,invoke,hrun]
       ·rename_i id hfn
        have hfv:VRel w G (a.eval f) (evOpd s.vs s.ts f'):=by
         rcases hf' with hf'|⟨g',rfl,rfl⟩
         ·exact hops _ _ hf'
         ·simp [evOpd] at hfn
        rw [hfn] at hfv
        generalize hfe:a.eval f=fv at hfv
        cases hfv with
        | yld _ hid =>
          obtain ⟨L,hL,hsz,hR⟩:=hcf.2 id _ _ _ _ hex w G (args.map a.eval) ro (m - 1) hEnv S.H hpts
          have hrun:(execOp a.eval o).run P w = .ok (.round (G.loc id) L.fn ((L.params.zip (args.map a.eval)).foldl (fun tmps (t,a)=>tmps.setIfInBounds t a) L.tmps) L.assign L.body) w:=by
           have:=run_yield (P:=P) hL hsz
           simp [execOp,hcall,resolve,hfe,Deferred.ofValue,invoke,this]
          rw [hrun,Oper.uponIn_round]
          refine ⟨fun q=>by simp [rF] at q,hR.mono fun e w' ⟨v,G',he,hX,hH,hv⟩=>?_⟩
          subst he
          exact fin hX hH hv
       ·simp at hex
      ·simp only [execA] at hex
       split at hex
       ·rename_i r0 h0 hc
        split at hex
        ·simp only [Option.some.injEq,Prod.mk.injEq] at hex
         obtain ⟨rfl,rfl⟩:=hex
         have hrun:(execOp a.eval o).run P w = .ok (.enter g (args.map a.eval)) w:=by
          have:=(hcf.1 g _ _ _ _ hc).2.1 (args.map a.eval) w
          simp [execOp,hcall,resolve,Act.eval,Deferred.ofValue,invoke,this]
         exact done hrun ((hcf.1 g _ _ _ _ hc).1 w G _ hEnv S.H hpts)
        ·simp at hex
       ·simp at hex
      ·simp only [execA] at hex
       split at hex
       ·rename_i g cap hfn
        split at hex
        ·rename_i as' hs
         split at hex
         ·rename_i r0 h0 hc
          split at hex
          ·rename_i hsc
           simp at hex;obtain ⟨rfl,rfl⟩:=hex
           have hfv:=hops _ _ hf'
           rw [hfn] at hfv
           generalize hfe:a.eval f=fv at hfv
           cases hfv with
           | fn _ cs _ hl hr =>
             have hrun:=(hcf.1 g _ _ _ _ hc).2.1 (args.map a.eval++cs) w
             refine done (g:=g) (cargs:=args.map a.eval++cs) ?_ (iso_call (hcf.1 g _ _ _ _ hc).1 hEnv S.H (pts_append hpts ⟨hl,hr⟩) (.inr (.inr ⟨hs,hsc,rfl⟩)))
             simp [execOp,hcall,resolve,hfe,Deferred.ofValue,invoke,hrun]
          ·simp at hex
         ·simp at hex
        ·simp at hex
       ·simp at hex
   ·simp at e
 ·simp at hcomp
theorem fold_ok {cf:CallF} (hcf:CfOk P Hh cf) {fid nt:Nat} {slots:List Nat} {ops:Array Oper} {asx:List AOper} (hnd:slots.Nodup) (hd:dstsOk nt slots ops.toList=true) (hcomp:compOpers P Hh fid slots ops.toList ops.toList 0=some asx) {ro:Option Nat} {m:Nat} {Q:Exit→Act→World→Prop} :
  ∀ (l:List Nat) {a:Act} {w:World} {G:Ghost} {s s':St},G.env=envOf P Hh→SRel w G a nt slots ops.toList s→foldI cf asx l s=some s' →
    (∀ a' w' G',Ext w G s.h w' G' s'.h→SRel w' G' a' nt slots ops.toList s'→a'.defers=a.defers→Q .normal a' w')→wpOpsIn (rF ro) m P ops Q l a w
 | [],a,w,G,s,s',_,S,e,hQ=>by
   simp only [foldI,Option.some.injEq] at e;subst e
   exact hQ a w G (Ext.refl _ _ _) S rfl
 | k::l,a,w,G,s,s',hEnv,S,e,hQ=>by
   simp only [foldI] at e
   split at e
   ·rename_i ao hao
    split at e
    ·rename_i s1 hs1
     obtain ⟨e1,e2⟩:=compOpers_get hcomp
     obtain ⟨o,ho⟩:∃ o,ops.toList[k]?=some o:=⟨_,List.getElem?_eq_getElem (by rw [←e1];exact (List.getElem?_eq_some_iff.1 hao).1)⟩
     obtain ⟨ao',h1,h2⟩:=e2 k o ho
     rw [hao] at h1;obtain rfl:=Option.some.inj h1
     rw [Nat.zero_add] at h2
     have ho':ops[k]?=some o:=by simpa using ho
     simp only [wpOpsIn,ho']
     have key:=step_ok hcf hnd hd ho' h2 hEnv S hs1 (ro:=ro) (m:=m) (Q:=Q) (next:=wpOpsIn (rF ro) m P ops Q l) fun a' w' G' hX S' hdf =>
      fold_ok hcf hnd hd hcomp l (hX.env.trans hEnv) S' e fun a2 w2 G2 hX2 S2 hdf2=>hQ a2 w2 G2 (hX.trans hX2) S2 (hdf2.trans hdf)
     split at key
     ·rename_i hw;rw [if_pos hw];exact key
     ·rename_i hw;rw [if_neg hw];exact ⟨fun _ _=>trivial,key⟩
    ·simp at e
   ·simp at e
def exitOf:AExit→Exit
 | .normal => .normal
 | .exit id => .exit id
 | .ret => .ret
structure CRel (w:World) (G:Ghost) (a:Act) (nt:Nat) (slots:List Nat) (vs:List AVal) (h:Heap):Prop where
 H:HRel w G h
 F:FRel w G a.tmps slots vs
 size:nt≤a.tmps.size
theorem compCode_region {fid nt:Nat} {slots:List Nat} {id:Nat} {ops:Array Oper} {draw:Bool} {l:List AOper} {top:Bool} {k:Nat} (h:compCode P Hh fid nt slots top k (.region id ops draw) = .ops l) :
  ∃ asx,compOpers P Hh fid slots ops.toList ops.toList 0=some asx∧dstsOk nt slots ops.toList=true∧((l=asx∧(draw=true→drawOk Hh ops.toList asx=true)) ∨
    (draw=true∧∃ ord,drawOkO Hh ops.toList asx ord=true∧renOpers ord asx ord=some l)):=by
 simp only [compCode] at h
 split at h
 ·rename_i l' hl
  split at h
  ·rename_i hd
   split at h
   ·rename_i hc
    simp only [ACode.ops.injEq] at h
    subst h
    simp only [Bool.or_eq_true,Bool.not_eq_true'] at hc
    exact ⟨_,hl,hd,.inl ⟨rfl,fun hdr=>hc.resolve_left (by rw [hdr];simp)⟩⟩
   ·rename_i hc
    have hdr:draw=true:=by cases draw<;>simp at hc<;>rfl
    split at h
    ·rename_i ho
     split at h
     ·rename_i r hr
      simp only [ACode.ops.injEq] at h
      subst h
      exact ⟨_,hl,hd,.inr ⟨hdr,_,ho,hr⟩⟩
     ·simp at h
    ·repeat' split at h
     all_goals simp at h
  ·simp at h
 ·simp at h
theorem compCode_alts {fid nt:Nat} {slots:List Nat} {id:Nat} {ops:Array Oper} {draw:Bool} {ls:List (List AOper)} {top:Bool} {k:Nat} (h:compCode P Hh fid nt slots top k (.region id ops draw) = .alts ls∨∃ rs,compCode P Hh fid nt slots top k (.region id ops draw) = .altp rs ls) :
  ∃ asx pairs reps,compOpers P Hh fid slots ops.toList ops.toList 0=some asx∧dstsOk nt slots ops.toList=true∧draw=true∧repsOk Hh ops.toList asx pairs reps=true∧renAll asx reps=some ls:=by
 simp only [compCode] at h
 split at h
 ·rename_i l' hl
  split at h
  ·rename_i hd
   split at h
   ·simp at h
   ·split at h
    ·split at h<;>simp at h
    ·split at h
     ·rename_i pairs reps _
      split at h
      ·rename_i hc
       split at h
       ·rename_i ls' hls
        have e:ls'=ls:=by
         split at h
         ·simpa using h
         ·simpa using h
        subst e
        simp only [Bool.and_eq_true] at hc
        exact ⟨_,pairs,reps,hl,hd,hc.1.1,hc.2,hls⟩
       ·simp at h
      ·simp at h
     ·simp at h
  ·simp at h
 ·simp at h
theorem renAll_mem {l:List AOper}:∀ {reps:List (List Nat)} {ls:List (List AOper)},renAll l reps=some ls→∀ r∈reps,∃ x∈ls,renOpers r l r=some x
 | [],_,_,r,hr=>by simp at hr
 | a::reps,ls,h,r,hr=>by
   simp only [renAll] at h
   split at h
   ·rename_i x y h1 h2
    simp only [Option.some.injEq] at h
    subst h
    rcases List.mem_cons.1 hr with rfl|hr
    ·exact ⟨x,by simp,h1⟩
    ·obtain ⟨z,hz,e⟩:=renAll_mem h2 r hr
     exact ⟨z,by simp [hz],e⟩
   ·simp at h
theorem results_ok {w:World} {G:Ghost} {h:Heap} (H:HRel w G h) {slots:List Nat} {vs:List AVal} {tmps:Array Value} (Fr:FRel w G tmps slots vs) {fn:Func} {ris:List ResV} (h1:resRVs P slots fn.results.toList=some ris) {r:AVal} (h2:resultsA ris vs h=some r) :
  ∃ v,(results fn tmps).run P w = .ok v w∧VRel w G v r:=by
 have key:∀ {f:ResultVar→Sem Value},(∀ t,f (.tmp t)=pure (tmps.getD t undef))→(∀ a t,f (.cell a t)=do loadVar t (←asAddr (tmps.getD a undef)))→∀ {l:List ResultVar} {ris:List ResV} {xs:List AVal},resRVs P slots l=some ris→rvsA vs h ris=some xs →
   ∃ vals:List Value,(l.mapM (m:=Sem) f).run P w = .ok vals w∧vals.length=xs.length∧∀ (k:Nat) (v:Value) (x:AVal),vals[k]?=some v→xs[k]?=some x→VRel w G v x:=by
  intro f hf hf2 l
  induction l with
  | nil=>intro ris xs h1 h2;simp [resRVs] at h1;subst h1;simp [rvsA] at h2;subst h2;exact ⟨[],by simp,rfl,by simp⟩
  | cons x l ih =>
    intro ris xs h1 h2
    have get:∀ {i t:Nat},look slots t=some i→VRel w G (tmps.getD t undef) ((vs[i]?).getD .bad):=by
     intro i t hi
     have hs:=look_some hi
     obtain ⟨x,hx⟩:∃ x,vs[i]?=some x:=⟨_,List.getElem?_eq_getElem (by rw [Fr.len];exact (List.getElem?_eq_some_iff.1 hs).1)⟩
     rw [hx]
     exact Fr.rel i t x hs hx
    cases x with
    | tmp t =>
      simp only [resRVs] at h1
      split at h1
      ·rename_i i rs hi hrs
       obtain rfl:=Option.some.inj h1
       simp only [rvsA,rvA] at h2
       split at h2
       ·rename_i x0 xs0 q0 q1
        obtain rfl:=Option.some.inj h2
        obtain rfl:=Option.some.inj q0
        obtain ⟨vals,q1,q2,q3⟩:=ih hrs q1
        refine ⟨tmps.getD t undef::vals,by simp [List.mapM_cons,hf,q1],by simp [q2],fun k v y hv hj=>?_⟩
        cases k with
        | zero=>simp at hv hj;subst hv;subst hj;have:=get hi;rwa [Array.getD_eq_getD_getElem?] at this
        | succ k=>exact q3 k v y (by simpa using hv) (by simpa using hj)
       ·simp at h2
      ·simp at h1
    | cell t ty =>
      simp only [resRVs] at h1
      split at h1
      ·rename_i i rs sz ag hi hrs hsz hag
       obtain rfl:=Option.some.inj h1
       simp only [rvsA,rvA] at h2
       split at h2
       ·rename_i x0 xs0 q0 q1
        obtain rfl:=Option.some.inj h2
        obtain ⟨vals,q1,q2,q3⟩:=ih hrs q1
        have hl:∃ ad v,(asAddr (tmps.getD t undef)).run P w = .ok ad w∧(loadVar ty ad).run P w = .ok v w∧VRel w G v x0:=by
         have rx:=get hi
         unfold loadA at q0
         split at q0
         ·rename_i id off hb
          rw [hb] at rx
          generalize hv:tmps.getD t undef=v at rx
          cases rx with
          | ptr _ _ hid =>
            split at q0
            ·rename_i mu sz' ag' cs hg
             split at q0
             ·rename_i hn
              obtain ⟨_,g2,g3,_,_⟩:=H.obj id _ hg
              have hC:CellsAt w G (G.loc id) 0 cs:=fun k c hk=>by simpa using g2 k c hk
              have hC':=hC.drop off
              rw [Nat.zero_add] at hC'
              obtain ⟨v,hr,hv'⟩:=load_cells (P:=P) (t:=ty) hC' (fun c hc'=>g3 c (List.mem_of_mem_drop hc')) (by simp;omega) hsz hag q0
              exact ⟨_,v,by simp [asAddr],hr,hv'⟩
             ·simp at q0
            ·simp at q0
         ·rename_i cs hb
          rw [hb] at rx
          generalize hv:tmps.getD t undef=v at rx
          cases rx with
          | rp b off _ u g1 g2 g3 g4 =>
            split at q0
            ·rename_i hn
             have hC:CellsAt w G b off cs:=fun k c hk=>⟨u k,g1 k c hk,g2 k c hk⟩
             obtain ⟨v,hr,hv'⟩:=load_cells (P:=P) (t:=ty) hC g4 hn hsz hag q0
             exact ⟨_,v,by simp [asAddr],hr,hv'⟩
            ·simp at q0
         ·simp at q0
        obtain ⟨ad,v0,hr1,hr0,hv0⟩:=hl
        refine ⟨v0::vals,by simp only [List.mapM_cons,hf2,Sem.run_bind,hr1,hr0,q1,Result.andThen,Sem.run_pure],by simp [q2],fun k v y hv hj=>?_⟩
        cases k with
        | zero=>simp at hv hj;subst hv;subst hj;exact hv0
        | succ k=>exact q3 k v y (by simpa using hv) (by simpa using hj)
       ·simp at h2
      ·simp at h1
 have hres:∀ {xs:List AVal},rvsA vs h ris=some xs→∃ vals:List Value,(results fn tmps).run P w = .ok (if h:vals.toArray.size=1 then vals.toArray[0] else .tuple vals.toArray) w∧vals.length=xs.length∧∀ (k:Nat) (v:Value) (x:AVal),vals[k]?=some v→xs[k]?=some x→VRel w G v x:=by
  intro xs hxs
  unfold results
  simp only [Sem.run_bind]
  rw [Array.mapM_eq_mapM_toList]
  obtain ⟨vals,q1,q2,q3⟩:=key (f:=fun x=>match x with
   | .tmp t=>pure (tmps.getD t undef)
   | .cell a t=>do loadVar t (←asAddr (tmps.getD a undef))) (fun t=>rfl) (fun a t=>rfl) h1 hxs
  refine ⟨vals,?_,q2,q3⟩
  simp only [Sem.run_map]
  have q1':=q1
  erw [q1']
  simp only [Result.andThen_ok,Sem.run_pure]
 cases ris with
 | nil =>
   obtain ⟨vals,hrun,q2,q3⟩:=hres (xs:=[]) rfl
   simp [resultsA,rvsA] at h2
   subst h2
   have:vals=[]:=List.eq_nil_of_length_eq_zero q2
   subst this
   exact ⟨_,hrun,.tup #[] [] rfl (by simp)⟩
 | cons r0 rs =>
   cases rs with
   | nil =>
     simp only [resultsA] at h2
     obtain ⟨vals,hrun,q2,q3⟩:=hres (xs:=[r]) (by simp [rvsA,h2])
     obtain ⟨v,rfl⟩:∃ v,vals=[v]:=by
      match vals,q2 with
      | [v],_=>exact ⟨v,rfl⟩
     exact ⟨_,hrun,by simpa using q3 0 v r rfl rfl⟩
   | cons r1 rs =>
     simp only [resultsA,Option.map_eq_some_iff] at h2
     obtain ⟨xs,hxs,rfl⟩:=h2
     obtain ⟨vals,hrun,q2,q3⟩:=hres hxs
     have hl:2≤xs.length:=by
      simp only [rvsA] at hxs
      split at hxs
      ·rename_i q
       split at q
       ·obtain rfl:=Option.some.inj q
        obtain rfl:=Option.some.inj hxs
        simp
       ·simp at q
      ·simp at hxs
     have hne:¬ (vals.toArray.size=1):=by simp;omega
     rw [dif_neg hne] at hrun
     exact ⟨_,hrun,.tup _ _ (by simp [q2]) (fun k c x hc hx=>q3 k c x (by simpa using hc) hx)⟩
def Marks (w0:World) (d0:List Deferred) (w:World) (G:Ghost) (h:Heap) (d:List Deferred):Prop :=
 ∃ bs:List Nat,d=bs.map (fun b=>({ target := .collected b,args:=#[] }:Deferred))++d0∧bs.Nodup∧∀ b∈bs,w0.heap.size≤b∧b<w.heap.size∧w.heap[b]?=some (.deferred (some []))∧¬ owned G h b
theorem Marks.same {w0 w:World} {d:List Deferred} {G:Ghost} {h:Heap}:Marks w0 d w G h d:=⟨[],by simp,by simp,by simp⟩
theorem Marks.of_eq {w0 w:World} {d d':List Deferred} {G:Ghost} {h:Heap} (e:d'=d):Marks w0 d w G h d':=e ▸ Marks.same
theorem Marks.trans {w0 w1 w2:World} {d0 d1 d2:List Deferred} {G1 G2:Ghost} {h1 h2:Heap} (hs:w0.heap.size≤w1.heap.size) (a:Marks w0 d0 w1 G1 h1 d1) (x:Ext w1 G1 h1 w2 G2 h2) (b:Marks w1 d1 w2 G2 h2 d2):Marks w0 d0 w2 G2 h2 d2:=by
 obtain ⟨b1,e1,n1,q1⟩:=a
 obtain ⟨b2,e2,n2,q2⟩:=b
 refine ⟨b2++b1,by rw [e2,e1];simp,List.nodup_append.2 ⟨n2,n1,fun x hx y hy e=>?_⟩,fun c hc=>?_⟩
 ·subst e
  have:=(q2 x hx).1
  have:=(q1 x hy).2.1
  omega
 ·rcases List.mem_append.1 hc with hc|hc
  ·obtain ⟨r1,r2,r3,r4⟩:=q2 c hc
   exact ⟨by omega,r2,r3,r4⟩
  ·obtain ⟨r1,r2,r3,r4⟩:=q1 c hc
   exact ⟨r1,Nat.lt_of_lt_of_le r2 x.size,by rw [(x.keep c r2 r4).1];exact r3,fun ho=>r4 (x.fresh c r2 ho)⟩
theorem dfr_cell {w:World} {b:Nat} {d:Option (List Deferred)} (hb:w.heap[b]?=some (.deferred d)) (d':Option (List Deferred)):(∀ a,(w.putObj b (.deferred d')).cell? a=w.cell? a)∧∀ c,(w.putObj b (.deferred d')).shape? c=w.shape? c:=by
 have hlt:b<w.heap.size:=(Array.getElem?_eq_some_iff.1 hb).1
 constructor
 ·rintro ⟨c,k,s⟩
  simp only [World.cell?]
  by_cases e:c=b
  ·subst e;rw [World.putObj_heap_same hlt,hb]
  ·rw [World.putObj_heap_other e]
 ·intro c
  simp only [World.shape?]
  by_cases e:c=b
  ·subst e;rw [World.putObj_heap_same hlt,hb]
  ·rw [World.putObj_heap_other e]
theorem dfr_v {w:World} {G:Ghost} {b:Nat} {d:Option (List Deferred)} (hb:w.heap[b]?=some (.deferred d)) (d':Option (List Deferred)):ExtV w G (w.putObj b (.deferred d')) G:=by
 obtain ⟨c1,c2⟩:=dfr_cell hb d'
 exact ⟨fun c k _ hs=>⟨c1 _,hs⟩,fun c _=>c2 c,Nat.le_refl _,fun _ _=>⟨rfl,rfl⟩,rfl⟩
theorem HRel.dfr {w:World} {G:Ghost} {h:Heap} (H:HRel w G h) {b:Nat} {d:Option (List Deferred)} (hb:w.heap[b]?=some (.deferred d)) (hn:¬ owned G h b) (d':Option (List Deferred)):HRel (w.putObj b (.deferred d')) G h :=
 ⟨H.n_eq,fun id o ho=>by rw [World.putObj_size];exact H.lt id o ho,fun id o ho=>OkObj.monoV (dfr_v hb d') (by rw [H.n_eq];exact Heap.get_lt ho) (H.lt id o ho) (World.putObj_heap_other (fun e=>hn ⟨id,o,ho,e⟩)) rfl (H.obj id o ho),H.inj,
  fun g cs hg=>⟨(H.glob g cs hg).1.monoV (dfr_v hb d'),(H.glob g cs hg).2⟩⟩
theorem Ext.dfr {w0 w:World} {G0 G:Ghost} {h0 h:Heap} (x:Ext w0 G0 h0 w G h) {b:Nat} {d:Option (List Deferred)} (hb:w.heap[b]?=some (.deferred d)) (hl:w0.heap.size≤b) (d':Option (List Deferred)):Ext w0 G0 h0 (w.putObj b (.deferred d')) G h:=by
 obtain ⟨c1,c2⟩:=dfr_cell hb d'
 exact ⟨x.os,x.tape,x.out,by rw [World.putObj_size];exact x.size,fun c hc hn=>⟨by rw [World.putObj_heap_other (by omega)];exact (x.keep c hc hn).1,(x.keep c hc hn).2⟩,fun c k hc hs=>⟨by rw [c1];exact (x.stable c k hc hs).1,(x.stable c k hc hs).2⟩,
  fun c hc=>by rw [c2];exact x.shape c hc,x.n_le,x.ids,x.fresh,x.env,fun c r hr=>by
   obtain ⟨r1,h1⟩:=x.loops c r hr
   by_cases e:c=b
   ·subst e;rw [hb] at h1;simp at h1
   ·exact ⟨r1,by rw [World.putObj_heap_other e];exact h1⟩⟩
theorem FRel.dfr {w:World} {G:Ghost} {tmps:Array Value} {slots:List Nat} {vs:List AVal} (r:FRel w G tmps slots vs) {b:Nat} {d:Option (List Deferred)} (hb:w.heap[b]?=some (.deferred d)) (d':Option (List Deferred)):FRel (w.putObj b (.deferred d')) G tmps slots vs :=
 ⟨r.len,fun i s y h1 h2=>(r.rel i s y h1 h2).monoV (dfr_v hb d')⟩
theorem leaves_ok {fn:Func} {w0:World} {G0:Ghost} {h0:Heap} {slots:List Nat} {vs:List AVal} {tmps:Array Value} {ris:List ResV} (h1:resRVs P slots fn.results.toList=some ris) {r:AVal} {h:Heap} (h2:resultsA ris vs h=some r) {m:Nat} :
  ∀ (bs:List Nat) {w:World} {G:Ghost},bs.Nodup→(∀ b∈bs,w0.heap.size≤b∧w.heap[b]?=some (.deferred (some []))∧¬ owned G h b)→Ext w0 G0 h0 w G h→HRel w G h→FRel w G tmps slots vs →
    LeavesInM (rF none) m P fn tmps (fun e w'=>∃ v G',e = .returned v∧Ext w0 G0 h0 w' G' h∧HRel w' G' h∧VRel w' G' v r) (bs.map (fun b=>({ target := .collected b,args:=#[] }:Deferred))) .returning w
 | [],w,G,_,_,hX,H,Fr=>by
   obtain ⟨v,q1,q2⟩:=results_ok H Fr h1 h2
   exact ⟨v,q1,v,G,rfl,hX,H,q2⟩
 | b::bs,w,G,hn,hb,hX,H,Fr=>by
   obtain ⟨q1,q2,q3⟩:=hb b (by simp)
   obtain ⟨n1,n2⟩:=List.nodup_cons.1 hn
   refine ⟨by simp,.inl ⟨b,_,rfl,run_takeDeferred q2,leaves_ok h1 h2 bs n2 (fun c hc=>?_) (hX.dfr q2 q1 _) (H.dfr q2 q3 _) (Fr.dfr q2 _)⟩⟩
   obtain ⟨r1,r2,r3⟩:=hb c (by simp [hc])
   exact ⟨r1,by rw [World.putObj_heap_other (by rintro rfl;exact n1 hc)];exact r2,r3⟩
def SitesOk (P:Program) (fid nt k:Nat) (c:Code):Prop:=∀ j x,(loopsM c)[j]?=some x→siteOf P fid (k+j)=some (nt,x)
theorem nLoops_eq:∀ c:Code,nLoops c=(loopsM c).length
 | .seq a b=>by simp [nLoops,loopsM,nLoops_eq a,nLoops_eq b]
 | .cond _ a b=>by simp [nLoops,loopsM,nLoops_eq a,nLoops_eq b]
 | .block _ c=>by simp [nLoops,loopsM,nLoops_eq c]
 | .loop c=>by simp [nLoops,loopsM,nLoops_eq c]
 | .scope c=>by simp [nLoops,loopsM,nLoops_eq c]
 | .rangeFunc _ _ a b=>by simp [nLoops,loopsM,nLoops_eq a,nLoops_eq b];omega
 | .skip | .region .. | .exit _ | .goto _ | .label _ | .ret | .refuse _=>rfl
theorem SitesOk.left {fid nt k:Nat} {c a b:Code} (h:SitesOk P fid nt k c) (e:loopsM c=loopsM a++loopsM b):SitesOk P fid nt k a:=fun j x hx=>h j x (by rw [e,List.getElem?_append_left (List.getElem?_eq_some_iff.1 hx).1];exact hx)
theorem SitesOk.right {fid nt k:Nat} {c a b:Code} (h:SitesOk P fid nt k c) (e:loopsM c=loopsM a++loopsM b):SitesOk P fid nt (k+nLoops a) b:=fun j x hx=>by
 rw [nLoops_eq,Nat.add_assoc]
 exact h _ x (by rw [e,List.getElem?_append_right (Nat.le_add_right _ _),Nat.add_sub_cancel_left];exact hx)
theorem loops_get {fid nt:Nat} {slots:List Nat}:∀ (c:Code) (k j:Nat) (L:ALoop),(compLoops P Hh fid nt slots k c)[j]?=some L →
  ∃ ps a b,(loopsM c)[j]?=some (ps,a,b)∧L=⟨ps.toList.map (look slots),compCode P Hh fid nt slots true (k+j+1) a,compCode P Hh fid nt slots true (k+j+1+nLoops a) b⟩∧∀ i x,(loopsM a++loopsM b)[i]?=some x→(loopsM c)[j+1+i]?=some x:=by
 have len:∀ (c:Code) (k:Nat),(compLoops P Hh fid nt slots k c).length=(loopsM c).length:=by
  intro c
  induction c with
  | seq a b iha ihb=>intro k;simp [compLoops,loopsM,iha,ihb]
  | cond _ a b iha ihb=>intro k;simp [compLoops,loopsM,iha,ihb]
  | block _ c ih=>intro k;simp [compLoops,loopsM,ih]
  | loop c ih=>intro k;simp [compLoops,loopsM,ih]
  | scope c ih=>intro k;simp [compLoops,loopsM,ih]
  | rangeFunc _ _ a b iha ihb=>intro k;simp [compLoops,loopsM,iha,ihb]
  | _=>intro k;rfl
 have app:∀ {a b:Code} {k:Nat},
   (∀ (k j:Nat) (L:ALoop),(compLoops P Hh fid nt slots k a)[j]?=some L→∃ ps x y,(loopsM a)[j]?=some (ps,x,y)∧L=⟨ps.toList.map (look slots),compCode P Hh fid nt slots true (k+j+1) x,compCode P Hh fid nt slots true (k+j+1+nLoops x) y⟩∧∀ i z,(loopsM x++loopsM y)[i]?=some z→(loopsM a)[j+1+i]?=some z) →
   (∀ (k j:Nat) (L:ALoop),(compLoops P Hh fid nt slots k b)[j]?=some L→∃ ps x y,(loopsM b)[j]?=some (ps,x,y)∧L=⟨ps.toList.map (look slots),compCode P Hh fid nt slots true (k+j+1) x,compCode P Hh fid nt slots true (k+j+1+nLoops x) y⟩∧∀ i z,(loopsM x++loopsM y)[i]?=some z→(loopsM b)[j+1+i]?=some z) →
   ∀ (j:Nat) (L:ALoop),(compLoops P Hh fid nt slots k a++compLoops P Hh fid nt slots (k+nLoops a) b)[j]?=some L→∃ ps x y,(loopsM a++loopsM b)[j]?=some (ps,x,y)∧L=⟨ps.toList.map (look slots),compCode P Hh fid nt slots true (k+j+1) x,compCode P Hh fid nt slots true (k+j+1+nLoops x) y⟩∧∀ i z,(loopsM x++loopsM y)[i]?=some z→(loopsM a++loopsM b)[j+1+i]?=some z:=by
  intro a b k h1 h2 j L hL
  by_cases hj:j<(loopsM a).length
  ·rw [List.getElem?_append_left (by rw [len];exact hj)] at hL
   obtain ⟨ps,x,y,e1,e2,e3⟩:=h1 k j L hL
   refine ⟨ps,x,y,by rw [List.getElem?_append_left hj];exact e1,e2,fun i z hz=>?_⟩
   have:=e3 i z hz
   rw [List.getElem?_append_left (List.getElem?_eq_some_iff.1 this).1]
   exact this
  ·rw [List.getElem?_append_right (by rw [len];omega),len] at hL
   obtain ⟨ps,x,y,e1,e2,e3⟩:=h2 _ _ L hL
   have e0:k+nLoops a+(j - (loopsM a).length)+1=k+j+1:=by rw [nLoops_eq];omega
   rw [e0] at e2
   refine ⟨ps,x,y,by rw [List.getElem?_append_right (by omega)];exact e1,e2,fun i z hz=>?_⟩
   have:=e3 i z hz
   rw [List.getElem?_append_right (by omega),show j+1+i - (loopsM a).length=j - (loopsM a).length+1+i by omega]
   exact this
 intro c
 induction c with
 | seq a b iha ihb=>intro k j L h;exact app iha ihb j L h
 | cond _ a b iha ihb=>intro k j L h;exact app iha ihb j L h
 | block _ c ih=>intro k j L h;exact ih k j L h
 | loop c ih=>intro k j L h;exact ih k j L h
 | scope c ih=>intro k j L h;exact ih k j L h
 | rangeFunc f ps a b iha ihb =>
   intro k j L h
   simp only [compLoops] at h
   cases j with
   | zero =>
     simp only [List.getElem?_cons_zero,Option.some.injEq] at h
     subst h
     refine ⟨ps,a,b,by simp [loopsM],rfl,fun i x hx=>?_⟩
     rw [show 0+1+i=i+1 by omega]
     simpa [loopsM] using hx
   | succ j =>
     simp only [List.getElem?_cons_succ] at h
     obtain ⟨ps',x,y,e1,e2,e3⟩:=app (k:=k+1) iha ihb j L h
     refine ⟨ps',x,y,by simpa [loopsM] using e1,by rw [show k+(j+1)+1=k+1+j+1 by omega];exact e2,fun i z hz=>?_⟩
     rw [show j+1+1+i=(j+1+i)+1 by omega]
     simpa [loopsM] using e3 i z hz
 | _=>intro k j L h;simp [compLoops] at h
def CodeOk (P:Program) (Hh:Hints) (F:Nat→Option AEnt) (n:Nat):Prop :=
 ∀ (ro:Option Nat) (m:Nat) (top:Bool) (fid nt:Nat) (slots:List Nat) (k:Nat) (c:Code) (vs:List AVal) (h:Heap) (e:AExit) (vs':List AVal) (h':Heap) (a:Act) (w:World) (G:Ghost) (Q:Exit→Act→World→Prop),slots.Nodup→(top=true→SitesOk P fid nt k c)→(∀ l,ro=some l→∃ r,w.heap[l]?=some (Go.Obj.loop r))→G.env=envOf P Hh →
   run F n (.code (compCode P Hh fid nt slots top k c) vs h)=some (.code e vs' h')→CRel w G a nt slots vs h →
   (∀ a' w' G',Ext w G h w' G' h'→CRel w' G' a' nt slots vs' h'→Marks w a.defers w' G' h' a'.defers→Q (exitOf e) a' w')→c.wpIn (rF ro) m P Q a w
def CallOk (P:Program) (Hh:Hints) (F:Nat→Option AEnt) (n:Nat):Prop:=∀ g args h r h',run F n (.call g args h)=some (.val r h')→CallRelE P Hh g args h r h'
def YieldOk (P:Program) (Hh:Hints) (F:Nat→Option AEnt) (n:Nat):Prop:=∀ id args h r h',run F n (.yield id args h)=some (.val r h')→YieldRel P Hh id args h r h'
theorem call_step (hT:Table P Hh F) {n:Nat} (ih:CodeOk P Hh F n):CallOk P Hh F (n+1):=by
 intro g args h r h' e w G cargs hEnv H hp
 simp only [run] at e
 split at e
 ·simp at e
 ·rename_i s hs
  simp only [Option.map_eq_some_iff,Res.val.injEq] at e
  obtain ⟨p,hp',rfl,rfl⟩:=e
  exact (hT.hand hs).1 args h p.1 p.2 hp' w G cargs hEnv H hp
 ·rename_i af haf
  obtain ⟨fn,c,hf,hb,hn,hres,hnd,hlt,hbody,hloops⟩:=compFunc_some (hT.comp haf)
  rw [hbody] at e
  refine (callsIn_wide (n:=0)).1 (callsIn_of_wp_marks (F:=rF none) hf hb trivial ?_)
  have hget:∀ s,(cargs++Array.replicate (fn.ntmps - cargs.size) undef).getD s undef=(cargs[s]?).getD undef:=by
   intro s
   rw [Array.getD_eq_getD_getElem?]
   by_cases hs:s<cargs.size
   ·rw [Array.getElem?_append_left hs]
   ·rw [Array.getElem?_append_right (by omega:cargs.size≤s),Array.getElem?_replicate,Array.getElem?_eq_none (by omega:cargs.size≤s)]
    split<;>rfl
  have S0:CRel w G { tmps:=cargs++Array.replicate (fn.ntmps - cargs.size) undef,defers:=[] } fn.ntmps af.slots (af.slots.map fun s=>(args[s]?).getD (.tup [])) h:=by
   refine ⟨H,⟨by simp,fun i s x h1 h2=>?_⟩,by simp;omega⟩
   simp only [List.getElem?_map,h1,Option.map_some,Option.some.injEq] at h2
   subst h2
   rw [hget]
   by_cases hs:s<cargs.size
   ·obtain ⟨x,hx⟩:∃ x,args[s]?=some x:=⟨_,List.getElem?_eq_getElem (by rw [←hp.len];exact hs)⟩
    rw [hx,Array.getElem?_eq_getElem hs]
    exact hp.rel s _ x (Array.getElem?_eq_getElem hs) hx
   ·rw [Array.getElem?_eq_none (by omega),List.getElem?_eq_none (by rw [←hp.len];omega)]
    exact .tup #[] [] rfl (by simp)
  have hsites:SitesOk P g fn.ntmps 0 c:=fun j x hx=>by simp [siteOf,hf,hb,hx]
  have fin:∀ {vs:List AVal} {a':Act} {w':World} {G':Ghost} {h1:Heap},Ext w G h w' G' h1→CRel w' G' a' fn.ntmps af.slots vs h1→Marks w [] w' G' h1 a'.defers→(resultsA af.results vs h1).map (Res.val · h1)=some (.val r h') →
    LeavesInM (rF none) 0 P fn a'.tmps (fun e w'=>∃ v G',e = .returned v∧Ext w G h w' G' h'∧HRel w' G' h'∧VRel w' G' v r) a'.defers .returning w':=by
   intro vs a' w' G' h1 hX hS hM hr
   simp only [Option.map_eq_some_iff,Res.val.injEq] at hr
   obtain ⟨r0,hr,rfl,rfl⟩:=hr
   obtain ⟨bs,e1,e2,e3⟩:=hM
   rw [e1,List.append_nil]
   exact leaves_ok hres hr bs e2 (fun b hb=>⟨(e3 b hb).1,(e3 b hb).2.2.1,(e3 b hb).2.2.2⟩) hX hS.H hS.F
  split at e
  ·rename_i vs h1 hrun
   exact ih none 0 true g fn.ntmps af.slots 0 c _ h .normal vs h1 _ w G _ hnd (fun _=>hsites) (fun l q=>by simp at q) hEnv hrun S0 (fun a' w' G' hX hS hd=>fin hX hS hd e)
  ·rename_i vs h1 hrun
   exact ih none 0 true g fn.ntmps af.slots 0 c _ h .ret vs h1 _ w G _ hnd (fun _=>hsites) (fun l q=>by simp at q) hEnv hrun S0 (fun a' w' G' hX hS hd=>fin hX hS hd e)
  ·simp at e
theorem setPs_rel {w:World} {G:Ghost} {slots:List Nat} (hnd:slots.Nodup) {nt:Nat} (hlt:∀ s∈slots,s<nt):∀ (ps:List Tmp) (cargs:List Value) (args:List AVal) (tmps:Array Value) (vs:List AVal),ps.length=args.length→cargs.length=args.length →
  (∀ (k:Nat) (c:Value) (x:AVal),cargs[k]?=some c→args[k]?=some x→VRel w G c x)→FRel w G tmps slots vs→nt≤tmps.size →
  FRel w G ((ps.zip cargs).foldl (fun tmps (t,a)=>tmps.setIfInBounds t a) tmps) slots (setPs (ps.map (look slots)) args vs)∧nt≤((ps.zip cargs).foldl (fun tmps (t,a)=>tmps.setIfInBounds t a) tmps).size
 | [],[],[],tmps,vs,_,_,_,Fr,hs=>⟨Fr,hs⟩
 | p::ps,c::cargs,x::args,tmps,vs,h1,h2,hr,Fr,hs=>by
   simp only [List.zip_cons_cons,List.foldl_cons,List.map_cons]
   have hx:=hr 0 c x rfl rfl
   have hr':∀ (k:Nat) (c:Value) (x:AVal),cargs[k]?=some c→args[k]?=some x→VRel w G c x:=fun k c x q1 q2=>hr (k+1) c x (by simpa using q1) (by simpa using q2)
   cases hl:look slots p with
   | none =>
     simp only [setPs]
     refine setPs_rel hnd hlt ps cargs args _ vs (by simpa using h1) (by simpa using h2) hr' ⟨Fr.len,fun i s y q1 q2=>?_⟩ (by simpa using hs)
     have hne:p≠s:=fun e=>by subst e;exact look_go_none hl (List.mem_of_getElem? q1)
     have:=Fr.rel i s y q1 q2
     rw [Array.getD_eq_getD_getElem?,Array.getElem?_setIfInBounds_ne hne,←Array.getD_eq_getD_getElem?]
     exact this
   | some i0 =>
     simp only [setPs]
     have hs0:=look_some hl
     refine setPs_rel hnd hlt ps cargs args _ _ (by simpa using h1) (by simpa using h2) hr' ⟨by simp [Fr.len],fun i s y q1 q2=>?_⟩ (by simpa using hs)
     have hpt:p<tmps.size:=Nat.lt_of_lt_of_le (hlt p (List.mem_of_getElem? hs0)) hs
     rw [getD_set hpt]
     rw [List.getElem?_set] at q2
     by_cases e:i0=i
     ·subst e
      rw [hs0] at q1;obtain rfl:=Option.some.inj q1
      rw [if_pos rfl] at q2
      split at q2
      ·obtain rfl:=Option.some.inj q2
       simpa using hx
      ·simp at q2
     ·rw [if_neg e] at q2
      have hne:p≠s:=fun q=>by
       subst q
       have a1:=List.getElem?_eq_some_iff.1 hs0
       have a2:=List.getElem?_eq_some_iff.1 q1
       exact e ((List.getElem_inj hnd).1 (a1.2.trans a2.2.symm))
      rw [if_neg hne]
      exact Fr.rel i s y q1 q2
 | [],_::_,[],_,_,_,h,_,_,_=>by simp at h
 | [],_,_::_,_,_,h,_,_,_,_=>by simp at h
 | _::_,_,[],_,_,h,_,_,_,_=>by simp at h
 | _::_,[],_::_,_,_,_,h,_,_,_=>by simp at h
theorem loop_turned {w:World} {G:Ghost} {b:Nat} {r:Loop} (hb:w.heap[b]?=some (.loop r)) (r':Loop):Turned w G b (w.putObj b (.loop r')) (G.lim b):=by
 have hlt:b<w.heap.size:=(Array.getElem?_eq_some_iff.1 hb).1
 exact ⟨rfl,rfl,rfl,World.putObj_size,fun c hc=>World.putObj_heap_other hc,by simp [World.shape?,World.putObj_heap_same hlt,hb],fun k _=>by simp [World.cell?,World.putObj_heap_same hlt,hb],fun k hk m hm=>hk m hm,fun _ _=>⟨r',World.putObj_heap_same hlt⟩⟩
theorem lrec_put {w:World} {G:Ghost} {h:Heap} (H:HRel w G h) {id:Nat} {st:LSt} {fid k:Nat} {slots:List Nat} {vs:List AVal} (hg:h.get id=some (.lrec st fid k slots vs)) {r:Loop} (hr:w.heap[G.loc id]?=some (.loop r)) (st':LSt) (s':LoopState) (p':Option Code) (hst:stOk st' s' p') :
  ∃ G',Ext w G h (w.putObj (G.loc id) (.loop { r with state:=s',pending:=p' })) G' (h.put id (some (.lrec st' fid k slots vs)))∧HRel (w.putObj (G.loc id) (.loop { r with state:=s',pending:=p' })) G' (h.put id (some (.lrec st' fid k slots vs))):=by
 obtain ⟨r0,nt,e1,e2,e3,e4,e5,e6⟩:=H.obj id _ hg
 rw [hr] at e1
 simp only [Option.some.injEq,Go.Obj.loop.injEq] at e1
 subst e1
 have t:=loop_turned (G:=G) hr { r with state:=s',pending:=p' }
 have hX:=Ext.update hg t (some (.lrec st' fid k slots vs))
 have hlt:G.loc id<w.heap.size:=H.lt id _ hg
 refine ⟨_,hX,HRel.update H hg t _ (fun o ho=>?_)⟩
 obtain rfl:=Option.some.inj ho
 refine ⟨{ r with state:=s',pending:=p' },nt,?_,e2,hst,e4,fun i s x q1 q2=>(e5 i s x q1 q2).mono hX,e6⟩
 show (w.putObj (G.loc id) _).heap[G.loc id]?=_
 exact World.putObj_heap_same hlt
theorem lrec_drop {w:World} {G:Ghost} {h:Heap} (H:HRel w G h) {id:Nat} {o:Obj} (hg:h.get id=some o) {r:Loop} (hr:w.heap[G.loc id]?=some (.loop r)) (r':Loop) :
  ∃ G',Ext w G h (w.putObj (G.loc id) (.loop r')) G' (h.put id none)∧HRel (w.putObj (G.loc id) (.loop r')) G' (h.put id none)∧G'.loc=G.loc:=by
 have t:=loop_turned (G:=G) hr r'
 exact ⟨_,Ext.update hg t none,HRel.update H hg t none (fun o ho=>by simp at ho),rfl⟩
theorem yield_step (hT:Table P Hh F) {n:Nat} (ih:CodeOk P Hh F n):YieldOk P Hh F (n+1):=by
 intro id args h r h' e w G cargs ro m hEnv H hp
 simp only [run] at e
 split at e
 rotate_left
 ·simp at e
 rename_i fid k slots vs hg
 split at e
 rotate_left
 ·simp at e
 rename_i fn hF
 split at e
 rotate_left
 ·simp at e
 rename_i L hL
 split at e
 rotate_left
 ·simp at e
 rename_i hcond
 obtain ⟨hsl,hlen⟩:=hcond
 obtain ⟨cf,c,hf,hb,hn,hres,hnd,hlt,hbody,hloops⟩:=compFunc_some (hT.comp hF)
 rw [hloops] at hL
 obtain ⟨ps,ca,cb,hM,rfl,hin⟩:=loops_get c 0 k L hL
 obtain ⟨r0,nt,e1,e2,e3,e4,e5,e6⟩:=H.obj id _ hg
 have hsite:siteOf P fid k=some (cf.ntmps,ps,ca,cb):=by simp [siteOf,hf,hb,hM]
 rw [hEnv] at e2
 have e2':siteOf P fid k=some (nt,r0.params,r0.assign,r0.body):=e2
 rw [hsite] at e2'
 simp only [Option.some.injEq,Prod.mk.injEq] at e2'
 obtain ⟨rfl,rfl,rfl,rfl⟩:=e2'
 have hid:id<G.n:=by rw [H.n_eq];exact Heap.get_lt hg
 subst hsl
 simp only [List.length_map,Array.length_toList] at hlen
 have hcl:cargs.toList.length=args.length:=by simpa using hp.len
 refine ⟨r0,e1,by have:=hp.len;omega,?_⟩
 obtain ⟨F1,s1⟩:=setPs_rel hnd hlt r0.params.toList cargs.toList args r0.tmps vs (by simpa using hlen.symm) hcl (fun k c x q1 q2=>hp.rel k c x (by simpa using q1) q2) ⟨e4,e5⟩ e6
 have hfold:(r0.params.zip cargs).foldl (fun tmps (t,a)=>tmps.setIfInBounds t a) r0.tmps=(r0.params.toList.zip cargs.toList).foldl (fun tmps (t,a)=>tmps.setIfInBounds t a) r0.tmps:=by
  rw [←Array.foldl_toList,Array.toList_zip]
 rw [hfold]
 have cok:∀ {cc:Code} {kk:Nat} {vs1 vs2:List AVal} {h1 h2:Heap} {ee:AExit} {a1:Act} {w1:World} {G1:Ghost} {Q:Exit→Act→World→Prop},SitesOk P fid cf.ntmps kk cc→(∃ r,w1.heap[G.loc id]?=some (Go.Obj.loop r))→G1.env=envOf P Hh→run F n (.code (compCode P Hh fid cf.ntmps fn.slots true kk cc) vs1 h1)=some (.code ee vs2 h2)→CRel w1 G1 a1 cf.ntmps fn.slots vs1 h1 →
   (∀ a' w' G',Ext w1 G1 h1 w' G' h2→CRel w' G' a' cf.ntmps fn.slots vs2 h2→Q (exitOf ee) a' w')→cc.wpIn (rF (some (G.loc id))) m P Q a1 w1:=by
  intro cc kk vs1 vs2 h1 h2 ee a1 w1 G1 Q hsi hlo hE hr hC hQ
  exact ih (some (G.loc id)) m true fid cf.ntmps fn.slots kk cc vs1 h1 ee vs2 h2 a1 w1 G1 Q hnd (fun _=>hsi) (fun l q=>by obtain rfl:=Option.some.inj q;exact hlo) hE hr hC (fun a' w' G' hX hC' _=>hQ a' w' G' hX hC')
 have siA:SitesOk P fid cf.ntmps (0+k+1) r0.assign:=fun j x hx=>by
  have:=hin j x (by rw [List.getElem?_append_left (List.getElem?_eq_some_iff.1 hx).1];exact hx)
  rw [show 0+k+1+j=k+1+j by omega]
  simp [siteOf,hf,hb,this]
 have siB:SitesOk P fid cf.ntmps (0+k+1+nLoops r0.assign) r0.body:=fun j x hx=>by
  have:=hin ((loopsM r0.assign).length+j) x (by rw [List.getElem?_append_right (by omega),Nat.add_sub_cancel_left];exact hx)
  rw [nLoops_eq,show 0+k+1+(loopsM r0.assign).length+j=k+1+((loopsM r0.assign).length+j) by omega]
  simp [siteOf,hf,hb,this]
 split at e
 rotate_left
 ·simp at e
 rename_i vs2 h2 hr2
 split at e
 rotate_left
 ·simp at e
 rename_i fid2 k2 slots2 vs3 hg2
 split at e
 rotate_left
 ·simp at e
 rename_i e3 vs5 h3 hr3
 split at e
 rotate_left
 ·simp at e
 rename_i fid3 k3 slots3 vs4 hg3
 refine roundIn_of_wpIn (F:=rF ro) trivial ?_
 refine cok siA ⟨_,e1⟩ hEnv hr2 ⟨H,F1,s1⟩ fun a1 w1 G1 hX1 C1=>?_
 -- the round begins
 have hl1:G1.loc id=G.loc id:=(hX1.ids id hid).1
 obtain ⟨r1,nt1,b1,b2,b3,b4,b5,b6⟩:=C1.H.obj id _ hg2
 have b1':w1.heap[G.loc id]?=some (.loop r1):=by rw [←hl1];exact b1
 obtain ⟨G2,hX2,H2⟩:=lrec_put C1.H hg2 b1 .busy .busy r1.pending rfl
 rw [hl1] at hX2 H2
 refine ⟨w1.putObj (G.loc id) (.loop { r1 with state := .busy }),run_beginRound b1' b3.1,?_⟩
 have hE2:G2.env=envOf P Hh:=hX2.env.trans (hX1.env.trans hEnv)
 refine cok siB ⟨_,World.putObj_heap_same (Array.getElem?_eq_some_iff.1 b1').1⟩ hE2 hr3 ⟨H2,C1.F.mono hX2,C1.size⟩ fun a3 w3 G3 hX3 C3=>?_
 have hl3:G3.loc id=G.loc id:=by
  have hid1:id<G1.n:=Nat.lt_of_lt_of_le hid hX1.n_le
  rw [(hX3.ids id (Nat.lt_of_lt_of_le hid1 hX2.n_le)).1,(hX2.ids id hid1).1,hl1]
 obtain ⟨r3,nt3,d1,d2,d3,d4,d5,d6⟩:=C3.H.obj id _ hg3
 have d1':w3.heap[G.loc id]?=some (.loop r3):=by rw [←hl3];exact d1
 have hXX:=(hX1.trans hX2).trans hX3
 cases e3 with
 | normal =>
   simp only [Option.some.injEq,Res.val.injEq] at e
   obtain ⟨rfl,rfl⟩:=e
   obtain ⟨G4,hX4,H4⟩:=lrec_put C3.H hg3 d1 .ready .ready none ⟨rfl,rfl⟩
   rw [hl3] at hX4 H4
   refine ⟨.bool true,_,by simpa using run_endRound (P:=P) none d1',.bool true,G4,rfl,hXX.trans hX4,H4,.bool true⟩
 | ret =>
   simp only [Option.some.injEq,Res.val.injEq] at e
   obtain ⟨rfl,rfl⟩:=e
   obtain ⟨G4,hX4,H4⟩:=lrec_put C3.H hg3 d1 (.done .ret) .done (some .ret) ⟨rfl,rfl,by simp⟩
   rw [hl3] at hX4 H4
   refine ⟨.bool false,_,by simpa using run_endRound (P:=P) (some .ret) d1',.bool false,G4,rfl,hXX.trans hX4,H4,.bool false⟩
 | exit i =>
   simp only [Option.some.injEq,Res.val.injEq] at e
   obtain ⟨rfl,rfl⟩:=e
   obtain ⟨G4,hX4,H4⟩:=lrec_put C3.H hg3 d1 (.done (.exit i)) .done (some (.exit i)) ⟨rfl,rfl,by simp⟩
   rw [hl3] at hX4 H4
   refine ⟨.bool false,_,by simpa using run_endRound (P:=P) (some (.exit i)) d1',.bool false,G4,rfl,hXX.trans hX4,H4,.bool false⟩
theorem wpIn_scope_straight {Fe:Fence} {m:Nat} {c:Code} {Q:Exit→Act→World→Prop} {a:Act} {w:World} (h:c.wpIn Fe m P (Exit.noGoto Q) a w):(Code.scope c).wpIn Fe m P Q a w:=by
 intro b k cs hro hb hr
 have step_scope:step P (lone (b.atR a (.code (.scope c)::k)) cs w) = .next (lone (b.atR a (.code c :: .inScope c::k)) cs w):=step_lone_go (by simp [stepG,stepG.exec,Frame.atR])
 have step_in:∀ {a':Act} {w':World},step P (lone (b.atR a' (.inScope c::k)) cs w') = .next (lone (b.atR a' k) cs w'):=fun {a' w'}=>step_lone_go (by simp [stepG,stepG.exec,Frame.atR])
 have h0:StepsIn (Machine.fenced P Fe) P (lone (b.atR a (.code (.scope c)::k)) cs w) (lone (b.atR a (.code c :: .inScope c::k)) cs w) := .one (fenced_calm hb hr rfl) step_scope
 obtain ⟨e,a₁,w₁,hq,harr⟩:=h b (.inScope c::k) cs hro hb hr
 cases e with
 | normal=>exact ⟨.normal,a₁,w₁,hq,.of_steps h0 (StepsIn.trans harr (.one (fenced_calm (fr:=b.atR a₁ (.inScope c::k)) hb hr rfl) step_in))⟩
 | exit id =>
   refine ⟨.exit id,a₁,w₁,hq,.of_steps h0 ⟨fun k' hk=>harr.1 k' (by simp [exitTo,hk]),fun hro' hk=>?_⟩⟩
   exact harr.2 hro' (by simpa [exitTo] using hk)
 | goto l=>exact hq.elim
 | ret=>exact ⟨_,a₁,w₁,hq,.of_steps h0 harr⟩
 | panic ch=>exact ⟨_,a₁,w₁,hq,.of_steps h0 harr⟩
 | outgrown=>exact ⟨_,a₁,w₁,hq,.of_steps h0 harr⟩
theorem CRel.mono_refl {w:World} {G:Ghost} {a:Act} {nt:Nat} {slots:List Nat} {vs:List AVal} {h:Heap} (S:CRel w G a nt slots vs h):CRel w.drew G a nt slots vs h :=
 ⟨HRel.of_heap (w:=w) ⟨rfl,rfl,rfl,rfl⟩ S.H,S.F.mono (Ext.of_heap (w:=w) (w':=w.drew) (h:=h) ⟨rfl,rfl,rfl,rfl⟩),S.size⟩
theorem region_ok (hmix:P.follows .mixedOrders=true) {cf:CallF} (hcf:CfOk P Hh cf) {fid nt:Nat} {slots:List Nat} (hnd:slots.Nodup) {id:Nat} {ops:Array Oper} {draw:Bool} {l:List AOper} {top:Bool} {k0:Nat} (hc:compCode P Hh fid nt slots top k0 (.region id ops draw) = .ops l)
  {vs:List AVal} {h:Heap} {s':St} {a:Act} {w:World} {G:Ghost} {ro:Option Nat} {m:Nat} {Q:Exit→Act→World→Prop} (hEnv:G.env=envOf P Hh) (S:CRel w G a nt slots vs h) (e:foldA cf l 0 ⟨vs,List.replicate l.length .bad,h⟩=some s')
  (hQ:∀ a' w' G',Ext w G h w' G' s'.h→CRel w' G' a' nt slots s'.vs s'.h→a'.defers=a.defers→Q .normal a' w'):(Code.region id ops draw).wpIn (rF ro) m P Q a w:=by
 obtain ⟨asx,c1,c2,c3⟩:=compCode_region hc
 have hl:asx.length=ops.size:=by have:=(compOpers_get c1).1;simpa using this
 have hgr:∀ g args h r h',Hh.grow g=true→cf false g args h=some (r,h')→TokExt h h':=fun g args h r h' hg e=>(hcf.1 g args h r h' e).2.2 hg
 have mkS:∀ {w0:World},CRel w0 G a nt slots vs h→SRel w0 G a nt slots ops.toList ⟨vs,List.replicate asx.length .bad,h⟩:=fun S=>⟨S.H,S.F,⟨by simp [hl],fun k t o x h1 h2 h3 h4=>by
  simp only [List.getElem?_replicate] at h4
  split at h4
  ·simp at h4;subst h4;exact .bad _
  ·simp at h4⟩,S.size⟩
 rcases c3 with ⟨rfl,c3⟩|⟨rfl,ord,ho,hren⟩
 ·rw [foldA_eq cf l l 0 _ (fun j=>by simp)] at e
  cases draw with
  | false =>
    refine wpIn_region ?_
    rw [List.range_eq_range']
    rw [hl] at e
    exact fold_ok hcf hnd c2 c1 _ hEnv (mkS S) (by rw [hl];exact e) fun a' w' G' hX S' hd=>hQ a' w' G' hX ⟨S'.H,S'.F,S'.size⟩ hd
  | true =>
    refine wpIn_region_draw fun t=>?_
    rw [hmix]
    exact fold_ok hcf hnd c2 c1 _ hEnv (mkS S.mono_refl) (draw_ok hgr hl (c3 rfl) e t) fun a' w' G' hX S' hd=>hQ a' w' G' hX.drew ⟨S'.H,S'.F,S'.size⟩ hd
 ·simp only [drawOkO,permOk,Bool.and_eq_true,decide_eq_true_eq] at ho
  obtain ⟨⟨hE,⟨⟨ho1,ho2⟩,ho3⟩⟩,ho4⟩:=ho
  have hll:=renOpers_len hren
  have hmem:∀ k,k∈ord↔k<ord.length:=by
   have hsub:List.range ord.length ⊆ ord:=fun k hk=>by
    have:=List.all_eq_true.1 ho2 k (by rw [←ho1];exact hk)
    simpa using this
   intro k
   constructor
   ·intro hk
    refine Classical.byContradiction fun hc=>?_
    have hn:(k::List.range ord.length).Nodup:=List.nodup_cons.2 ⟨by simpa using hc,List.nodup_range⟩
    have:=hn.length_le_of_subset (fun x hx=>by
     rcases List.mem_cons.1 hx with rfl|hx
     ·exact hk
     ·exact hsub hx)
    simp only [List.length_cons,List.length_range] at this
    omega
   ·intro hk
    exact hsub (by simpa using hk)
  have hperm:ord.Perm (List.range ops.size):=by
   rw [List.perm_iff_count]
   intro i
   rw [ho3.count,(List.nodup_range (n:=ops.size)).count]
   simp only [hmem i,List.mem_range,ho1,hl]
  obtain ⟨s1',r1,r2,r3⟩:=ren_fold (cf:=cf) (asx:=asx) ho3 0 ord l ⟨vs,List.replicate asx.length .bad,h⟩ ⟨vs,List.replicate l.length .bad,h⟩ s' rfl hren rfl rfl (by simp [hll]) (fun k=>by rw [hmem k,ho1];simp) (fun k=>by
   simp only [evOpd,List.getElem?_replicate]
   split<;>split<;>rfl) e
  refine wpIn_region_draw fun t=>?_
  rw [hmix]
  have hB:ord.Pairwise fun x y=>∃ p q:Nat,p<q∧ord[p]?=some x∧ord[q]?=some y:=by
   rw [List.pairwise_iff_getElem]
   intro i j hi hj hij
   exact ⟨i,j,hij,List.getElem?_eq_getElem hi,List.getElem?_eq_getElem hj⟩
  have hnn:∀ x,¬ ∃ p q:Nat,p<q∧ord[p]?=some x∧ord[q]?=some x:=by
   rintro x ⟨p,q,hpq,h1,h2⟩
   have:=(List.getElem?_inj (List.getElem?_eq_some_iff.1 h1).1 ho3).1 (h1.trans h2.symm)
   omega
  have hd:=draw_gen hgr (ops:=ops) (asx:=asx) hnn hB hperm hl hE (fun x y hxy a b ha hb hcf=>by
   obtain ⟨p,q,hpq,h1,h2⟩:=hxy
   have hp4:=pairsOkO_get ho4
   rw [List.pairwise_iff_getElem] at hp4
   have hpl:=(List.getElem?_eq_some_iff.1 h1).1
   have hql:=(List.getElem?_eq_some_iff.1 h2).1
   have:=hp4 p q hpl hql hpq
   rw [(List.getElem?_eq_some_iff.1 h1).2,(List.getElem?_eq_some_iff.1 h2).2] at this
   exact this a b ha hb hcf) r1 t
  exact fold_ok hcf hnd c2 c1 _ hEnv (mkS S.mono_refl) hd fun a' w' G' hX S' hd=>hQ a' w' G' (by rw [←r3];exact hX.drew) (by rw [←r2,←r3];exact ⟨S'.H,S'.F,S'.size⟩) hd
theorem alts_any (hmix:P.follows .mixedOrders=true) {cf:CallF} (hcf:CfOk P Hh cf) {fid nt:Nat} {slots:List Nat} (hnd:slots.Nodup) {id:Nat} {ops:Array Oper} {draw:Bool} {ls:List (List AOper)} {top:Bool} {k:Nat} (hcc:compCode P Hh fid nt slots top k (.region id ops draw) = .alts ls∨∃ rs,compCode P Hh fid nt slots top k (.region id ops draw) = .altp rs ls)
  {w:World} {G:Ghost} {a:Act} {vs:List AVal} {h:Heap} (hEnv:G.env=envOf P Hh) (S:CRel w G a nt slots vs h) {ro:Option Nat} {m:Nat} {Q:Exit→Act→World→Prop}
  (e:∀ l∈ls,∃ s,foldA cf l 0 ⟨vs,List.replicate l.length .bad,h⟩=some s∧∀ a' w' G',Ext w G h w' G' s.h→CRel w' G' a' nt slots s.vs s.h→a'.defers=a.defers→Q .normal a' w'):(Code.region id ops draw).wpIn (rF ro) m P Q a w:=by
 obtain ⟨asx,pairs,reps,c1,c2,rfl,hr,hls⟩:=compCode_alts hcc
 have hgr:∀ g args h r h',Hh.grow g=true→cf false g args h=some (r,h')→TokExt h h':=fun g args h r h' hg e=>(hcf.1 g args h r h' e).2.2 hg
 have hl:asx.length=ops.size:=by have:=(compOpers_get c1).1;simpa using this
 refine wpIn_region_draw fun t=>?_
 rw [hmix]
 obtain ⟨r0,hrm,hrt⟩:=draw_reps hgr hl hr (s:=⟨vs,List.replicate asx.length .bad,h⟩) t
 obtain ⟨l,hlm,hren⟩:=renAll_mem hls r0 hrm
 obtain ⟨s1,hs1,hQ⟩:=e l hlm
 have hr':=hr
 simp only [repsOk,Bool.and_eq_true,List.all_eq_true] at hr'
 obtain ⟨hrn,hrp⟩:=permOk_perm (hr'.1.2 r0 hrm)
 have hll:=renOpers_len hren
 have hmem:∀ k,k∈r0↔k<asx.length:=fun k=>by rw [hrp.mem_iff,List.mem_range]
 obtain ⟨s1',r1,r2,r3⟩:=ren_fold (cf:=cf) (asx:=asx) hrn 0 r0 l ⟨vs,List.replicate asx.length .bad,h⟩ ⟨vs,List.replicate l.length .bad,h⟩ s1 rfl hren rfl rfl (by simp [hll]) (fun k=>by rw [hmem k];simp) (fun k=>by
  simp only [evOpd,List.getElem?_replicate]
  split<;>split<;>rfl) hs1
 have hC':=S.mono_refl
 refine fold_ok (s:=⟨vs,List.replicate asx.length .bad,h⟩) hcf hnd c2 c1 _ hEnv ⟨hC'.H,hC'.F,⟨by simp [hl],fun k t o x h1 h2 h3 h4=>?_⟩,hC'.size⟩ (hrt s1' r1) fun a' w' G' hX S' hdf=>?_
 ·simp only [List.getElem?_replicate] at h4
  split at h4
  ·simp at h4;subst h4;exact .bad _
  ·simp at h4
 ·exact hQ a' w' G' (by rw [←r3];exact hX.drew) (by rw [←r2,←r3];exact ⟨S'.H,S'.F,S'.size⟩) hdf
theorem alts_ok (hmix:P.follows .mixedOrders=true) {cf:CallF} (hcf:CfOk P Hh cf) {fid nt:Nat} {slots:List Nat} (hnd:slots.Nodup) {id:Nat} {ops:Array Oper} {draw:Bool} {ls:List (List AOper)} {top:Bool} {k:Nat} (hcc:compCode P Hh fid nt slots top k (.region id ops draw) = .alts ls∨∃ rs,compCode P Hh fid nt slots top k (.region id ops draw) = .altp rs ls)
  {w:World} {G:Ghost} {a:Act} {vs:List AVal} {h:Heap} (hEnv:G.env=envOf P Hh) (S:CRel w G a nt slots vs h) {r:List AVal×Heap} (e:∀ l∈ls,∃ s,foldA cf l 0 ⟨vs,List.replicate l.length .bad,h⟩=some s∧∃ p,RenOk p h.next r.2 s.h∧s.vs=AVal.renL p r.1) {ro:Option Nat} {m:Nat} {Q:Exit→Act→World→Prop}
  (hQ:∀ a' w' G',Ext w G h w' G' r.2→CRel w' G' a' nt slots r.1 r.2→a'.defers=a.defers→Q .normal a' w'):(Code.region id ops draw).wpIn (rF ro) m P Q a w:=by
 refine alts_any hmix hcf hnd hcc hEnv S fun l hl=>?_
 obtain ⟨s,hs,p,hp,q1⟩:=e l hl
 refine ⟨s,hs,fun a' w' G' hX S' hd=>?_⟩
 have hF:FRel w' (G'.ren p) a'.tmps slots r.1:=⟨by have:=S'.F.len;rw [q1,AVal.renL_map,List.length_map] at this;exact this,fun i s x h1 h2 =>
  (S'.F.rel i s (x.ren p) h1 (by rw [q1,AVal.renL_map,List.getElem?_map,h2];rfl)).ren_to (fun i hi=>by rw [S'.H.n_eq,hp.next] at hi ⊢;exact hp.back i hi) x rfl⟩
 exact hQ a' w' (G'.ren p) (Ext.ren_to (by exact S.H.n_eq) hp hX) ⟨S'.H.ren_to hp,hF,S'.size⟩ hd
theorem wpIn_loop_ind {Fe:Fence} {m0:Nat} {c:Code} {Q:Exit→Act→World→Prop} {a:Act} {w:World} (J:Nat→Act→World→Prop) {m:Nat} (h0:J m a w)
  (round:∀ m a w,J m a w→c.wpIn Fe m0 P (Exit.then (fun a' w'=>∃ m',m'<m∧J m' a' w') Q) a w):(Code.loop c).wpIn Fe m0 P Q a w:=by
 intro b k cs hro hb hr
 have key:∀ m a w,J m a w→∃ e a' w',Q e a' w'∧ArrivesIn (Machine.fenced P Fe) P (lone (b.atR a (.code c :: .inLoop c::k)) cs w) b k cs e a' w':=by
  intro m
  induction m using Nat.strongRecOn with
  | _ m ih =>
    intro a w hJ
    obtain ⟨e,a1,w1,hq,harr⟩:=round m a w hJ b (.inLoop c::k) cs hro hb hr
    cases e with
    | normal =>
      obtain ⟨m',hlt,hJ'⟩:=hq
      obtain ⟨e2,a2,w2,hq2,harr2⟩:=ih m' hlt a1 w1 hJ'
      exact ⟨e2,a2,w2,hq2,.of_steps (StepsIn.trans harr (.one (fenced_calm hb hr rfl) stepR_inLoop)) harr2⟩
    | exit id=>exact ⟨_,a1,w1,hq,.pass (x := .inLoop c) rfl (fun _ _ => .inl (by simp)) harr⟩
    | goto l=>exact ⟨_,a1,w1,hq,.pass (x := .inLoop c) rfl (fun _ _ => .inl (by simp)) harr⟩
    | ret=>exact ⟨_,a1,w1,hq,.pass (x := .inLoop c) rfl (fun _ _ => .inl (by simp)) harr⟩
    | panic ch=>exact ⟨_,a1,w1,hq,.pass (x := .inLoop c) rfl (fun _ _ => .inl (by simp)) harr⟩
    | outgrown=>exact ⟨_,a1,w1,hq,.pass (x := .inLoop c) rfl (fun _ _ => .inl (by simp)) harr⟩
 obtain ⟨e,a',w',hq,harr⟩:=key m a w h0
 exact ⟨e,a',w',hq,.of_steps (.one (fenced_calm hb hr rfl) stepR_loop) harr⟩
def pendOf:AExit→Option Code
 | .normal=>none
 | e=>some (jumpOf e)
theorem enter_loop {w:World} {G:Ghost} {h:Heap} {a:Act} {nt:Nat} {slots:List Nat} {vs:List AVal} (C:CRel w G a nt slots vs h) (hEnv:G.env=envOf P Hh) (fn:FuncId) {fid k:Nat} {ps:Array Tmp} {asg body:Code} (hs:siteOf P fid k=some (nt,ps,asg,body)) :
  ∃ G1,Ext w G h ((w.alloc (.deferred (some []))).alloc (.loop { state := .ready,pending:=none,fn,tmps:=a.tmps,params:=ps,assign:=asg,body,defers:=w.heap.size })) G1 (h.push (.lrec .ready fid k slots vs)) ∧
    HRel ((w.alloc (.deferred (some []))).alloc (.loop { state := .ready,pending:=none,fn,tmps:=a.tmps,params:=ps,assign:=asg,body,defers:=w.heap.size })) G1 (h.push (.lrec .ready fid k slots vs)) ∧
    G1.loc h.next=w.heap.size+1∧h.next<G1.n∧¬ owned G1 (h.push (.lrec .ready fid k slots vs)) w.heap.size:=by
 have hX0:Ext w G h (w.alloc (.deferred (some []))) G h :=
  { os:=rfl,tape:=rfl,out:=rfl,size:=by simp
    keep:=fun b hb _=>⟨heap_push_old _ _ hb,rfl⟩
    stable:=fun b k hb hst=>⟨by simp [World.cell?,heap_push_old _ _ hb],hst⟩
    shape:=fun b hb=>by simp [World.shape?,heap_push_old _ _ hb]
    n_le:=Nat.le_refl _,ids:=fun _ _=>⟨rfl,rfl⟩,fresh:=fun _ _ ho=>ho,env:=rfl,loops:=fun b r h=>⟨r,by rw [heap_push_old _ _ (Array.getElem?_eq_some_iff.1 h).1];exact h⟩ }
 have H0:HRel (w.alloc (.deferred (some []))) G h :=
  ⟨C.H.n_eq,fun id o ho=>by have:=C.H.lt id o ho;simp;omega,fun id o ho=>OkObj.mono hX0 (by rw [C.H.n_eq];exact Heap.get_lt ho) (C.H.lt id o ho) (heap_push_old _ _ (C.H.lt id o ho)) rfl (C.H.obj id o ho),C.H.inj,
   fun g cs hg=>⟨(C.H.glob g cs hg).1.mono hX0,(C.H.glob g cs hg).2⟩⟩
 have hsz:(w.alloc (.deferred (some []))).heap.size=w.heap.size+1:=by simp
 have hX1:=Ext.alloc_any H0 (.loop { state := .ready,pending:=none,fn,tmps:=a.tmps,params:=ps,assign:=asg,body,defers:=w.heap.size }) 0 none (.lrec .ready fid k slots vs)
 have hXX:=hX0.trans hX1
 rw [hsz] at hXX
 refine ⟨_,hXX,?_,by simp [Ghost.new,C.H.n_eq],by simp [Ghost.new,C.H.n_eq],?_⟩
 ·rw [←hsz]
  refine HRel.alloc_any H0 _ 0 none _ ?_
  refine ⟨{ state := .ready,pending:=none,fn:=fn,tmps:=a.tmps,params:=ps,assign:=asg,body:=body,defers:=w.heap.size },nt,?_,?_,⟨rfl,rfl⟩,C.F.len,fun i s x q1 q2=>((C.F.rel i s x q1 q2).mono hX0).mono hX1,C.size⟩
  ·have hl0:(G.new (w.alloc (.deferred (some []))).heap.size 0 none).loc G.n=(w.alloc (.deferred (some []))).heap.size:=by simp only [Ghost.new,if_true]
   rw [hl0]
   exact World.alloc_heap_new _ _
  ·have:(G.new (w.alloc (.deferred (some []))).heap.size 0 none).env=envOf P Hh:=hEnv
   rw [this];exact hs
 ·rintro ⟨id,o,ho,hl⟩
  rcases Heap.get_push_some ho with ⟨rfl,_⟩|⟨hid,ho'⟩
  ·simp [Ghost.new,C.H.n_eq] at hl
  ·have:=C.H.lt id o ho'
   simp [Ghost.new,C.H.n_eq,Nat.ne_of_lt hid] at hl
   omega
theorem run_enterLoop_in {w:World} {l0:Nat} {r0:Loop} (h:w.heap[l0]?=some (.loop r0)) (fn:FuncId) (tmps:Array Value) (ps:Array Tmp) (asg body:Code) :
  (Instr.enterLoop fn tmps ps asg body (some l0)).run P w = .ok (w.heap.size,[]) (w.alloc (.loop { state := .ready,pending:=none,fn,tmps,params:=ps,assign:=asg,body,defers:=r0.defers })):=by
 simp [Instr.enterLoop,Sem.run_bind,run_getLoop h,run_newObj_alloc,Result.andThen]
theorem enter_loop_in {w:World} {G:Ghost} {h:Heap} {a:Act} {nt:Nat} {slots:List Nat} {vs:List AVal} (C:CRel w G a nt slots vs h) (hEnv:G.env=envOf P Hh) (fn:FuncId) {fid k:Nat} {ps:Array Tmp} {asg body:Code} (hs:siteOf P fid k=some (nt,ps,asg,body)) (df:Nat) :
  ∃ G1,Ext w G h (w.alloc (.loop { state := .ready,pending:=none,fn,tmps:=a.tmps,params:=ps,assign:=asg,body,defers:=df })) G1 (h.push (.lrec .ready fid k slots vs)) ∧
    HRel (w.alloc (.loop { state := .ready,pending:=none,fn,tmps:=a.tmps,params:=ps,assign:=asg,body,defers:=df })) G1 (h.push (.lrec .ready fid k slots vs))∧G1.loc h.next=w.heap.size∧h.next<G1.n:=by
 have hX1:=Ext.alloc_any C.H (.loop { state := .ready,pending:=none,fn,tmps:=a.tmps,params:=ps,assign:=asg,body,defers:=df }) 0 none (.lrec .ready fid k slots vs)
 refine ⟨_,hX1,?_,by simp [Ghost.new,C.H.n_eq],by simp [Ghost.new,C.H.n_eq]⟩
 refine HRel.alloc_any C.H _ 0 none _ ?_
 refine ⟨{ state := .ready,pending:=none,fn:=fn,tmps:=a.tmps,params:=ps,assign:=asg,body:=body,defers:=df },nt,?_,?_,⟨rfl,rfl⟩,C.F.len,fun i s x q1 q2=>(C.F.rel i s x q1 q2).mono hX1,C.size⟩
 ·have hl0:(G.new w.heap.size 0 none).loc G.n=w.heap.size:=by simp only [Ghost.new,if_true]
  rw [hl0]
  exact World.alloc_heap_new _ _
 ·have:(G.new w.heap.size 0 none).env=envOf P Hh:=hEnv
  rw [this];exact hs
theorem code_step (hmix:P.follows .mixedOrders=true) (hT:Table P Hh F) {n:Nat} (ih:∀ m,m≤n→CodeOk P Hh F m) (ihc:CallOk P Hh F n) (ihy:YieldOk P Hh F n):CodeOk P Hh F (n+1):=by
 intro ro mm top fid nt slots k c vs h e vs' h' a w G Q hnd htop hro hEnv hr S hQ
 have ihn:=ih n (Nat.le_refl _)
 have keepRo:∀ {w1:World} {G1:Ghost} {h1:Heap},Ext w G h w1 G1 h1→∀ l,ro=some l→∃ r,w1.heap[l]?=some (Go.Obj.loop r):=fun hX l q=>by obtain ⟨r,hr⟩:=hro l q;exact hX.loops l r hr
 cases c with
 | skip =>
   simp only [compCode,run,Option.some.injEq,Res.code.injEq] at hr
   obtain ⟨rfl,rfl,rfl⟩:=hr
   exact wpIn_skip (hQ a w G (Ext.refl _ _ _) S .same)
 | label l =>
   simp only [compCode,run,Option.some.injEq,Res.code.injEq] at hr
   obtain ⟨rfl,rfl,rfl⟩:=hr
   exact wpIn_label (hQ a w G (Ext.refl _ _ _) S .same)
 | exit id =>
   simp only [compCode,run,Option.some.injEq,Res.code.injEq] at hr
   obtain ⟨rfl,rfl,rfl⟩:=hr
   exact wpIn_exit (hQ a w G (Ext.refl _ _ _) S .same)
 | ret =>
   simp only [compCode,run,Option.some.injEq,Res.code.injEq] at hr
   obtain ⟨rfl,rfl,rfl⟩:=hr
   exact wpIn_ret (hQ a w G (Ext.refl _ _ _) S .same)
 | refuse why=>simp [compCode,run] at hr
 | goto l=>simp [compCode,run] at hr
 | rangeFunc f ps asg body =>
   simp only [compCode] at hr
   split at hr
   rotate_left
   ·simp [run] at hr
   rename_i x' hx
   split at hr
   rotate_left
   ·simp [run] at hr
   rename_i ht
   have hsites:=htop ht
   have hsite:siteOf P fid k=some (nt,ps,asg,body):=by have:=hsites 0 (ps,asg,body) (by simp [loopsM]);simpa using this
   simp only [run] at hr
   have hT0:TRel w G a.tmps slots [] []:=⟨rfl,by simp⟩
   have hv:=operand_ok (k:=0) (fun g cs hg=>(S.H.glob g cs (by rw [hEnv];exact hg)).1) S.F hT0 f x' hx
   split at hr
   rotate_left
   ·simp at hr
   rename_i g cap hfn
   rw [hfn] at hv
   split at hr
   rotate_left
   ·simp at hr
   rename_i r1 h2 hcall
   have hen:∀ (args:Array Value) (w:World),(callFunc g args).run P w = .ok (.enter g args) w:=by
    intro cargs w
    cases n with
    | zero=>simp [run] at hcall
    | succ n =>
      simp only [run] at hcall
      split at hcall
      ·simp at hcall
      ·rename_i s hs;exact (hT.hand hs).2 cargs w
      ·rename_i af haf;exact callFunc_enter (hT.comp haf) cargs w
   cases ro with
   | none =>
     refine wpIn_rangeFunc (F:=rF none) fun fn _=>?_
     obtain ⟨G1,hX1,H1,hloc,hn1,hno⟩:=enter_loop S hEnv fn hsite
     generalize hfe:a.eval f=fv at hv
     cases hv with
     | fn _ cs _ hl hrel =>
       have hE1:G1.env=envOf P Hh:=hX1.env.trans hEnv
       have hpts:Pts ((w.alloc (.deferred (some []))).alloc (.loop { state := .ready,pending:=none,fn,tmps:=a.tmps,params:=ps,assign:=asg,body,defers:=w.heap.size })) G1 (#[.func (.yield (w.heap.size+1)) #[] #[]]++cs) (.yld h.next::cap):=by
        have:=pts_append (a:=#[.func (.yield (w.heap.size+1)) #[] #[]]) (x:=[.yld h.next]) (b:=cs) (y:=cap) (G:=G1) (w:=(w.alloc (.deferred (some []))).alloc (.loop { state := .ready,pending:=none,fn,tmps:=a.tmps,params:=ps,assign:=asg,body,defers:=w.heap.size })) ⟨rfl,fun k c z hc hz=>by
         cases k with
         | zero=>simp at hc hz;subst hc;subst hz;rw [←hloc];exact .yld h.next hn1
         | succ k=>simp at hz⟩ ⟨hl,fun k c z hc hz=>(hrel k c z hc hz).mono hX1⟩
        simpa using this
       refine ⟨w.heap.size+1,[{ target := .collected w.heap.size,args:=#[] }],_,_,_,g,#[.func (.yield (w.heap.size+1)) #[] #[]]++cs,_,run_enterLoop_outer fn a.tmps ps asg body,
        by simp only [rangeCall,resolve,hfe,Deferred.ofValue];rfl,fun _ _=>trivial,by have:=hen (#[.func (.yield (w.heap.size+1)) #[] #[]]++cs);simp [invoke,Act.eval];exact this _,fun q=>by simp [rF] at q,?_⟩
       refine callsIn_rF ((ihc g _ _ _ _ hcall _ G1 _ hE1 H1 hpts).mono ?_)
       rintro e3 w3 ⟨v3,G3,rfl,hX3,H3,_⟩
       have hX13:=hX1.trans hX3
       have hl3:G3.loc h.next=w.heap.size+1:=by rw [(hX3.ids _ hn1).1,hloc]
       have hlt1:w.heap.size<((w.alloc (.deferred (some []))).alloc (.loop { state := .ready,pending:=none,fn,tmps:=a.tmps,params:=ps,assign:=asg,body,defers:=w.heap.size })).heap.size:=by simp;omega
       have hd3:w3.heap[w.heap.size]?=some (.deferred (some [])):=by
        rw [(hX3.keep _ hlt1 hno).1,heap_push_old _ _ (by simp)]
        exact World.alloc_heap_new _ _
       have hno3:¬ owned G3 h2 w.heap.size:=fun ho=>hno (hX3.fresh _ hlt1 ho)
       have fin:∀ {st:LSt} {fid2 k2:Nat} {slots2:List Nat} {vs2:List AVal} {ee:AExit},h2.get h.next=some (.lrec st fid2 k2 slots2 vs2)→st ≠ .busy→(∀ s p,stOk st s p→p=pendOf ee)→vs'=vs→h'=h2.put h.next none→e=ee →
         ∃ jump w4,(Instr.endLoop (w.heap.size+1)).run P w3 = .ok jump w4∧(match jump with
           | none=>Q .normal { a with defers:=[{ target := .collected w.heap.size,args:=#[] }]++a.defers } w4
           | some c=>c.wpIn (rF none) mm P Q { a with defers:=[{ target := .collected w.heap.size,args:=#[] }]++a.defers } w4):=by
        intro st fid2 k2 slots2 vs2 ee hg2 hst hjump hvs hh he
        subst hvs;subst hh;subst he
        obtain ⟨r,nt2,b1,b2,b3,b4,b5,b6⟩:=H3.obj _ _ hg2
        have hj:=hjump _ _ b3
        have hb:r.state ≠ .busy:=by
         cases st with
         | ready=>rw [b3.1];simp
         | busy=>exact absurd rfl hst
         | done e=>rw [b3.1];simp
        rw [hl3] at b1
        have b1':w3.heap[G3.loc h.next]?=some (.loop r):=by rw [hl3];exact b1
        obtain ⟨G4,hX4,H4,hloc4⟩:=lrec_drop H3 hg2 b1' { r with state := .exhausted }
        rw [hl3] at hX4 H4
        refine ⟨r.pending,_,run_endLoop b1 hb,?_⟩
        have hM:Marks w a.defers (w3.putObj (w.heap.size+1) (.loop { r with state := .exhausted })) G4 (h2.put h.next none) ([{ target := .collected w.heap.size,args:=#[] }]++a.defers):=by
         refine ⟨[w.heap.size],rfl,by simp,fun b hb=>?_⟩
         simp at hb;subst hb
         refine ⟨Nat.le_refl _,?_,?_,?_⟩
         ·rw [World.putObj_size];exact Nat.lt_of_lt_of_le hlt1 hX3.size
         ·rw [World.putObj_heap_other (by omega)];exact hd3
         ·exact fun ho=>hno3 (hX4.fresh _ (Nat.lt_of_lt_of_le hlt1 hX3.size) ho)
        have hq:=hQ { a with defers:=[{ target := .collected w.heap.size,args:=#[] }]++a.defers } _ G4 (hX13.trans hX4) ⟨H4,(S.F.mono hX13).mono hX4,S.size⟩ hM
        have fin2:∀ (pp:Option Code),pp=pendOf e→(match pp with
          | none=>Q .normal { a with defers:=[{ target := .collected w.heap.size,args:=#[] }]++a.defers } (w3.putObj (w.heap.size+1) (.loop { r with state := .exhausted }))
          | some c=>c.wpIn (rF none) mm P Q { a with defers:=[{ target := .collected w.heap.size,args:=#[] }]++a.defers } (w3.putObj (w.heap.size+1) (.loop { r with state := .exhausted }))):=by
         intro pp hpp
         subst hpp
         cases e with
         | normal=>exact hq
         | ret=>exact wpIn_ret hq
         | exit i=>exact wpIn_exit hq
        exact fin2 _ hj
       split at hr
       ·rename_i hg2
        simp only [Option.some.injEq,Res.code.injEq] at hr
        obtain ⟨rfl,rfl,rfl⟩:=hr
        exact fin (ee := .normal) hg2 (by simp) (fun s p q=>q.2) rfl rfl rfl
       ·rename_i ee _ _ _ _ hg2
        simp only [Option.some.injEq,Res.code.injEq] at hr
        obtain ⟨rfl,rfl,rfl⟩:=hr
        refine fin (ee:=ee) hg2 (by simp) (fun s p q=>?_) rfl rfl rfl
        obtain ⟨q1,q2,q3⟩:=q
        cases ee with
        | normal=>exact absurd rfl q3
        | exit i=>exact q2
        | ret=>exact q2
       ·simp at hr
   | some l0 =>
     obtain ⟨r0,hr0⟩:=hro l0 rfl
     refine wpIn_rangeFunc (F:=rF (some l0)) fun fn _=>?_
     obtain ⟨G1,hX1,H1,hloc,hn1⟩:=enter_loop_in S hEnv fn hsite r0.defers
     generalize hfe:a.eval f=fv at hv
     cases hv with
     | fn _ cs _ hl hrel =>
       have hE1:G1.env=envOf P Hh:=hX1.env.trans hEnv
       have hpts:Pts (w.alloc (.loop { state := .ready,pending:=none,fn,tmps:=a.tmps,params:=ps,assign:=asg,body,defers:=r0.defers })) G1 (#[.func (.yield w.heap.size) #[] #[]]++cs) (.yld h.next::cap):=by
        have:=pts_append (a:=#[.func (.yield w.heap.size) #[] #[]]) (x:=[.yld h.next]) (b:=cs) (y:=cap) (G:=G1) (w:=w.alloc (.loop { state := .ready,pending:=none,fn,tmps:=a.tmps,params:=ps,assign:=asg,body,defers:=r0.defers })) ⟨rfl,fun k c z hc hz=>by
         cases k with
         | zero=>simp at hc hz;subst hc;subst hz;rw [←hloc];exact .yld h.next hn1
         | succ k=>simp at hz⟩ ⟨hl,fun k c z hc hz=>(hrel k c z hc hz).mono hX1⟩
        simpa using this
       refine ⟨w.heap.size,[],_,_,_,g,#[.func (.yield w.heap.size) #[] #[]]++cs,_,run_enterLoop_in hr0 fn a.tmps ps asg body,
        by simp only [rangeCall,resolve,hfe,Deferred.ofValue];rfl,fun _ _=>trivial,by have:=hen (#[.func (.yield w.heap.size) #[] #[]]++cs);simp [invoke,Act.eval];exact this _,fun q=>by simp [rF] at q,?_⟩
       refine callsIn_rF ((ihc g _ _ _ _ hcall _ G1 _ hE1 H1 hpts).mono ?_)
       rintro e3 w3 ⟨v3,G3,rfl,hX3,H3,_⟩
       have hX13:=hX1.trans hX3
       have hl3:G3.loc h.next=w.heap.size:=by rw [(hX3.ids _ hn1).1,hloc]
       have fin:∀ {st:LSt} {fid2 k2:Nat} {slots2:List Nat} {vs2:List AVal} {ee:AExit},h2.get h.next=some (.lrec st fid2 k2 slots2 vs2)→st ≠ .busy→(∀ s p,stOk st s p→p=pendOf ee)→vs'=vs→h'=h2.put h.next none→e=ee →
         ∃ jump w4,(Instr.endLoop w.heap.size).run P w3 = .ok jump w4∧(match jump with
           | none=>Q .normal { a with defers:=[]++a.defers } w4
           | some c=>c.wpIn (rF (some l0)) mm P Q { a with defers:=[]++a.defers } w4):=by
        intro st fid2 k2 slots2 vs2 ee hg2 hst hjump hvs hh he
        subst hvs;subst hh;subst he
        obtain ⟨r,nt2,b1,b2,b3,b4,b5,b6⟩:=H3.obj _ _ hg2
        have hj:=hjump _ _ b3
        have hb:r.state ≠ .busy:=by
         cases st with
         | ready=>rw [b3.1];simp
         | busy=>exact absurd rfl hst
         | done e=>rw [b3.1];simp
        rw [hl3] at b1
        have b1':w3.heap[G3.loc h.next]?=some (.loop r):=by rw [hl3];exact b1
        obtain ⟨G4,hX4,H4,hloc4⟩:=lrec_drop H3 hg2 b1' { r with state := .exhausted }
        rw [hl3] at hX4 H4
        refine ⟨r.pending,_,run_endLoop b1 hb,?_⟩
        have hq:=hQ { a with defers:=[]++a.defers } _ G4 (hX13.trans hX4) ⟨H4,(S.F.mono hX13).mono hX4,S.size⟩ .same
        have fin2:∀ (pp:Option Code),pp=pendOf e→(match pp with
          | none=>Q .normal { a with defers:=[]++a.defers } (w3.putObj w.heap.size (.loop { r with state := .exhausted }))
          | some c=>c.wpIn (rF (some l0)) mm P Q { a with defers:=[]++a.defers } (w3.putObj w.heap.size (.loop { r with state := .exhausted }))):=by
         intro pp hpp
         subst hpp
         cases e with
         | normal=>exact hq
         | ret=>exact wpIn_ret hq
         | exit i=>exact wpIn_exit hq
        exact fin2 _ hj
       split at hr
       ·rename_i hg2
        simp only [Option.some.injEq,Res.code.injEq] at hr
        obtain ⟨rfl,rfl,rfl⟩:=hr
        exact fin (ee := .normal) hg2 (by simp) (fun s p q=>q.2) rfl rfl rfl
       ·rename_i ee _ _ _ _ hg2
        simp only [Option.some.injEq,Res.code.injEq] at hr
        obtain ⟨rfl,rfl,rfl⟩:=hr
        refine fin (ee:=ee) hg2 (by simp) (fun s p q=>?_) rfl rfl rfl
        obtain ⟨q1,q2,q3⟩:=q
        cases ee with
        | normal=>exact absurd rfl q3
        | exit i=>exact q2
        | ret=>exact q2
       ·simp at hr
 | region id ops draw =>
   have hcf:CfOk P Hh (fun b f args h=>(run F n (if b then .yield f args h else .call f args h)).bind Res.asVal):=by
     refine ⟨fun g args h0 r h1 hc=>?_,fun id args h0 r h1 hc=>?_⟩
     ·simp only [Bool.false_eq_true,if_false] at hc
      cases hrun:run F n (.call g args h0) with
      | none=>rw [hrun] at hc;simp at hc
      | some res =>
        rw [hrun] at hc
        cases res with
        | code _ _ _=>simp [Res.asVal] at hc
        | val r1 h2 =>
          simp only [Option.bind_some,Res.asVal,Option.some.injEq,Prod.mk.injEq] at hc
          obtain ⟨rfl,rfl⟩:=hc
          refine ⟨ihc g args h0 _ _ hrun,fun cargs w=>?_,fun hg=>?_⟩
          ·cases n with
           | zero=>simp [run] at hrun
           | succ n =>
             simp only [run] at hrun
             split at hrun
             ·simp at hrun
             ·rename_i s hs;exact (hT.hand hs).2 cargs w
             ·rename_i af haf;exact callFunc_enter (hT.comp haf) cargs w
          ·cases n with
           | zero=>simp [run] at hrun
           | succ n =>
             simp only [run] at hrun
             split at hrun
             ·simp at hrun
             ·rename_i s hs
              have hq:=hT g
              rw [hs] at hq
              simp only [Option.map_eq_some_iff] at hrun
              obtain ⟨p,hp,he⟩:=hrun
              simp only [Res.val.injEq] at he
              obtain ⟨rfl,rfl⟩:=he
              exact hq.2 hg _ _ _ _ hp
             ·rename_i af haf
              have hq:=hT g
              rw [haf] at hq
              rw [hq.2] at hg;simp at hg
     ·simp only [if_true] at hc
      cases hrun:run F n (.yield id args h0) with
      | none=>rw [hrun] at hc;simp at hc
      | some res =>
        rw [hrun] at hc
        cases res with
        | code _ _ _=>simp [Res.asVal] at hc
        | val r1 h2 =>
          simp only [Option.bind_some,Res.asVal,Option.some.injEq,Prod.mk.injEq] at hc
          obtain ⟨rfl,rfl⟩:=hc
          exact ihy id args h0 _ _ hrun
   cases hcc:compCode P Hh fid nt slots top k (.region id ops draw) with
   | ops l =>
     rw [hcc] at hr
     simp only [run] at hr
     split at hr
     ·rename_i s' hs'
      simp only [Option.some.injEq,Res.code.injEq] at hr
      obtain ⟨rfl,rfl,rfl⟩:=hr
      exact region_ok hmix (cf:=fun b f args h=>(run F n (if b then .yield f args h else .call f args h)).bind Res.asVal) hcf hnd hcc hEnv S hs' (fun a' w' G' hX hS hd=>hQ a' w' G' hX hS (.of_eq hd))
     ·simp at hr
   | alts ls =>
     rw [hcc] at hr
     simp only [run] at hr
     split at hr
     ·rename_i r' hr'
      simp only [Option.some.injEq,Res.code.injEq] at hr
      obtain ⟨rfl,rfl,rfl⟩:=hr
      exact alts_ok hmix (cf:=fun b f args h=>(run F n (if b then .yield f args h else .call f args h)).bind Res.asVal) hcf hnd (.inl hcc) hEnv S (fun l hl=>by
       obtain ⟨s,q1,q2,q3⟩:=(altsA_iff.1 hr').2 l hl
       exact ⟨s,q1,fun i=>i,⟨by rw [q3],fun _ _=>rfl,fun _ h=>h,fun _ _ _ _ h=>h,fun i o ho=>by rw [Obj.ren_id,q3];exact ho⟩,by rw [AVal.renL_id,q2]⟩) (fun a' w' G' hX hS hd=>hQ a' w' G' hX hS (.of_eq hd))
     ·simp at hr
   | altp rs ls =>
     rw [hcc] at hr
     simp only [run] at hr
     split at hr
     ·rename_i r' hr'
      simp only [Option.some.injEq,Res.code.injEq] at hr
      obtain ⟨rfl,rfl,rfl⟩:=hr
      exact alts_ok hmix (cf:=fun b f args h=>(run F n (if b then .yield f args h else .call f args h)).bind Res.asVal) hcf hnd (.inr ⟨rs,hcc⟩) hEnv S (altpA_ok hr') (fun a' w' G' hX hS hd=>hQ a' w' G' hX hS (.of_eq hd))
     ·simp at hr
   | refuse=>rw [hcc] at hr;simp [run] at hr
   | _ =>
     exfalso
     simp only [compCode] at hcc
     repeat' split at hcc
     all_goals simp at hcc
 | seq x y =>
   simp only [compCode,run] at hr
   have htx:top=true→SitesOk P fid nt k x:=fun q=>(htop q).left rfl
   have hty:top=true→SitesOk P fid nt (k+nLoops x) y:=fun q=>(htop q).right rfl
   refine wpIn_seq ?_
   split at hr
   ·rename_i vs1 h1 h1r
    exact ihn ro mm top fid nt slots k x vs h .normal vs1 h1 a w G _ hnd htx hro hEnv h1r S fun a1 w1 G1 hX1 S1 hd1 =>
     ihn ro mm top fid nt slots _ y vs1 h1 e vs' h' a1 w1 G1 _ hnd hty (keepRo hX1) (hX1.env.trans hEnv) hr S1 fun a2 w2 G2 hX2 S2 hd2=>hQ a2 w2 G2 (hX1.trans hX2) S2 (hd1.trans hX1.size hX2 hd2)
   ·rename_i hnn
    refine ihn ro mm top fid nt slots k x vs h e vs' h' a w G _ hnd htx hro hEnv hr S fun a1 w1 G1 hX1 S1 hd1=>?_
    cases e with
    | normal=>exact absurd hr (hnn vs' h')
    | exit id=>exact hQ a1 w1 G1 hX1 S1 hd1
    | ret=>exact hQ a1 w1 G1 hX1 S1 hd1
 | cond x c1 c2 =>
   simp only [compCode] at hr
   split at hr
   ·rename_i x' hx
    simp only [run] at hr
    have hT0:TRel w G a.tmps slots [] []:=⟨rfl,by simp⟩
    have hv:=operand_ok (k:=0) (fun g cs hg=>(S.H.glob g cs (by rw [hEnv];exact hg)).1) S.F hT0 x x' hx
    split at hr
    ·rename_i hb
     rw [hb] at hv
     generalize hev:a.eval x=v at hv
     cases hv
     exact wpIn_cond_true hev (ihn ro mm top fid nt slots k c1 vs h e vs' h' a w G Q hnd (fun q=>(htop q).left rfl) hro hEnv hr S hQ)
    ·rename_i hb
     rw [hb] at hv
     generalize hev:a.eval x=v at hv
     cases hv
     exact wpIn_cond_false hev (ihn ro mm top fid nt slots _ c2 vs h e vs' h' a w G Q hnd (fun q=>(htop q).right rfl) hro hEnv hr S hQ)
    ·simp at hr
   ·simp [run] at hr
 | block id c1 =>
   simp only [compCode,run] at hr
   refine wpIn_block ?_
   split at hr
   ·rename_i i vs1 h1 h1r
    refine ihn ro mm top fid nt slots k c1 vs h (.exit i) vs1 h1 a w G _ hnd htop hro hEnv h1r S fun a1 w1 G1 hX1 S1 hd1=>?_
    split at hr
    ·rename_i hi
     simp only [Option.some.injEq,Res.code.injEq] at hr
     obtain ⟨rfl,rfl,rfl⟩:=hr
     simp only [exitOf,Exit.inBlock,hi,if_true]
     exact hQ a1 w1 G1 hX1 S1 hd1
    ·rename_i hi
     simp only [Option.some.injEq,Res.code.injEq] at hr
     obtain ⟨rfl,rfl,rfl⟩:=hr
     simp only [exitOf,Exit.inBlock,hi,if_false]
     exact hQ a1 w1 G1 hX1 S1 hd1
   ·rename_i hnn
    refine ihn ro mm top fid nt slots k c1 vs h e vs' h' a w G _ hnd htop hro hEnv hr S fun a1 w1 G1 hX1 S1 hd1=>?_
    cases e with
    | normal=>exact hQ a1 w1 G1 hX1 S1 hd1
    | exit id'=>exact absurd hr (hnn id' vs' h')
    | ret=>exact hQ a1 w1 G1 hX1 S1 hd1
 | scope c1 =>
   simp only [compCode,run] at hr
   refine wpIn_scope_straight ?_
   have hskip:∀ m,run F m (.code .skip vs h)=none∨run F m (.code .skip vs h)=some (.code .normal vs h):=fun m=>by cases m<;>simp [run]
   rcases hskip n with h0|h0
   ·rw [h0] at hr;simp at hr
   ·rw [h0] at hr
    simp only at hr
    refine ihn ro mm top fid nt slots k c1 vs h e vs' h' a w G _ hnd htop hro hEnv hr S fun a1 w1 G1 hX1 S1 hd1=>?_
    cases e<;>exact hQ a1 w1 G1 hX1 S1 hd1
 | loop c1 =>
   refine wpIn_loop_ind (fun m a1 w1=>m≤n+1∧∃ vs1 h1 G1,run F m (.code (compCode P Hh fid nt slots top k (.loop c1)) vs1 h1)=some (.code e vs' h')∧CRel w1 G1 a1 nt slots vs1 h1∧Ext w G h w1 G1 h1∧Marks w a.defers w1 G1 h1 a1.defers) (m:=n+1) ⟨Nat.le_refl _,vs,h,G,hr,S,Ext.refl _ _ _,.same⟩ ?_
   rintro m a1 w1 ⟨hm,vs1,h1,G1,hr1,S1,hX1,hd1⟩
   have ht1:top=true→SitesOk P fid nt k c1:=htop
   cases m with
   | zero=>simp [run] at hr1
   | succ m =>
     simp only [compCode,run] at hr1
     split at hr1
     ·rename_i vs2 h2 h2r
      exact ih m (by omega) ro mm top fid nt slots k c1 vs1 h1 .normal vs2 h2 a1 w1 G1 _ hnd ht1 (keepRo hX1) (hX1.env.trans hEnv) h2r S1 fun a2 w2 G2 hX2 S2 hd2 =>
       ⟨m,Nat.lt_succ_self _,by omega,vs2,h2,G2,by simp only [compCode];exact hr1,S2,hX1.trans hX2,hd1.trans hX1.size hX2 hd2⟩
     ·rename_i hnn
      refine ih m (by omega) ro mm top fid nt slots k c1 vs1 h1 e vs' h' a1 w1 G1 _ hnd ht1 (keepRo hX1) (hX1.env.trans hEnv) hr1 S1 fun a2 w2 G2 hX2 S2 hd2=>?_
      cases e with
      | normal=>exact absurd hr1 (hnn vs' h')
      | exit id'=>exact hQ a2 w2 G2 (hX1.trans hX2) S2 (hd1.trans hX1.size hX2 hd2)
      | ret=>exact hQ a2 w2 G2 (hX1.trans hX2) S2 (hd1.trans hX1.size hX2 hd2)
theorem all_ok (hmix:P.follows .mixedOrders=true) (hT:Table P Hh F):∀ n,CodeOk P Hh F n∧CallOk P Hh F n∧YieldOk P Hh F n:=by
 intro n
 induction n using Nat.strongRecOn with
 | _ n ih =>
   cases n with
   | zero=>exact ⟨fun ro m top fid nt slots k c vs h e vs' h' a w G Q hnd ht hro hE hr=>by simp [run] at hr,fun g args h r h' hr=>by simp [run] at hr,fun g args h r h' hr=>by simp [run] at hr⟩
   | succ n=>exact ⟨code_step hmix hT (fun m hm=>(ih m (by omega)).1) (ih n (by omega)).2.1 (ih n (by omega)).2.2,call_step hT (ih n (by omega)).1,yield_step hT (ih n (by omega)).1⟩
theorem sound (hmix:P.follows .mixedOrders=true) (hT:Table P Hh F) {n g:Nat} {args:List AVal} {h h':Heap} {r:AVal} (e:run F n (.call g args h)=some (.val r h')):CallRelE P Hh g args h r h':=(all_ok hmix hT n).2.1 g args h r h' e
end Go.Abs

namespace Go.Abs
variable {F:Nat→Option AEnt}
def tsk (b:Bool) (f:Nat) (args:List AVal) (h:Heap):Task:=if b then .yield f args h else .call f args h
def cfOf (F:Nat→Option AEnt) (n:Nat):CallF:=fun b f args h=>(run F n (tsk b f args h)).bind Res.asVal
def Le (a b:CallF):Prop:=∀ y f args h r,a y f args h=some r→b y f args h=some r
theorem execA_mono {a b:CallF} (hle:Le a b) {op:AOp} {ev:Opd→AVal} {h:Heap} {r:AVal×Heap} (e:execA a op ev h=some r):execA b op ev h=some r:=by
 cases op with
 | call f args =>
   simp only [execA] at e ⊢
   split at e
   ·exact hle _ _ _ _ _ e
   ·exact hle _ _ _ _ _ e
   ·simp at e
 | vcall f args =>
   simp only [execA] at e ⊢
   split at e
   ·split at e
    ·split at e
     ·rename_i hc
      rw [hle _ _ _ _ _ hc]
      exact e
     ·simp at e
    ·simp at e
   ·simp at e
 | gcall g args =>
   simp only [execA] at e ⊢
   split at e
   ·rename_i hc
    rw [hle _ _ _ _ _ hc]
    exact e
   ·simp at e
 | pcall f args =>
   simp only [execA] at e ⊢
   split at e
   ·split at e
    ·rename_i hc
     rw [hle _ _ _ _ _ hc]
     exact e
    ·simp at e
   ·split at e
    ·split at e
     ·rename_i hc
      rw [hle _ _ _ _ _ hc]
      exact e
     ·simp at e
    ·simp at e
 | _=>exact e
theorem stepA_mono {a b:CallF} (hle:Le a b) {o:AOper} {k:Nat} {s s':St} (e:stepA a o k s=some s'):stepA b o k s=some s':=by
 simp only [stepA] at e ⊢
 split at e
 ·simp at e
 ·exact e
 ·split at e
  ·rename_i hx
   rw [execA_mono hle hx]
   exact e
  ·simp at e
theorem foldA_mono {a b:CallF} (hle:Le a b):∀ {l:List AOper} {k:Nat} {s s':St},foldA a l k s=some s'→foldA b l k s=some s'
 | [],_,_,_,e=>e
 | o::l,k,s,s',e=>by
   simp only [foldA] at e ⊢
   split at e
   ·rename_i hs
    rw [stepA_mono hle hs]
    exact foldA_mono hle e
   ·simp at e
theorem cfOf_le {n m:Nat} (ih:∀ t r,run F n t=some r→run F m t=some r):Le (cfOf F n) (cfOf F m):=by
 intro y f args h r e
 simp only [cfOf,Option.bind_eq_some_iff] at e ⊢
 obtain ⟨x,h1,h2⟩:=e
 exact ⟨x,ih _ _ h1,h2⟩
theorem run_call (n:Nat) (f:Nat) (args:List AVal) (h:Heap):run F (n+1) (.call f args h)=match F f with
  | none=>none
  | some (.hand s)=>(s args h).map fun p => .val p.1 p.2
  | some (.comp fn) =>
    match run F n (.code fn.body (fn.slots.map fun s=>(args[s]?).getD (.tup [])) h) with
    | some (.code .normal vs h')=>(resultsA fn.results vs h').map (.val · h')
    | some (.code .ret vs h')=>(resultsA fn.results vs h').map (.val · h')
    | _=>none:=rfl
def endY (id:Nat):Option Res→Option Res
 | some (.code e _ h3) =>
   match h3.get id with
   | some (.lrec .busy fid3 k3 slots3 vs4) =>
     match e with
     | .normal=>some (.val (.bool true) (h3.put id (some (.lrec .ready fid3 k3 slots3 vs4))))
     | e=>some (.val (.bool false) (h3.put id (some (.lrec (.done e) fid3 k3 slots3 vs4))))
   | _=>none
 | _=>none
def midY (F:Nat→Option AEnt) (n id:Nat) (body:ACode):Option Res→Option Res
 | some (.code .normal vs2 h2) =>
   match h2.get id with
   | some (.lrec .ready fid2 k2 slots2 vs3)=>endY id (run F n (.code body vs2 (h2.put id (some (.lrec .busy fid2 k2 slots2 vs3)))))
   | _=>none
 | _=>none
theorem endY_some {id:Nat} {x:Option Res} {r:Res} (e:endY id x=some r):∃ y,x=some y:=by
 cases x with
 | none=>simp [endY] at e
 | some y=>exact ⟨y,rfl⟩
theorem midY_mono {n id:Nat} {body:ACode} (ih:∀ (t:Task) (r:Res),run F n t=some r→run F (n+1) t=some r) {x:Option Res} {r:Res} (e:midY F n id body x=some r):midY F (n+1) id body x=some r:=by
 unfold midY at e ⊢
 split at e
 ·split at e
  ·obtain ⟨y,hy⟩:=endY_some e
   rw [hy] at e
   simp only [ih _ _ hy]
   exact e
  ·simp at e
 ·simp at e
theorem run_yield' (n:Nat) (id:Nat) (args:List AVal) (h:Heap):run F (n+1) (.yield id args h)=match h.get id with
  | some (.lrec .ready fid k slots vs) =>
    match F fid with
    | some (.comp fn) =>
      match fn.loops[k]? with
      | some L =>
        if slots=fn.slots∧args.length=L.ps.length then
         midY F n id L.body (run F n (.code L.assign (setPs L.ps args vs) h))
        else none
      | none=>none
    | _=>none
  | _=>none:=rfl
def endL (id:Nat) (vs:List AVal):Option Res→Option Res
 | some (.val _ h2) =>
   match h2.get id with
   | some (.lrec .ready _ _ _ _)=>some (.code .normal vs (h2.put id none))
   | some (.lrec (.done e) _ _ _ _)=>some (.code e vs (h2.put id none))
   | _=>none
 | _=>none
theorem run_rfunc (n fid k:Nat) (slots:List Nat) (f:Opd) (vs:List AVal) (h:Heap):run F (n+1) (.code (.rfunc fid k slots f) vs h)=match evOpd vs [] f with
  | .fn g cap=>endL h.next vs (run F n (.call g (.yld h.next::cap) (h.push (.lrec .ready fid k slots vs))))
  | _=>none:=rfl
theorem run_ops (n:Nat) (l:List AOper) (vs:List AVal) (h:Heap):run F (n+1) (.code (.ops l) vs h)=match foldA (cfOf F n) l 0 ⟨vs,List.replicate l.length .bad,h⟩ with
  | some s=>some (.code .normal s.vs s.h)
  | none=>none:=rfl
theorem run_seq (n:Nat) (a b:ACode) (vs:List AVal) (h:Heap):run F (n+1) (.code (.seq a b) vs h)=match run F n (.code a vs h) with
  | some (.code .normal vs h)=>run F n (.code b vs h)
  | r=>r:=rfl
theorem run_cond (n:Nat) (x:Opd) (a b:ACode) (vs:List AVal) (h:Heap):run F (n+1) (.code (.cond x a b) vs h)=match evOpd vs [] x with
  | .bool true=>run F n (.code a vs h)
  | .bool false=>run F n (.code b vs h)
  | _=>none:=rfl
theorem run_block (n id:Nat) (c:ACode) (vs:List AVal) (h:Heap):run F (n+1) (.code (.block id c) vs h)=match run F n (.code c vs h) with
  | some (.code (.exit i) vs h)=>if i=id then some (.code .normal vs h) else some (.code (.exit i) vs h)
  | r=>r:=rfl
theorem run_loop (n:Nat) (c:ACode) (vs:List AVal) (h:Heap):run F (n+1) (.code (.loop c) vs h)=match run F n (.code c vs h) with
  | some (.code .normal vs h)=>run F n (.code (.loop c) vs h)
  | r=>r:=rfl
theorem run_alts (n:Nat) (ls:List (List AOper)) (vs:List AVal) (h:Heap):run F (n+1) (.code (.alts ls) vs h)=match altsA (cfOf F n) vs h ls with
  | some r=>some (.code .normal r.1 r.2)
  | none=>none:=rfl
theorem run_altp (n:Nat) (rs:List (List Nat)) (ls:List (List AOper)) (vs:List AVal) (h:Heap):run F (n+1) (.code (.altp rs ls) vs h)=match altpA (cfOf F n) vs h rs ls with
  | some r=>some (.code .normal r.1 r.2)
  | none=>none:=rfl
theorem foldN_mono {a b:CallF} (hle:Le a b):∀ {l:List AOper} {k:Nat} {s:St} {r:St×List Nat},foldN a l k s=some r→foldN b l k s=some r
 | [],k,s,r,e=>e
 | o::l,k,s,r,e=>by
   simp only [foldN] at e ⊢
   split at e
   ·rename_i s1 hs
    rw [stepA_mono hle hs]
    simp only
    split at e
    ·rename_i t ns ht
     rw [foldN_mono hle ht]
     exact e
    ·simp at e
   ·simp at e
theorem altpC_mono {a b:CallF} (hle:Le a b) {vs:List AVal} {h:Heap} {r0 n0:List Nat} {s0:St}:∀ {rs:List (List Nat)} {ls:List (List AOper)},altpC a vs h r0 n0 s0 rs ls=true→altpC b vs h r0 n0 s0 rs ls=true
 | [],[],_=>rfl
 | [],_::_,e=>by simp [altpC] at e
 | _::_,[],e=>by simp [altpC] at e
 | r::rs,l::ls,e=>by
   simp only [altpC] at e ⊢
   split at e
   ·simp at e
   ·rename_i s n hs
    rw [foldN_mono hle hs]
    simp only [Bool.and_eq_true] at e ⊢
    exact ⟨e.1,altpC_mono hle e.2⟩
theorem altpA_mono {a b:CallF} (hle:Le a b) {vs:List AVal} {h:Heap} {r:List AVal×Heap}:∀ {rs:List (List Nat)} {ls:List (List AOper)},altpA a vs h rs ls=some r→altpA b vs h rs ls=some r
 | [],_,e=>by simp [altpA] at e
 | _::_,[],e=>by simp [altpA] at e
 | r0::rs,l0::ls,e=>by
   simp only [altpA] at e ⊢
   split at e
   ·simp at e
   ·rename_i s0 n0 hs
    rw [foldN_mono hle hs]
    simp only
    split at e
    ·rename_i hc
     rw [if_pos (altpC_mono hle hc)]
     exact e
    ·simp at e
theorem run_succ:∀ (n:Nat) (t:Task) (r:Res),run F n t=some r→run F (n+1) t=some r:=by
 intro n
 induction n with
 | zero=>intro t r e;cases e
 | succ n ih =>
   intro t r e
   cases t with
   | call f args h =>
     rw [run_call] at e ⊢
     split at e
     ·cases e
     ·rename_i s hs;exact e
     ·rename_i fn hf
      cases hx:run F n (.code fn.body (fn.slots.map fun s=>(args[s]?).getD (.tup [])) h) with
      | none=>rw [hx] at e;cases e
      | some x=>rw [hx] at e;rw [ih _ _ hx];exact e
   | yield id args h =>
     rw [run_yield'] at e ⊢
     revert e
     split
     ·split
      ·split
       ·split
        ·rename_i L _ _
         intro e
         cases hx:run F n (.code L.assign (setPs L.ps args _) h) with
         | none=>rw [hx] at e;cases e
         | some x=>rw [ih _ _ hx];rw [hx] at e;exact midY_mono ih e
        ·intro e;exact e
       ·intro e;exact e
      ·intro e;exact e
     ·intro e;exact e
   | code c vs h =>
     cases c with
     | skip=>exact e
     | exit id=>exact e
     | ret=>exact e
     | refuse=>cases e
     | alts ls =>
       rw [run_alts] at e ⊢
       cases hx:altsA (cfOf F n) vs h ls with
       | none=>rw [hx] at e;cases e
       | some x =>
         rw [hx] at e
         obtain ⟨q1,q2⟩:=altsA_iff.1 hx
         rw [altsA_iff.2 ⟨q1,fun l hl=>by
          obtain ⟨s,e1,e2⟩:=q2 l hl
          exact ⟨s,foldA_mono (cfOf_le ih) e1,e2⟩⟩]
         exact e
     | altp rs ls =>
       rw [run_altp] at e ⊢
       cases hx:altpA (cfOf F n) vs h rs ls with
       | none=>rw [hx] at e;cases e
       | some x =>
         rw [hx] at e
         rw [altpA_mono (cfOf_le ih) hx]
         exact e
     | rfunc fid k slots f =>
       rw [run_rfunc] at e ⊢
       revert e
       split
       ·rename_i g cap _
        cases hx:run F n (.call g (.yld h.next::cap) (h.push (.lrec .ready fid k slots vs))) with
        | none=>intro e;cases e
        | some x=>intro e;rw [ih _ _ hx];exact e
       ·intro e;exact e
     | ops l =>
       rw [run_ops] at e ⊢
       cases hx:foldA (cfOf F n) l 0 ⟨vs,List.replicate l.length .bad,h⟩ with
       | none=>rw [hx] at e;cases e
       | some x =>
         rw [hx] at e
         rw [foldA_mono (cfOf_le ih) hx]
         exact e
     | seq a b =>
       rw [run_seq] at e ⊢
       cases hx:run F n (.code a vs h) with
       | none=>rw [hx] at e;cases e
       | some x =>
         rw [hx] at e
         rw [ih _ _ hx]
         revert e
         split
         ·intro e;exact ih _ _ e
         ·intro e;exact e
     | cond x a b =>
       rw [run_cond] at e ⊢
       revert e
       split
       ·intro e;exact ih _ _ e
       ·intro e;exact ih _ _ e
       ·intro e;exact e
     | block id c =>
       rw [run_block] at e ⊢
       cases hx:run F n (.code c vs h) with
       | none=>rw [hx] at e;cases e
       | some x=>rw [hx] at e;rw [ih _ _ hx];exact e
     | loop c =>
       rw [run_loop] at e ⊢
       cases hx:run F n (.code c vs h) with
       | none=>rw [hx] at e;cases e
       | some x =>
         rw [hx] at e
         rw [ih _ _ hx]
         revert e
         split
         ·intro e;exact ih _ _ e
         ·intro e;exact e
theorem run_mono {n m:Nat} (hle:n≤m) {t:Task} {r:Res} (e:run F n t=some r):run F m t=some r:=by
 induction hle with
 | refl=>exact e
 | step _ ih=>exact run_succ _ _ _ ih
def Gives (F:Nat→Option AEnt) (g:Nat) (args:List AVal) (h:Heap) (r:AVal) (h':Heap):Prop:=∃ n,run F n (.call g args h)=some (.val r h')
def WP (F:Nat→Option AEnt) (c:ACode) (vs:List AVal) (h:Heap) (Q:AExit→List AVal→Heap→Prop):Prop :=
 ∃ n e vs' h',run F n (.code c vs h)=some (.code e vs' h')∧Q e vs' h'
def OW (F:Nat→Option AEnt) (l:List AOper) (k:Nat) (vs ts:List AVal) (h:Heap) (K:List AVal→Heap→Prop):Prop :=
 ts.length=k→∃ n s',foldA (cfOf F n) l k ⟨vs,ts++List.replicate l.length .bad,h⟩=some s'∧K s'.vs s'.h
def XW (F:Nat→Option AEnt) (op:AOp) (ev:Opd→AVal) (h:Heap) (K:AVal→Heap→Prop):Prop :=
 ∃ n r h',execA (cfOf F n) op ev h=some (r,h')∧K r h'
theorem WP.mono {c:ACode} {vs:List AVal} {h:Heap} {Q R:AExit→List AVal→Heap→Prop} (w:WP F c vs h Q) (hi:∀ e vs h,Q e vs h→R e vs h):WP F c vs h R:=by
 obtain ⟨n,e,vs',h',h1,h2⟩:=w
 exact ⟨n,e,vs',h',h1,hi _ _ _ h2⟩
theorem w_skip {vs:List AVal} {h:Heap} {Q:AExit→List AVal→Heap→Prop} (q:Q .normal vs h):WP F .skip vs h Q:=⟨1,_,_,_,rfl,q⟩
theorem w_ret {vs:List AVal} {h:Heap} {Q:AExit→List AVal→Heap→Prop} (q:Q .ret vs h):WP F .ret vs h Q:=⟨1,_,_,_,rfl,q⟩
theorem w_exit {id:Nat} {vs:List AVal} {h:Heap} {Q:AExit→List AVal→Heap→Prop} (q:Q (.exit id) vs h):WP F (.exit id) vs h Q:=⟨1,_,_,_,rfl,q⟩
def sq (F:Nat→Option AEnt) (b:ACode) (Q:AExit→List AVal→Heap→Prop):AExit→List AVal→Heap→Prop
 | .normal,vs,h=>WP F b vs h Q
 | e,vs,h=>Q e vs h
theorem w_seq {a b:ACode} {vs:List AVal} {h:Heap} {Q:AExit→List AVal→Heap→Prop} (w:WP F a vs h (sq F b Q)):WP F (.seq a b) vs h Q:=by
 obtain ⟨n,e,vs1,h1,hr,hq⟩:=w
 cases e with
 | normal =>
   obtain ⟨m,e2,vs2,h2,hr2,hq2⟩:=hq
   refine ⟨max n m+1,e2,vs2,h2,?_,hq2⟩
   rw [run_seq,run_mono (Nat.le_max_left n m) hr]
   exact run_mono (Nat.le_max_right n m) hr2
 | exit id=>exact ⟨n+1,_,_,_,by rw [run_seq,hr],hq⟩
 | ret=>exact ⟨n+1,_,_,_,by rw [run_seq,hr],hq⟩
theorem w_cond {x:Opd} {a b:ACode} {vs:List AVal} {h:Heap} {Q:AExit→List AVal→Heap→Prop} (t:Bool) (hx:evOpd vs [] x = .bool t) (w1:t=true→WP F a vs h Q) (w2:t=false→WP F b vs h Q):WP F (.cond x a b) vs h Q:=by
 cases t with
 | true =>
   obtain ⟨n,e,vs',h',hr,hq⟩:=w1 rfl
   exact ⟨n+1,e,vs',h',by rw [run_cond,hx];exact hr,hq⟩
 | false =>
   obtain ⟨n,e,vs',h',hr,hq⟩:=w2 rfl
   exact ⟨n+1,e,vs',h',by rw [run_cond,hx];exact hr,hq⟩
def bk (id:Nat) (Q:AExit→List AVal→Heap→Prop):AExit→List AVal→Heap→Prop
 | .exit i,vs,h=>if i=id then Q .normal vs h else Q (.exit i) vs h
 | e,vs,h=>Q e vs h
theorem w_block {id:Nat} {c:ACode} {vs:List AVal} {h:Heap} {Q:AExit→List AVal→Heap→Prop} (w:WP F c vs h (bk id Q)):WP F (.block id c) vs h Q:=by
 obtain ⟨n,e,vs1,h1,hr,hq⟩:=w
 cases e with
 | normal=>exact ⟨n+1,_,_,_,by rw [run_block,hr],hq⟩
 | ret=>exact ⟨n+1,_,_,_,by rw [run_block,hr],hq⟩
 | exit i =>
   simp only [bk] at hq
   by_cases hi:i=id
   ·rw [if_pos hi] at hq
    exact ⟨n+1,_,_,_,by rw [run_block,hr];simp only [hi,if_true],hq⟩
   ·rw [if_neg hi] at hq
    exact ⟨n+1,_,_,_,by rw [run_block,hr];simp only [hi,if_false],hq⟩
def lp (J:List AVal→Heap→Prop) (Q:AExit→List AVal→Heap→Prop):AExit→List AVal→Heap→Prop
 | .normal,vs,h=>J vs h
 | e,vs,h=>Q e vs h
theorem w_loop_once {c:ACode} {vs:List AVal} {h:Heap} {Q:AExit→List AVal→Heap→Prop} (w:WP F c vs h (lp (fun vs h=>WP F (.loop c) vs h Q) Q)):WP F (.loop c) vs h Q:=by
 obtain ⟨n,e,vs1,h1,hr,hq⟩:=w
 cases e with
 | normal =>
   obtain ⟨m,e2,vs2,h2,hr2,hq2⟩:=hq
   refine ⟨max n m+1,e2,vs2,h2,?_,hq2⟩
   rw [run_loop,run_mono (Nat.le_max_left n m) hr]
   exact run_mono (Nat.le_max_right n m) hr2
 | exit id=>exact ⟨n+1,_,_,_,by rw [run_loop,hr],hq⟩
 | ret=>exact ⟨n+1,_,_,_,by rw [run_loop,hr],hq⟩
theorem w_loop {c:ACode} {vs:List AVal} {h:Heap} {Q:AExit→List AVal→Heap→Prop} (J:Nat→List AVal→Heap→Prop) (m:Nat) (h0:J m vs h)
  (round:∀ m vs h,J m vs h→WP F c vs h (lp (fun vs h=>∃ m',m'<m∧J m' vs h) Q)):WP F (.loop c) vs h Q:=by
 induction m using Nat.strongRecOn generalizing vs h with
 | _ m ih =>
   refine w_loop_once ((round m vs h h0).mono fun e vs1 h1 hq=>?_)
   cases e with
   | normal=>obtain ⟨m',hlt,hJ⟩:=hq;exact ih m' hlt hJ
   | exit id=>exact hq
   | ret=>exact hq
theorem evOpd_pad (vs ts:List AVal) (n:Nat):evOpd vs (ts++List.replicate n .bad)=evOpd vs ts:=by
 funext x
 cases x with
 | v i=>rfl
 | c x=>rfl
 | t k =>
   simp only [evOpd]
   by_cases hk:k<ts.length
   ·rw [List.getElem?_append_left hk]
   ·rw [List.getElem?_append_right (by omega),List.getElem?_replicate,List.getElem?_eq_none (by omega)]
    split<;>rfl
theorem pad_set (ts:List AVal) (n k:Nat) (r:AVal) (h:ts.length=k):(ts++List.replicate (n+1) AVal.bad).set k r=(ts++[r])++List.replicate n .bad:=by
 subst h
 rw [List.set_append_right _ _ (Nat.le_refl _),Nat.sub_self,List.replicate_succ]
 simp
theorem pad_keep (ts:List AVal) (n:Nat):ts++List.replicate (n+1) AVal.bad=(ts++[.bad])++List.replicate n .bad:=by
 rw [List.replicate_succ];simp
theorem x_call {f:Opd} {args:List Opd} {ev:Opd→AVal} {h:Heap} {K:AVal→Heap→Prop} (g:Nat) (cap:List AVal) (hf:ev f = .fn g cap) (r:AVal) (h':Heap) (c:Gives F g (args.map ev++cap) h r h') (q:K r h'):XW F (.call f args) ev h K:=by
 obtain ⟨n,hn⟩:=c
 refine ⟨n,r,h',?_,q⟩
 simp only [execA,hf,cfOf,tsk,hn,Bool.false_eq_true,if_false];rfl
theorem x_pcall {f:Nat} {args:List Opd} {ev:Opd→AVal} {h:Heap} {K:AVal→Heap→Prop} (asx:List AVal) (hs:stripL (args.map ev)=some asx) (r r':AVal) (h':Heap) (c:Gives F f asx Heap.empty r h') (hp:purify h' r=some r') (q:K r' h):XW F (.pcall f args) ev h K:=by
 obtain ⟨n,hn⟩:=c
 refine ⟨n,r',h,?_,q⟩
 simp only [execA,hs,cfOf,tsk,hn,Bool.false_eq_true,if_false]
 simp [Res.asVal,hp]
theorem x_pcall_borrow {f:Nat} {args:List Opd} {ev:Opd→AVal} {h:Heap} {K:AVal→Heap→Prop} (hn0:stripL (args.map ev)=none) (asx:List AVal) (hs:purifyL h (args.map ev)=some asx) (r:AVal) (h':Heap) (c:Gives F f asx Heap.empty r h') (hp:scal r=true) (q:K r h):XW F (.pcall f args) ev h K:=by
 obtain ⟨n,hn⟩:=c
 refine ⟨n,r,h,?_,q⟩
 simp only [execA,hs,hn0,cfOf,tsk,hn,Bool.false_eq_true,if_false]
 simp [Res.asVal,hp]
def resK (rs:List ResV) (vs:List AVal) (h:Heap) (K:AVal→Heap→Prop):Prop:=∃ r,resultsA rs vs h=some r∧K r h
theorem gives_wp {g:Nat} {fn:AFunc} (hf:F g=some (.comp fn)) {args:List AVal} {h:Heap} {p:AVal→Heap→Prop}
  (w:WP F fn.body (fn.slots.map fun s=>(args[s]?).getD (.tup [])) h (fun e vs h1=>(e = .normal∨e = .ret)∧resK fn.results vs h1 p)):∃ r,∃ h',Gives F g args h r h'∧p r h':=by
 obtain ⟨n,e,vs,h1,hr,he,r0,hr0,hp⟩:=w
 refine ⟨r0,h1,⟨n+1,?_⟩,hp⟩
 rw [run_call,hf]
 simp only [hr]
 rcases he with rfl|rfl<;>simp only [hr0,Option.map_some]
theorem gives_hand {g:Nat} {s:List AVal→Heap→Option (AVal×Heap)} (hf:F g=some (.hand s)) {args:List AVal} {h:Heap} {r:AVal} {h':Heap} (e:s args h=some (r,h')):Gives F g args h r h' :=
 ⟨1,by rw [run_call,hf];simp only [e];rfl⟩
section
variable {h:Heap} {b:ACode} {Q:AExit→List AVal→Heap→Prop} {vs:List AVal} {J:List AVal→Heap→Prop} {id i:Nat}
theorem lp_n (q:J vs h):lp J Q .normal vs h:=q
end
theorem gives_run {g:Nat} {args:List AVal} {h:Heap} {r:AVal} {h':Heap} (c:Gives F g args h r h'):∃ n,run F n (.call g args h)=some (.val r h'):=c
def bindK (o:Option AVal) (K:AVal→Heap→Prop) (h:Heap):Prop:=∃ r,o=some r∧K r h
def bindH (o:Option (AVal×Heap)) (K:AVal→Heap→Prop):Prop:=∃ r h,o=some (r,h)∧K r h
def bindB (o:Option Bool) (K:Bool→Prop):Prop:=∃ b,o=some b∧K b
def condB (v:AVal) (K:Bool→Prop):Prop:=∃ t,v = .bool t∧K t
@[congr] theorem bindK_congr {o o':Option AVal} {K:AVal→Heap→Prop} {h:Heap} (e:o=o'):bindK o K h=bindK o' K h:=by rw [e]
@[congr] theorem bindH_congr {o o':Option (AVal×Heap)} {K:AVal→Heap→Prop} (e:o=o'):bindH o K=bindH o' K:=by rw [e]
@[congr] theorem bindB_congr {o o':Option Bool} {K:Bool→Prop} (e:o=o'):bindB o K=bindB o' K:=by rw [e]
@[congr] theorem condB_congr {v v':AVal} {K:Bool→Prop} (e:v=v'):condB v K=condB v' K:=by rw [e]
theorem bindK_some (r:AVal) (K:AVal→Heap→Prop) (h:Heap):bindK (some r) K h=K r h:=by
 apply propext
 constructor
 ·rintro ⟨r',e,q⟩;cases e;exact q
 ·intro q;exact ⟨r,rfl,q⟩
theorem bindH_some (r:AVal) (h:Heap) (K:AVal→Heap→Prop):bindH (some (r,h)) K=K r h:=by
 apply propext
 constructor
 ·rintro ⟨r',h',e,q⟩;cases e;exact q
 ·intro q;exact ⟨r,h,rfl,q⟩
theorem bindB_some (b:Bool) (K:Bool→Prop):bindB (some b) K=K b:=by
 apply propext
 constructor
 ·rintro ⟨r',e,q⟩;cases e;exact q
 ·intro q;exact ⟨b,rfl,q⟩
def RW (F:Nat→Option AEnt) (l:List AOper) (vs ts:List AVal) (h:Heap) (K:List AVal→Heap→Prop):Prop :=
 ∃ n s',foldA (cfOf F n) l ts.length ⟨vs,ts++List.replicate l.length .bad,h⟩=some s'∧K s'.vs s'.h
def putV (d:ADst) (vs:List AVal) (r:AVal):List AVal:=match d with
 | .var i=>vs.set i r
 | _=>vs
def putT (d:ADst) (r:AVal):AVal:=match d with
 | .tmp=>r
 | _ => .bad
theorem WP_ops {l:List AOper} {vs:List AVal} {h:Heap} {Q:AExit→List AVal→Heap→Prop}:WP F (.ops l) vs h Q↔RW F l vs [] h (Q .normal):=by
 constructor
 ·rintro ⟨n,e,vs',h',hr,hq⟩
  cases n with
  | zero=>cases hr
  | succ n =>
    rw [run_ops] at hr
    split at hr
    ·rename_i s hs
     simp only [Option.some.injEq,Res.code.injEq] at hr
     obtain ⟨rfl,rfl,rfl⟩:=hr
     exact ⟨n,s,by simpa using hs,hq⟩
    ·simp at hr
 ·rintro ⟨n,s',hr,hq⟩
  refine ⟨n+1,.normal,s'.vs,s'.h,?_,hq⟩
  simp only [List.length_nil,List.nil_append] at hr
  rw [run_ops,hr]
theorem RW_nil {vs ts:List AVal} {h:Heap} {K:List AVal→Heap→Prop}:RW F [] vs ts h K↔K vs h:=by
 constructor
 ·rintro ⟨n,s',hr,hq⟩
  simp only [foldA,Option.some.injEq] at hr
  subst hr;exact hq
 ·intro q;exact ⟨0,_,rfl,q⟩
theorem put_pad (d:ADst) (vs ts:List AVal) (n:Nat) (h h':Heap) (r:AVal):(⟨vs,ts++List.replicate (n+1) .bad,h⟩:St).put ts.length d r h'=⟨putV d vs r,(ts++[putT d r])++List.replicate n .bad,h'⟩:=by
 cases d with
 | no=>simp only [St.put,putV,putT,pad_keep]
 | tmp=>simp only [St.put,putV,putT];rw [pad_set _ _ _ _ rfl]
 | var i=>simp only [St.put,putV,putT,pad_keep]
theorem RW_exec {d:ADst} {op:AOp} {l:List AOper} {vs ts:List AVal} {h:Heap} {K:List AVal→Heap→Prop} :
  RW F (⟨d,op,none⟩::l) vs ts h K↔XW F op (evOpd vs ts) h (fun r h'=>RW F l (putV d vs r) (ts++[putT d r]) h' K):=by
 constructor
 ·rintro ⟨n,s',hr,hq⟩
  simp only [foldA,stepA,wantA,evOpd_pad,List.length_cons] at hr
  split at hr
  ·rename_i s1 hs1
   split at hs1
   ·rename_i r h1 hx
    simp only [Option.some.injEq] at hs1
    rw [put_pad] at hs1
    subst hs1
    exact ⟨n,r,h1,hx,n,s',by simpa using hr,hq⟩
   ·simp at hs1
  ·simp at hr
 ·rintro ⟨n,r,h1,hx,m,s',hf,hq⟩
  refine ⟨max n m,s',?_,hq⟩
  simp only [foldA,stepA,wantA,evOpd_pad,List.length_cons]
  rw [execA_mono (cfOf_le fun _ _ e=>run_mono (Nat.le_max_left n m) e) hx]
  simp only
  rw [put_pad]
  simp only [List.length_append,List.length_cons,List.length_nil] at hf
  exact foldA_mono (cfOf_le fun _ _ e=>run_mono (Nat.le_max_right n m) e) hf
theorem RW_guard {d:ADst} {op:AOp} {g:Opd×Bool} {l:List AOper} {vs ts:List AVal} {h:Heap} {K:List AVal→Heap→Prop} :
  RW F (⟨d,op,some g⟩::l) vs ts h K↔bindB (wantA (evOpd vs ts) (some g)) (fun b=>RW F (⟨d,if b then op else .mov (.c (.tup [])),none⟩::l) vs ts h K):=by
 constructor
 ·rintro ⟨n,s',hr,hq⟩
  cases hw:wantA (evOpd vs ts) (some g) with
  | none=>simp only [foldA,stepA,evOpd_pad,hw] at hr;simp at hr
  | some b =>
    refine ⟨b,rfl,n,s',?_,hq⟩
    cases b with
    | true =>
      simp only [foldA,stepA,evOpd_pad,hw] at hr
      simp only [foldA,stepA,evOpd_pad,wantA,if_true]
      exact hr
    | false =>
      simp only [foldA,stepA,evOpd_pad,hw] at hr
      simp only [foldA,stepA,evOpd_pad,wantA,if_false,execA,evalA,evOpd,Bool.false_eq_true]
      exact hr
 ·rintro ⟨b,hw,n,s',hr,hq⟩
  refine ⟨n,s',?_,hq⟩
  cases b with
  | true =>
    simp only [foldA,stepA,evOpd_pad,hw]
    simp only [foldA,stepA,evOpd_pad,wantA,if_true] at hr
    exact hr
  | false =>
    simp only [foldA,stepA,evOpd_pad,hw]
    simp only [foldA,stepA,evOpd_pad,wantA,if_false,execA,evalA,evOpd,Bool.false_eq_true] at hr
    exact hr
theorem XW_eval {op:AOp} {ev:Opd→AVal} {h:Heap} {K:AVal→Heap→Prop} (hop:∀ cf,execA cf op ev h=evalA op ev h):XW F op ev h K↔∃ r h',evalA op ev h=some (r,h')∧K r h':=by
 constructor
 ·rintro ⟨n,r,h',hx,hq⟩
  rw [hop] at hx
  exact ⟨r,h',hx,hq⟩
 ·rintro ⟨r,h',hx,hq⟩
  exact ⟨0,r,h',by rw [hop];exact hx,hq⟩
theorem WP_seq {a b:ACode} {vs:List AVal} {h:Heap} {Q:AExit→List AVal→Heap→Prop}:WP F (.seq a b) vs h Q↔WP F a vs h (sq F b Q):=by
 constructor
 ·rintro ⟨n,e,vs',h',hr,hq⟩
  cases n with
  | zero=>cases hr
  | succ n =>
    rw [run_seq] at hr
    cases ha:run F n (.code a vs h) with
    | none=>rw [ha] at hr;simp at hr
    | some x =>
      rw [ha] at hr
      cases x with
      | val r h1=>simp at hr
      | code e1 vs1 h1 =>
        refine ⟨n,e1,vs1,h1,ha,?_⟩
        cases e1 with
        | normal=>exact ⟨n,e,vs',h',hr,hq⟩
        | exit i=>simp at hr;obtain ⟨rfl,rfl,rfl⟩:=hr;exact hq
        | ret=>simp at hr;obtain ⟨rfl,rfl,rfl⟩:=hr;exact hq
 ·exact w_seq
theorem WP_skip {vs:List AVal} {h:Heap} {Q:AExit→List AVal→Heap→Prop}:WP F .skip vs h Q↔Q .normal vs h:=by
 constructor
 ·rintro ⟨n,e,vs',h',hr,hq⟩
  cases n with
  | zero=>cases hr
  | succ n=>cases hr;exact hq
 ·exact w_skip
theorem WP_ret {vs:List AVal} {h:Heap} {Q:AExit→List AVal→Heap→Prop}:WP F .ret vs h Q↔Q .ret vs h:=by
 constructor
 ·rintro ⟨n,e,vs',h',hr,hq⟩
  cases n with
  | zero=>cases hr
  | succ n=>cases hr;exact hq
 ·exact w_ret
theorem WP_exit {id:Nat} {vs:List AVal} {h:Heap} {Q:AExit→List AVal→Heap→Prop}:WP F (.exit id) vs h Q↔Q (.exit id) vs h:=by
 constructor
 ·rintro ⟨n,e,vs',h',hr,hq⟩
  cases n with
  | zero=>cases hr
  | succ n=>cases hr;exact hq
 ·exact w_exit
theorem WP_cond {x:Opd} {a b:ACode} {vs:List AVal} {h:Heap} {Q:AExit→List AVal→Heap→Prop}:WP F (.cond x a b) vs h Q↔condB (evOpd vs [] x) (fun t=>WP F (if t then a else b) vs h Q):=by
 constructor
 ·rintro ⟨n,e,vs',h',hr,hq⟩
  cases n with
  | zero=>cases hr
  | succ n =>
    rw [run_cond] at hr
    split at hr
    ·rename_i hx;exact ⟨true,hx,n,e,vs',h',hr,hq⟩
    ·rename_i hx;exact ⟨false,hx,n,e,vs',h',hr,hq⟩
    ·simp at hr
 ·rintro ⟨t,hx,w⟩
  exact w_cond t hx (fun ht=>by subst ht;exact w) (fun ht=>by subst ht;exact w)
theorem sq_normal {b:ACode} {Q:AExit→List AVal→Heap→Prop} {vs:List AVal} {h:Heap}:sq F b Q .normal vs h↔WP F b vs h Q:=Iff.rfl
theorem sq_ret {b:ACode} {Q:AExit→List AVal→Heap→Prop} {vs:List AVal} {h:Heap}:sq F b Q .ret vs h↔Q .ret vs h:=Iff.rfl
theorem sq_exit {b:ACode} {i:Nat} {Q:AExit→List AVal→Heap→Prop} {vs:List AVal} {h:Heap}:sq F b Q (.exit i) vs h↔Q (.exit i) vs h:=Iff.rfl
theorem bk_normal {id:Nat} {Q:AExit→List AVal→Heap→Prop} {vs:List AVal} {h:Heap}:bk id Q .normal vs h↔Q .normal vs h:=Iff.rfl
theorem bk_ret {id:Nat} {Q:AExit→List AVal→Heap→Prop} {vs:List AVal} {h:Heap}:bk id Q .ret vs h↔Q .ret vs h:=Iff.rfl
theorem bk_exit {id i:Nat} {Q:AExit→List AVal→Heap→Prop} {vs:List AVal} {h:Heap}:bk id Q (.exit i) vs h↔if i=id then Q .normal vs h else Q (.exit i) vs h:=Iff.rfl
theorem lp_ret {J:List AVal→Heap→Prop} {Q:AExit→List AVal→Heap→Prop} {vs:List AVal} {h:Heap}:lp J Q .ret vs h↔Q .ret vs h:=Iff.rfl
theorem lp_exit {J:List AVal→Heap→Prop} {i:Nat} {Q:AExit→List AVal→Heap→Prop} {vs:List AVal} {h:Heap}:lp J Q (.exit i) vs h↔Q (.exit i) vs h:=Iff.rfl
theorem WP_block {id:Nat} {c:ACode} {vs:List AVal} {h:Heap} {Q:AExit→List AVal→Heap→Prop}:WP F (.block id c) vs h Q↔WP F c vs h (bk id Q):=by
 constructor
 ·rintro ⟨n,e,vs',h',hr,hq⟩
  cases n with
  | zero=>cases hr
  | succ n =>
    rw [run_block] at hr
    cases ha:run F n (.code c vs h) with
    | none=>rw [ha] at hr;simp at hr
    | some x =>
      rw [ha] at hr
      cases x with
      | val r h1=>simp at hr
      | code e1 vs1 h1 =>
        refine ⟨n,e1,vs1,h1,ha,?_⟩
        cases e1 with
        | normal=>simp at hr;obtain ⟨rfl,rfl,rfl⟩:=hr;exact hq
        | ret=>simp at hr;obtain ⟨rfl,rfl,rfl⟩:=hr;exact hq
        | exit i =>
          simp only [bk]
          simp only at hr
          split at hr
          ·rename_i hi;rw [if_pos hi];simp at hr;obtain ⟨rfl,rfl,rfl⟩:=hr;exact hq
          ·rename_i hi;rw [if_neg hi];simp at hr;obtain ⟨rfl,rfl,rfl⟩:=hr;exact hq
 ·exact w_block
theorem gives_det {g:Nat} {args:List AVal} {h:Heap} {r1 r2:AVal} {h1 h2:Heap} (a:Gives F g args h r1 h1) (b:Gives F g args h r2 h2):r1=r2∧h1=h2:=by
 obtain ⟨n,hn⟩:=a
 obtain ⟨m,hm⟩:=b
 have e1:=run_mono (Nat.le_max_left n m) hn
 have e2:=run_mono (Nat.le_max_right n m) hm
 rw [e1] at e2
 simpa using e2
open Classical in
noncomputable def GV (F:Nat→Option AEnt) (g:Nat) (args:List AVal) (h:Heap):Option (AVal×Heap) :=
 if e:∃ p:AVal×Heap,Gives F g args h p.1 p.2 then some e.choose else none
theorem GV_of {g:Nat} {args:List AVal} {h:Heap} {r:AVal} {h':Heap} (c:Gives F g args h r h'):GV F g args h=some (r,h'):=by
 have e:∃ p:AVal×Heap,Gives F g args h p.1 p.2:=⟨(r,h'),c⟩
 unfold GV
 rw [dif_pos e]
 obtain ⟨h1,h2⟩:=gives_det e.choose_spec c
 rw [←h1,←h2]
theorem of_GV {g:Nat} {args:List AVal} {h:Heap} {r:AVal} {h':Heap} (c:GV F g args h=some (r,h')):Gives F g args h r h':=by
 unfold GV at c
 split at c
 ·rename_i e
  have:=e.choose_spec
  simp only [Option.some.injEq] at c
  rw [c] at this
  exact this
 ·simp at c
noncomputable def PV (F:Nat→Option AEnt) (g:Nat) (asx:List AVal):Option AVal:=match GV F g asx Heap.empty with
 | some (r,h')=>purify h' r
 | none=>none
theorem cf_gives {n g:Nat} {asx:List AVal} {h:Heap} {r:AVal} {h':Heap} (hx:cfOf F n false g asx h=some (r,h')):Gives F g asx h r h':=by
 simp only [cfOf,tsk,Bool.false_eq_true,if_false,Option.bind_eq_some_iff] at hx
 obtain ⟨x,h1,h2⟩:=hx
 cases x with
 | val r1 h1'=>simp only [Res.asVal,Option.some.injEq,Prod.mk.injEq] at h2;rw [←h2.1,←h2.2];exact ⟨n,h1⟩
 | code=>simp [Res.asVal] at h2
def YV (F:Nat→Option AEnt) (id:Nat) (asx:List AVal) (h:Heap) (K:AVal→Heap→Prop):Prop:=∃ n r h',run F n (.yield id asx h)=some (.val r h')∧K r h'
theorem cf_yield {n id:Nat} {asx:List AVal} {h:Heap} {r:AVal} {h':Heap} (hx:cfOf F n true id asx h=some (r,h')):∃ n,run F n (.yield id asx h)=some (.val r h'):=by
 simp only [cfOf,tsk,if_true,Option.bind_eq_some_iff] at hx
 obtain ⟨x,h1,h2⟩:=hx
 cases x with
 | val r1 h1'=>simp only [Res.asVal,Option.some.injEq,Prod.mk.injEq] at h2;rw [←h2.1,←h2.2];exact ⟨n,h1⟩
 | code=>simp [Res.asVal] at h2
theorem XW_call {f:Opd} {args:List Opd} {ev:Opd→AVal} {h:Heap} {K:AVal→Heap→Prop}:XW F (.call f args) ev h K↔(∃ g cap,ev f = .fn g cap∧∃ r h',GV F g (args.map ev++cap) h=some (r,h')∧K r h')∨∃ id,ev f = .yld id∧YV F id (args.map ev) h K:=by
 constructor
 ·rintro ⟨n,r,h',hx,hq⟩
  simp only [execA] at hx
  split at hx
  ·rename_i g cap hf
   exact .inl ⟨g,cap,hf,r,h',GV_of (cf_gives hx),hq⟩
  ·rename_i id hf
   obtain ⟨m,hm⟩:=cf_yield hx
   exact .inr ⟨id,hf,m,r,h',hm,hq⟩
  ·simp at hx
 ·rintro (⟨g,cap,hf,r,h',c,hq⟩|⟨id,hf,n,r,h',hn,hq⟩)
  ·exact x_call g cap hf r h' (of_GV c) hq
  ·refine ⟨n,r,h',?_,hq⟩
   simp only [execA,hf,cfOf,tsk,if_true,hn];rfl
theorem x_gcall {g:Nat} {args:List Opd} {ev:Opd→AVal} {h:Heap} {K:AVal→Heap→Prop} (r:AVal) (h':Heap) (c:Gives F g (args.map ev) h r h') (hx:extB h h'=true) (q:K r h'):XW F (.gcall g args) ev h K:=by
 obtain ⟨n,hn⟩:=c
 refine ⟨n,r,h',?_,q⟩
 simp only [execA,cfOf,tsk,hn,Bool.false_eq_true,if_false]
 simp [Res.asVal,hx]
theorem XW_pcall {f:Nat} {args:List Opd} {ev:Opd→AVal} {h:Heap} {K:AVal→Heap→Prop} {asx:List AVal} (hs:stripL (args.map ev)=some asx):XW F (.pcall f args) ev h K↔∃ r,PV F f asx=some r∧K r h:=by
 constructor
 ·rintro ⟨n,r,h',hx,hq⟩
  simp only [execA,hs] at hx
  split at hx
  ·rename_i r0 h0 hc
   simp only [Option.map_eq_some_iff,Prod.mk.injEq] at hx
   obtain ⟨r1,hp,rfl,rfl⟩:=hx
   refine ⟨r1,?_,hq⟩
   have:Gives F f asx Heap.empty r0 h0:=cf_gives hc
   unfold PV
   rw [GV_of this]
   exact hp
  ·simp at hx
 ·rintro ⟨r,hp,hq⟩
  unfold PV at hp
  split at hp
  ·rename_i r0 h0 hc
   exact x_pcall asx hs r0 r h0 (of_GV hc) hp hq
  ·simp at hp
theorem PV_of {g:Nat} {asx:List AVal} {r:AVal} {h':Heap} {r':AVal} (c:Gives F g asx Heap.empty r h') (hp:purify h' r=some r'):PV F g asx=some r':=by
 unfold PV
 rw [GV_of c]
 exact hp
theorem PV_wp {g:Nat} {fn:AFunc} (hf:F g=some (.comp fn)) {args:List AVal} {r:AVal}
  (w:WP F fn.body (fn.slots.map fun s=>(args[s]?).getD (.tup [])) Heap.empty (fun e vs h1=>(e = .normal∨e = .ret)∧resK fn.results vs h1 (fun v h2=>purify h2 v=some r))):PV F g args=some r:=by
 obtain ⟨r0,h',c,hp⟩:=gives_wp (p:=fun v h1=>purify h1 v=some r) hf w
 exact PV_of c hp
def PC (F:Nat→Option AEnt) (f:Nat) (o:Option (List AVal)) (args:List AVal) (h:Heap) (K:AVal→Heap→Prop):Prop :=
 match o with
 | some asx=>∃ r,PV F f asx=some r∧K r h
 | none=>∃ asx,purifyL h args=some asx∧∃ r h',GV F f asx Heap.empty=some (r,h')∧scal r=true∧K r h
theorem PC_some {f:Nat} {asx args:List AVal} {h:Heap} {K:AVal→Heap→Prop}:PC F f (some asx) args h K↔bindK (PV F f asx) K h:=Iff.rfl
theorem PC_none {f:Nat} {args:List AVal} {h:Heap} {K:AVal→Heap→Prop}:PC F f none args h K↔∃ asx,purifyL h args=some asx∧∃ r h',GV F f asx Heap.empty=some (r,h')∧scal r=true∧K r h:=Iff.rfl
theorem XW_pc {f:Nat} {args:List Opd} {ev:Opd→AVal} {h:Heap} {K:AVal→Heap→Prop}:XW F (.pcall f args) ev h K↔PC F f (stripL (args.map ev)) (args.map ev) h K:=by
 cases hs:stripL (args.map ev) with
 | some asx=>rw [XW_pcall hs,PC_some];exact Iff.rfl
 | none =>
   rw [PC_none]
   constructor
   ·rintro ⟨n,r,h',hx,hq⟩
    simp only [execA,hs] at hx
    split at hx
    ·rename_i asx has
     split at hx
     ·rename_i r0 h0 hc
      split at hx
      ·rename_i hsc
       simp only [Option.some.injEq,Prod.mk.injEq] at hx
       obtain ⟨rfl,rfl⟩:=hx
       exact ⟨asx,has,r0,h0,GV_of (cf_gives hc),hsc,hq⟩
      ·simp at hx
     ·simp at hx
    ·simp at hx
   ·rintro ⟨asx,has,r,h',hc,hsc,hq⟩
    exact x_pcall_borrow hs asx has r h' (of_GV hc) hsc hq
def rvK (vs:List AVal) (h:Heap) (r:ResV) (K:AVal→Prop):Prop:=match r with
 | .v i=>K ((vs[i]?).getD .bad)
 | .c i sz ag=>bindK (loadA sz ag ((vs[i]?).getD .bad) h) (fun x _=>K x) h
def rvsK (vs:List AVal) (h:Heap):List ResV→List AVal→(AVal→Heap→Prop)→Prop
 | [],acc,K=>K (.tup acc) h
 | r::rs,acc,K=>rvK vs h r (fun x=>rvsK vs h rs (acc++[x]) K)
theorem rvK_iff {vs:List AVal} {h:Heap} {r:ResV} {K:AVal→Prop}:rvK vs h r K↔∃ x,rvA vs h r=some x∧K x:=by
 cases r with
 | v i=>simp [rvK,rvA]
 | c i sz ag=>simp only [rvK,rvA,bindK]
theorem rvsK_iff {vs:List AVal} {h:Heap} {K:AVal→Heap→Prop}:∀ {rs:List ResV} {acc:List AVal},rvsK vs h rs acc K↔∃ xs,rvsA vs h rs=some xs∧K (.tup (acc++xs)) h
 | [],acc=>by simp [rvsK,rvsA]
 | r::rs,acc=>by
   simp only [rvsK,rvK_iff,rvsK_iff (rs:=rs),rvsA]
   constructor
   ·rintro ⟨x,h1,xs,h2,h3⟩
    exact ⟨x::xs,by rw [h1,h2],by simpa using h3⟩
   ·rintro ⟨ys,h1,h2⟩
    split at h1
    ·rename_i x xs q1 q2
     obtain rfl:=Option.some.inj h1
     exact ⟨x,q1,xs,q2,by simpa using h2⟩
    ·simp at h1
theorem resK_one {r:ResV} {vs:List AVal} {h:Heap} {K:AVal→Heap→Prop}:resK [r] vs h K↔rvK vs h r (fun x=>K x h):=by
 rw [rvK_iff];exact Iff.rfl
theorem resK_nil {vs:List AVal} {h:Heap} {K:AVal→Heap→Prop}:resK [] vs h K↔K (.tup []) h:=by
 simp [resK,resultsA,rvsA]
theorem resK_two {r1 r2:ResV} {rs:List ResV} {vs:List AVal} {h:Heap} {K:AVal→Heap→Prop}:resK (r1::r2::rs) vs h K↔rvsK vs h (r1::r2::rs) [] K:=by
 rw [rvsK_iff]
 simp only [resK,resultsA,List.nil_append]
 constructor
 ·rintro ⟨r,h1,h2⟩
  simp only [Option.map_eq_some_iff] at h1
  obtain ⟨xs,q1,rfl⟩:=h1
  exact ⟨xs,q1,h2⟩
 ·rintro ⟨xs,q1,q2⟩
  exact ⟨_,by rw [q1];rfl,q2⟩
theorem rvK_v {vs:List AVal} {h:Heap} {i:Nat} {K:AVal→Prop}:rvK vs h (.v i) K↔K ((vs[i]?).getD .bad):=Iff.rfl
theorem rvK_c {vs:List AVal} {h:Heap} {i sz:Nat} {ag:Bool} {K:AVal→Prop}:rvK vs h (.c i sz ag) K↔bindK (loadA sz ag ((vs[i]?).getD .bad) h) (fun x _=>K x) h:=Iff.rfl
theorem rvsK_nil {vs acc:List AVal} {h:Heap} {K:AVal→Heap→Prop}:rvsK vs h [] acc K↔K (.tup acc) h:=Iff.rfl
theorem rvsK_cons {vs acc:List AVal} {h:Heap} {r:ResV} {rs:List ResV} {K:AVal→Heap→Prop}:rvsK vs h (r::rs) acc K↔rvK vs h r (fun x=>rvsK vs h rs (acc++[x]) K):=Iff.rfl
attribute [irreducible] WP OW XW Gives sq bk lp RW GV PV PC YV
end Go.Abs

namespace Go.Abs
open Go.ChangeShapes Go.WideShapes Go.ChangeAt Go.RowKit
variable {P:Program} {H:Type} {enc:TypeId×Value→H} {E:Env}
def G0 (E:Env):Ghost:=⟨0,fun _=>0,fun _=>0,fun _=>none,E⟩
theorem hrel0 (W:World) {E:Env} (hg:∀ g cs,E.glob g=some cs→VRel W (G0 E) (.pointer (some ⟨g,0,none⟩)) (.rp cs)∧∀ c∈cs,strip c=some c):HRel W (G0 E) Heap.empty :=
 ⟨rfl,fun id o h=>by rw [Heap.get_empty] at h;simp at h,fun id o h=>by rw [Heap.get_empty] at h;simp at h,fun i j oi oj h=>by rw [Heap.get_empty] at h;simp at h,hg⟩
theorem stab0 {E:Env} (b k:Nat):stab (G0 E) b k:=fun m h=>by simp [G0] at h
inductive Arg where
 | int (n:Int)
 | ints (l:List Int) (t:Tok)
def Arg.val:Arg→AVal
 | .int n => .int .i64 n
 | .ints l t => .sl (l.map (.int .i64)) t
def Arg.wf:Arg→Prop
 | .int n => -9223372036854775808≤n∧n<9223372036854775808
 | .ints l t=>(t = .none∨t = .nil∧l=[])∧l.length≤maxLen∧∀ n∈l,-9223372036854775808≤n∧n<9223372036854775808
theorem wf_i64 {n:Int} (h:(Lit.int .i64 n).wf=true) : -9223372036854775808≤n∧n<9223372036854775808:=by
 simp only [Lit.wf,Bool.and_eq_true,decide_eq_true_eq] at h
 have h1:IntKind.i64.min = -9223372036854775808:=rfl
 have h2:IntKind.i64.max=9223372036854775807:=rfl
 omega
theorem Below.trodAll (hl:laidOutB P=true) {W W':World} (hb:Below W.heap.size W W'):∀ {ts:List TypeId} {vs:List Value} {ds:List (DataW H)} {ps:List MemPlace},(∀ t∈ts,P.readableRec t=true∧t<P.types.size) →
  (∀ x∈ps,x.block<W.heap.size)→DataW.TrodAll enc P W 0 (fun _=>true) true ts vs ds ps→DataW.TrodAll enc P W' 0 (fun b=>decide (b<W.heap.size)) true ts vs ds ps
 | [],[],[],_,_,_,h=>h
 | t::ts,v::vs,d::ds,ps,ht,hp,h=>by
   obtain ⟨p,q,h1,h2,rfl⟩:=h
   exact ⟨p,q,RowKit.Below.trod hl (ht t (by simp)).1 (ht t (by simp)).2 h1 hb (fun x hx=>hp x (by simp [hx])),Below.trodAll hl hb (fun t' h'=>ht t' (by simp [h'])) (fun x hx=>hp x (by simp [hx])) h2,rfl⟩
 | [],_::_,_,_,_,_,h=>h.elim
 | [],[],_::_,_,_,_,h=>h.elim
 | _::_,[],_,_,_,_,h=>h.elim
 | _::_,_::_,[],_,_,_,h=>h.elim
theorem law_post {f:Func} {s:ChangeSpec} {W W':World} {args:Array Value} {ds gs:List (DataW H)} {before:List MemPlace} {tb:TypeId} (hl:laidOutB P=true) (hts:∀ t∈f.params.toList,P.readableRec t=true∧t<P.types.size)
  (hv:s.vars=[]) (hr:f.resultTypes=#[tb]) (hb:P.underlying tb=some .bool) (hW:DataW.Whole enc P f.params.toList s.vars false W args.toList ds gs before) (hB:Below W.heap.size W W')
  (hs:s.fn H (ds++gs)={ results:=[.lit (.bool true)],args:=ds }):s.post enc P f false true false false W args (.bool true) W':=by
 have hlt:=hW.lt
 have hW0:=hW
 obtain ⟨p,q,hA,hV,rfl,hfz,hnd⟩:=hW
 rw [hv] at hV
 have hq:q=[]:=by
  match gs,hV with
  | [],h=>exact h
 subst hq
 refine ⟨ds,gs,p++[],[],p,[],hW0,?_,?_,?_,hB.frame _,fun h=>by simp at h⟩
 ·rw [hr,hs]
  exact ⟨[],[],RowKit.shut_bool hb true,rfl,rfl⟩
 ·rw [hs]
  exact Below.trodAll hl hB hts (fun x hx=>hlt x (by simp [hx])) hA
 ·rw [hv,hs]
  rfl
end Go.Abs
