/-
  Merged from AbsShape AbsRow LyTab_Tryz LvLays_Tryz AbsBld LvHand AbsSW AbsSX AbsRules: Arguments of whatever shape (bools, ints, strings, structs, slices of these): what reads as such an argument has its abstract value.
-/
import Derived.Test.YthhdkkecolocdaaGreatDoorM02
import Derived.Deep.Slices
import Derived.Test.YthhdkkecolocdaaGreatDoorProg
import Derived.KernelRfl
import Derived.Shelf.Strings.SplitCore
import Derived.Shelf.Strings.Builder1
import Derived.Shelf.Strings.Search3
import Derived.Shelf.Strings.Count
import Derived.Lib.SplitLaws
import Derived.Shelf.Small.Strs
import Derived.IntWalk
set_option linter.unusedSimpArgs false
set_option linter.unusedVariables false
set_option linter.defProp false
set_option linter.constructorNameAsVariable false
/-
 Arguments of whatever shape (bools, ints, strings, structs, slices of these): what reads as such an argument has its abstract value.
-/
namespace Go.Abs
open Go.ChangeShapes Go.WideShapes Go.ChangeAt Go.RowKit Go.Deep
def shapeOk (P:Program):Nat→TypeId→Bool
 | 0,_=>false
 | n+1,t=>match P.underlying t with
   | some .bool|some (.int _)|some .string=>P.cellsOf t == 1
   | some (.slice e)=>P.cellsOf t == 1 && decide (0<P.cellsOf e) && shapeOk P n e
   | some (.struct fs)=>P.cellsOf t == fs.size && (List.range fs.size).all fun i=>match fs[i]? with
     | some f=>f.offset == i && P.cellsOf f.type == 1 && shapeOk P n f.type
     | none=>false
   | _=>false
def isSt (P:Program) (t:TypeId):Bool:=match P.underlying t with
 | some (.struct _)=>true
 | _=>false
def okA (P:Program):Nat→TypeId→List AVal→Prop
 | 0,_,_=>False
 | n+1,t,asx=>match P.underlying t with
   | some .bool=>∃ b,asx=[.bool b]
   | some (.int k)=>∃ z,asx=[.int k z]∧(Lit.int k z).wf=true
   | some .string=>∃ s,asx=[.str s]∧s.length≤maxLen
   | some (.slice e)=>∃ xs tk,asx=[.sl xs tk]∧(tk = .none∨tk = .nil∧xs=[])∧xs.length≤maxLen∧∀ x∈xs,mk (isSt P e) x.cells=some x∧okA P n e x.cells
   | some (.struct fs)=>asx.length=fs.size∧∀ (i:Nat) (f:Field),fs[i]?=some f→∃ y,asx[i]?=some y∧okA P n f.type [y]
   | _=>False
variable {P:Program} {H:Type} {enc:TypeId×Value→H} {W:World} {E:Env}
theorem flat_find {sz:Nat}:∀ {xs:List AVal},(∀ x∈xs,x.cells.length=sz)→∀ {k:Nat} {c:AVal},(flat xs)[k]?=some c→∃ (i j:Nat) (x:AVal),xs[i]?=some x∧x.cells[j]?=some c∧k=i*sz+j∧j<sz
 | [],_,k,c,h=>by simp [flat] at h
 | x::xs,h0,k,c,h=>by
   have hx:=h0 x (by simp)
   have hf:flat (x::xs)=x.cells++flat xs:=rfl
   rw [hf] at h
   by_cases hk:k<x.cells.length
   ·rw [List.getElem?_append_left hk] at h
    exact ⟨0,k,x,rfl,h,by omega,by omega⟩
   ·rw [List.getElem?_append_right (by omega)] at h
    obtain ⟨i,j,y,h1,h2,h3,h4⟩:=flat_find (fun y hy=>h0 y (by simp [hy])) h
    exact ⟨i+1,j,y,by simpa using h1,h2,by rw [Nat.add_mul];omega,h4⟩
theorem pts1 {G:Ghost} {c:Value} {a:AVal} (h:VRel W G c a):Pts W G #[c] [a]:=⟨rfl,fun k c' a' h1 h2=>by
 match k with
 | 0=>simp at h1 h2;subst h1;subst h2;exact h
 | k+1=>simp at h2⟩
theorem cells_of_mk {ag:Bool} {cs:List AVal} {x:AVal} (h:mk ag cs=some x) (h1:∀ c∈cs,c.one=true):x.cells=cs:=by
 unfold mk at h
 split at h
 ·simp at h;subst h;rfl
 ·split at h
  ·rename_i c
   simp at h;subst h
   have:=h1 c (by simp)
   cases c<;>simp [AVal.one] at this<;>rfl
  ·simp at h
theorem trod_cells:∀ (n:Nat) {fuel:Nat} {t:TypeId} {cs:List Value} {x:DataW H×List MemPlace},shapeOk P n t=true→DataW.trod enc P W 0 (fun _=>true) true fuel t cs=some x →
  ∃ asx,Pts W (G0 E) ⟨cs⟩ asx∧okA P n t asx∧(∀ a∈asx,a.one=true)∧(∀ a∈asx,strip a=some a)∧cs.length=P.cellsOf t∧(isSt P t=false→asx.length=1)
 | 0,fuel,t,cs,x,hs,h=>by simp [shapeOk] at hs
 | n+1,fuel,t,cs,x,hs,h=>by
   simp only [shapeOk] at hs
   split at hs
   ·-- a bool
    rename_i hu
    cases fuel with
    | zero=>simp [DataW.trod] at h
    | succ fuel =>
      unfold DataW.trod at h
      rw [hu] at h
      split at h<;>simp_all
      rename_i b
      exact ⟨[.bool b],pts1 (.bool b),by simp [okA,hu],by simp [AVal.one],by simp [strip],fun _=>rfl⟩
   ·-- an int
    rename_i k hu
    cases fuel with
    | zero=>simp [DataW.trod] at h
    | succ fuel =>
      unfold DataW.trod at h
      rw [hu] at h
      split at h<;>simp_all
      rename_i z _
      obtain ⟨⟨h1,h2⟩,_⟩:=h
      subst h1
      exact ⟨[.int _ z],pts1 (.int _ z),by simp [okA,hu,h2],by simp [AVal.one],by simp [strip],fun _=>rfl⟩
   ·-- a string
    rename_i hu
    cases fuel with
    | zero=>simp [DataW.trod] at h
    | succ fuel =>
      unfold DataW.trod at h
      rw [hu] at h
      split at h<;>simp_all
      rename_i s
      exact ⟨[.str s.data.toList],pts1 (.str s),by simp only [okA,hu];exact ⟨_,rfl,by simpa using h.1⟩,by simp [AVal.one],by simp [strip],fun _=>rfl⟩
   ·-- a slice
    rename_i e hu
    simp only [Bool.and_eq_true,beq_iff_eq,decide_eq_true_eq] at hs
    obtain ⟨⟨hc1,hpos⟩,hse⟩:=hs
    have hst:isSt P t=false:=by simp [isSt,hu]
    rcases open_slice hu h with ⟨rfl,_⟩|⟨a,len,cap,m,f,D,Pl,rfl,_,hlc,hcm,hm,_,hel⟩
    ·refine ⟨[.sl [] .nil],pts1 (.nilsl _ (.inl rfl)),?_,by simp [AVal.one],by simp [strip],by simp [hc1],by simp⟩
     simp only [okA,hu]
     exact ⟨[],.nil,rfl,.inr ⟨rfl,rfl⟩,by simp,by simp⟩
    ·simp only [if_true] at hm
     subst hm
     have hcells:∀ i,i<m→∃ xc:AVal×List AVal,mk (isSt P e) xc.1.cells=some xc.1∧okA P n e xc.1.cells∧(∀ a∈xc.1.cells,a.one=true)∧(∀ a∈xc.1.cells,strip a=some a)∧xc.1.cells.length=P.cellsOf e ∧
       ∀ j c,xc.1.cells[j]?=some c→∃ u,W.cell? ((a.add (i*P.cellsOf e)).add j)=some u∧VRel W (G0 E) u c:=by
      intro i hi
      obtain ⟨cs',h1,h2⟩:=hel i hi
      obtain ⟨asx,p1,p2,p3,p4,p5,p6⟩:=trod_cells n hse h2
      obtain ⟨_,q1,q2⟩:=World.cells?_some h1
      have hlen:asx.length=P.cellsOf e:=by rw [←p1.len];simpa using q1
      obtain ⟨x,hx⟩:∃ x,mk (isSt P e) asx=some x:=by
       unfold mk
       cases hst:isSt P e with
       | true=>exact ⟨_,rfl⟩
       | false =>
         have:=p6 hst
         match asx,this with
         | [y],_=>exact ⟨y,rfl⟩
      have hxc:=cells_of_mk hx p3
      refine ⟨(x,[]),?_⟩
      simp only [hxc]
      refine ⟨hx,p2,p3,p4,hlen,fun j c hj=>?_⟩
      have hjl:j<P.cellsOf e:=by rw [←hlen];exact (List.getElem?_eq_some_iff.1 hj).1
      obtain ⟨u,hu'⟩:∃ u,cs'[j]?=some u:=⟨_,List.getElem?_eq_getElem (by omega)⟩
      exact ⟨u,by rw [q2 j hjl,hu'],p1.rel j u c (by simpa using hu') hj⟩
     obtain ⟨A,hA⟩:=choose_lt (α:=AVal×List AVal) hcells
     have hok:∀ x∈(List.range len).map (fun i=>(A i).1),mk (isSt P e) x.cells=some x∧okA P n e x.cells:=by
      intro x hx
      obtain ⟨i,hi,rfl⟩:=List.mem_map.1 hx
      have:=hA i (by have:=List.mem_range.1 hi;omega)
      exact ⟨this.1,this.2.1⟩
     by_cases hcap:m=0
     ·have hl0:len=0:=by omega
      subst hl0;subst hcap
      refine ⟨[.sl [] .none],pts1 (.emp a .none (.inl rfl)),?_,by simp [AVal.one],by simp [strip],by simp [hc1],by simp⟩
      simp only [okA,hu]
      exact ⟨[],.none,rfl,.inl rfl,by simp,by simp⟩
     ·-- the place is one of cells
      have hspot:a.spot=none:=by
       obtain ⟨_,_,_,_,hl,hc⟩:=hA 0 (by omega)
       obtain ⟨c,hc'⟩:∃ c,(A 0).1.cells[0]?=some c:=⟨_,List.getElem?_eq_getElem (by omega)⟩
       obtain ⟨u,hu',_⟩:=hc 0 c hc'
       rw [Nat.zero_mul] at hu'
       have:(a.add 0).add 0=a:=by simp [Addr.add]
       rw [this] at hu'
       unfold World.cell? at hu'
       split at hu'
       ·split at hu'
        ·simp at hu'
        ·rename_i q;simpa using q
       ·simp at hu'
      obtain ⟨b,off,sp⟩:=a
      simp only at hspot
      subst hspot
      have hsz:∀ x∈(List.range len).map (fun i=>(A i).1),x.cells.length=P.cellsOf e:=by
       intro x hx
       obtain ⟨i,hi,rfl⟩:=List.mem_map.1 hx
       exact (hA i (by have:=List.mem_range.1 hi;omega)).2.2.2.2.1
      have hfind:∀ (k:Nat) (c:AVal),(flat ((List.range len).map (fun i=>(A i).1)))[k]?=some c→(∃ u,W.cell? ⟨b,off+k,none⟩=some u∧VRel W (G0 E) u c)∧c.one=true∧strip c=some c:=by
       intro k c hk
       obtain ⟨i,j,x,h1,h2,h3,h4⟩:=flat_find hsz hk
       rw [List.getElem?_map,Option.map_eq_some_iff] at h1
       obtain ⟨i',h1,rfl⟩:=h1
       have hi':i=i':=by
        have:=List.getElem?_eq_some_iff.1 h1
        obtain ⟨_,h⟩:=this
        simpa using h
       subst hi'
       have hil:i<len:=by have:=(List.getElem?_eq_some_iff.1 h1).1;simpa using this
       obtain ⟨a1,a2,a3,a4,a5,a6⟩:=hA i (by omega)
       obtain ⟨u,hu1,hu2⟩:=a6 j c h2
       have hmem:c∈(A i).1.cells:=List.mem_of_getElem? h2
       refine ⟨⟨u,?_,hu2⟩,a3 c hmem,a4 c hmem⟩
       rw [h3,←hu1,Addr.add_lit,Addr.add_lit,Nat.add_assoc]
      refine ⟨[.sl ((List.range len).map (fun i=>(A i).1)) .none],pts1 ?_,?_,by simp [AVal.one],by simp [strip],by simp [hc1],by simp⟩
      ·have hll:((List.range len).map (fun i=>(A i).1)).length=len:=by simp
       have key:VRel W (G0 E) (.slice (some ⟨b,off,none⟩) ((List.range len).map (fun i=>(A i).1)).length m) (.sl ((List.range len).map (fun i=>(A i).1)) .none):=by
        refine .sl b off m (P.cellsOf e) _ .none (fun k=>(W.cell? ⟨b,off+k,none⟩).getD (.bool false)) hsz (fun k c hk=>?_) (fun k c hk=>?_) (fun k hk=>stab0 _ _) (fun c hc'=>?_) (fun c hc'=>?_) (by rw [hll];exact hlc) (by simp) (by simp)
        ·obtain ⟨⟨u,q1,q2⟩,_⟩:=hfind k c hk
         simp [q1]
        ·obtain ⟨⟨u,q1,q2⟩,_⟩:=hfind k c hk
         simp [q1];exact q2
        ·obtain ⟨k,hk⟩:=List.getElem?_of_mem hc'
         exact (hfind k c hk).2.1
        ·obtain ⟨k,hk⟩:=List.getElem?_of_mem hc'
         exact (hfind k c hk).2.2
       rwa [hll] at key
      ·simp only [okA,hu]
       exact ⟨_,.none,rfl,.inl rfl,by simp;omega,hok⟩
   ·-- a struct
    rename_i fs hu
    simp only [Bool.and_eq_true,beq_iff_eq,List.all_eq_true,List.mem_range] at hs
    obtain ⟨hc1,hfs⟩:=hs
    obtain ⟨xs,f,_,_,hl,hxl,hel⟩:=DataW.trod_struct hu h
    have hfield:∀ i,i<fs.size→∃ y:AVal,(∃ c,cs[i]?=some c∧VRel W (G0 E) c y)∧(∀ fd,fs[i]?=some fd→okA P n fd.type [y])∧y.one=true∧strip y=some y:=by
     intro i hi
     have hfi:=hfs i hi
     obtain ⟨fd,hfd⟩:∃ fd,fs[i]?=some fd:=⟨_,Array.getElem?_eq_getElem hi⟩
     rw [hfd] at hfi
     simp only [Bool.and_eq_true,beq_iff_eq] at hfi
     obtain ⟨⟨f1,f2⟩,f3⟩:=hfi
     have hh:=hel i fd hfd
     rw [f1,f2] at hh
     obtain ⟨c,hc⟩:∃ c,cs[i]?=some c:=⟨_,List.getElem?_eq_getElem (by omega)⟩
     have hcs:(cs.drop i).take 1=[c]:=by
      rw [List.take_one,List.head?_drop,hc];rfl
     rw [hcs] at hh
     obtain ⟨y,hy⟩:∃ y,xs[i]?=some y:=⟨_,List.getElem?_eq_getElem (by omega)⟩
     rw [hy] at hh
     obtain ⟨asx,p1,p2,p3,p4,p5,p6⟩:=trod_cells n f3 hh
     have hl1:asx.length=1:=by rw [←p1.len];rfl
     match asx,hl1 with
     | [y],_ =>
       refine ⟨y,⟨c,hc,p1.rel 0 c y rfl rfl⟩,fun fd' hfd'=>?_,p3 y (by simp),p4 y (by simp)⟩
       rw [hfd] at hfd'
       obtain rfl:=Option.some.inj hfd'
       exact p2
    obtain ⟨A,hA⟩:=choose_lt (α:=AVal) hfield
    have hlen:cs.length=fs.size:=by rw [hl,hc1]
    refine ⟨(List.range fs.size).map A,⟨by simp [hlen],fun k c a h1 h2=>?_⟩,?_,fun a ha=>?_,fun a ha=>?_,hl,fun q=>by simp [isSt,hu] at q⟩
    ·rw [List.getElem?_map,Option.map_eq_some_iff] at h2
     obtain ⟨k',h2,rfl⟩:=h2
     obtain ⟨hk1,hk2⟩:=List.getElem?_eq_some_iff.1 h2
     simp at hk1 hk2
     subst hk2
     obtain ⟨⟨c',q1,q2⟩,_⟩:=hA k hk1
     have:c'=c:=by
      have h1':cs[k]?=some c:=by simpa using h1
      rw [h1'] at q1;exact (Option.some.inj q1).symm
     subst this
     exact q2
    ·simp only [okA,hu]
     refine ⟨by simp,fun i fd hfd=>?_⟩
     have hi:i<fs.size:=(Array.getElem?_eq_some_iff.1 hfd).1
     exact ⟨A i,by simp [hi],(hA i hi).2.1 fd hfd⟩
    ·obtain ⟨i,hi,rfl⟩:=List.mem_map.1 ha
     exact (hA i (by simpa using hi)).2.2.1
    ·obtain ⟨i,hi,rfl⟩:=List.mem_map.1 ha
     exact (hA i (by simpa using hi)).2.2.2
   ·simp at hs
theorem arg_shape (n:Nat) {t:TypeId} {v:Value} {d:DataW H} {ps:List MemPlace} {base:Nat} (hs:shapeOk P n t=true) (hval:Value.okWide P W .any base t v) (hd:DataW.Trod enc P W 0 (fun _=>true) true t v d ps) :
  ∃ x,VRel W (G0 E) v x∧mk (isSt P t) x.cells=some x∧okA P n t x.cells:=by
 obtain ⟨fuel,hf⟩:=hd
 obtain ⟨asx,p1,p2,p3,p4,p5,p6⟩:=trod_cells n hs hf
 cases hst:isSt P t with
 | true =>
   refine ⟨.agg asx,?_,rfl,p2⟩
   unfold isSt at hst
   split at hst
   ·rename_i fs hu
    simp only [Value.okWide,hu] at hval
    obtain ⟨cs,rfl,_⟩:=hval
    exact .agg _ _ p1.len p1.rel p3
   ·simp at hst
 | false =>
   have hl:=p6 hst
   match asx,hl with
   | [y],_ =>
     have hc:y.cells=[y]:=by
      have:=p3 y (by simp)
      cases y<;>simp [AVal.one] at this<;>rfl
     refine ⟨y,?_,by rw [hc];rfl,by rw [hc];exact p2⟩
     have hv:v.cells=#[v]:=by
      cases v<;>first|rfl|skip
      rename_i cs
      cases n with
      | zero=>simp [shapeOk] at hs
      | succ n =>
        simp only [shapeOk] at hs
        split at hs
        all_goals first
         | (simp at hs;done)
         | (rename_i hu;simp [isSt,hu] at hst;done)
         | (rename_i hu;simp [Value.okWide,Cell.okWide,Cell.ok,hu] at hval;done)
     have hr:=p1.rel 0 v y (by simp [hv]) rfl
     exact hr
end Go.Abs

namespace Go.Abs
open Go.ChangeShapes Go.WideShapes Go.ChangeAt Go.RowKit Go.Deep
inductive ShArgs (P:Program) (n:Nat):List TypeId→List AVal→Prop
 | nil:ShArgs P n [] []
 | cons {t:TypeId} {x:AVal} {ts:List TypeId} {xs:List AVal} (h1:mk (isSt P t) x.cells=some x) (h2:okA P n t x.cells) (h3:ShArgs P n ts xs):ShArgs P n (t::ts) (x::xs)
variable {P:Program} {H:Type} {enc:TypeId×Value→H} {W:World} {E:Env}
theorem pts_cons {v:Value} {vs:List Value} {x:AVal} {xs:List AVal} (h1:VRel W (G0 E) v x) (h2:Pts W (G0 E) ⟨vs⟩ xs):Pts W (G0 E) ⟨v::vs⟩ (x::xs):=by
 refine ⟨by have:=h2.1;simpa using this,fun k c a hc ha=>?_⟩
 cases k with
 | zero=>simp at hc ha;subst hc;subst ha;exact h1
 | succ k=>exact h2.2 k c a (by simpa using hc) (by simpa using ha)
theorem sh_args {n base:Nat}:∀ {ts:List TypeId} {vs:List Value} {ds:List (DataW H)} {p:List MemPlace},(∀ t∈ts,shapeOk P n t=true)→(∀ (j:Nat) t v,ts[j]?=some t→vs[j]?=some v→Value.okWide P W .any base t v) →
  DataW.TrodAll enc P W 0 (fun _=>true) true ts vs ds p→∃ xs,ShArgs P n ts xs∧Pts W (G0 E) ⟨vs⟩ xs∧ds.length=ts.length
 | [],[],[],_,_,_,_=>⟨[],.nil,⟨rfl,fun k c a hc _=>by simp at hc⟩,rfl⟩
 | t::ts,v::vs,d::ds,p,hs,hv,h=>by
   obtain ⟨p0,q0,h1,h2,_⟩:=h
   obtain ⟨x,r1,r2,r3⟩:=arg_shape n (hs t (by simp)) (hv 0 t v rfl rfl) h1
   obtain ⟨xs,r4,r5,r6⟩:=sh_args (fun t' h'=>hs t' (by simp [h'])) (fun j t' v' q1 q2=>hv (j+1) t' v' (by simpa using q1) (by simpa using q2)) h2
   exact ⟨x::xs,.cons r2 r3 r4,pts_cons r1 r5,by simp [r6]⟩
 | [],_::_,_,_,_,_,h=>h.elim
 | [],[],_::_,_,_,_,h=>h.elim
 | _::_,[],_,_,_,_,h=>h.elim
 | _::_,_::_,[],_,_,_,h=>h.elim
theorem law_callsA {F:Nat→Option AEnt} {Hh:Hints} (hmix:P.follows .mixedOrders=true) (hT:Table P Hh F) {g:Nat} {cargs:Array Value} {args:List AVal} (hgl:∀ g cs,Hh.glob g=some cs→VRel W (G0 (envOf P Hh)) (.pointer (some ⟨g,0,none⟩)) (.rp cs)∧∀ c∈cs,strip c=some c) (hp:Pts W (G0 (envOf P Hh)) cargs args) {h':Heap}
  (c:Gives F g args Heap.empty (.bool true) h'):Calls P g cargs W fun e W'=>e = .returned (.bool true)∧Below W.heap.size W W':=by
 obtain ⟨n,hn⟩:=gives_run c
 refine (sound hmix hT hn W (G0 (envOf P Hh)) cargs rfl (hrel0 W hgl) hp).mono ?_
 rintro e W' ⟨v,G',rfl,hX,hH,hV⟩
 cases hV with
 | bool =>
   refine ⟨rfl,hX.os,hX.tape,hX.out,hX.size,fun k hk=>(hX.keep k hk ?_).1⟩
   rintro ⟨id,o,h1,_⟩
   rw [Heap.get_empty] at h1
   simp at h1
theorem row_calls {F:Nat→Option AEnt} {Hh:Hints} (hgl:∀ g cs,Hh.glob g=some cs→VRel W (G0 (envOf P Hh)) (.pointer (some ⟨g,0,none⟩)) (.rp cs)∧∀ c∈cs,strip c=some c) (hmix:P.follows .mixedOrders=true) (hT:Table P Hh F) (hl:laidOutB P=true) {g n:Nat} {f:Func} {ts:List TypeId} {tb:TypeId} {s:ChangeSpec}
  (hp:f.params.toList=ts) (hts:∀ t∈ts,P.readableRec t=true∧t<P.types.size) (hsh:∀ t∈ts,shapeOk P n t=true) (hr:f.resultTypes=#[tb]) (hb:P.underlying tb=some .bool) (hv:s.vars=[])
  (hs:∀ (H:Type) (ds:List (DataW H)),ds.length=ts.length→s.fn H ds={ results:=[.lit (.bool true)],args:=ds })
  (hg:∀ xs,ShArgs P n ts xs→∃ h',Gives F g xs Heap.empty (.bool true) h')
  (base:Nat) (args:Array Value) (ds gs:List (DataW H)) (before:List MemPlace) (hval:∀ (j:Nat) t v,f.params[j]?=some t→args[j]?=some v→Value.okWide P W .any base t v)
  (hW:DataW.Whole enc P f.params.toList s.vars false W args.toList ds gs before) :
  Calls P g args W fun e W'=>∃ v,e = .returned v∧s.post enc P f false true false false W args v W':=by
 have hW':=hW
 obtain ⟨p,q,hA,hV,hpq,hfz,hnd⟩:=hW
 rw [hp] at hA
 obtain ⟨lst⟩:=args
 obtain ⟨xs,r1,r2,r3⟩:=sh_args hsh (fun j t v q1 q2=>hval j t v (by rw [←hp] at q1;simpa using q1) (by simpa using q2)) hA
 obtain ⟨h',hh⟩:=hg xs r1
 refine (law_callsA hmix hT hgl r2 hh).mono ?_
 rintro e W' ⟨rfl,hB⟩
 refine ⟨_,rfl,law_post hl (by rw [hp];exact hts) hv hr hb hW' hB ?_⟩
 rw [hv] at hV
 match gs,hV with
 | [],_=>rw [List.append_nil];exact hs H ds r3
end Go.Abs

set_option maxRecDepth 100000
namespace Go.Proofs.YthhdkkecolocdaaGreatDoor
open Go Go.Abs
def hints:Hints:=⟨fun f s=>(f == 3 && s == 36) || (f == 11 && s == 93) || (f == 12 && s == 86) || (f == 41 && s == 40) || (f == 69 && s == 97) || (f == 69 && s == 106) || (f == 141 && s == 6),fun f s=>(f == 4 && s == 62) || (f == 7 && s == 85) || (f == 24 && s == 1) || (f == 24 && s == 2) || (f == 24 && s == 3) || (f == 24 && s == 4) || (f == 24 && s == 5) || (f == 24 && s == 6) || (f == 50 && s == 36),fun _ _=>false,fun f=>[8,9,10,11,12,13,14,15,16,17,18,19,20,21,22,23,25,26,27,28,31,32,33,34,35,36,37,38,39,40,41,50,51,52,57,58,59,60,61,63,66,68,71,72,73,74,75,76,86,91,92,105,106,108,109,110,131,143,278,279].contains f,fun _=>false,fun _ _=>[],fun _=>false,fun _=>none,fun _ _=>none⟩
def c3:AFunc:=⟨[0,1,2,3,4,10,11,12,13,14,15,16,17,18,19,20,21,22,50,90,94,106],(.seq (.ops [oV 5 (.mov (.c (.bool false)))]) (.seq (.ops [mv 0,oT (.call (.c (.fn 7 [])) [(.t 0)]),oV 6 (.alloc 31 7 true [nS,nS,nS,nS,nS,nS,nS]),sV 7 6 1]) (.seq (.ops [mv 1,oT (.pcall 8 [(.t 0)]),oV 7 (.alloc 47 17 true [nS,nS,nS,nS,nS,nS,nS,nS,nS,z6,z6,z6,z6,nS,z6,z6,z6]),sV 17 7 1]) (.seq (.ops [lV 7 6,mv 1,mv 2,oT (.pcall 10 [(.t 2),(k6 12)]),mv 3,oT (.pcall 10 [(.t 4),(k6 5)]),oT (.pcall 9 [(.t 0),(.t 1),(.t 3),(.t 5)]),vt 8 6]) (.seq (.ops [lV 17 7,lV 17 7,oT (.lit 2 47 2 17 true [nS,nS,nS,nS,nS,nS,nS,nS,nS,z6,z6,z6,z6,nS,z6,z6,z6] [(0,(.t 0)),(1,(.t 1))]),vt 9 2]) (.seq (.ops [mv 9,fV 0 7,lS 1 1,mv 4,fV 0 7,lS 1 4,oT (.len (.t 5)),oT (.bin .add .arith (.t 6) (k6 1)),oT (.pcall 10 [(.t 3),(.t 7)]),oT (.slice 5 (.t 2) .none (some (.t 8))),oT (.iaddr 17 (.t 0) (k6 1)),fT 0 10,sT 1 11 9]) (.seq (.seq (.ops [oV 10 (.mov (k6 0))]) (.block 0 (.loop (.seq (.seq (.ops [mv 10,oV 18 (.bin .lss .arith (.t 0) (k6 2))]) (.cond (.v 18) .skip (.exit 0))) (.seq (.block 1 (.seq (.ops [mv 9,mv 10,iT 17 0 1,lT 17 2,lV 7 6,mv 8,oT (.pcall 11 [(.t 3),(.t 4),(.t 5)]),mt 6,eT 7 0,eT 7 1,eT 7 2,vt 11 8,vt 12 9,vt 13 10]) (.seq (.ops [mv 9,mv 10,iT 17 0 1,lT 17 2,lV 7 6,mv 8,oT (.pcall 12 [(.t 3),(.t 4),(.t 5)]),mt 6,eT 7 0,eT 7 1,eT 7 2,vt 14 8,vt 15 9,vt 16 10]) (.seq (.seq (.ops [mv 13,mv 16,oT (.bin .neq .arith (.t 0) (.t 1)),mt 2,oG 3 false (.mov (.v 11)),oG 3 false (.mov (.v 14)),oG 3 false (.pcall 13 [(.t 4),(.t 5)]),oG 3 false (.un .not (.t 6)),oT (.pick (.t 3) (.c (.bool true)) (.t 7)),mt 8,oG 9 false (.mov (.v 12)),oG 9 false (.len (.t 10)),oG 9 false (.mov (.v 15)),oG 9 false (.len (.t 12)),oG 9 false (.bin .neq .arith (.t 11) (.t 13)),oV 19 (.pick (.t 9) (.c (.bool true)) (.t 14))]) (.cond (.v 19) (.seq (.ops [oV 5 (.mov (.c (.bool false)))]) .ret) .skip)) (.seq (.ops [oV 17 (.mov (k6 0))]) (.block 2 (.loop (.seq (.seq (.ops [mv 17,mv 12,oT (.len (.t 1)),oV 20 (.bin .lss .arith (.t 0) (.t 2))]) (.cond (.v 20) .skip (.exit 2))) (.seq (.block 3 (.seq (.ops [mv 12,mv 17,iT 1 0 1,lS 1 2,mv 15,mv 17,iT 1 4 5,lS 1 6,oT (.pcall 13 [(.t 3),(.t 7)]),oV 21 (.un .not (.t 8))]) (.cond (.v 21) (.seq (.ops [oV 5 (.mov (.c (.bool false)))]) .ret) .skip))) (.ops [mv 17,oT (.bin .add .arith (.t 0) (k6 1)),vt 17 1])))))))))) (.ops [mv 10,oT (.bin .add .arith (.t 0) (k6 1)),vt 10 1])))))) (.seq (.ops [oT (.pcall 14 []),vt 5 0]) .ret)))))))),[.v 5],[]⟩
def c7:AFunc:=⟨[0,2,3,4,5,6,7,10,34,61,77,91],(.seq (.ops [oV 1 (.alloc 31 7 true [nS,nS,nS,nS,nS,nS,nS])]) (.seq (.ops [oT (.build [nS,nS,nS,nS,nS,nS,nS] []),oV 2 (.alloc 31 7 true [nS,nS,nS,nS,nS,nS,nS]),sV 7 2 0]) (.seq (.seq (.ops [oV 3 (.mov (k6 0))]) (.block 0 (.loop (.seq (.seq (.ops [mv 3,oV 7 (.bin .lss .arith (.t 0) (k6 2))]) (.cond (.v 7) .skip (.exit 0))) (.seq (.block 1 (.ops [fV 0 2,lS 1 0,mv 3,oT (.build [z6,z6,z6] [(0,1,(k6 0)),(1,1,(k6 1)),(2,1,(.t 2))]),oT (.lit 0 9 4 1 false [(.str [])] [(0,(.c (.str [99,97,116]))),(1,(.c (.str [97,110,116]))),(2,(.c (.str [98,101,116]))),(3,(.c (.str [99,104,33])))]),mv 0,mv 3,oT (.pcall 21 [(.t 5),(.t 6),(k6 4)]),iT 1 4 7,lS 1 8,oT (.build [(.str []),z6,z6,z6,z6,z6,z6] [(0,1,(.t 9))]),oT (.lit 0 83 1 7 true [(.str []),z6,z6,z6,z6,z6,z6] [(0,(.t 10))]),oT (.build [z6,z6,z6,nS,nS] [(0,3,(.t 3)),(3,1,(.t 11))]),oT (.lit 0 70 1 5 true [z6,z6,z6,nS,nS] [(0,(.t 12))]),oT (.append false 70 72 5 true (.t 1) (.t 13)),fV 0 2,sT 1 15 14])) (.ops [mv 3,oT (.bin .add .arith (.t 0) (k6 1)),vt 3 1])))))) (.seq (.ops [mv 0,oT (.pcall 21 [(.t 0),(k6 2),(k6 9)]),oT (.bin .add .arith (k6 1) (.t 1)),vt 4 2]) (.seq (.seq (.ops [oV 5 (.mov (k6 0))]) (.block 2 (.loop (.seq (.seq (.ops [mv 5,mv 4,oV 8 (.bin .lss .arith (.t 0) (.t 1))]) (.cond (.v 8) .skip (.exit 2))) (.seq (.block 3 (.seq (.ops [mv 5,oT (.bin .rem .arith (.t 0) (k6 2)),mv 5,oT (.bin .quo .arith (.t 2) (k6 4)),oT (.bin .add .arith (k6 2) (.t 3)),mv 5,oT (.bin .rem .arith (.t 5) (k6 4)),oT (.build [z6,z6,z6] [(0,1,(.t 1)),(1,1,(.t 4)),(2,1,(.t 6))]),mv 0,mv 5,oT (.bin .add .arith (k6 3) (.t 9)),oT (.pcall 21 [(.t 8),(.t 10),(k6 2)]),oT (.build [z6,z6,z6] [(0,1,(k6 0)),(1,1,(k6 1)),(2,1,(.t 11))]),oT (.build [(.str []),z6,z6,z6,z6,z6,z6] [(0,1,(.c (.str [97,32,98,101,116])))]),oT (.lit 0 83 1 7 true [(.str []),z6,z6,z6,z6,z6,z6] [(0,(.t 13))]),oT (.build [z6,z6,z6,z6,z6,z6,nS,nS,nS,nS,nS,nS,nS,nS] [(0,3,(.t 7)),(3,3,(.t 12)),(6,1,(.t 14))]),oV 6 (.alloc 67 14 true [z6,z6,z6,z6,z6,z6,nS,nS,nS,nS,nS,nS,nS,nS]),sV 14 6 15]) (.seq (.seq (.ops [mv 5,oT (.bin .gtr .arith (.t 0) (k6 0)),mt 1,oG 2 true (.mov (.v 0)),oG 2 true (.mov (.v 5)),oG 2 true (.bin .add .arith (k6 13) (.t 4)),oG 2 true (.pcall 21 [(.t 3),(.t 5),(k6 3)]),oG 2 true (.bin .gtr .arith (.t 6) (k6 0)),oV 9 (.pick (.t 2) (.t 7) (.c (.bool false)))]) (.cond (.v 9) (.ops [fV 1 2,lS 1 0,mv 0,mv 5,oT (.bin .add .arith (k6 23) (.t 3)),mv 5,oT (.pcall 21 [(.t 2),(.t 4),(.t 5)]),iT 14 1 6,fT 0 7,lT 3 8,fV 3 6,sT 3 10 9]) .skip)) (.seq (.seq (.ops [mv 0,mv 5,oT (.bin .add .arith (k6 33) (.t 1)),oT (.pcall 21 [(.t 0),(.t 2),(k6 17)]),oV 10 (.bin .eql .arith (.t 3) (k6 1))]) (.cond (.v 10) (.ops [oT (.build [z6,z6,z6] [(0,1,(k6 3)),(1,1,(k6 3)),(2,1,(k6 3))]),fV 3 6,sT 3 1 0]) .skip)) (.seq (.ops [mv 0,mv 5,oT (.bin .add .arith (k6 43) (.t 1)),oT (.pcall 21 [(.t 0),(.t 2),(k6 4)]),oT (.build [(.str []),z6,z6,z6,z6,z6,z6] [(1,1,(.t 3))]),oT (.lit 1 83 1 7 true [(.str []),z6,z6,z6,z6,z6,z6] [(0,(.t 4))]),fV 7 6,sT 1 6 5]) (.seq (.seq (.ops [mv 0,mv 5,oT (.bin .add .arith (k6 53) (.t 1)),oT (.pcall 21 [(.t 0),(.t 2),(k6 6)]),oV 11 (.bin .eql .arith (.t 3) (k6 1))]) (.cond (.v 11) (.ops [fV 7 6,lS 1 0,oT (.build [(.str []),z6,z6,z6,z6,z6,z6] [(1,1,(k6 7))]),oT (.lit 0 83 1 7 true [(.str []),z6,z6,z6,z6,z6,z6] [(0,(.t 2))]),oT (.append false 83 64 7 true (.t 1) (.t 3)),fV 7 6,sT 1 5 4]) .skip)) (.ops [fV 1 2,lS 1 0,lV 14 6,oT (.lit 0 67 1 14 true [z6,z6,z6,z6,z6,z6,nS,nS,nS,nS,nS,nS,nS,nS] [(0,(.t 2))]),oT (.append false 67 240 14 true (.t 1) (.t 3)),fV 1 2,sT 1 5 4]))))))) (.ops [mv 5,oT (.bin .add .arith (.t 0) (k6 1)),vt 5 1])))))) (.seq (.ops [lV 7 2,sV 7 1 0]) .ret)))))),[.c 1 7 true],[]⟩
def c8:AFunc:=⟨[0,2,3,4,5,6,26,34,41,70],(.seq (.ops [oV 1 (.alloc 47 17 true [nS,nS,nS,nS,nS,nS,nS,nS,nS,z6,z6,z6,z6,nS,z6,z6,z6])]) (.seq (.ops [oT (.pcall 22 []),vt 2 0]) (.seq (.ops [mv 2,mv 0,oT (.pcall 23 [(.t 1)]),oT (.call (.c (.fn 24 [])) []),mv 0,oT (.pcall 25 [(.t 4)]),mv 0,oT (.pcall 21 [(.t 6),(k6 20),(k6 121)]),oT (.bin .add .arith (k6 60) (.t 7)),mv 0,oT (.pcall 21 [(.t 9),(k6 21),(k6 5)]),oT (.bin .add .arith (k6 4) (.t 10)),mv 0,oT (.pcall 21 [(.t 12),(k6 22),(k6 2)]),oT (.bin .add .arith (k6 1) (.t 13)),oT (.build [nS,nS,nS,nS,nS,nS,nS,nS,nS,z6,z6,z6,z6,nS,z6,z6,z6] [(0,1,(.t 0)),(1,4,(.t 2)),(5,1,(.t 3)),(9,5,(.t 5)),(14,1,(.t 8)),(15,1,(.t 11)),(16,1,(.t 14))]),oV 3 (.alloc 47 17 true [nS,nS,nS,nS,nS,nS,nS,nS,nS,z6,z6,z6,z6,nS,z6,z6,z6]),sV 17 3 15]) (.seq (.seq (.ops [mv 0,oT (.pcall 21 [(.t 0),(k6 23),(k6 4)]),oV 6 (.bin .eql .arith (.t 1) (k6 1))]) (.cond (.v 6) (.ops [fV 5 3,lS 1 0,oT (.lit 0 9 2 1 false [(.str [])] [(0,(.c (.str [99,97,116]))),(1,(.c (.str [116,101,101,115])))]),oT (.append false 9 16 1 false (.t 1) (.t 2)),fV 5 3,sT 1 4 3]) .skip)) (.seq (.ops [oT (.lit 0 9 3 1 false [(.str [])] [(0,(.c (.str [99,114,111,119,110]))),(1,(.c (.str [104,101,105,114,115]))),(2,(.c (.str [112,114,101,115,115])))]),vt 4 0]) (.seq (.seq (.ops [oV 5 (.mov (k6 0))]) (.block 0 (.loop (.seq (.seq (.ops [mv 5,oV 7 (.bin .lss .arith (.t 0) (k6 3))]) (.cond (.v 7) .skip (.exit 0))) (.seq (.block 1 (.seq (.ops [mv 0,mv 5,oT (.bin .add .arith (k6 24) (.t 1)),oT (.pcall 21 [(.t 0),(.t 2),(k6 3)]),oV 8 (.bin .neq .arith (.t 3) (k6 2))]) (.cond (.v 8) (.ops [fV 7 3,lS 1 0,mv 4,mv 5,iT 1 2 3,lS 1 4,mv 0,mv 5,oT (.bin .add .arith (k6 27) (.t 7)),oT (.pcall 21 [(.t 6),(.t 8),(k6 30)]),oT (.bin .add .arith (k6 1) (.t 9)),mv 0,mv 5,oT (.bin .add .arith (k6 30) (.t 12)),oT (.pcall 21 [(.t 11),(.t 13),(k6 5)]),oT (.bin .mul .arith (.t 14) (k6 100)),oT (.build [(.str []),z6,z6] [(0,1,(.t 5)),(1,1,(.t 10)),(2,1,(.t 15))]),oT (.lit 0 89 1 3 true [(.str []),z6,z6] [(0,(.t 16))]),oT (.append false 89 32 3 true (.t 1) (.t 17)),fV 7 3,sT 1 19 18]) .skip))) (.ops [mv 5,oT (.bin .add .arith (.t 0) (k6 1)),vt 5 1])))))) (.seq (.seq (.ops [mv 0,oT (.pcall 21 [(.t 0),(k6 33),(k6 2)]),oT (.bin .eql .arith (.t 1) (k6 1)),mt 2,oG 3 true (.faddr 7 (.v 3)),oG 3 true (.load 1 false (.t 4)),oG 3 true (.len (.t 5)),oG 3 true (.bin .gtr .arith (.t 6) (k6 0)),oV 9 (.pick (.t 3) (.t 7) (.c (.bool false)))]) (.cond (.v 9) (.ops [mv 0,oT (.pcall 21 [(.t 0),(k6 34),(k6 40)]),oT (.bin .add .arith (k6 1) (.t 1)),mv 0,oT (.pcall 21 [(.t 3),(k6 35),(k6 60)]),oT (.bin .add .arith (k6 50) (.t 4)),fV 7 3,lS 1 6,oT (.iaddr 3 (.t 7) (k6 0)),fT 0 8,lS 1 9,oT (.lit 0 9 1 1 false [(.str [])] [(0,(.t 10))]),oT (.build [z6,z6,nS] [(0,1,(.t 2)),(1,1,(.t 5)),(2,1,(.t 11))]),oT (.lit 0 91 1 3 true [z6,z6,nS] [(0,(.t 12))]),fV 8 3,sT 1 14 13]) .skip)) (.seq (.ops [lV 17 3,sV 17 1 0]) .ret)))))))),[.c 1 17 true],[]⟩
def c9:AFunc:=⟨[0,1,2,3,4,8,9,10,19,37],(.seq (.ops [oV 4 (.box 7 true (.v 0)),oV 5 (.mov (.c nS))]) (.seq (.ops [oV 6 (.mov (.c nS))]) (.seq (.seq (.ops [oV 7 (.mov (k6 0))]) (.block 0 (.loop (.seq (.seq (.ops [mv 7,mv 2,oT (.bin .lss .arith (.t 0) (.t 1)),mt 2,oG 3 true (.faddr 1 (.v 4)),oG 3 true (.load 1 false (.t 4)),oG 3 true (.len (.t 5)),oG 3 true (.bin .gtr .arith (.t 6) (k6 0)),oV 8 (.pick (.t 3) (.t 7) (.c (.bool false)))]) (.cond (.v 8) .skip (.exit 0))) (.seq (.block 1 (.ops [mv 6,fV 1 4,lS 1 1,mv 1,mv 7,fV 1 4,lS 1 5,oT (.len (.t 6)),oT (.pcall 21 [(.t 3),(.t 4),(.t 7)]),iT 14 2 8,fT 0 9,lT 3 10,oT (.lit 0 62 1 3 true [z6,z6,z6] [(0,(.t 11))]),oT (.append false 62 24 3 true (.t 0) (.t 12)),vt 6 13])) (.ops [mv 7,oT (.bin .add .arith (.t 0) (k6 1)),vt 7 1])))))) (.seq (.seq (.ops [mv 3,oV 9 (.bin .eql .arith (.t 0) (k6 0))]) (.cond (.v 9) (.ops [mv 6,oT (.build [z6,z6,z6] [(0,1,(k6 4)),(1,1,(k6 4)),(2,1,(k6 4))]),oT (.lit 0 62 1 3 true [z6,z6,z6] [(0,(.t 1))]),oT (.append false 62 24 3 true (.t 0) (.t 2)),vt 6 3]) .skip)) (.seq (.ops [mv 6,vt 5 0]) .ret))))),[.v 5],[]⟩
def c10:AFunc:=⟨[0,1,4,6],(.seq (.ops [oV 2 (.mov (k6 0))]) (.seq (.seq (.ops [mv 0,oV 3 (.bin .lss .arith (.t 0) (k6 0))]) (.cond (.v 3) (.ops [mv 0,oT (.bin .add .arith (.t 0) (k6 1)),oT (.un .neg (.t 1)),vt 0 2]) .skip)) (.seq (.ops [mv 0,mv 1,oT (.bin .rem .arith (.t 0) (.t 1)),vt 2 2]) .ret))),[.v 2],[]⟩
def c11:AFunc:=⟨[0,1,2,3,4,6,7,8,9,10,12,14,15,16,17,18,19,20,21,23,24,26,30,32,33,34,35,55,64,79,84,98,99,100,101,107,108,109,110],(.seq (.ops [oV 3 (.box 17 true (.v 0)),oV 4 (.box 7 true (.v 1)),oV 5 (.mov (.c nS)),oV 6 (.mov (.c nS)),oV 7 (.mov (k6 0))]) (.seq (.seq (.ops [fV 0 3,lS 1 0,oT (.pcall 26 [(.t 1)]),oV 22 (.un .not (.t 2))]) (.cond (.v 22) (.seq (.ops [oV 5 (.mov (.c nS)),oV 6 (.mov (.c nS)),oV 7 (.mov (k6 1))]) .ret) .skip)) (.seq (.ops [oT (.x (.mkmap (.stk [.int .i64,.int .i64,.int .i64])) []),oV 8 (.alloc 93 1 false [.nilmp]),sV 1 8 0]) (.seq (.ops [oV 9 (.mov (.c nS))]) (.seq (.seq (.ops [vv 23 2,oV 24 (.len (.v 23)),oV 25 (.mov (k6 0))]) (.block 0 (.loop (.seq (.ops [oV 26 (.bin .lss .arith (.v 25) (.v 24))]) (.seq (.cond (.v 26) .skip (.exit 0)) (.seq (.block 1 (.seq (.ops [oT (.iaddr 3 (.v 23) (.v 25)),lT 3 0,oV 10 (.alloc 62 3 true [z6,z6,z6]),sV 3 10 1]) (.seq (.ops [lV 7 4,lV 3 10,oT (.pcall 18 [(.t 0),(.t 1)]),mt 2,eT 3 0,eT 3 1,oT (.alloc 67 14 true [z6,z6,z6,z6,z6,z6,nS,nS,nS,nS,nS,nS,nS,nS]),sT 14 6 4,vt 11 5]) (.seq (.ops [lV 7 4,lV 3 10,oT (.pcall 17 [(.t 0),(.t 1)]),mt 2,eT 3 0,eT 3 1,oV 12 (.alloc 70 5 true [z6,z6,z6,nS,nS]),sV 5 12 4,vt 13 5]) (.seq (.seq (.ops [mv 11,oT (.un .not (.t 0)),mt 1,oG 2 false (.mov (.v 13)),oG 2 false (.un .not (.t 3)),oV 27 (.pick (.t 2) (.c (.bool true)) (.t 4))]) (.cond (.v 27) (.seq (.ops [oV 5 (.mov (.c nS)),oV 6 (.mov (.c nS)),oV 7 (.mov (k6 14))]) .ret) .skip)) (.seq (.ops [lV 7 4,fV 0 12,lT 3 1,oT (.pcall 27 [(.t 0),(.t 2)]),mt 3,eT 4 0,eT 4 1,vt 14 5,vt 15 6]) (.seq (.seq (.ops [mv 15,oV 28 (.bin .neq .arith (.t 0) (k6 0))]) (.cond (.v 28) (.seq (.ops [mv 15,oV 5 (.mov (.c nS)),oV 6 (.mov (.c nS)),vt 7 0]) .ret) .skip)) (.seq (.ops [fV 0 3,lS 1 0,mv 14,oT (.pcall 28 [(.t 1),(.t 2)]),mt 3,eT 4 0,eT 4 1,vt 16 5,vt 17 6]) (.seq (.seq (.ops [mv 17,oT (.bin .neq .arith (.t 0) (k6 (-1))),mt 1,oG 2 false (.mov (.v 16)),oG 2 false (.len (.t 3)),oG 2 false (.bin .eql .arith (.t 4) (k6 0)),oV 29 (.pick (.t 2) (.c (.bool true)) (.t 5))]) (.cond (.v 29) (.seq (.ops [oV 5 (.mov (.c nS)),oV 6 (.mov (.c nS)),oV 7 (.mov (k6 2))]) .ret) .skip)) (.seq (.ops [lU 1 8,fV 0 12,lT 3 1,oT (.x (.mlook (.stk [.int .i64,.int .i64,.int .i64]) nS false) [(.t 0),(.t 2)]),oV 30 (.bin .eql .sl (.t 3) (.c nS))]) (.cond (.v 30) (.seq (.ops [lU 1 8,fV 0 12,lT 3 1,mv 16,oN (.x (.mput (.stk [.int .i64,.int .i64,.int .i64])) [(.t 0),(.t 2),(.t 3)])]) (.ops [mv 9,fV 0 12,lT 3 1,oT (.lit 0 62 1 3 true [z6,z6,z6] [(0,(.t 2))]),oT (.append true 62 24 3 true (.t 0) (.t 3)),vt 9 4])) .skip))))))))))) (.ops [oT (.bin .add .arith (.v 25) (k6 1)),vt 25 0]))))))) (.seq (.ops [mv 9,oT (.clo 30 [(.v 3),(.v 8)]),oT (.call (.c (.fn 29 [])) [(.t 0),(.t 1)])]) (.seq (.ops [oV 18 (.mov (.c nS))]) (.seq (.seq (.ops [vv 31 9,oV 32 (.len (.v 31)),oV 33 (.mov (k6 0))]) (.block 2 (.loop (.seq (.ops [oV 34 (.bin .lss .arith (.v 33) (.v 32))]) (.seq (.cond (.v 34) .skip (.exit 2)) (.seq (.block 3 (.seq (.ops [oT (.iaddr 3 (.v 31) (.v 33)),lT 3 0,oV 19 (.alloc 62 3 true [z6,z6,z6]),sV 3 19 1]) (.seq (.ops [oV 20 (.mov (.c nS))]) (.seq (.seq (.ops [lV 7 4,lV 3 19,mv 2,oV 35 (.pcall 34 [(.t 0),(.t 1),(.t 2)]),oV 36 (.len (.v 35)),oV 37 (.mov (k6 0))]) (.block 4 (.loop (.seq (.ops [oV 38 (.bin .lss .arith (.v 37) (.v 36))]) (.seq (.cond (.v 38) .skip (.exit 4)) (.seq (.block 5 (.seq (.ops [oT (.iaddr 4 (.v 35) (.v 37)),lT 4 0,oV 21 (.alloc 105 4 true [z6,z6,z6,(.str [])]),sV 4 21 1]) (.ops [mv 20,fV 0 21,lT 3 1,oT (.lit 0 62 1 3 true [z6,z6,z6] [(0,(.t 2))]),oT (.append false 62 24 3 true (.t 0) (.t 3)),vt 20 4]))) (.ops [oT (.bin .add .arith (.v 37) (k6 1)),vt 37 0]))))))) (.ops [mv 18,mv 20,oT (.lit 0 49 1 1 false [nS] [(0,(.t 1))]),oT (.append false 49 24 1 false (.t 0) (.t 2)),vt 18 3]))))) (.ops [oT (.bin .add .arith (.v 33) (k6 1)),vt 33 0]))))))) (.seq (.ops [mv 9,mv 18,vt 5 0,vt 6 1,oV 7 (.mov (k6 0))]) .ret))))))))),[.v 5,.v 6,.v 7],[]⟩
def c12:AFunc:=⟨[0,1,2,3,4,6,7,8,9,10,11,12,13,14,15,16,17,18,19,23,27,51,60,75,79,100,119],(.seq (.ops [oV 3 (.box 17 true (.v 0)),oV 4 (.box 7 true (.v 1)),oV 5 (.mov (.c nS)),oV 6 (.mov (.c nS)),oV 7 (.mov (k6 0))]) (.seq (.seq (.ops [fV 0 3,lS 1 0,oT (.pcall 35 [(.t 1)]),oV 19 (.un .not (.t 2))]) (.cond (.v 19) (.seq (.ops [oV 5 (.mov (.c nS)),oV 6 (.mov (.c nS)),oV 7 (.mov (k6 1))]) .ret) .skip)) (.seq (.ops [oV 8 (.mov (.c nS))]) (.seq (.seq (.ops [oV 9 (.mov (k6 0))]) (.block 0 (.loop (.seq (.seq (.ops [mv 9,mv 2,oT (.len (.t 1)),oV 20 (.bin .lss .arith (.t 0) (.t 2))]) (.cond (.v 20) .skip (.exit 0))) (.seq (.block 1 (.seq (.ops [lV 7 4,mv 2,mv 9,iT 3 1 2,lT 3 3,oT (.pcall 36 [(.t 0),(.t 4)]),mt 5,eT 6 0,eT 6 1,oV 10 (.alloc 70 5 true [z6,z6,z6,nS,nS]),sV 5 10 7,vt 11 8]) (.seq (.seq (.ops [mv 11,oT (.un .not (.t 0)),mt 1,oG 2 false (.load 7 true (.v 4)),oG 2 false (.mov (.v 2)),oG 2 false (.mov (.v 9)),oG 2 false (.iaddr 3 (.t 4) (.t 5)),oG 2 false (.load 3 true (.t 6)),oG 2 false (.faddr 0 (.v 10)),oG 2 false (.load 3 true (.t 8)),oG 2 false (.pcall 37 [(.t 3),(.t 7),(.t 9)]),oG 2 false (.un .not (.t 10)),oV 21 (.pick (.t 2) (.c (.bool true)) (.t 11))]) (.cond (.v 21) (.seq (.ops [oV 5 (.mov (.c nS)),oV 6 (.mov (.c nS)),oV 7 (.mov (k6 14))]) .ret) .skip)) (.seq (.ops [lV 7 4,fV 0 10,lT 3 1,oT (.pcall 38 [(.t 0),(.t 2)]),mt 3,eT 4 0,eT 4 1,vt 12 5,vt 13 6]) (.seq (.seq (.ops [mv 13,oV 22 (.bin .neq .arith (.t 0) (k6 0))]) (.cond (.v 22) (.seq (.ops [mv 13,oV 5 (.mov (.c nS)),oV 6 (.mov (.c nS)),vt 7 0]) .ret) .skip)) (.seq (.ops [fV 0 3,lS 1 0,mv 12,oT (.pcall 39 [(.t 1),(.t 2)]),mt 3,eT 4 0,eT 4 1,vt 14 5,vt 15 6]) (.seq (.seq (.ops [mv 15,oT (.bin .neq .arith (.t 0) (k6 (-1))),mt 1,oG 2 false (.mov (.v 14)),oG 2 false (.len (.t 3)),oG 2 false (.bin .eql .arith (.t 4) (k6 0)),oV 23 (.pick (.t 2) (.c (.bool true)) (.t 5))]) (.cond (.v 23) (.seq (.ops [oV 5 (.mov (.c nS)),oV 6 (.mov (.c nS)),oV 7 (.mov (k6 2))]) .ret) .skip)) (.seq (.seq (.ops [mv 8,fV 0 10,lT 3 1,oV 24 (.pcall 19 [(.t 0),(.t 2)])]) (.cond (.v 24) (.exit 1) .skip)) (.seq (.ops [mv 8,oT (.len (.t 0)),vt 16 1]) (.seq (.ops [mv 8,fV 0 10,lT 3 1,oT (.lit 0 62 1 3 true [z6,z6,z6] [(0,(.t 2))]),oT (.append true 62 24 3 true (.t 0) (.t 3)),vt 8 4]) (.seq (.block 2 (.loop (.seq (.seq (.ops [mv 16,oT (.bin .gtr .arith (.t 0) (k6 0)),mt 1,oG 2 true (.load 17 true (.v 3)),oG 2 true (.load 7 true (.v 4)),oG 2 true (.faddr 0 (.v 10)),oG 2 true (.load 3 true (.t 5)),oG 2 true (.mov (.v 8)),oG 2 true (.mov (.v 16)),oG 2 true (.bin .sub .arith (.t 8) (k6 1)),oG 2 true (.iaddr 3 (.t 7) (.t 9)),oG 2 true (.load 3 true (.t 10)),oG 2 true (.pcall 40 [(.t 3),(.t 4),(.t 6),(.t 11)]),oV 25 (.pick (.t 2) (.t 12) (.c (.bool false)))]) (.cond (.v 25) .skip (.exit 2))) (.block 3 (.seq (.ops [mv 8,mv 16,mv 8,mv 16,oT (.bin .sub .arith (.t 3) (k6 1)),iT 3 2 4,lT 3 5,iT 3 0 1,sT 3 7 6]) (.ops [mv 16,oT (.bin .sub .arith (.t 0) (k6 1)),vt 16 1])))))) (.ops [mv 8,mv 16,fV 0 10,lT 3 2,iT 3 0 1,sT 3 4 3])))))))))))) (.ops [mv 9,oT (.bin .add .arith (.t 0) (k6 1)),vt 9 1])))))) (.seq (.ops [oV 17 (.mov (.c nS))]) (.seq (.seq (.ops [oV 18 (.mov (k6 0))]) (.block 4 (.loop (.seq (.seq (.ops [mv 18,mv 8,oT (.len (.t 1)),oV 26 (.bin .lss .arith (.t 0) (.t 2))]) (.cond (.v 26) .skip (.exit 4))) (.seq (.block 5 (.ops [mv 17,lV 7 4,mv 2,mv 8,mv 18,iT 3 3 4,lT 3 5,oT (.pcall 41 [(.t 1),(.t 2),(.t 6)]),oT (.lit 0 49 1 1 false [nS] [(0,(.t 7))]),oT (.append false 49 24 1 false (.t 0) (.t 8)),vt 17 9])) (.ops [mv 18,oT (.bin .add .arith (.t 0) (k6 1)),vt 18 1])))))) (.seq (.ops [mv 8,mv 17,vt 5 0,vt 6 1,oV 7 (.mov (k6 0))]) .ret))))))),[.v 5,.v 6,.v 7],[]⟩
def c13:AFunc:=⟨[0,1,4,5,10,14,25],(.seq (.ops [oV 2 (.mov (.c (.bool false)))]) (.seq (.seq (.ops [mv 0,oT (.len (.t 0)),mv 1,oT (.len (.t 2)),oV 4 (.bin .neq .arith (.t 1) (.t 3))]) (.cond (.v 4) (.seq (.ops [oV 2 (.mov (.c (.bool false)))]) .ret) .skip)) (.seq (.seq (.ops [oV 3 (.mov (k6 0))]) (.block 0 (.loop (.seq (.seq (.ops [mv 3,mv 0,oT (.len (.t 1)),oV 5 (.bin .lss .arith (.t 0) (.t 2))]) (.cond (.v 5) .skip (.exit 0))) (.seq (.block 1 (.seq (.ops [mv 0,mv 3,iT 3 0 1,lT 3 2,mv 1,mv 3,iT 3 4 5,lT 3 6,oV 6 (.bin .neq (.struct [.int,.int,.int]) (.t 3) (.t 7))]) (.cond (.v 6) (.seq (.ops [oV 2 (.mov (.c (.bool false)))]) .ret) .skip))) (.ops [mv 3,oT (.bin .add .arith (.t 0) (k6 1)),vt 3 1])))))) (.seq (.ops [oV 2 (.mov (.c (.bool true)))]) .ret)))),[.v 2],[]⟩
def c17:AFunc:=⟨[0,1,2,3,4,5,6,7,8,11,12,13,21,27],(.seq (.ops [oV 2 (.box 7 true (.v 0)),oV 3 (.box 3 true (.v 1)),oV 4 (.alloc 70 5 true [z6,z6,z6,nS,nS]),oV 5 (.mov (.c (.bool false)))]) (.seq (.seq (.ops [fV 1 2,lS 1 0,oV 9 (.len (.t 1)),oV 10 (.mov (k6 0))]) (.block 0 (.loop (.seq (.ops [oV 11 (.bin .lss .arith (.v 10) (.v 9))]) (.seq (.cond (.v 11) .skip (.exit 0)) (.seq (.block 1 (.seq (.ops [lV 7 2,lV 3 3,oT (.pcall 18 [(.t 0),(.t 1)]),mt 2,eT 3 0,eT 3 1,oV 6 (.alloc 67 14 true [z6,z6,z6,z6,z6,z6,nS,nS,nS,nS,nS,nS,nS,nS]),sV 14 6 4,vt 7 5]) (.seq (.seq (.ops [mv 7,oV 12 (.un .not (.t 0))]) (.cond (.v 12) (.exit 0) .skip)) (.seq (.seq (.ops [fV 0 2,lS 1 0,oT (.clo 54 [(.v 6)]),oT (.call (.c (.fn 53 [])) [(.t 1),(.t 2)]),vt 8 3]) (.seq (.ops [mv 8,oV 13 (.bin .geq .arith (.t 0) (k6 0))]) (.cond (.v 13) (.seq (.ops [fV 0 2,lS 1 0,mv 8,iT 5 1 2,lT 5 3,sV 5 4 4,oV 5 (.mov (.c (.bool true)))]) .ret) .skip))) (.ops [fV 3 6,lT 3 0,sV 3 3 1]))))) (.ops [oT (.bin .add .arith (.v 10) (k6 1)),vt 10 0]))))))) (.seq (.ops [oT (.build [z6,z6,z6,nS,nS] []),sV 5 4 0,oV 5 (.mov (.c (.bool false)))]) .ret))),[.c 4 5 true,.v 5],[]⟩
def c18:AFunc:=⟨[0,1,2,3,4,5,6,12],(.seq (.ops [oV 2 (.box 7 true (.v 0)),oV 3 (.box 3 true (.v 1)),oV 4 (.alloc 67 14 true [z6,z6,z6,z6,z6,z6,nS,nS,nS,nS,nS,nS,nS,nS]),oV 5 (.mov (.c (.bool false)))]) (.seq (.ops [fV 1 2,lS 1 0,oT (.clo 56 [(.v 3)]),oT (.call (.c (.fn 55 [])) [(.t 1),(.t 2)]),vt 6 3]) (.seq (.seq (.ops [mv 6,oV 7 (.bin .lss .arith (.t 0) (k6 0))]) (.cond (.v 7) (.seq (.ops [oT (.build [z6,z6,z6,z6,z6,z6,nS,nS,nS,nS,nS,nS,nS,nS] []),sV 14 4 0,oV 5 (.mov (.c (.bool false)))]) .ret) .skip)) (.seq (.ops [fV 1 2,lS 1 0,mv 6,iT 14 1 2,lT 14 3,sV 14 4 4,oV 5 (.mov (.c (.bool true)))]) .ret)))),[.c 4 14 true,.v 5],[]⟩
def c19:AFunc:=⟨[0,1,3,4,5,9,17],(.seq (.ops [oV 2 (.box 3 true (.v 1)),oV 3 (.mov (.c (.bool false)))]) (.seq (.seq (.ops [oV 4 (.mov (k6 0))]) (.block 0 (.loop (.seq (.seq (.ops [mv 4,mv 0,oT (.len (.t 1)),oV 5 (.bin .lss .arith (.t 0) (.t 2))]) (.cond (.v 5) .skip (.exit 0))) (.seq (.block 1 (.seq (.ops [mv 0,mv 4,iT 3 0 1,lT 3 2,lV 3 2,oV 6 (.bin .eql (.struct [.int,.int,.int]) (.t 3) (.t 4))]) (.cond (.v 6) (.seq (.ops [oV 3 (.mov (.c (.bool true)))]) .ret) .skip))) (.ops [mv 4,oT (.bin .add .arith (.t 0) (k6 1)),vt 4 1])))))) (.seq (.ops [oV 3 (.mov (.c (.bool false)))]) .ret))),[.v 3],[]⟩
def c20:AFunc:=⟨[0,1,2,3,5,6,7,8,10,11,12,23,34,39],(.seq (.ops [oV 3 (.box 7 true (.v 0)),oV 4 (.box 3 true (.v 2)),oV 5 (.alloc 62 3 true [z6,z6,z6]),oV 6 (.mov (.c (.bool false)))]) (.seq (.ops [lV 7 3,lV 3 4,oT (.pcall 57 [(.t 0),(.t 1)]),mt 2,eT 3 0,eT 3 1,oV 7 (.alloc 67 14 true [z6,z6,z6,z6,z6,z6,nS,nS,nS,nS,nS,nS,nS,nS]),sV 14 7 4,mt 5]) (.seq (.seq (.ops [oV 8 (.mov (k6 0))]) (.block 0 (.loop (.seq (.seq (.ops [mv 8,fV 1 3,lS 1 1,oT (.len (.t 2)),oV 11 (.bin .lss .arith (.t 0) (.t 3))]) (.cond (.v 11) .skip (.exit 0))) (.seq (.block 1 (.seq (.ops [lV 7 3,fV 3 7,lT 3 1,oT (.pcall 57 [(.t 0),(.t 2)]),mt 3,eT 4 0,eT 4 1,oV 9 (.alloc 67 14 true [z6,z6,z6,z6,z6,z6,nS,nS,nS,nS,nS,nS,nS,nS]),sV 14 9 5,vt 10 6]) (.seq (.seq (.ops [mv 10,oV 12 (.un .not (.t 0))]) (.cond (.v 12) (.seq (.ops [oT (.build [z6,z6,z6] []),sV 3 5 0,oV 6 (.mov (.c (.bool false)))]) .ret) .skip)) (.seq (.seq (.ops [mv 1,fV 0 9,lT 3 1,oV 13 (.pcall 19 [(.t 0),(.t 2)])]) (.cond (.v 13) (.seq (.ops [fV 0 9,lT 3 0,sV 3 5 1,oV 6 (.mov (.c (.bool true)))]) .ret) .skip)) (.ops [lV 14 9,sV 14 7 0]))))) (.ops [mv 8,oT (.bin .add .arith (.t 0) (k6 1)),vt 8 1])))))) (.seq (.ops [oT (.build [z6,z6,z6] []),sV 3 5 0,oV 6 (.mov (.c (.bool false)))]) .ret)))),[.c 5 3 true,.v 6],[]⟩
def c21:AFunc:=⟨[0,1,2,6,14],(.seq (.ops [oV 3 (.mov (k6 0))]) (.seq (.seq (.ops [mv 1,oT (.bin .lss .arith (.t 0) (k6 0)),mt 1,oG 2 false (.mov (.v 1)),oG 2 false (.mov (.v 0)),oG 2 false (.len (.t 4)),oG 2 false (.bin .geq .arith (.t 3) (.t 5)),oV 4 (.pick (.t 2) (.c (.bool true)) (.t 6))]) (.cond (.v 4) (.seq (.ops [oV 3 (.mov (k6 0))]) .ret) .skip)) (.seq (.ops [mv 0,mv 1,iT 1 0 1,lS 1 2,mv 2,oT (.pcall 10 [(.t 3),(.t 4)]),vt 3 5]) .ret))),[.v 3],[]⟩
def c22:AFunc:=⟨[0],(.seq (.ops [oV 0 (.mov (.c nS))]) (.seq (.ops [oT (.build [(.str []),z6,z6,z6,z6] [(0,1,(.c (.str [97]))),(1,1,(k6 0)),(4,1,(k6 5))]),oT (.build [(.str []),z6,z6,z6,z6] [(0,1,(.c (.str [98]))),(1,1,(k6 1)),(4,1,(k6 6))]),oT (.build [(.str []),z6,z6,z6,z6] [(0,1,(.c (.str [99]))),(1,1,(k6 2)),(4,1,(k6 5))]),oT (.build [(.str []),z6,z6,z6,z6] [(0,1,(.c (.str [101]))),(1,1,(k6 3)),(4,1,(k6 5))]),oT (.build [(.str []),z6,z6,z6,z6] [(0,1,(.c (.str [110]))),(1,1,(k6 4)),(4,1,(k6 6))]),oT (.build [(.str []),z6,z6,z6,z6] [(0,1,(.c (.str [115]))),(1,1,(k6 5)),(4,1,(k6 4))]),oT (.build [(.str []),z6,z6,z6,z6] [(0,1,(.c (.str [116]))),(1,1,(k6 6)),(4,1,(k6 3))]),oT (.build [(.str []),z6,z6,z6,z6] [(0,1,(.c (.str [99,104]))),(1,1,(k6 7)),(4,1,(k6 10))]),oT (.build [(.str []),z6,z6,z6,z6] [(0,1,(.c (.str [195,169]))),(1,1,(k6 3)),(2,1,(k6 1)),(4,1,(k6 5))]),oT (.build [(.str []),z6,z6,z6,z6] [(0,1,(.c (.str [65]))),(1,1,(k6 0)),(3,1,(k6 1)),(4,1,(k6 7))]),oT (.lit 0 110 10 5 true [(.str []),z6,z6,z6,z6] [(0,(.t 0)),(1,(.t 1)),(2,(.t 2)),(3,(.t 3)),(4,(.t 4)),(5,(.t 5)),(6,(.t 6)),(7,(.t 7)),(8,(.t 8)),(9,(.t 9))]),vt 0 10]) .ret)),[.v 0],[]⟩
def c23:AFunc:=⟨[0,2,3,4,5,6,7,8,9,10,49],(.seq (.ops [oV 1 (.alloc 39 4 true [nS,nS,nS,nS])]) (.seq (.ops [oT (.lit 0 3 10 1 false [z6] [(0,(k6 0)),(1,(k6 1)),(2,(k6 2)),(3,(k6 3)),(4,(k6 4)),(5,(k6 5)),(6,(k6 6)),(7,(k6 7)),(8,(k6 8)),(9,(k6 9))]),oT (.pcall 58 [(.t 0)]),oV 2 (.alloc 139 3 true [z6,nS,nS]),sV 3 2 1]) (.seq (.ops [lV 3 2,lV 3 2,oT (.pcall 61 [(.t 1)]),oT (.lit 0 139 2 3 true [z6,nS,nS] [(0,(.t 0)),(1,(.t 2))]),oT (.pcall 60 [(.t 3)]),oT (.pcall 59 [(.t 4)]),oV 3 (.alloc 139 3 true [z6,nS,nS]),sV 3 3 5]) (.seq (.ops [oT (.build [z6,nS,nS] [(0,1,(k6 1))]),oV 4 (.alloc 139 3 true [z6,nS,nS]),sV 3 4 0]) (.seq (.ops [oT (.lit 0 3 1 1 false [z6] [(0,(k6 63))]),oT (.pcall 58 [(.t 0)]),oV 5 (.alloc 139 3 true [z6,nS,nS]),sV 3 5 1]) (.seq (.ops [oT (.lit 0 3 1 1 false [z6] [(0,(k6 3))]),oT (.build [z6,nS] [(0,1,(k6 0)),(1,1,(.t 0))]),oT (.lit 0 144 1 2 true [z6,nS] [(0,(.t 1))]),lV 3 4,lV 3 4,oT (.build [(.str []),nS,z6,nS,nS,z6,nS,nS] [(0,1,(.c (.str [117,109,108,97,117,116]))),(1,1,(.t 2)),(2,3,(.t 3)),(5,3,(.t 4))]),oT (.build [z6,nS] [(0,1,(k6 3))]),oT (.lit 0 144 1 2 true [z6,nS] [(0,(.t 6))]),lV 3 4,lV 3 5,oT (.lit 0 3 1 1 false [z6] [(0,(k6 3))]),oT (.pcall 58 [(.t 10)]),oT (.lit 0 139 2 3 true [z6,nS,nS] [(0,(.t 9)),(1,(.t 11))]),oT (.pcall 60 [(.t 12)]),oT (.pcall 59 [(.t 13)]),oT (.build [(.str []),nS,z6,nS,nS,z6,nS,nS] [(0,1,(.c (.str [100,114,111,112]))),(1,1,(.t 7)),(2,3,(.t 8)),(5,3,(.t 14))]),oT (.lit 0 3 2 1 false [z6] [(0,(k6 6)),(1,(k6 6))]),oT (.build [z6,nS] [(0,1,(k6 6)),(1,1,(.t 16))]),oT (.lit 0 144 1 2 true [z6,nS] [(0,(.t 17))]),oT (.lit 0 3 2 1 false [z6] [(0,(k6 0)),(1,(k6 3))]),oT (.pcall 58 [(.t 19)]),lV 3 5,oT (.build [(.str []),nS,z6,nS,nS,z6,nS,nS] [(0,1,(.c (.str [100,111,117,98,108,101]))),(1,1,(.t 18)),(2,3,(.t 20)),(5,3,(.t 21))]),oT (.lit 0 147 3 8 true [(.str []),nS,z6,nS,nS,z6,nS,nS] [(0,(.t 5)),(1,(.t 15)),(2,(.t 22))]),oT (.build [nS,nS,nS,nS] [(1,1,(.t 23))]),oV 6 (.alloc 39 4 true [nS,nS,nS,nS]),sV 4 6 24]) (.seq (.ops [oV 7 (.mov (.c nS))]) (.seq (.seq (.ops [mv 0,oT (.pcall 21 [(.t 0),(k6 0),(k6 3)]),oV 10 (.bin .eql .arith (.t 1) (k6 1))]) (.cond (.v 10) (.ops [oT (.lit 0 9 1 1 false [(.str [])] [(0,(.c (.str [117,109,108,97,117,116])))]),vt 7 0]) .skip)) (.seq (.ops [lV 3 3,oT (.build [(.str []),nS,nS,nS] [(0,1,(.c (.str [115,103])))]),oT (.lit 0 3 1 1 false [z6] [(0,(k6 5))]),mv 7,oT (.build [(.str []),nS,nS,nS] [(0,1,(.c (.str [112,108]))),(2,1,(.t 2)),(3,1,(.t 3))]),oT (.lit 0 149 2 4 true [(.str []),nS,nS,nS] [(0,(.t 1)),(1,(.t 4))]),oT (.build [(.str []),z6,nS,nS,z6,nS] [(0,1,(.c (.str [110]))),(1,3,(.t 0)),(5,1,(.t 5))]),oV 8 (.alloc 152 6 true [(.str []),z6,nS,nS,z6,nS]),sV 6 8 6]) (.seq (.ops [lV 3 3,mv 0,oT (.pcall 21 [(.t 1),(k6 1),(k6 2)]),oT (.build [(.str []),nS,nS,nS] [(0,1,(.c (.str [105,110,102])))]),oT (.lit 0 3 1 1 false [z6] [(0,(k6 6))]),oT (.build [(.str []),nS,nS,nS] [(0,1,(.c (.str [97,51]))),(2,1,(.t 4))]),oT (.lit 0 3 2 1 false [z6] [(0,(k6 1)),(1,(k6 3))]),oT (.lit 0 3 2 1 false [z6] [(0,(k6 6)),(1,(k6 3))]),oT (.lit 0 9 1 1 false [(.str [])] [(0,(.c (.str [117,109,108,97,117,116])))]),oT (.build [(.str []),nS,nS,nS] [(0,1,(.c (.str [112,97,115,116]))),(1,1,(.t 6)),(2,1,(.t 7)),(3,1,(.t 8))]),oT (.lit 0 149 3 4 true [(.str []),nS,nS,nS] [(0,(.t 3)),(1,(.t 5)),(2,(.t 9))]),oT (.build [(.str []),z6,nS,nS,z6,nS] [(0,1,(.c (.str [118]))),(1,3,(.t 0)),(4,1,(.t 2)),(5,1,(.t 10))]),oV 9 (.alloc 152 6 true [(.str []),z6,nS,nS,z6,nS]),sV 6 9 11]) (.seq (.ops [lV 6 8,lV 6 9,oT (.lit 0 152 2 6 true [(.str []),z6,nS,nS,z6,nS] [(0,(.t 0)),(1,(.t 1))]),fV 2 6,sT 1 3 2]) (.seq (.ops [oT (.lit 0 9 2 1 false [(.str [])] [(0,(.c (.str [100,114,111,112]))),(1,(.c (.str [100,111,117,98,108,101])))]),mv 0,oT (.pcall 21 [(.t 1),(k6 2),(k6 3)]),oT (.slice 1 (.t 0) .none (some (.t 2))),fV 3 6,sT 1 4 3]) (.seq (.ops [lV 4 6,sV 4 1 0]) .ret))))))))))))),[.c 1 4 true],[]⟩
def c24:AFunc:=⟨[0],(.seq (.ops [oV 0 (.mov (.c nS))]) (.seq (.ops [oT (.lit 1 9 4 1 false [(.str [])] [(0,(.c (.str [97]))),(1,(.c (.str [97,110]))),(2,(.c (.str [98,101]))),(3,(.c (.str [99])))]),vt 0 0]) .ret)),[.v 0],[]⟩
def c25:AFunc:=⟨[0,2,3,19],(.seq (.ops [oV 1 (.alloc 45 5 true [z6,z6,z6,z6,nS])]) (.seq (.ops [mv 0,oT (.pcall 21 [(.t 0),(k6 3),(k6 6)]),oT (.bin .add .arith (k6 1) (.t 1)),mv 0,oT (.pcall 21 [(.t 3),(k6 4),(k6 6)]),oT (.bin .add .arith (k6 1) (.t 4)),mv 0,oT (.pcall 21 [(.t 6),(k6 5),(k6 5)]),oT (.bin .add .arith (k6 1) (.t 7)),mv 0,oT (.pcall 21 [(.t 9),(k6 6),(k6 60)]),oT (.bin .add .arith (k6 90) (.t 10)),oT (.build [z6,z6,z6,z6,nS] [(0,1,(.t 2)),(1,1,(.t 5)),(2,1,(.t 8)),(3,1,(.t 11))]),oV 2 (.alloc 45 5 true [z6,z6,z6,z6,nS]),sV 5 2 12]) (.seq (.seq (.ops [mv 0,oT (.pcall 21 [(.t 0),(k6 7),(k6 2)]),oV 3 (.bin .eql .arith (.t 1) (k6 1))]) (.cond (.v 3) (.ops [oT (.build [(.str []),(.str []),z6] [(0,1,(.c (.str [97]))),(1,1,(.c (.str [116]))),(2,1,(k6 1))]),oT (.build [(.str []),(.str []),z6] [(0,1,(.c (.str [116]))),(1,1,(.c (.str [101]))),(2,1,(k6 2))]),oT (.lit 0 154 2 3 true [(.str []),(.str []),z6] [(0,(.t 0)),(1,(.t 1))]),fV 4 2,sT 1 3 2]) .skip)) (.seq (.ops [lV 5 2,sV 5 1 0]) .ret)))),[.c 1 5 true],[]⟩
def c26:AFunc:=⟨[0,2],(.seq (.ops [oV 1 (.mov (.c (.bool false)))]) (.seq (.ops [mv 0,oT (.call (.c (.fn 62 [])) [(.t 0)]),oT (.bin .neq .mp (.t 1) (.c .nilmp)),vt 1 2]) .ret)),[.v 1],[]⟩
def c27:AFunc:=⟨[0,1,2,3,4,5,7,8,9,11,12,13,14,20],(.seq (.ops [oV 2 (.box 7 true (.v 0)),oV 3 (.box 3 true (.v 1)),oV 4 (.mov (.c (.str []))),oV 5 (.mov (k6 0))]) (.seq (.seq (.ops [fV 0 2,oV 9 (.load 1 false (.t 0)),oV 10 (.len (.v 9)),oV 11 (.mov (k6 0))]) (.block 0 (.loop (.seq (.ops [oV 12 (.bin .lss .arith (.v 11) (.v 10))]) (.seq (.cond (.v 12) .skip (.exit 0)) (.seq (.block 1 (.seq (.ops [oT (.iaddr 5 (.v 9) (.v 11)),lT 5 0,oV 6 (.alloc 70 5 true [z6,z6,z6,nS,nS]),sV 5 6 1]) (.seq (.ops [fV 0 6,lT 3 0,lV 3 3,oV 13 (.bin .eql (.struct [.int,.int,.int]) (.t 1) (.t 2))]) (.cond (.v 13) (.seq (.ops [fV 3 6,lS 1 0,oT (.pcall 63 [(.t 1)]),mt 2,eT 3 0,eT 3 1,oV 7 (.alloc 83 7 true [(.str []),z6,z6,z6,z6,z6,z6]),sV 7 7 4,vt 8 5]) (.seq (.ops [fV 0 7,lS 1 0,mv 8,vt 4 1,vt 5 2]) .ret)) .skip)))) (.ops [oT (.bin .add .arith (.v 11) (k6 1)),vt 11 0]))))))) (.seq (.ops [oV 4 (.mov (.c (.str []))),oV 5 (.mov (k6 14))]) .ret))),[.v 4,.v 5],[]⟩
def c28:AFunc:=⟨[0,1,4,5,6,7,8,9,10,11,15,19,26,40],(.seq (.ops [oV 2 (.mov (.c nS)),oV 3 (.mov (k6 0))]) (.seq .skip (.seq (.ops [mv 0,oT (.call (.c (.fn 62 [])) [(.t 0)]),vt 4 1]) (.seq (.seq (.ops [mv 4,oV 10 (.bin .eql .mp (.t 0) (.c .nilmp))]) (.cond (.v 10) (.seq (.ops [oV 2 (.mov (.c nS)),oV 3 (.mov (k6 0))]) .ret) .skip)) (.seq (.ops [oV 5 (.mov (.c nS))]) (.seq (.ops [oV 6 (.mov (k6 0))]) (.seq .skip (.seq (.block 0 (.loop (.seq (.seq (.ops [mv 6,mv 1,oT (.slen (.t 1)),oV 11 (.bin .lss .arith (.t 0) (.t 2))]) (.cond (.v 11) .skip (.exit 0))) (.block 1 (.seq (.seq (.ops [mv 1,oT (.slen (.t 0)),mv 6,oT (.bin .sub .arith (.t 1) (.t 2)),oT (.mnx false (k6 4) (.t 3)),vt 7 4]) (.block 2 (.loop (.seq (.seq (.ops [mv 7,oV 12 (.bin .gtr .arith (.t 0) (k6 0))]) (.cond (.v 12) .skip (.exit 2))) (.seq (.block 3 (.seq (.ops [mv 4,mv 1,mv 6,mv 6,mv 7,oT (.bin .add .arith (.t 3) (.t 4)),oT (.sslice (.t 1) (some (.t 2)) (some (.t 5))),oT (.x (.mlook .str z6 true) [(.t 0),(.t 6)]),mt 7,eT 8 0,eT 8 1,vt 8 9,vt 9 10]) (.seq (.ops [vv 13 9]) (.cond (.v 13) (.seq (.ops [mv 5,mv 8,oT (.lit 0 3 1 1 false [z6] [(0,(.t 1))]),oT (.append false 3 8 1 false (.t 0) (.t 2)),vt 5 3]) (.seq (.ops [mv 6,mv 7,oT (.bin .add .arith (.t 0) (.t 1)),vt 6 2]) (.exit 1))) .skip)))) (.ops [mv 7,oT (.bin .sub .arith (.t 0) (k6 1)),vt 7 1])))))) (.seq (.ops [mv 5,mv 6,vt 2 0,vt 3 1]) .ret)))))) (.seq (.ops [mv 5,vt 2 0,oV 3 (.mov (k6 (-1)))]) .ret))))))))),[.v 2,.v 3],[]⟩
def c29:AFunc:=⟨[0,1,4],(.seq (.ops [mv 0,oT (.len (.t 0)),vt 2 1]) (.ops [mv 0,mv 2,mv 2,oT (.toInt .u64 (.t 2)),oT (.call (.c (.fn 65 [])) [(.t 3)]),mv 1,oT (.call (.c (.fn 64 [])) [(.t 0),(k6 0),(.t 1),(.t 4),(.t 5)])])),[],[]⟩
def c30:AFunc:=⟨[0,1,2,3,4,5,6],(.seq (.ops [oV 4 (.box 3 true (.v 0)),oV 5 (.box 3 true (.v 1)),oV 6 (.mov (k6 0))]) (.seq (.ops [fV 0 2,lS 1 0,lU 1 3,lV 3 4,oT (.x (.mlook (.stk [.int .i64,.int .i64,.int .i64]) nS false) [(.t 2),(.t 3)]),lU 1 3,lV 3 5,oT (.x (.mlook (.stk [.int .i64,.int .i64,.int .i64]) nS false) [(.t 5),(.t 6)]),oT (.pcall 32 [(.t 1),(.t 4),(.t 7)]),lV 3 4,lV 3 5,oT (.pcall 33 [(.t 9),(.t 10)]),oT (.lit 0 3 2 1 false [z6] [(0,(.t 8)),(1,(.t 11))]),oT (.pcall 31 [(.t 12)]),vt 6 13]) .ret)),[.v 6],[]⟩
def c31:AFunc:=⟨[0,2,3,5,6,7,8,9,14],(.seq (.ops [oV 1 (.mov (k6 0))]) (.seq (.ops [oV 2 (.mov (k6 0))]) (.seq (.seq (.ops [vv 4 0,oV 5 (.len (.v 4)),oV 6 (.mov (k6 0))]) (.block 0 (.loop (.seq (.ops [oV 7 (.bin .lss .arith (.v 6) (.v 5))]) (.seq (.cond (.v 7) .skip (.exit 0)) (.seq (.block 1 (.seq (.ops [oT (.iaddr 1 (.v 4) (.v 6)),lS 1 0,vt 3 1]) (.seq (.ops [mv 3,mv 2,oV 8 (.bin .neq .arith (.t 0) (.t 1))]) (.cond (.v 8) (.seq (.ops [mv 3,vt 1 0]) .ret) .skip)))) (.ops [oT (.bin .add .arith (.v 6) (k6 1)),vt 6 0]))))))) (.seq (.ops [mv 2,vt 1 0]) .ret)))),[.v 1],[]⟩
def c32:AFunc:=⟨[0,1,2,6],(.seq (.ops [oV 3 (.mov (k6 0))]) (.seq (.ops [mv 0,mv 1,oT (.call (.c (.fn 67 [])) [(.t 0),(.t 1)]),mv 0,mv 2,oT (.call (.c (.fn 67 [])) [(.t 3),(.t 4)]),oT (.pcall 66 [(.t 2),(.t 5)]),vt 3 6]) .ret)),[.v 3],[]⟩
def c33:AFunc:=⟨[0,1,2,3,4],(.seq (.ops [oV 2 (.box 3 true (.v 0)),oV 3 (.box 3 true (.v 1)),oV 4 (.mov (k6 0))]) (.seq (.ops [fV 0 2,lS 1 0,fV 0 3,lS 1 2,oT (.pcall 68 [(.t 1),(.t 3)]),fV 1 2,lS 1 5,fV 1 3,lS 1 7,oT (.pcall 68 [(.t 6),(.t 8)]),fV 2 2,lS 1 10,fV 2 3,lS 1 12,oT (.pcall 68 [(.t 11),(.t 13)]),oT (.lit 0 3 3 1 false [z6] [(0,(.t 4)),(1,(.t 9)),(2,(.t 14))]),oT (.pcall 31 [(.t 15)]),vt 4 16]) .ret)),[.v 4],[]⟩
def c35:AFunc:=⟨[0,2,3,4,5,13,17,80,94,97,107],(.seq (.ops [oV 1 (.mov (.c (.bool false)))]) (.seq (.seq (.ops [mv 0,oT (.len (.t 0)),oT (.bin .lss .arith (.t 1) (k6 1)),mt 2,oG 3 false (.mov (.v 0)),oG 3 false (.len (.t 4)),oG 3 false (.bin .gtr .arith (.t 5) (k6 60)),oV 5 (.pick (.t 3) (.c (.bool true)) (.t 6))]) (.cond (.v 5) (.seq (.ops [oV 1 (.mov (.c (.bool false)))]) .ret) .skip)) (.seq (.seq (.ops [oV 2 (.mov (k6 0))]) (.block 0 (.loop (.seq (.seq (.ops [mv 2,mv 0,oT (.len (.t 1)),oV 6 (.bin .lss .arith (.t 0) (.t 2))]) (.cond (.v 6) .skip (.exit 0))) (.seq (.block 1 (.seq (.ops [mv 0,mv 2,iT 5 0 1,lT 5 2,oV 3 (.alloc 110 5 true [(.str []),z6,z6,z6,z6]),sV 5 3 3]) (.seq (.seq (.ops [fV 0 3,lS 1 0,oT (.pcall 71 [(.t 1)]),oT (.un .not (.t 2)),mt 3,oG 4 false (.faddr 1 (.v 3)),oG 4 false (.load 1 false (.t 5)),oG 4 false (.bin .lss .arith (.t 6) (k6 0)),oT (.pick (.t 4) (.c (.bool true)) (.t 7)),mt 8,oG 9 false (.faddr 1 (.v 3)),oG 9 false (.load 1 false (.t 10)),oG 9 false (.mov (.v 0)),oG 9 false (.len (.t 12)),oG 9 false (.bin .geq .arith (.t 11) (.t 13)),oT (.pick (.t 9) (.c (.bool true)) (.t 14)),mt 15,oG 16 false (.mov (.v 0)),oG 16 false (.faddr 1 (.v 3)),oG 16 false (.load 1 false (.t 18)),oG 16 false (.iaddr 5 (.t 17) (.t 19)),oG 16 false (.faddr 1 (.t 20)),oG 16 false (.load 1 false (.t 21)),oG 16 false (.faddr 1 (.v 3)),oG 16 false (.load 1 false (.t 23)),oG 16 false (.bin .neq .arith (.t 22) (.t 24)),oT (.pick (.t 16) (.c (.bool true)) (.t 25)),mt 26,oG 27 false (.faddr 2 (.v 3)),oG 27 false (.load 1 false (.t 28)),oG 27 false (.bin .lss .arith (.t 29) (k6 0)),oT (.pick (.t 27) (.c (.bool true)) (.t 30)),mt 31,oG 32 false (.faddr 2 (.v 3)),oG 32 false (.load 1 false (.t 33)),oG 32 false (.bin .gtr .arith (.t 34) (k6 15)),oT (.pick (.t 32) (.c (.bool true)) (.t 35)),mt 36,oG 37 false (.faddr 3 (.v 3)),oG 37 false (.load 1 false (.t 38)),oG 37 false (.bin .lss .arith (.t 39) (k6 0)),oT (.pick (.t 37) (.c (.bool true)) (.t 40)),mt 41,oG 42 false (.faddr 3 (.v 3)),oG 42 false (.load 1 false (.t 43)),oG 42 false (.bin .gtr .arith (.t 44) (k6 1)),oT (.pick (.t 42) (.c (.bool true)) (.t 45)),mt 46,oG 47 false (.faddr 4 (.v 3)),oG 47 false (.load 1 false (.t 48)),oG 47 false (.bin .lss .arith (.t 49) (k6 1)),oT (.pick (.t 47) (.c (.bool true)) (.t 50)),mt 51,oG 52 false (.faddr 4 (.v 3)),oG 52 false (.load 1 false (.t 53)),oG 52 false (.bin .gtr .arith (.t 54) (k6 1000)),oV 7 (.pick (.t 52) (.c (.bool true)) (.t 55))]) (.cond (.v 7) (.seq (.ops [oV 1 (.mov (.c (.bool false)))]) .ret) .skip)) (.seq (.seq (.ops [fV 1 3,lS 1 0,mv 2,oT (.bin .eql .arith (.t 1) (.t 2)),mt 3,oG 4 true (.faddr 2 (.v 3)),oG 4 true (.load 1 false (.t 5)),oG 4 true (.bin .neq .arith (.t 6) (k6 0)),oG 4 true (.mov (.t 7)),oG 8 false (.faddr 3 (.v 3)),oG 8 false (.load 1 false (.t 9)),oG 8 false (.bin .neq .arith (.t 10) (k6 0)),oG 4 true (.pick (.t 8) (.c (.bool true)) (.t 11)),oV 8 (.pick (.t 4) (.t 12) (.c (.bool false)))]) (.cond (.v 8) (.seq (.ops [oV 1 (.mov (.c (.bool false)))]) .ret) .skip)) (.seq (.ops [oV 4 (.mov (k6 0))]) (.block 2 (.loop (.seq (.seq (.ops [mv 4,mv 2,oV 9 (.bin .lss .arith (.t 0) (.t 1))]) (.cond (.v 9) .skip (.exit 2))) (.seq (.block 3 (.seq (.ops [mv 0,mv 4,iT 5 0 1,fT 0 2,lS 1 3,fV 0 3,lS 1 5,oV 10 (.bin .eql .arith (.t 4) (.t 6))]) (.cond (.v 10) (.seq (.ops [oV 1 (.mov (.c (.bool false)))]) .ret) .skip))) (.ops [mv 4,oT (.bin .add .arith (.t 0) (k6 1)),vt 4 1])))))))))) (.ops [mv 2,oT (.bin .add .arith (.t 0) (k6 1)),vt 2 1])))))) (.seq (.ops [oV 1 (.mov (.c (.bool true)))]) .ret)))),[.v 1],[]⟩
def c36:AFunc:=⟨[0,1,2,3,4,5,6,7,8,9,14,24,30,41],(.seq (.ops [oV 2 (.box 7 true (.v 0)),oV 3 (.box 3 true (.v 1)),oV 4 (.alloc 70 5 true [z6,z6,z6,nS,nS]),oV 5 (.mov (.c (.bool false)))]) (.seq (.seq (.ops [oV 6 (.mov (k6 0))]) (.block 0 (.loop (.seq (.seq (.ops [mv 6,fV 1 2,lS 1 1,oT (.len (.t 2)),oV 10 (.bin .lss .arith (.t 0) (.t 3))]) (.cond (.v 10) .skip (.exit 0))) (.seq (.block 1 (.seq (.ops [lV 7 2,lV 3 3,oT (.pcall 57 [(.t 0),(.t 1)]),mt 2,eT 3 0,eT 3 1,oV 7 (.alloc 67 14 true [z6,z6,z6,z6,z6,z6,nS,nS,nS,nS,nS,nS,nS,nS]),sV 14 7 4,vt 8 5]) (.seq (.seq (.ops [mv 8,oV 11 (.un .not (.t 0))]) (.cond (.v 11) (.seq (.ops [oT (.build [z6,z6,z6,nS,nS] []),sV 5 4 0,oV 5 (.mov (.c (.bool false)))]) .ret) .skip)) (.seq (.seq (.ops [oV 9 (.mov (k6 0))]) (.block 2 (.loop (.seq (.seq (.ops [mv 9,fV 0 2,lS 1 1,oT (.len (.t 2)),oV 12 (.bin .lss .arith (.t 0) (.t 3))]) (.cond (.v 12) .skip (.exit 2))) (.seq (.block 3 (.seq (.ops [fV 0 2,lS 1 0,mv 9,iT 5 1 2,fT 0 3,lT 3 4,fV 3 7,lT 3 6,oV 13 (.bin .eql (.struct [.int,.int,.int]) (.t 5) (.t 7))]) (.cond (.v 13) (.seq (.ops [fV 0 2,lS 1 0,mv 9,iT 5 1 2,lT 5 3,sV 5 4 4,oV 5 (.mov (.c (.bool true)))]) .ret) .skip))) (.ops [mv 9,oT (.bin .add .arith (.t 0) (k6 1)),vt 9 1])))))) (.ops [fV 3 7,lT 3 0,sV 3 3 1]))))) (.ops [mv 6,oT (.bin .add .arith (.t 0) (k6 1)),vt 6 1])))))) (.seq (.ops [oT (.build [z6,z6,z6,nS,nS] []),sV 5 4 0,oV 5 (.mov (.c (.bool false)))]) .ret))),[.c 4 5 true,.v 5],[]⟩
def c37:AFunc:=⟨[0,1,2,3,4,5,6,8,9,10],(.seq (.ops [oV 3 (.box 7 true (.v 0)),oV 4 (.box 3 true (.v 1)),oV 5 (.box 3 true (.v 2)),oV 6 (.mov (.c (.bool false)))]) (.seq (.ops [lV 7 3,lV 3 4,oT (.pcall 57 [(.t 0),(.t 1)]),mt 2,eT 3 0,eT 3 1,oT (.alloc 67 14 true [z6,z6,z6,z6,z6,z6,nS,nS,nS,nS,nS,nS,nS,nS]),sT 14 6 4,vt 7 5]) (.seq (.ops [lV 7 3,lV 3 4,oT (.pcall 36 [(.t 0),(.t 1)]),mt 2,eT 3 0,eT 3 1,oV 8 (.alloc 70 5 true [z6,z6,z6,nS,nS]),sV 5 8 4,vt 9 5]) (.seq (.ops [mv 7,mt 0,oG 1 true (.mov (.v 9)),oT (.pick (.t 1) (.t 2) (.c (.bool false))),mt 3,oG 4 true (.faddr 0 (.v 8)),oG 4 true (.load 3 true (.t 5)),oG 4 true (.load 3 true (.v 5)),oG 4 true (.bin .eql (.struct [.int,.int,.int]) (.t 6) (.t 7)),oT (.pick (.t 4) (.t 8) (.c (.bool false))),vt 6 9]) .ret)))),[.v 6],[]⟩
def c38:AFunc:=⟨[0,1,2,3,4,5,6,7,8,13,23],(.seq (.ops [oV 2 (.box 7 true (.v 0)),oV 3 (.box 3 true (.v 1)),oV 4 (.mov (.c (.str []))),oV 5 (.mov (k6 0))]) (.seq (.seq (.ops [oV 6 (.mov (k6 0))]) (.block 0 (.loop (.seq (.seq (.ops [mv 6,fV 0 2,lS 1 1,oT (.len (.t 2)),oV 9 (.bin .lss .arith (.t 0) (.t 3))]) (.cond (.v 9) .skip (.exit 0))) (.seq (.block 1 (.seq (.ops [fV 0 2,lS 1 0,mv 6,iT 5 1 2,fT 0 3,lT 3 4,lV 3 3,oV 10 (.bin .eql (.struct [.int,.int,.int]) (.t 5) (.t 6))]) (.cond (.v 10) (.seq (.ops [fV 0 2,lS 1 0,mv 6,iT 5 1 2,fT 3 3,lS 1 4,oT (.pcall 72 [(.t 5)]),mt 6,eT 7 0,eT 7 1,oV 7 (.alloc 83 7 true [(.str []),z6,z6,z6,z6,z6,z6]),sV 7 7 8,vt 8 9]) (.seq (.ops [fV 0 7,lS 1 0,mv 8,vt 4 1,vt 5 2]) .ret)) .skip))) (.ops [mv 6,oT (.bin .add .arith (.t 0) (k6 1)),vt 6 1])))))) (.seq (.ops [oV 4 (.mov (.c (.str []))),oV 5 (.mov (k6 14))]) .ret))),[.v 4,.v 5],[]⟩
def c39:AFunc:=⟨[0,1,4,5,6,7,8,11,15,21],(.seq (.ops [oV 2 (.mov (.c nS)),oV 3 (.mov (k6 0))]) (.seq (.seq (.ops [mv 0,oT (.pcall 35 [(.t 0)]),oV 7 (.un .not (.t 1))]) (.cond (.v 7) (.seq (.ops [oV 2 (.mov (.c nS)),oV 3 (.mov (k6 0))]) .ret) .skip)) (.seq (.ops [oV 4 (.mov (.c nS))]) (.seq (.ops [oV 5 (.mov (k6 0))]) (.seq (.block 0 (.loop (.seq (.seq (.ops [mv 5,mv 1,oT (.slen (.t 1)),oV 8 (.bin .lss .arith (.t 0) (.t 2))]) (.cond (.v 8) .skip (.exit 0))) (.block 1 (.seq (.ops [mv 0,mv 1,mv 5,oT (.pcall 73 [(.t 0),(.t 1),(.t 2)]),vt 6 3]) (.seq (.seq (.ops [mv 6,oV 9 (.bin .lss .arith (.t 0) (k6 0))]) (.cond (.v 9) (.seq (.ops [mv 4,mv 5,vt 2 0,vt 3 1]) .ret) .skip)) (.seq (.ops [mv 4,mv 6,oT (.lit 0 3 1 1 false [z6] [(0,(.t 1))]),oT (.append false 3 8 1 false (.t 0) (.t 2)),vt 4 3]) (.ops [mv 5,mv 0,mv 6,iT 5 1 2,fT 0 3,lS 1 4,oT (.slen (.t 5)),oT (.bin .add .arith (.t 0) (.t 6)),vt 5 7])))))))) (.seq (.ops [mv 4,vt 2 0,oV 3 (.mov (k6 (-1)))]) .ret)))))),[.v 2,.v 3],[]⟩
def c40:AFunc:=⟨[0,1,2,3,4,5,6,7,8,9,11,13,15,17],(.seq (.ops [oV 4 (.box 17 true (.v 0)),oV 5 (.box 7 true (.v 1)),oV 6 (.box 3 true (.v 2)),oV 7 (.box 3 true (.v 3)),oV 8 (.mov (.c (.bool false)))]) (.seq (.ops [lV 7 5,lV 3 6,oT (.pcall 38 [(.t 0),(.t 1)]),mt 2,eT 3 0,eT 3 1,vt 9 4,mt 5]) (.seq (.ops [lV 7 5,lV 3 7,oT (.pcall 38 [(.t 0),(.t 1)]),mt 2,eT 3 0,eT 3 1,vt 10 4,mt 5]) (.seq (.ops [fV 0 4,lS 1 0,mv 9,oT (.pcall 39 [(.t 1),(.t 2)]),mt 3,eT 4 0,eT 4 1,vt 11 5,mt 6]) (.seq (.ops [fV 0 4,lS 1 0,mv 10,oT (.pcall 39 [(.t 1),(.t 2)]),mt 3,eT 4 0,eT 4 1,vt 12 5,mt 6]) (.seq (.ops [fV 0 4,lS 1 0,mv 11,mv 12,oT (.pcall 74 [(.t 1),(.t 2),(.t 3)]),vt 13 4]) (.seq (.ops [mv 13,oT (.bin .lss .arith (.t 0) (k6 0)),mt 1,oG 2 false (.mov (.v 13)),oG 2 false (.bin .eql .arith (.t 3) (k6 0)),oG 2 false (.mov (.t 4)),oG 5 true (.load 3 true (.v 6)),oG 5 true (.load 3 true (.v 7)),oG 5 true (.pcall 75 [(.t 6),(.t 7)]),oG 2 false (.pick (.t 5) (.t 8) (.c (.bool false))),oT (.pick (.t 2) (.c (.bool true)) (.t 9)),vt 8 10]) .ret))))))),[.v 8],[]⟩
def c41:AFunc:=⟨[0,1,2,3,5,6,7,8,9,13,31,61],(.seq (.ops [oV 3 (.box 7 true (.v 0)),oV 4 (.box 3 true (.v 2)),oV 5 (.mov (.c nS))]) (.seq (.ops [oV 6 (.mov (.c nS))]) (.seq (.seq (.ops [oV 7 (.mov (k6 0))]) (.block 0 (.loop (.seq (.seq (.ops [mv 7,mv 1,oT (.len (.t 1)),oV 9 (.bin .lss .arith (.t 0) (.t 2))]) (.cond (.v 9) .skip (.exit 0))) (.seq (.block 1 (.seq (.seq (.ops [mv 6,mv 1,mv 7,iT 3 1 2,lT 3 3,oT (.pcall 19 [(.t 0),(.t 4)]),mt 5,oG 6 false (.load 7 true (.v 3)),oG 6 false (.mov (.v 1)),oG 6 false (.mov (.v 7)),oG 6 false (.iaddr 3 (.t 8) (.t 9)),oG 6 false (.load 3 true (.t 10)),oG 6 false (.load 3 true (.v 4)),oG 6 false (.pcall 37 [(.t 7),(.t 11),(.t 12)]),oG 6 false (.un .not (.t 13)),oV 10 (.pick (.t 6) (.c (.bool true)) (.t 14))]) (.cond (.v 10) (.exit 1) .skip)) (.seq (.ops [mv 6,oT (.len (.t 0)),vt 8 1]) (.seq (.ops [mv 6,mv 1,mv 7,iT 3 1 2,lT 3 3,oT (.lit 0 62 1 3 true [z6,z6,z6] [(0,(.t 4))]),oT (.append true 62 24 3 true (.t 0) (.t 5)),vt 6 6]) (.seq (.block 2 (.loop (.seq (.seq (.ops [mv 8,oT (.bin .gtr .arith (.t 0) (k6 0)),mt 1,oG 2 true (.load 7 true (.v 3)),oG 2 true (.mov (.v 1)),oG 2 true (.mov (.v 1)),oG 2 true (.mov (.v 7)),oG 2 true (.iaddr 3 (.t 5) (.t 6)),oG 2 true (.load 3 true (.t 7)),oG 2 true (.pcall 50 [(.t 3),(.t 4),(.t 8)]),oG 2 true (.load 7 true (.v 3)),oG 2 true (.mov (.v 1)),oG 2 true (.mov (.v 6)),oG 2 true (.mov (.v 8)),oG 2 true (.bin .sub .arith (.t 13) (k6 1)),oG 2 true (.iaddr 3 (.t 12) (.t 14)),oG 2 true (.load 3 true (.t 15)),oG 2 true (.pcall 50 [(.t 10),(.t 11),(.t 16)]),oG 2 true (.pcall 76 [(.t 9),(.t 17)]),oG 2 true (.bin .lss .arith (.t 18) (k6 0)),oV 11 (.pick (.t 2) (.t 19) (.c (.bool false)))]) (.cond (.v 11) .skip (.exit 2))) (.block 3 (.seq (.ops [mv 6,mv 8,mv 6,mv 8,oT (.bin .sub .arith (.t 3) (k6 1)),iT 3 2 4,lT 3 5,iT 3 0 1,sT 3 7 6]) (.ops [mv 8,oT (.bin .sub .arith (.t 0) (k6 1)),vt 8 1])))))) (.ops [mv 6,mv 8,mv 1,mv 7,iT 3 2 3,lT 3 4,iT 3 0 1,sT 3 6 5])))))) (.ops [mv 7,oT (.bin .add .arith (.t 0) (k6 1)),vt 7 1])))))) (.seq (.ops [mv 6,vt 5 0]) .ret)))),[.v 5],[]⟩
def c50:AFunc:=⟨[0,1,2,3,5,6,7,8,9,10,19,30],(.seq (.ops [oV 3 (.box 7 true (.v 0)),oV 4 (.box 3 true (.v 2)),oV 5 (.mov (.c nS))]) (.seq (.ops [lV 7 3,mv 1,lV 3 4,oT (.pcall 86 [(.t 0),(.t 1),(.t 2)]),oT (.lit 0 3 1 1 false [z6] [(0,(.t 3))]),vt 6 4]) (.seq (.seq (.ops [oV 7 (.mov (k6 0))]) (.block 0 (.loop (.seq (.seq (.ops [mv 7,mv 1,oT (.len (.t 1)),oV 10 (.bin .lss .arith (.t 0) (.t 2))]) (.cond (.v 10) .skip (.exit 0))) (.seq (.block 1 (.seq (.ops [lV 7 3,mv 1,lV 3 4,oT (.pcall 20 [(.t 0),(.t 1),(.t 2)]),mt 3,eT 4 0,eT 4 1,oV 8 (.alloc 62 3 true [z6,z6,z6]),sV 3 8 5,vt 9 6]) (.seq (.seq (.ops [mv 9,oV 11 (.un .not (.t 0))]) (.cond (.v 11) (.seq (.ops [mv 6,vt 5 0]) .ret) .skip)) (.seq (.ops [lV 7 3,mv 1,lV 3 8,oT (.pcall 86 [(.t 0),(.t 1),(.t 2)]),oT (.lit 1 3 1 1 false [z6] [(0,(.t 3))]),mv 6,oT (.append false 3 8 1 false (.t 4) (.t 5)),vt 6 6]) (.ops [lV 3 8,sV 3 4 0]))))) (.ops [mv 7,oT (.bin .add .arith (.t 0) (k6 1)),vt 7 1])))))) (.seq (.ops [mv 6,vt 5 0]) .ret)))),[.v 5],[]⟩
def c53:AFunc:=⟨[0,1,4,5,7,8,9,16],(.seq (.ops [oV 2 (.mov (k6 0))]) (.seq (.seq (.ops [mv 0,oV 4 (.len (.t 0)),oV 5 (.mov (k6 0))]) (.block 0 (.loop (.seq (.ops [oV 6 (.bin .lss .arith (.v 5) (.v 4))]) (.seq (.cond (.v 6) .skip (.exit 0)) (.seq (.block 1 (.seq (.ops [mv 5,vt 3 0]) (.seq (.ops [mv 1,mv 0,mv 3,iT 5 1 2,lT 5 3,oV 7 (.call (.t 0) [(.t 4)])]) (.cond (.v 7) (.seq (.ops [mv 3,vt 2 0]) .ret) .skip)))) (.ops [oT (.bin .add .arith (.v 5) (k6 1)),vt 5 0]))))))) (.seq (.ops [oV 2 (.mov (k6 (-1)))]) .ret))),[.v 2],[]⟩
def c54:AFunc:=⟨[0,1,2,3],(.seq (.ops [oV 2 (.box 5 true (.v 0)),oV 3 (.mov (.c (.bool false)))]) (.seq (.ops [fV 0 2,lT 3 0,fV 3 1,lT 3 2,oT (.bin .eql (.struct [.int,.int,.int]) (.t 1) (.t 3)),vt 3 4]) .ret)),[.v 3],[]⟩
def c55:AFunc:=⟨[0,1,4,5,7,8,9,16],(.seq (.ops [oV 2 (.mov (k6 0))]) (.seq (.seq (.ops [mv 0,oV 4 (.len (.t 0)),oV 5 (.mov (k6 0))]) (.block 0 (.loop (.seq (.ops [oV 6 (.bin .lss .arith (.v 5) (.v 4))]) (.seq (.cond (.v 6) .skip (.exit 0)) (.seq (.block 1 (.seq (.ops [mv 5,vt 3 0]) (.seq (.ops [mv 1,mv 0,mv 3,iT 14 1 2,lT 14 3,oV 7 (.call (.t 0) [(.t 4)])]) (.cond (.v 7) (.seq (.ops [mv 3,vt 2 0]) .ret) .skip)))) (.ops [oT (.bin .add .arith (.v 5) (k6 1)),vt 5 0]))))))) (.seq (.ops [oV 2 (.mov (k6 (-1)))]) .ret))),[.v 2],[]⟩
def c56:AFunc:=⟨[0,1,2,3],(.seq (.ops [oV 2 (.box 14 true (.v 0)),oV 3 (.mov (.c (.bool false)))]) (.seq (.ops [fV 0 2,lT 3 0,lV 3 1,oT (.bin .eql (.struct [.int,.int,.int]) (.t 1) (.t 2)),vt 3 3]) .ret)),[.v 3],[]⟩
def c57:AFunc:=⟨[0,1,2,3,4,5,6,11,21],(.seq (.ops [oV 2 (.box 7 true (.v 0)),oV 3 (.box 3 true (.v 1)),oV 4 (.alloc 67 14 true [z6,z6,z6,z6,z6,z6,nS,nS,nS,nS,nS,nS,nS,nS]),oV 5 (.mov (.c (.bool false)))]) (.seq (.seq (.ops [oV 6 (.mov (k6 0))]) (.block 0 (.loop (.seq (.seq (.ops [mv 6,fV 1 2,lS 1 1,oT (.len (.t 2)),oV 7 (.bin .lss .arith (.t 0) (.t 3))]) (.cond (.v 7) .skip (.exit 0))) (.seq (.block 1 (.seq (.ops [fV 1 2,lS 1 0,mv 6,iT 14 1 2,fT 0 3,lT 3 4,lV 3 3,oV 8 (.bin .eql (.struct [.int,.int,.int]) (.t 5) (.t 6))]) (.cond (.v 8) (.seq (.ops [fV 1 2,lS 1 0,mv 6,iT 14 1 2,lT 14 3,sV 14 4 4,oV 5 (.mov (.c (.bool true)))]) .ret) .skip))) (.ops [mv 6,oT (.bin .add .arith (.t 0) (k6 1)),vt 6 1])))))) (.seq (.ops [oT (.build [z6,z6,z6,z6,z6,z6,nS,nS,nS,nS,nS,nS,nS,nS] []),sV 14 4 0,oV 5 (.mov (.c (.bool false)))]) .ret))),[.c 4 14 true,.v 5],[]⟩
def c58:AFunc:=⟨[0,2],(.seq (.ops [oV 1 (.alloc 139 3 true [z6,nS,nS])]) (.seq (.ops [mv 0,oT (.build [z6,nS,nS] [(0,1,(k6 2)),(1,1,(.t 0))]),sV 3 1 1]) .ret)),[.c 1 3 true],[]⟩
def c59:AFunc:=⟨[0,1,2,5],(.seq (.ops [oV 1 (.box 3 true (.v 0)),oV 2 (.alloc 139 3 true [z6,nS,nS])]) (.seq (.seq (.ops [lV 3 1,oT (.call (.c (.fn 87 [])) [(.t 0)]),oV 3 (.un .not (.t 1))]) (.cond (.v 3) (.seq (.ops [oT (.build [z6,nS,nS] []),sV 3 2 0]) .ret) .skip)) (.seq (.ops [lV 3 1,oT (.call (.c (.fn 88 [])) [(.t 0),(.c (.bool false))]),sV 3 2 1]) .ret))),[.c 2 3 true],[]⟩
def c60:AFunc:=⟨[0,2,3,4,8,16,23,36,46,50],(.seq (.ops [oV 1 (.alloc 139 3 true [z6,nS,nS])]) (.seq (.ops [oV 2 (.mov (.c nS))]) (.seq (.seq (.ops [oV 3 (.mov (k6 0))]) (.block 0 (.loop (.seq (.seq (.ops [mv 3,mv 0,oT (.len (.t 1)),oV 4 (.bin .lss .arith (.t 0) (.t 2))]) (.cond (.v 4) .skip (.exit 0))) (.seq (.block 1 (.seq (.seq (.ops [mv 0,mv 3,iT 3 0 1,fT 0 2,lS 1 3,oV 5 (.bin .eql .arith (.t 4) (k6 0))]) (.cond (.v 5) (.seq (.ops [oT (.build [z6,nS,nS] []),sV 3 1 0]) .ret) .skip)) (.seq (.ops [mv 0,mv 3,iT 3 0 1,fT 0 2,lS 1 3,oV 6 (.bin .eql .arith (.t 4) (k6 3))]) (.cond (.v 6) (.ops [mv 2,mv 0,mv 3,iT 3 1 2,fT 2 3,lS 1 4,oT (.append false 139 56 3 true (.t 0) (.t 5)),vt 2 6]) (.seq (.ops [mv 0,mv 3,iT 3 0 1,fT 0 2,lS 1 3,oV 7 (.bin .neq .arith (.t 4) (k6 1))]) (.cond (.v 7) (.ops [mv 2,mv 0,mv 3,iT 3 1 2,lT 3 3,oT (.lit 0 139 1 3 true [z6,nS,nS] [(0,(.t 4))]),oT (.append false 139 56 3 true (.t 0) (.t 5)),vt 2 6]) .skip)))))) (.ops [mv 3,oT (.bin .add .arith (.t 0) (k6 1)),vt 3 1])))))) (.seq (.seq (.ops [mv 2,oT (.len (.t 0)),oV 8 (.bin .eql .arith (.t 1) (k6 0))]) (.cond (.v 8) (.seq (.ops [oT (.build [z6,nS,nS] [(0,1,(k6 1))]),sV 3 1 0]) .ret) .skip)) (.seq (.seq (.ops [mv 2,oT (.len (.t 0)),oV 9 (.bin .eql .arith (.t 1) (k6 1))]) (.cond (.v 9) (.seq (.ops [mv 2,oT (.iaddr 3 (.t 0) (k6 0)),lT 3 1,sV 3 1 2]) .ret) .skip)) (.seq (.ops [mv 2,oT (.call (.c (.fn 89 [])) [(k6 3),(.t 0)]),sV 3 1 1]) .ret)))))),[.c 1 3 true],[]⟩
def c61:AFunc:=⟨[0,1,2,3,4,12,16,20,25,34],(.seq (.ops [oV 1 (.box 3 true (.v 0)),oV 2 (.alloc 139 3 true [z6,nS,nS])]) (.seq (.seq (.ops [fV 0 1,lS 1 0,oT (.bin .eql .arith (.t 1) (k6 0)),mt 2,oG 3 false (.faddr 0 (.v 1)),oG 3 false (.load 1 false (.t 4)),oG 3 false (.bin .eql .arith (.t 5) (k6 1)),oV 5 (.pick (.t 3) (.c (.bool true)) (.t 6))]) (.cond (.v 5) (.seq (.ops [oT (.build [z6,nS,nS] [(0,1,(k6 1))]),sV 3 2 0]) .ret) .skip)) (.seq (.seq (.ops [fV 0 1,lS 1 0,oV 6 (.bin .eql .arith (.t 1) (k6 5))]) (.cond (.v 6) (.seq (.ops [lV 3 1,sV 3 2 0]) .ret) .skip)) (.seq (.seq (.ops [fV 0 1,lS 1 0,oV 7 (.bin .eql .arith (.t 1) (k6 4))]) (.cond (.v 7) (.seq (.ops [oV 3 (.mov (.c nS))]) (.seq (.seq (.ops [oV 4 (.mov (k6 0))]) (.block 0 (.loop (.seq (.seq (.ops [mv 4,fV 2 1,lS 1 1,oT (.len (.t 2)),oV 8 (.bin .lss .arith (.t 0) (.t 3))]) (.cond (.v 8) .skip (.exit 0))) (.seq (.block 1 (.seq (.ops [fV 2 1,lS 1 0,mv 4,iT 3 1 2,fT 0 3,lS 1 4,oV 9 (.bin .neq .arith (.t 5) (k6 1))]) (.cond (.v 9) (.ops [mv 3,fV 2 1,lS 1 1,mv 4,iT 3 2 3,lT 3 4,oT (.lit 0 139 1 3 true [z6,nS,nS] [(0,(.t 5))]),oT (.append false 139 56 3 true (.t 0) (.t 6)),vt 3 7]) .skip))) (.ops [mv 4,oT (.bin .add .arith (.t 0) (k6 1)),vt 4 1])))))) (.ops [mv 3,oT (.call (.c (.fn 90 [])) [(.t 0)]),sV 3 1 1]))) .skip)) (.seq (.ops [lV 3 1,oT (.lit 0 139 1 3 true [z6,nS,nS] [(0,(.t 0))]),oT (.call (.c (.fn 89 [])) [(k6 5),(.t 1)]),sV 3 2 2]) .ret))))),[.c 2 3 true],[]⟩
def c62:AFunc:=⟨[0,2,3,4,5,9,13,14,15,16,61,73,83],(.seq (.ops [oV 1 (.mov (.c .nilmp))]) (.seq (.seq (.ops [mv 0,oT (.len (.t 0)),oT (.pcall 91 [(.t 1),(k6 1),(k6 60)]),oV 5 (.un .not (.t 2))]) (.cond (.v 5) (.seq (.ops [oV 1 (.mov (.c .nilmp))]) .ret) .skip)) (.seq (.ops [mv 0,oT (.len (.t 0)),oT (.x (.mkmap .str) [(.t 1)]),vt 2 2]) (.seq (.seq (.ops [vv 6 0,oV 7 (.len (.v 6)),oV 8 (.mov (k6 0))]) (.block 0 (.loop (.seq (.ops [oV 9 (.bin .lss .arith (.v 8) (.v 7))]) (.seq (.cond (.v 9) .skip (.exit 0)) (.seq (.block 1 (.seq (.ops [mv 8,oT (.iaddr 5 (.v 6) (.v 8)),lT 5 1,oV 4 (.alloc 110 5 true [(.str []),z6,z6,z6,z6]),vt 3 0,sV 5 4 2]) (.seq (.seq (.ops [fV 0 4,lS 1 0,oT (.pcall 92 [(.t 1)]),oT (.un .not (.t 2)),mt 3,oG 4 false (.faddr 1 (.v 4)),oG 4 false (.load 1 false (.t 5)),oG 4 false (.mov (.v 0)),oG 4 false (.len (.t 7)),oG 4 false (.bin .sub .arith (.t 8) (k6 1)),oG 4 false (.pcall 91 [(.t 6),(k6 0),(.t 9)]),oG 4 false (.un .not (.t 10)),oT (.pick (.t 4) (.c (.bool true)) (.t 11)),mt 12,oG 13 false (.mov (.v 0)),oG 13 false (.faddr 1 (.v 4)),oG 13 false (.load 1 false (.t 15)),oG 13 false (.iaddr 5 (.t 14) (.t 16)),oG 13 false (.faddr 1 (.t 17)),oG 13 false (.load 1 false (.t 18)),oG 13 false (.faddr 1 (.v 4)),oG 13 false (.load 1 false (.t 20)),oG 13 false (.bin .neq .arith (.t 19) (.t 21)),oT (.pick (.t 13) (.c (.bool true)) (.t 22)),mt 23,oG 24 false (.faddr 2 (.v 4)),oG 24 false (.load 1 false (.t 25)),oG 24 false (.pcall 91 [(.t 26),(k6 0),(k6 15)]),oG 24 false (.un .not (.t 27)),oT (.pick (.t 24) (.c (.bool true)) (.t 28)),mt 29,oG 30 false (.faddr 3 (.v 4)),oG 30 false (.load 1 false (.t 31)),oG 30 false (.pcall 91 [(.t 32),(k6 0),(k6 1)]),oG 30 false (.un .not (.t 33)),oT (.pick (.t 30) (.c (.bool true)) (.t 34)),mt 35,oG 36 false (.faddr 4 (.v 4)),oG 36 false (.load 1 false (.t 37)),oG 36 false (.pcall 91 [(.t 38),(k6 1),(k6 1000)]),oG 36 false (.un .not (.t 39)),oV 10 (.pick (.t 36) (.c (.bool true)) (.t 40))]) (.cond (.v 10) (.seq (.ops [oV 1 (.mov (.c .nilmp))]) .ret) .skip)) (.seq (.seq (.ops [fV 1 4,lS 1 0,mv 3,oT (.bin .eql .arith (.t 1) (.t 2)),mt 3,oG 4 true (.faddr 2 (.v 4)),oG 4 true (.load 1 false (.t 5)),oG 4 true (.faddr 3 (.v 4)),oG 4 true (.load 1 false (.t 7)),oG 4 true (.bin .add .arith (.t 6) (.t 8)),oG 4 true (.bin .gtr .arith (.t 9) (k6 0)),oV 11 (.pick (.t 4) (.t 10) (.c (.bool false)))]) (.cond (.v 11) (.seq (.ops [oV 1 (.mov (.c .nilmp))]) .ret) .skip)) (.ops [mv 2,fV 0 4,lS 1 1,mv 3,oN (.x (.mput .str) [(.t 0),(.t 2),(.t 3)])]))))) (.ops [oT (.bin .add .arith (.v 8) (k6 1)),vt 8 0]))))))) (.seq (.seq (.ops [mv 2,oT (.x .mlen [(.t 0)]),mv 0,oT (.len (.t 2)),oV 12 (.bin .lss .arith (.t 1) (.t 3))]) (.cond (.v 12) (.seq (.ops [oV 1 (.mov (.c .nilmp))]) .ret) .skip)) (.seq (.ops [mv 2,vt 1 0]) .ret)))))),[.v 1],[]⟩
def c63:AFunc:=⟨[0,2,3,4,6,9,14,15,16,17,25],(.seq (.ops [oV 1 (.alloc 83 7 true [(.str []),z6,z6,z6,z6,z6,z6]),oV 2 (.mov (k6 0))]) (.seq (.seq (.ops [mv 0,oT (.len (.t 0)),oV 5 (.bin .eql .arith (.t 1) (k6 0))]) (.cond (.v 5) (.seq (.ops [oT (.build [(.str []),z6,z6,z6,z6,z6,z6] []),sV 7 1 0,oV 2 (.mov (k6 6))]) .ret) .skip)) (.seq (.ops [mv 0,oT (.iaddr 7 (.t 0) (k6 0)),lT 7 1,oV 3 (.alloc 83 7 true [(.str []),z6,z6,z6,z6,z6,z6]),sV 7 3 2]) (.seq (.seq (.ops [vv 6 0,oV 7 (.len (.v 6)),oV 8 (.mov (k6 0))]) (.block 0 (.loop (.seq (.ops [oV 9 (.bin .lss .arith (.v 8) (.v 7))]) (.seq (.cond (.v 9) .skip (.exit 0)) (.seq (.block 1 (.seq (.ops [oT (.iaddr 7 (.v 6) (.v 8)),lT 7 0,oV 4 (.alloc 83 7 true [(.str []),z6,z6,z6,z6,z6,z6]),sV 7 4 1]) (.seq (.ops [fV 4 3,lT 3 0,fV 4 4,sT 3 2 1]) (.seq (.ops [lV 7 4,lV 7 3,oV 10 (.bin .neq (.struct [.str,.int,.int,.int,.int,.int,.int]) (.t 0) (.t 1))]) (.cond (.v 10) (.seq (.ops [oT (.build [(.str []),z6,z6,z6,z6,z6,z6] []),sV 7 1 0,oV 2 (.mov (k6 15))]) .ret) .skip))))) (.ops [oT (.bin .add .arith (.v 8) (k6 1)),vt 8 0]))))))) (.seq (.ops [lV 7 3,sV 7 1 0,oV 2 (.mov (k6 0))]) .ret))))),[.c 1 7 true,.v 2],[]⟩
def c64:AFunc:=⟨[0,1,2,3,4,10,11,12,13,14,15,16,17,18,19,20,25,32,39,56,75,80,97,125],(.seq (.ops [oV 5 (.mov (.c (.bool true)))]) (.seq (.ops [oV 6 (.mov (.c (.bool true)))]) (.block 0 (.loop (.block 1 (.seq (.ops [mv 2,mv 1,oT (.bin .sub .arith (.t 0) (.t 1)),vt 7 2]) (.seq (.seq (.ops [mv 7,oV 16 (.bin .leq .arith (.t 0) (k6 12))]) (.cond (.v 16) (.seq (.ops [mv 0,mv 1,mv 2,mv 4,oT (.call (.c (.fn 93 [])) [(.t 0),(.t 1),(.t 2),(.t 3)])]) .ret) .skip)) (.seq (.seq (.ops [mv 3,oV 17 (.bin .eql .arith (.t 0) (k6 0))]) (.cond (.v 17) (.seq (.ops [mv 0,mv 1,mv 2,mv 4,oT (.call (.c (.fn 94 [])) [(.t 0),(.t 1),(.t 2),(.t 3)])]) .ret) .skip)) (.seq (.seq (.ops [mv 5,oV 18 (.un .not (.t 0))]) (.cond (.v 18) (.seq (.ops [mv 0,mv 1,mv 2,mv 4,oT (.call (.c (.fn 95 [])) [(.t 0),(.t 1),(.t 2),(.t 3)])]) (.ops [mv 3,oT (.bin .sub .arith (.t 0) (k6 1)),vt 3 1])) .skip)) (.seq (.ops [mv 0,mv 1,mv 2,mv 4,oT (.call (.c (.fn 96 [])) [(.t 0),(.t 1),(.t 2),(.t 3)]),mt 4,eT 5 0,eT 5 1,vt 8 6,vt 9 7]) (.seq (.seq (.ops [mv 9,oV 19 (.bin .eql .arith (.t 0) (k6 2))]) (.cond (.v 19) (.seq (.ops [mv 0,mv 1,mv 2,mv 4,oT (.call (.c (.fn 97 [])) [(.t 0),(.t 1),(.t 2),(.t 3)])]) (.seq (.ops [mv 2,oT (.bin .sub .arith (.t 0) (k6 1)),mv 8,mv 1,oT (.bin .sub .arith (.t 2) (.t 3)),oT (.bin .sub .arith (.t 1) (.t 4)),vt 8 5]) (.ops [oV 9 (.mov (k6 1))]))) .skip)) (.seq (.seq (.ops [mv 5,mt 0,oG 1 true (.mov (.v 6)),oT (.pick (.t 1) (.t 2) (.c (.bool false))),mt 3,oG 4 true (.mov (.v 9)),oG 4 true (.bin .eql .arith (.t 5) (k6 1)),oV 20 (.pick (.t 4) (.t 6) (.c (.bool false)))]) (.cond (.v 20) (.seq (.ops [mv 0,mv 1,mv 2,mv 4,oV 21 (.call (.c (.fn 98 [])) [(.t 0),(.t 1),(.t 2),(.t 3)])]) (.cond (.v 21) .ret .skip)) .skip)) (.seq (.seq (.ops [mv 1,oT (.bin .gtr .arith (.t 0) (k6 0)),mt 1,oG 2 true (.mov (.v 4)),oG 2 true (.mov (.v 0)),oG 2 true (.mov (.v 1)),oG 2 true (.bin .sub .arith (.t 5) (k6 1)),oG 2 true (.iaddr 3 (.t 4) (.t 6)),oG 2 true (.load 3 true (.t 7)),oG 2 true (.mov (.v 0)),oG 2 true (.mov (.v 8)),oG 2 true (.iaddr 3 (.t 9) (.t 10)),oG 2 true (.load 3 true (.t 11)),oG 2 true (.call (.t 3) [(.t 8),(.t 12)]),oG 2 true (.bin .lss .arith (.t 13) (k6 0)),oG 2 true (.un .not (.t 14)),oV 22 (.pick (.t 2) (.t 15) (.c (.bool false)))]) (.cond (.v 22) (.seq (.ops [mv 0,mv 1,mv 2,mv 8,mv 4,oT (.call (.c (.fn 99 [])) [(.t 0),(.t 1),(.t 2),(.t 3),(.t 4)]),vt 10 5]) (.seq (.ops [mv 10,vt 1 0]) (.exit 1))) .skip)) (.seq (.ops [mv 0,mv 1,mv 2,mv 8,mv 4,oT (.call (.c (.fn 100 [])) [(.t 0),(.t 1),(.t 2),(.t 3),(.t 4)]),mt 5,eT 6 0,eT 6 1,vt 11 7,vt 12 8]) (.seq (.ops [mv 12,vt 6 0]) (.seq (.ops [mv 11,mv 1,oT (.bin .sub .arith (.t 0) (.t 1)),mv 2,mv 11,oT (.bin .sub .arith (.t 3) (.t 4)),vt 13 2,vt 14 5]) (.seq (.ops [mv 7,oT (.bin .quo .arith (.t 0) (k6 8)),vt 15 1]) (.seq (.ops [mv 13,mv 14,oV 23 (.bin .lss .arith (.t 0) (.t 1))]) (.cond (.v 23) (.seq (.ops [mv 13,mv 15,oT (.bin .geq .arith (.t 0) (.t 1)),vt 5 2]) (.seq (.ops [mv 0,mv 1,mv 11,mv 3,mv 4,oT (.call (.c (.fn 64 [])) [(.t 0),(.t 1),(.t 2),(.t 3),(.t 4)])]) (.ops [mv 11,oT (.bin .add .arith (.t 0) (k6 1)),vt 1 1]))) (.seq (.ops [mv 14,mv 15,oT (.bin .geq .arith (.t 0) (.t 1)),vt 5 2]) (.seq (.ops [mv 0,mv 11,oT (.bin .add .arith (.t 1) (k6 1)),mv 2,mv 3,mv 4,oT (.call (.c (.fn 64 [])) [(.t 0),(.t 2),(.t 3),(.t 4),(.t 5)])]) (.ops [mv 11,vt 2 0])))))))))))))))))))))),[],[]⟩
def c65:AFunc:=⟨[0,2],(.seq (.ops [oV 1 (.mov (k6 0))]) (.seq (.cond (.c (.bool false)) (.seq (.ops [mv 0,oT (.toInt .u32 (.t 0)),oT (.call (.c (.fn 101 [])) [(.t 1)]),vt 1 2]) .ret) .skip) (.seq (.ops [mv 0,oT (.call (.c (.fn 102 [])) [(.t 0)]),vt 1 1]) .ret))),[.v 1],[]⟩
def c66:AFunc:=⟨[0,1,4,5,6,7,8,9,10,11,12,19,28,35],(.seq (.ops [oV 2 (.mov (k6 0))]) (.seq (.seq (.ops [vv 7 0,oV 8 (.len (.v 7)),oV 9 (.mov (k6 0))]) (.block 0 (.loop (.seq (.ops [oV 10 (.bin .lss .arith (.v 9) (.v 8))]) (.seq (.cond (.v 10) .skip (.exit 0)) (.seq (.block 1 (.seq (.ops [mv 9,oT (.iaddr 1 (.v 7) (.v 9)),lS 1 1,vt 3 0,vt 4 2]) (.seq (.seq (.ops [mv 3,mv 1,oT (.len (.t 1)),oV 11 (.bin .geq .arith (.t 0) (.t 2))]) (.cond (.v 11) (.seq (.ops [oV 2 (.mov (k6 1))]) .ret) .skip)) (.seq (.ops [mv 1,mv 3,iT 1 0 1,lS 1 2,vt 5 3]) (.seq (.ops [mv 4,mv 5,oT (.pcall 68 [(.t 0),(.t 1)]),vt 6 2]) (.seq (.ops [mv 6,oV 12 (.bin .neq .arith (.t 0) (k6 0))]) (.cond (.v 12) (.seq (.ops [mv 6,vt 2 0]) .ret) .skip))))))) (.ops [oT (.bin .add .arith (.v 9) (k6 1)),vt 9 0]))))))) (.seq (.seq (.ops [mv 0,oT (.len (.t 0)),mv 1,oT (.len (.t 2)),oV 13 (.bin .lss .arith (.t 1) (.t 3))]) (.cond (.v 13) (.seq (.ops [oV 2 (.mov (k6 (-1)))]) .ret) .skip)) (.seq (.ops [oV 2 (.mov (k6 0))]) .ret)))),[.v 2],[]⟩
def c67:AFunc:=⟨[0,1,4,7],(.seq (.ops [oV 2 (.mov (.c nS))]) (.seq (.seq (.ops [mv 0,oT (.call (.c (.fn 103 [])) [(.t 0),(k6 4)]),oV 3 (.un .not (.t 1))]) (.cond (.v 3) (.seq (.ops [oV 2 (.mov (.c nS))]) .ret) .skip)) (.seq (.ops [mv 0,mv 1,oT (.call (.c (.fn 104 [])) [(.t 0),(.t 1),(k6 4)]),vt 2 2]) .ret))),[.v 2],[]⟩
def c68:AFunc:=⟨[0,1,4,5,6,11,12,13,16,19],(.seq (.ops [oV 2 (.mov (k6 0))]) (.seq (.ops [mv 0,oT (.pcall 105 [(.t 0)]),vt 3 1]) (.seq (.ops [mv 1,oT (.pcall 105 [(.t 0)]),vt 4 1]) (.seq (.seq (.ops [vv 5 3]) (.cond (.v 5) (.seq (.seq (.ops [vv 6 4]) (.cond (.v 6) (.seq (.ops [oV 2 (.mov (k6 0))]) .ret) .skip)) (.seq (.ops [oV 2 (.mov (k6 (-1)))]) .ret)) .skip)) (.seq (.seq (.ops [vv 7 4]) (.cond (.v 7) (.seq (.ops [oV 2 (.mov (k6 1))]) .ret) .skip)) (.seq (.seq (.ops [mv 0,mv 1,oV 8 (.bin .lss .arith (.t 0) (.t 1))]) (.cond (.v 8) (.seq (.ops [oV 2 (.mov (k6 (-1)))]) .ret) .skip)) (.seq (.seq (.ops [mv 0,mv 1,oV 9 (.bin .gtr .arith (.t 0) (.t 1))]) (.cond (.v 9) (.seq (.ops [oV 2 (.mov (k6 1))]) .ret) .skip)) (.seq (.ops [oV 2 (.mov (k6 0))]) .ret)))))))),[.v 2],[]⟩
def c69:AFunc:=⟨[0,1,2,3,4,6,7,8,9,11,12,13,15,16,17,18,19,21,26,27,28,29,44,48,49,50,51,62,73,74,75,84,88,101,116,118],(.seq (.ops [oV 3 (.box 7 true (.v 0)),oV 4 (.box 3 true (.v 1)),oV 5 (.alloc 167 2 true [nS,.nilmp])]) (.seq (.ops [oT (.x (.mkmap (.stk [.int .i64,.int .i64,.int .i64])) []),oT (.build [nS,.nilmp] [(1,1,(.t 0))]),oV 6 (.alloc 167 2 true [nS,.nilmp]),sV 2 6 1]) (.seq (.ops [oT (.x (.mkmap (.stk [.int .i64,.int .i64,.int .i64])) []),vt 7 0]) (.seq (.ops [oT (.x (.mkmap (.stk [.int .i64,.int .i64,.int .i64])) []),vt 8 0]) (.seq (.seq (.ops [vv 18 2,oV 19 (.len (.v 18)),oV 20 (.mov (k6 0))]) (.block 0 (.loop (.seq (.ops [oV 21 (.bin .lss .arith (.v 20) (.v 19))]) (.seq (.cond (.v 21) .skip (.exit 0)) (.seq (.block 1 (.seq (.ops [oT (.iaddr 3 (.v 18) (.v 20)),lT 3 0,oV 9 (.alloc 62 3 true [z6,z6,z6]),sV 3 9 1]) (.seq (.ops [lV 7 3,lV 3 9,oT (.pcall 17 [(.t 0),(.t 1)]),mt 2,eT 3 0,eT 3 1,oV 10 (.alloc 70 5 true [z6,z6,z6,nS,nS]),sV 5 10 4,vt 11 5]) (.seq (.ops [mv 11,mt 0,oG 1 true (.faddr 0 (.v 10)),oG 1 true (.load 3 true (.t 2)),oG 1 true (.load 3 true (.v 4)),oG 1 true (.bin .eql (.struct [.int,.int,.int]) (.t 3) (.t 4)),oV 22 (.pick (.t 1) (.t 5) (.c (.bool false)))]) (.cond (.v 22) (.ops [mv 8,lV 3 9,oN (.x (.mput (.stk [.int .i64,.int .i64,.int .i64])) [(.t 0),(.t 1),(.c (.bool true))])]) .skip))))) (.ops [oT (.bin .add .arith (.v 20) (k6 1)),vt 20 0]))))))) (.seq (.seq (.ops [vv 23 2,oV 24 (.len (.v 23)),oV 25 (.mov (k6 0))]) (.block 2 (.loop (.seq (.ops [oV 26 (.bin .lss .arith (.v 25) (.v 24))]) (.seq (.cond (.v 26) .skip (.exit 2)) (.seq (.block 3 (.seq (.ops [oT (.iaddr 3 (.v 23) (.v 25)),lT 3 0,oV 12 (.alloc 62 3 true [z6,z6,z6]),sV 3 12 1]) (.seq (.seq (.ops [mv 8,lV 3 12,oT (.x (.mlook (.stk [.int .i64,.int .i64,.int .i64]) (.bool false) false) [(.t 0),(.t 1)]),oT (.un .not (.t 2)),mt 3,oG 4 false (.mov (.v 7)),oG 4 false (.load 3 true (.v 12)),oG 4 false (.x (.mlook (.stk [.int .i64,.int .i64,.int .i64]) (.bool false) false) [(.t 5),(.t 6)]),oV 27 (.pick (.t 4) (.c (.bool true)) (.t 7))]) (.cond (.v 27) (.exit 3) .skip)) (.seq (.ops [mv 7,lV 3 12,oN (.x (.mput (.stk [.int .i64,.int .i64,.int .i64])) [(.t 0),(.t 1),(.c (.bool true))])]) (.seq (.ops [oV 13 (.mov (.c (.bool false)))]) (.seq (.ops [lV 7 3,lV 3 12,oT (.pcall 18 [(.t 0),(.t 1)]),mt 2,eT 3 0,eT 3 1,oV 14 (.alloc 67 14 true [z6,z6,z6,z6,z6,z6,nS,nS,nS,nS,nS,nS,nS,nS]),sV 14 14 4,vt 15 5]) (.seq (.seq (.ops [fV 1 3,lS 1 0,oV 28 (.len (.t 1)),oV 29 (.mov (k6 0))]) (.block 4 (.loop (.seq (.ops [oV 30 (.bin .lss .arith (.v 29) (.v 28))]) (.seq (.cond (.v 30) .skip (.exit 4)) (.seq (.block 5 (.seq (.ops [lV 7 3,fV 3 14,lT 3 1,oT (.pcall 18 [(.t 0),(.t 2)]),mt 3,eT 4 0,eT 4 1,sV 14 14 5,vt 15 6]) (.seq (.seq (.ops [mv 15,oV 31 (.un .not (.t 0))]) (.cond (.v 31) (.exit 4) .skip)) (.seq (.ops [mv 2,fV 0 14,lT 3 1,oV 32 (.pcall 106 [(.t 0),(.t 2)])]) (.cond (.v 32) (.seq (.ops [fV 1 6,lS 1 0,fV 0 14,lT 3 2,lV 3 12,oT (.lit 0 62 1 3 true [z6,z6,z6] [(0,(.t 4))]),oT (.x (.mentry (.stk [.int .i64,.int .i64,.int .i64]) nS) [(.t 1),(.t 3)]),eT 6 0,oT (.append true 62 24 3 true (.t 7) (.t 5)),eT 6 1,oN (.x .mestore [(.t 1),(.t 9),(.t 8)])]) (.seq (.ops [oV 13 (.mov (.c (.bool true)))]) (.exit 4))) .skip))))) (.ops [oT (.bin .add .arith (.v 29) (k6 1)),vt 29 0]))))))) (.seq (.ops [mv 13,oV 33 (.un .not (.t 0))]) (.cond (.v 33) (.ops [fV 0 6,lS 1 0,lV 3 12,oT (.lit 0 62 1 3 true [z6,z6,z6] [(0,(.t 2))]),oT (.append true 62 24 3 true (.t 1) (.t 3)),fV 0 6,sT 1 5 4]) .skip))))))))) (.ops [oT (.bin .add .arith (.v 25) (k6 1)),vt 25 0]))))))) (.seq (.ops [oT (.clo 107 [(.v 3)]),vt 16 0]) (.seq (.ops [fV 0 6,lS 1 0,mv 16,oT (.call (.c (.fn 29 [])) [(.t 1),(.t 2)])]) (.seq (.seq (.ops [fV 1 6,lS 1 0,oV 34 (.x .mrange [(.t 1)])]) (.block 6 (.loop (.seq (.ops [oT (.x .mnext [(.v 34)]),oV 35 (.ext (.t 0) 0)]) (.seq (.cond (.v 35) .skip (.exit 6)) (.block 7 (.seq (.ops [oT (.x .mstep [(.v 34)]),eT 0 1,vt 17 1]) (.ops [mv 17,mv 16,oT (.call (.c (.fn 29 [])) [(.t 0),(.t 1)])])))))))) (.seq (.ops [lV 2 6,sV 2 5 0]) .ret)))))))))),[.c 5 2 true],[]⟩
def c70:AFunc:=⟨[0,1,2,3,4,8,9,10,11,12,13,14,15,16],(.seq (.ops [oV 4 (.box 2 true (.v 0)),oV 5 (.mov (.c nS))]) (.seq (.ops [oV 6 (.mov (.c nS))]) (.seq (.seq (.ops [vv 10 1,oV 11 (.len (.v 10)),oV 12 (.mov (k6 0))]) (.block 0 (.loop (.seq (.ops [oV 13 (.bin .lss .arith (.v 12) (.v 11))]) (.seq (.cond (.v 13) .skip (.exit 0)) (.seq (.block 1 (.seq (.ops [mv 12,oT (.iaddr 3 (.v 10) (.v 12)),lT 3 1,oV 8 (.alloc 62 3 true [z6,z6,z6]),vt 7 0,sV 3 8 2]) (.seq (.ops [mv 2,mv 7,oT (.bin .add .arith (.t 1) (k6 1)),mv 3,oT (.pcall 109 [(.t 2),(.t 3)]),oT (.bin .add .arith (.t 0) (.t 4)),vt 9 5]) (.seq (.ops [mv 6,lV 3 8,mv 9,oT (.build [z6,z6,z6,(.str [])] [(0,3,(.t 1)),(3,1,(.t 2))]),oT (.lit 0 105 1 4 true [z6,z6,z6,(.str [])] [(0,(.t 3))]),oT (.append false 105 40 4 true (.t 0) (.t 4)),vt 6 5]) (.ops [mv 6,lV 2 4,fV 1 4,lS 1 2,lV 3 8,oT (.x (.mlook (.stk [.int .i64,.int .i64,.int .i64]) nS false) [(.t 3),(.t 4)]),mv 9,oT (.bin .add .arith (.t 6) (.c (.str [46]))),mv 3,oT (.bin .add .arith (.t 8) (k6 1)),oT (.call (.c (.fn 70 [])) [(.t 1),(.t 5),(.t 7),(.t 9)]),oT (.append false 105 40 4 true (.t 0) (.t 10)),vt 6 11]))))) (.ops [oT (.bin .add .arith (.v 12) (k6 1)),vt 12 0]))))))) (.seq (.ops [mv 6,vt 5 0]) .ret)))),[.v 5],[]⟩
def c71:AFunc:=⟨[0,2,3,7,13],(.seq (.ops [oV 1 (.mov (.c (.bool false)))]) (.seq (.seq (.ops [oV 2 (.mov (k6 0))]) (.block 0 (.loop (.seq (.seq (.ops [mv 2,mv 0,oT (.slen (.t 1)),oV 3 (.bin .lss .arith (.t 0) (.t 2))]) (.cond (.v 3) .skip (.exit 0))) (.seq (.block 1 (.seq (.ops [mv 0,mv 2,oT (.sidx (.t 0) (.t 1)),oV 4 (.pcall 110 [(.t 2)])]) (.cond (.v 4) (.seq (.ops [oV 1 (.mov (.c (.bool false)))]) .ret) .skip))) (.ops [mv 2,oT (.bin .add .arith (.t 0) (k6 1)),vt 2 1])))))) (.seq (.ops [mv 0,oT (.slen (.t 0)),oT (.bin .geq .arith (.t 1) (k6 1)),mt 2,oG 3 true (.mov (.v 0)),oG 3 true (.slen (.t 4)),oG 3 true (.bin .leq .arith (.t 5) (k6 4)),oT (.pick (.t 3) (.t 6) (.c (.bool false))),vt 1 7]) .ret))),[.v 1],[]⟩
def c72:AFunc:=⟨[0,2,3,4,7,12,48],(.seq (.ops [oV 1 (.alloc 83 7 true [(.str []),z6,z6,z6,z6,z6,z6]),oV 2 (.mov (k6 0))]) (.seq (.seq (.ops [mv 0,oT (.len (.t 0)),oV 4 (.bin .eql .arith (.t 1) (k6 0))]) (.cond (.v 4) (.seq (.ops [oT (.build [(.str []),z6,z6,z6,z6,z6,z6] []),sV 7 1 0,oV 2 (.mov (k6 6))]) .ret) .skip)) (.seq (.seq (.ops [oV 3 (.mov (k6 1))]) (.block 0 (.loop (.seq (.seq (.ops [mv 3,mv 0,oT (.len (.t 1)),oV 5 (.bin .lss .arith (.t 0) (.t 2))]) (.cond (.v 5) .skip (.exit 0))) (.seq (.block 1 (.seq (.ops [mv 0,mv 3,iT 7 0 1,fT 0 2,lS 1 3,mv 0,oT (.iaddr 7 (.t 5) (k6 0)),fT 0 6,lS 1 7,oT (.bin .neq .arith (.t 4) (.t 8)),mt 9,oG 10 false (.mov (.v 0)),oG 10 false (.mov (.v 3)),oG 10 false (.iaddr 7 (.t 11) (.t 12)),oG 10 false (.faddr 1 (.t 13)),oG 10 false (.load 1 false (.t 14)),oG 10 false (.mov (.v 0)),oG 10 false (.iaddr 7 (.t 16) (k6 0)),oG 10 false (.faddr 1 (.t 17)),oG 10 false (.load 1 false (.t 18)),oG 10 false (.bin .neq .arith (.t 15) (.t 19)),oT (.pick (.t 10) (.c (.bool true)) (.t 20)),mt 21,oG 22 false (.mov (.v 0)),oG 22 false (.mov (.v 3)),oG 22 false (.iaddr 7 (.t 23) (.t 24)),oG 22 false (.faddr 2 (.t 25)),oG 22 false (.load 2 true (.t 26)),oG 22 false (.mov (.v 0)),oG 22 false (.iaddr 7 (.t 28) (k6 0)),oG 22 false (.faddr 2 (.t 29)),oG 22 false (.load 2 true (.t 30)),oG 22 false (.bin .neq (.struct [.int,.int]) (.t 27) (.t 31)),oV 6 (.pick (.t 22) (.c (.bool true)) (.t 32))]) (.cond (.v 6) (.seq (.ops [oT (.build [(.str []),z6,z6,z6,z6,z6,z6] []),sV 7 1 0,oV 2 (.mov (k6 15))]) .ret) .skip))) (.ops [mv 3,oT (.bin .add .arith (.t 0) (k6 1)),vt 3 1])))))) (.seq (.ops [mv 0,oT (.iaddr 7 (.t 0) (k6 0)),lT 7 1,sV 7 1 2,oV 2 (.mov (k6 0))]) .ret)))),[.c 1 7 true,.v 2],[]⟩
def c73:AFunc:=⟨[0,1,2,6,7,8,9,13,55],(.seq (.ops [oV 3 (.mov (k6 0))]) (.seq (.ops [oV 4 (.mov (k6 (-1)))]) (.seq (.seq (.ops [oV 5 (.mov (k6 0))]) (.block 0 (.loop (.seq (.seq (.ops [mv 5,mv 0,oT (.len (.t 1)),oV 7 (.bin .lss .arith (.t 0) (.t 2))]) (.cond (.v 7) .skip (.exit 0))) (.seq (.block 1 (.seq (.ops [mv 0,mv 5,iT 5 0 1,fT 0 2,lS 1 3,oT (.slen (.t 4)),vt 6 5]) (.seq (.ops [mv 2,mv 6,oT (.bin .add .arith (.t 0) (.t 1)),mv 1,oT (.slen (.t 3)),oT (.bin .leq .arith (.t 2) (.t 4)),mt 5,oG 6 true (.mov (.v 1)),oG 6 true (.mov (.v 2)),oG 6 true (.mov (.v 2)),oG 6 true (.mov (.v 6)),oG 6 true (.bin .add .arith (.t 9) (.t 10)),oG 6 true (.sslice (.t 7) (some (.t 8)) (some (.t 11))),oG 6 true (.mov (.v 0)),oG 6 true (.mov (.v 5)),oG 6 true (.iaddr 5 (.t 13) (.t 14)),oG 6 true (.faddr 0 (.t 15)),oG 6 true (.load 1 false (.t 16)),oG 6 true (.bin .eql .arith (.t 12) (.t 17)),oT (.pick (.t 6) (.t 18) (.c (.bool false))),mt 19,oG 20 true (.mov (.v 4)),oG 20 true (.bin .lss .arith (.t 21) (k6 0)),oG 20 true (.mov (.t 22)),oG 23 false (.mov (.v 6)),oG 23 false (.mov (.v 0)),oG 23 false (.mov (.v 4)),oG 23 false (.iaddr 5 (.t 25) (.t 26)),oG 23 false (.faddr 0 (.t 27)),oG 23 false (.load 1 false (.t 28)),oG 23 false (.slen (.t 29)),oG 23 false (.bin .gtr .arith (.t 24) (.t 30)),oG 20 true (.pick (.t 23) (.c (.bool true)) (.t 31)),oV 8 (.pick (.t 20) (.t 32) (.c (.bool false)))]) (.cond (.v 8) (.ops [mv 5,vt 4 0]) .skip)))) (.ops [mv 5,oT (.bin .add .arith (.t 0) (k6 1)),vt 5 1])))))) (.seq (.ops [mv 4,vt 3 0]) .ret)))),[.v 3],[]⟩
def c74:AFunc:=⟨[0,1,2,6,9],(.seq (.ops [oV 3 (.mov (k6 0))]) (.seq (.seq (.ops [mv 0,oT (.pcall 35 [(.t 0)]),oV 4 (.un .not (.t 1))]) (.cond (.v 4) (.seq (.ops [oV 3 (.mov (k6 0))]) .ret) .skip)) (.seq (.ops [mv 0,mv 1,mv 2,oT (.call (.c (.fn 111 [])) [(.t 0),(.t 1),(.t 2),(k6 4)]),vt 3 3]) .ret))),[.v 3],[]⟩
def c75:AFunc:=⟨[0,1,2,3,4,9,19],(.seq (.ops [oV 2 (.box 3 true (.v 0)),oV 3 (.box 3 true (.v 1)),oV 4 (.mov (.c (.bool false)))]) (.seq (.seq (.ops [fV 0 2,lS 1 0,fV 0 3,lS 1 2,oV 5 (.bin .neq .arith (.t 1) (.t 3))]) (.cond (.v 5) (.seq (.ops [fV 0 2,lS 1 0,fV 0 3,lS 1 2,oT (.bin .lss .arith (.t 1) (.t 3)),vt 4 4]) .ret) .skip)) (.seq (.seq (.ops [fV 1 2,lS 1 0,fV 1 3,lS 1 2,oV 6 (.bin .neq .arith (.t 1) (.t 3))]) (.cond (.v 6) (.seq (.ops [fV 1 2,lS 1 0,fV 1 3,lS 1 2,oT (.bin .lss .arith (.t 1) (.t 3)),vt 4 4]) .ret) .skip)) (.seq (.ops [fV 2 2,lS 1 0,fV 2 3,lS 1 2,oT (.bin .lss .arith (.t 1) (.t 3)),vt 4 4]) .ret)))),[.v 4],[]⟩
def c76:AFunc:=⟨[0,1,4,5,15,26,35,40,45],(.seq (.ops [oV 2 (.mov (k6 0))]) (.seq (.seq (.ops [oV 3 (.mov (k6 0))]) (.block 0 (.loop (.seq (.seq (.ops [mv 3,mv 0,oT (.len (.t 1)),oT (.bin .lss .arith (.t 0) (.t 2)),mt 3,oG 4 true (.mov (.v 3)),oG 4 true (.mov (.v 1)),oG 4 true (.len (.t 6)),oG 4 true (.bin .lss .arith (.t 5) (.t 7)),oV 4 (.pick (.t 4) (.t 8) (.c (.bool false)))]) (.cond (.v 4) .skip (.exit 0))) (.seq (.block 1 (.seq (.seq (.ops [mv 0,mv 3,iT 1 0 1,lS 1 2,mv 1,mv 3,iT 1 4 5,lS 1 6,oV 5 (.bin .lss .arith (.t 3) (.t 7))]) (.cond (.v 5) (.seq (.ops [oV 2 (.mov (k6 (-1)))]) .ret) .skip)) (.seq (.ops [mv 0,mv 3,iT 1 0 1,lS 1 2,mv 1,mv 3,iT 1 4 5,lS 1 6,oV 6 (.bin .gtr .arith (.t 3) (.t 7))]) (.cond (.v 6) (.seq (.ops [oV 2 (.mov (k6 1))]) .ret) .skip)))) (.ops [mv 3,oT (.bin .add .arith (.t 0) (k6 1)),vt 3 1])))))) (.seq (.seq (.ops [mv 0,oT (.len (.t 0)),mv 1,oT (.len (.t 2)),oV 7 (.bin .lss .arith (.t 1) (.t 3))]) (.cond (.v 7) (.seq (.ops [oV 2 (.mov (k6 (-1)))]) .ret) .skip)) (.seq (.seq (.ops [mv 0,oT (.len (.t 0)),mv 1,oT (.len (.t 2)),oV 8 (.bin .gtr .arith (.t 1) (.t 3))]) (.cond (.v 8) (.seq (.ops [oV 2 (.mov (k6 1))]) .ret) .skip)) (.seq (.ops [oV 2 (.mov (k6 0))]) .ret))))),[.v 2],[]⟩
def c86:AFunc:=⟨[0,1,2,3,5,6,7,9,10,11,12,13,14,15,16,33,50,69,90],(.seq (.ops [oV 3 (.box 7 true (.v 0)),oV 4 (.box 3 true (.v 2)),oV 5 (.mov (k6 0))]) (.seq (.ops [lV 7 3,lV 3 4,oT (.pcall 36 [(.t 0),(.t 1)]),mt 2,eT 3 0,eT 3 1,oV 6 (.alloc 70 5 true [z6,z6,z6,nS,nS]),sV 5 6 4,mt 5]) (.seq (.ops [lV 7 3,mv 1,lV 3 4,oT (.pcall 20 [(.t 0),(.t 1),(.t 2)]),mt 3,eT 4 0,eT 4 1,oV 7 (.alloc 62 3 true [z6,z6,z6]),sV 3 7 5,vt 8 6]) (.seq (.ops [oV 9 (.mov (k6 1))]) (.seq (.ops [oV 10 (.mov (.c nS))]) (.seq (.seq (.ops [oV 11 (.mov (k6 0))]) (.block 0 (.loop (.seq (.seq (.ops [mv 11,mv 1,oT (.len (.t 1)),oV 15 (.bin .lss .arith (.t 0) (.t 2))]) (.cond (.v 15) .skip (.exit 0))) (.seq (.block 1 (.seq (.ops [mv 1,mv 11,iT 3 0 1,lT 3 2,oV 12 (.alloc 62 3 true [z6,z6,z6]),sV 3 12 3]) (.seq (.seq (.ops [mv 10,lV 3 12,oT (.pcall 19 [(.t 0),(.t 1)]),mt 2,oG 3 false (.load 7 true (.v 3)),oG 3 false (.load 3 true (.v 12)),oG 3 false (.faddr 0 (.v 6)),oG 3 false (.load 3 true (.t 6)),oG 3 false (.pcall 37 [(.t 4),(.t 5),(.t 7)]),oG 3 false (.un .not (.t 8)),oV 16 (.pick (.t 3) (.c (.bool true)) (.t 9))]) (.cond (.v 16) (.exit 1) .skip)) (.seq (.ops [mv 10,lV 3 12,oT (.lit 0 62 1 3 true [z6,z6,z6] [(0,(.t 1))]),oT (.append false 62 24 3 true (.t 0) (.t 2)),vt 10 3]) (.seq (.ops [lV 7 3,mv 1,lV 3 12,oT (.pcall 20 [(.t 0),(.t 1),(.t 2)]),mt 3,eT 4 0,eT 4 1,oV 13 (.alloc 62 3 true [z6,z6,z6]),sV 3 13 5,vt 14 6]) (.seq (.seq (.ops [mv 8,mv 14,oT (.bin .neq .bool (.t 0) (.t 1)),mt 2,oG 3 false (.load 3 true (.v 7)),oG 3 false (.load 3 true (.v 13)),oG 3 false (.bin .neq (.struct [.int,.int,.int]) (.t 4) (.t 5)),oV 17 (.pick (.t 3) (.c (.bool true)) (.t 6))]) (.cond (.v 17) (.exit 1) .skip)) (.seq (.ops [lV 7 3,lV 3 12,oT (.pcall 131 [(.t 0),(.t 1)]),lV 7 3,lV 3 4,oT (.pcall 131 [(.t 3),(.t 4)]),oT (.bin .lss .arith (.t 2) (.t 5)),mt 6,oG 7 false (.load 7 true (.v 3)),oG 7 false (.load 3 true (.v 12)),oG 7 false (.pcall 131 [(.t 8),(.t 9)]),oG 7 false (.load 7 true (.v 3)),oG 7 false (.load 3 true (.v 4)),oG 7 false (.pcall 131 [(.t 11),(.t 12)]),oG 7 false (.bin .eql .arith (.t 10) (.t 13)),oG 7 false (.mov (.t 14)),oG 15 true (.load 3 true (.v 12)),oG 15 true (.load 3 true (.v 4)),oG 15 true (.pcall 75 [(.t 16),(.t 17)]),oG 7 false (.pick (.t 15) (.t 18) (.c (.bool false))),oV 18 (.pick (.t 7) (.c (.bool true)) (.t 19))]) (.cond (.v 18) (.ops [mv 9,oT (.bin .add .arith (.t 0) (k6 1)),vt 9 1]) .skip)))))))) (.ops [mv 11,oT (.bin .add .arith (.t 0) (k6 1)),vt 11 1])))))) (.seq (.ops [mv 9,vt 5 0]) .ret))))))),[.v 5],[]⟩
def c87:AFunc:=⟨[0,1,2,3,11,14,49,54,63],(.seq (.ops [oV 1 (.box 3 true (.v 0)),oV 2 (.mov (.c (.bool false)))]) (.seq (.seq (.ops [fV 0 1,lS 1 0,oT (.bin .lss .arith (.t 1) (k6 0)),mt 2,oG 3 false (.faddr 0 (.v 1)),oG 3 false (.load 1 false (.t 4)),oG 3 false (.bin .gtr .arith (.t 5) (k6 5)),oV 4 (.pick (.t 3) (.c (.bool true)) (.t 6))]) (.cond (.v 4) (.seq (.ops [oV 2 (.mov (.c (.bool false)))]) .ret) .skip)) (.seq (.seq (.ops [fV 0 1,lS 1 0,oV 5 (.bin .eql .arith (.t 1) (k6 2))]) (.cond (.v 5) (.seq (.ops [fV 1 1,lS 1 0,oT (.call (.c (.fn 132 [])) [(.t 1)]),mt 2,oG 3 true (.faddr 2 (.v 1)),oG 3 true (.load 1 false (.t 4)),oG 3 true (.len (.t 5)),oG 3 true (.bin .eql .arith (.t 6) (k6 0)),oT (.pick (.t 3) (.t 7) (.c (.bool false))),vt 2 8]) .ret) .skip)) (.seq (.seq (.ops [fV 1 1,lS 1 0,oT (.len (.t 1)),oT (.bin .gtr .arith (.t 2) (k6 0)),mt 3,oG 4 false (.faddr 0 (.v 1)),oG 4 false (.load 1 false (.t 5)),oG 4 false (.bin .leq .arith (.t 6) (k6 1)),oG 4 false (.mov (.t 7)),oG 8 true (.faddr 2 (.v 1)),oG 8 true (.load 1 false (.t 9)),oG 8 true (.len (.t 10)),oG 8 true (.bin .gtr .arith (.t 11) (k6 0)),oG 4 false (.pick (.t 8) (.t 12) (.c (.bool false))),oT (.pick (.t 4) (.c (.bool true)) (.t 13)),mt 14,oG 15 false (.faddr 0 (.v 1)),oG 15 false (.load 1 false (.t 16)),oG 15 false (.bin .eql .arith (.t 17) (k6 5)),oG 15 false (.mov (.t 18)),oG 19 true (.faddr 2 (.v 1)),oG 19 true (.load 1 false (.t 20)),oG 19 true (.len (.t 21)),oG 19 true (.bin .neq .arith (.t 22) (k6 1)),oG 15 false (.pick (.t 19) (.t 23) (.c (.bool false))),oV 6 (.pick (.t 15) (.c (.bool true)) (.t 24))]) (.cond (.v 6) (.seq (.ops [oV 2 (.mov (.c (.bool false)))]) .ret) .skip)) (.seq (.seq (.ops [oV 3 (.mov (k6 0))]) (.block 0 (.loop (.seq (.seq (.ops [mv 3,fV 2 1,lS 1 1,oT (.len (.t 2)),oV 7 (.bin .lss .arith (.t 0) (.t 3))]) (.cond (.v 7) .skip (.exit 0))) (.seq (.block 1 (.seq (.ops [fV 2 1,lS 1 0,mv 3,iT 3 1 2,lT 3 3,oT (.call (.c (.fn 87 [])) [(.t 4)]),oV 8 (.un .not (.t 5))]) (.cond (.v 8) (.seq (.ops [oV 2 (.mov (.c (.bool false)))]) .ret) .skip))) (.ops [mv 3,oT (.bin .add .arith (.t 0) (k6 1)),vt 3 1])))))) (.seq (.ops [oV 2 (.mov (.c (.bool true)))]) .ret)))))),[.v 2],[]⟩
def c88:AFunc:=⟨[0,1,2,4,5,6,7,12,21,40,45,50],(.seq (.ops [oV 2 (.box 3 true (.v 0)),oV 3 (.alloc 139 3 true [z6,nS,nS])]) (.seq (.ops [oV 4 (.mov (.c nS))]) (.seq (.seq (.ops [oV 5 (.mov (k6 0))]) (.block 0 (.loop (.seq (.seq (.ops [mv 5,fV 2 2,lS 1 1,oT (.len (.t 2)),oV 7 (.bin .lss .arith (.t 0) (.t 3))]) (.cond (.v 7) .skip (.exit 0))) (.seq (.block 1 (.seq (.ops [mv 5,vt 6 0]) (.seq (.seq (.ops [mv 1,mt 0,oG 1 true (.faddr 0 (.v 2)),oG 1 true (.load 1 false (.t 2)),oG 1 true (.bin .eql .arith (.t 3) (k6 3)),oV 8 (.pick (.t 1) (.t 4) (.c (.bool false)))]) (.cond (.v 8) (.ops [fV 2 2,lS 1 0,oT (.len (.t 1)),oT (.bin .sub .arith (.t 2) (k6 1)),mv 5,oT (.bin .sub .arith (.t 3) (.t 4)),vt 6 5]) .skip)) (.ops [mv 4,fV 2 2,lS 1 1,mv 6,iT 3 2 3,lT 3 4,mv 1,oT (.call (.c (.fn 88 [])) [(.t 5),(.t 6)]),oT (.lit 0 139 1 3 true [z6,nS,nS] [(0,(.t 7))]),oT (.append false 139 56 3 true (.t 0) (.t 8)),vt 4 9])))) (.ops [mv 5,oT (.bin .add .arith (.t 0) (k6 1)),vt 5 1])))))) (.seq (.seq (.ops [fV 0 2,lS 1 0,oV 9 (.bin .eql .arith (.t 1) (k6 3))]) (.cond (.v 9) (.seq (.ops [mv 4,oT (.pcall 60 [(.t 0)]),sV 3 3 1]) .ret) .skip)) (.seq (.seq (.ops [fV 0 2,lS 1 0,oV 10 (.bin .eql .arith (.t 1) (k6 4))]) (.cond (.v 10) (.seq (.ops [mv 4,oT (.call (.c (.fn 90 [])) [(.t 0)]),sV 3 3 1]) .ret) .skip)) (.seq (.seq (.ops [fV 0 2,lS 1 0,oV 11 (.bin .eql .arith (.t 1) (k6 5))]) (.cond (.v 11) (.seq (.ops [mv 4,oT (.iaddr 3 (.t 0) (k6 0)),lT 3 1,oT (.pcall 61 [(.t 2)]),sV 3 3 3]) .ret) .skip)) (.seq (.ops [lV 3 2,sV 3 3 0]) .ret))))))),[.c 3 3 true],[]⟩
def c89:AFunc:=⟨[0,1,4],(.seq (.ops [oV 2 (.alloc 139 3 true [z6,nS,nS])]) (.seq (.ops [mv 0,mv 1,oT (.build [z6,nS,nS] [(0,1,(.t 0)),(2,1,(.t 1))]),sV 3 2 2]) .ret)),[.c 2 3 true],[]⟩
def c90:AFunc:=⟨[0,2,3,4,5,6,7,8,9,10,11,12,16,24,42,52,69,75,91,96,103,112,118,122],(.seq (.ops [oV 1 (.alloc 139 3 true [z6,nS,nS])]) (.seq (.ops [oV 2 (.mov (.c nS))]) (.seq (.seq (.ops [oV 3 (.mov (k6 0))]) (.block 0 (.loop (.seq (.seq (.ops [mv 3,mv 0,oT (.len (.t 1)),oV 12 (.bin .lss .arith (.t 0) (.t 2))]) (.cond (.v 12) .skip (.exit 0))) (.seq (.block 1 (.seq (.ops [mv 0,mv 3,iT 3 0 1,fT 0 2,lS 1 3,oV 13 (.bin .eql .arith (.t 4) (k6 4))]) (.cond (.v 13) (.ops [mv 2,mv 0,mv 3,iT 3 1 2,fT 2 3,lS 1 4,oT (.append false 139 56 3 true (.t 0) (.t 5)),vt 2 6]) (.ops [mv 2,mv 0,mv 3,iT 3 1 2,lT 3 3,oT (.lit 0 139 1 3 true [z6,nS,nS] [(0,(.t 4))]),oT (.append false 139 56 3 true (.t 0) (.t 5)),vt 2 6])))) (.ops [mv 3,oT (.bin .add .arith (.t 0) (k6 1)),vt 3 1])))))) (.seq (.ops [oV 4 (.alloc 263 64 true (List.replicate 64 (.bool false)))]) (.seq (.ops [oV 5 (.mov (.c nS))]) (.seq (.ops [oV 6 (.mov (.c (.bool false)))]) (.seq (.ops [oV 7 (.mov (.c (.bool false)))]) (.seq (.seq (.ops [oV 8 (.mov (k6 0))]) (.block 2 (.loop (.seq (.seq (.ops [mv 8,mv 2,oT (.len (.t 1)),oV 14 (.bin .lss .arith (.t 0) (.t 2))]) (.cond (.v 14) .skip (.exit 2))) (.seq (.block 3 (.seq (.seq (.ops [oV 9 (.mov (k6 0))]) (.block 4 (.loop (.seq (.seq (.ops [mv 9,mv 2,mv 8,iT 3 1 2,fT 1 3,lS 1 4,oT (.len (.t 5)),oV 15 (.bin .lss .arith (.t 0) (.t 6))]) (.cond (.v 15) .skip (.exit 4))) (.seq (.block 5 (.ops [mv 2,mv 8,iT 3 0 1,fT 1 2,lS 1 3,mv 9,iT 1 4 5,lS 1 6,oT (.aaddr 64 1 (.v 4) (.t 7)),oN (.store 1 (.t 8) (.c (.bool true)))])) (.ops [mv 9,oT (.bin .add .arith (.t 0) (k6 1)),vt 9 1])))))) (.seq (.ops [mv 2,mv 8,iT 3 0 1,fT 0 2,lS 1 3,oV 16 (.bin .eql .arith (.t 4) (k6 1))]) (.cond (.v 16) (.ops [oV 6 (.mov (.c (.bool true)))]) (.seq (.ops [mv 2,mv 8,iT 3 0 1,fT 0 2,lS 1 3,oV 17 (.bin .gtr .arith (.t 4) (k6 2))]) (.cond (.v 17) (.seq (.ops [mv 5,mv 2,mv 8,iT 3 1 2,lT 3 3,oT (.call (.c (.fn 133 [])) [(.t 0),(.t 4)]),vt 5 5]) (.ops [mv 7,mt 0,oG 1 false (.mov (.v 2)),oG 1 false (.mov (.v 8)),oG 1 false (.iaddr 3 (.t 2) (.t 3)),oG 1 false (.load 3 true (.t 4)),oG 1 false (.call (.c (.fn 134 [])) [(.t 5)]),oT (.pick (.t 1) (.c (.bool true)) (.t 6)),vt 7 7])) .skip)))))) (.ops [mv 8,oT (.bin .add .arith (.t 0) (k6 1)),vt 8 1])))))) (.seq (.ops [oV 10 (.mov (.c nS))]) (.seq (.seq (.ops [oV 11 (.mov (k6 0))]) (.block 6 (.loop (.seq (.seq (.ops [mv 11,oV 18 (.bin .lss .arith (.t 0) (k6 64))]) (.cond (.v 18) .skip (.exit 6))) (.seq (.block 7 (.seq (.ops [mv 11,oT (.aaddr 64 1 (.v 4) (.t 0)),oV 19 (.load 1 false (.t 1))]) (.cond (.v 19) (.ops [mv 10,mv 11,oT (.lit 0 3 1 1 false [z6] [(0,(.t 1))]),oT (.append false 3 8 1 false (.t 0) (.t 2)),vt 10 3]) .skip))) (.ops [mv 11,oT (.bin .add .arith (.t 0) (k6 1)),vt 11 1])))))) (.seq (.seq (.ops [mv 10,oT (.len (.t 0)),oV 20 (.bin .gtr .arith (.t 1) (k6 0))]) (.cond (.v 20) (.ops [mv 5,mv 10,oT (.pcall 58 [(.t 1)]),oT (.call (.c (.fn 133 [])) [(.t 0),(.t 2)]),vt 5 3]) .skip)) (.seq (.seq (.ops [mv 6,mt 0,oG 1 true (.mov (.v 7)),oG 1 true (.un .not (.t 2)),oV 21 (.pick (.t 1) (.t 3) (.c (.bool false)))]) (.cond (.v 21) (.ops [mv 5,oT (.build [z6,nS,nS] [(0,1,(k6 1))]),oT (.call (.c (.fn 133 [])) [(.t 0),(.t 1)]),vt 5 2]) .skip)) (.seq (.seq (.ops [mv 5,oT (.len (.t 0)),oV 22 (.bin .eql .arith (.t 1) (k6 0))]) (.cond (.v 22) (.seq (.ops [oT (.build [z6,nS,nS] []),sV 3 1 0]) .ret) .skip)) (.seq (.seq (.ops [mv 5,oT (.len (.t 0)),oV 23 (.bin .eql .arith (.t 1) (k6 1))]) (.cond (.v 23) (.seq (.ops [mv 5,oT (.iaddr 3 (.t 0) (k6 0)),lT 3 1,sV 3 1 2]) .ret) .skip)) (.seq (.ops [mv 5,oT (.call (.c (.fn 89 [])) [(k6 4),(.t 0)]),sV 3 1 1]) .ret))))))))))))))),[.c 1 3 true],[]⟩
def c91:AFunc:=⟨[0,1,2,6],(.seq (.ops [oV 3 (.mov (.c (.bool false)))]) (.seq (.ops [mv 1,mv 0,oT (.bin .leq .arith (.t 0) (.t 1)),mt 2,oG 3 true (.mov (.v 0)),oG 3 true (.mov (.v 2)),oG 3 true (.bin .leq .arith (.t 4) (.t 5)),oT (.pick (.t 3) (.t 6) (.c (.bool false))),vt 3 7]) .ret)),[.v 3],[]⟩
def c92:AFunc:=⟨[0,2,3,5,6,7,19],(.seq (.ops [oV 1 (.mov (.c (.bool false)))]) (.seq (.seq (.ops [mv 0,oV 3 (.slen (.t 0)),oV 4 (.mov (k6 0))]) (.block 0 (.loop (.seq (.ops [oV 5 (.bin .lss .arith (.v 4) (.v 3))]) (.seq (.cond (.v 5) .skip (.exit 0)) (.seq (.block 1 (.seq (.ops [mv 4,vt 2 0]) (.seq (.ops [mv 0,mv 2,oT (.sidx (.t 0) (.t 1)),oT (.bin .lss .arith (.t 2) (.c (.int .u8 33))),mt 3,oG 4 false (.mov (.v 0)),oG 4 false (.mov (.v 2)),oG 4 false (.sidx (.t 5) (.t 6)),oG 4 false (.call (.c (.fn 135 [])) [(.c (.str [48,49,50,51,52,53,54,55,56,57,45,35,46,124,40,41,42,63,123,125,62,47,95,126,59,58,44,61,34,64])),(.t 7)]),oG 4 false (.bin .geq .arith (.t 8) (k6 0)),oV 6 (.pick (.t 4) (.c (.bool true)) (.t 9))]) (.cond (.v 6) (.seq (.ops [oV 1 (.mov (.c (.bool false)))]) .ret) .skip)))) (.ops [oT (.bin .add .arith (.v 4) (k6 1)),vt 4 0]))))))) (.seq (.ops [mv 0,oT (.bin .neq .arith (.t 0) (.c (.str []))),mt 1,oG 2 true (.mov (.v 0)),oG 2 true (.slen (.t 3)),oG 2 true (.bin .leq .arith (.t 4) (k6 4)),oT (.pick (.t 2) (.t 5) (.c (.bool false))),vt 1 6]) .ret))),[.v 1],[]⟩
def c93:AFunc:=⟨[0,1,2,3,8,9,14,34],(.seq (.ops [mv 1,oT (.bin .add .arith (.t 0) (k6 1)),vt 4 1]) (.block 0 (.loop (.seq (.seq (.ops [mv 4,mv 2,oV 6 (.bin .lss .arith (.t 0) (.t 1))]) (.cond (.v 6) .skip (.exit 0))) (.seq (.block 1 (.seq (.ops [mv 4,vt 5 0]) (.block 2 (.loop (.seq (.seq (.ops [mv 5,mv 1,oT (.bin .gtr .arith (.t 0) (.t 1)),mt 2,oG 3 true (.mov (.v 3)),oG 3 true (.mov (.v 0)),oG 3 true (.mov (.v 5)),oG 3 true (.iaddr 3 (.t 5) (.t 6)),oG 3 true (.load 3 true (.t 7)),oG 3 true (.mov (.v 0)),oG 3 true (.mov (.v 5)),oG 3 true (.bin .sub .arith (.t 10) (k6 1)),oG 3 true (.iaddr 3 (.t 9) (.t 11)),oG 3 true (.load 3 true (.t 12)),oG 3 true (.call (.t 4) [(.t 8),(.t 13)]),oG 3 true (.bin .lss .arith (.t 14) (k6 0)),oV 7 (.pick (.t 3) (.t 15) (.c (.bool false)))]) (.cond (.v 7) .skip (.exit 2))) (.seq (.block 3 (.ops [mv 0,mv 5,mv 0,mv 5,oT (.bin .sub .arith (.t 3) (k6 1)),mv 0,mv 5,oT (.bin .sub .arith (.t 6) (k6 1)),iT 3 5 7,lT 3 8,mv 0,mv 5,iT 3 10 11,lT 3 12,iT 3 0 1,sT 3 14 9,iT 3 2 4,sT 3 16 13])) (.ops [mv 5,oT (.bin .sub .arith (.t 0) (k6 1)),vt 5 1]))))))) (.ops [mv 4,oT (.bin .add .arith (.t 0) (k6 1)),vt 4 1])))))),[],[]⟩
def c94:AFunc:=⟨[0,1,2,3,8,9,10,11,12,21,33],(.seq (.ops [mv 1,vt 4 0]) (.seq (.ops [oV 5 (.mov (k6 0))]) (.seq (.ops [mv 2,mv 1,oT (.bin .sub .arith (.t 0) (.t 1)),vt 6 2]) (.seq (.seq (.ops [mv 6,oT (.bin .sub .arith (.t 0) (k6 1)),oT (.bin .quo .arith (.t 1) (k6 2)),vt 7 2]) (.block 0 (.loop (.seq (.seq (.ops [mv 7,oV 9 (.bin .geq .arith (.t 0) (k6 0))]) (.cond (.v 9) .skip (.exit 0))) (.seq (.block 1 (.ops [mv 0,mv 7,mv 6,mv 4,mv 3,oT (.call (.c (.fn 136 [])) [(.t 0),(.t 1),(.t 2),(.t 3),(.t 4)])])) (.ops [mv 7,oT (.bin .sub .arith (.t 0) (k6 1)),vt 7 1])))))) (.seq (.ops [mv 6,oT (.bin .sub .arith (.t 0) (k6 1)),vt 8 1]) (.block 2 (.loop (.seq (.seq (.ops [mv 8,oV 10 (.bin .geq .arith (.t 0) (k6 0))]) (.cond (.v 10) .skip (.exit 2))) (.seq (.block 3 (.seq (.ops [mv 0,mv 4,mv 0,mv 4,mv 8,oT (.bin .add .arith (.t 3) (.t 4)),mv 0,mv 4,mv 8,oT (.bin .add .arith (.t 7) (.t 8)),iT 3 6 9,lT 3 10,mv 0,mv 4,iT 3 12 13,lT 3 14,iT 3 0 1,sT 3 16 11,iT 3 2 5,sT 3 18 15]) (.ops [mv 0,mv 5,mv 8,mv 4,mv 3,oT (.call (.c (.fn 136 [])) [(.t 0),(.t 1),(.t 2),(.t 3),(.t 4)])]))) (.ops [mv 8,oT (.bin .sub .arith (.t 0) (k6 1)),vt 8 1])))))))))),[],[]⟩
def c95:AFunc:=⟨[0,1,2,8,9,10,11,12,17,35,45],(.seq (.ops [mv 2,mv 1,oT (.bin .sub .arith (.t 0) (.t 1)),vt 3 2]) (.seq (.ops [mv 3,oV 8 (.bin .geq .arith (.t 0) (k6 8))]) (.cond (.v 8) (.seq (.ops [mv 3,oT (.toInt .u64 (.t 0)),oV 4 (.alloc 266 1 false [(.int .u64 0)]),sV 1 4 1]) (.seq (.ops [mv 3,oT (.call (.c (.fn 137 [])) [(.t 0)]),vt 5 1]) (.seq (.ops [mv 1,mv 3,oT (.bin .quo .arith (.t 1) (k6 4)),oT (.bin .mul .arith (.t 2) (k6 2)),oT (.bin .add .arith (.t 0) (.t 3)),oT (.bin .sub .arith (.t 4) (k6 1)),vt 6 5]) (.block 0 (.loop (.seq (.seq (.ops [mv 6,mv 1,mv 3,oT (.bin .quo .arith (.t 2) (k6 4)),oT (.bin .mul .arith (.t 3) (k6 2)),oT (.bin .add .arith (.t 1) (.t 4)),oT (.bin .add .arith (.t 5) (k6 1)),oV 9 (.bin .leq .arith (.t 0) (.t 6))]) (.cond (.v 9) .skip (.exit 0))) (.seq (.block 1 (.seq (.ops [oT (.call (.c (.fn 138 [])) [(.v 4)]),mv 5,oT (.bin .sub .arith (.t 1) (.c (.int .u64 1))),oT (.bin .and .arith (.t 0) (.t 2)),oT (.toInt .i64 (.t 3)),vt 7 4]) (.seq (.seq (.ops [mv 7,mv 3,oV 10 (.bin .geq .arith (.t 0) (.t 1))]) (.cond (.v 10) (.ops [mv 7,mv 3,oT (.bin .sub .arith (.t 0) (.t 1)),vt 7 2]) .skip)) (.ops [mv 0,mv 6,mv 0,mv 1,mv 7,oT (.bin .add .arith (.t 3) (.t 4)),mv 0,mv 1,mv 7,oT (.bin .add .arith (.t 7) (.t 8)),iT 3 6 9,lT 3 10,mv 0,mv 6,iT 3 12 13,lT 3 14,iT 3 0 1,sT 3 16 11,iT 3 2 5,sT 3 18 15])))) (.ops [mv 6,oT (.bin .add .arith (.t 0) (k6 1)),vt 6 1])))))))) .skip))),[],[]⟩
def c96:AFunc:=⟨[0,1,2,3,8,9,10,11,12,13,14,34,36,55,57,60],(.seq (.ops [oV 4 (.mov (k6 0)),oV 5 (.mov (k6 0))]) (.seq (.ops [mv 2,mv 1,oT (.bin .sub .arith (.t 0) (.t 1)),vt 6 2]) (.seq (.ops [oV 7 (.alloc 3 1 false [z6])]) (.seq (.ops [mv 1,mv 6,oT (.bin .quo .arith (.t 1) (k6 4)),oT (.bin .mul .arith (.t 2) (k6 1)),oT (.bin .add .arith (.t 0) (.t 3)),vt 8 4]) (.seq (.ops [mv 1,mv 6,oT (.bin .quo .arith (.t 1) (k6 4)),oT (.bin .mul .arith (.t 2) (k6 2)),oT (.bin .add .arith (.t 0) (.t 3)),vt 9 4]) (.seq (.ops [mv 1,mv 6,oT (.bin .quo .arith (.t 1) (k6 4)),oT (.bin .mul .arith (.t 2) (k6 3)),oT (.bin .add .arith (.t 0) (.t 3)),vt 10 4]) (.seq (.seq (.ops [mv 6,oV 11 (.bin .geq .arith (.t 0) (k6 8))]) (.cond (.v 11) (.seq (.seq (.ops [mv 6,oV 12 (.bin .geq .arith (.t 0) (k6 50))]) (.cond (.v 12) (.seq (.ops [mv 0,mv 8,mv 3,oT (.call (.c (.fn 139 [])) [(.t 0),(.t 1),(.v 7),(.t 2)]),vt 8 3]) (.seq (.ops [mv 0,mv 9,mv 3,oT (.call (.c (.fn 139 [])) [(.t 0),(.t 1),(.v 7),(.t 2)]),vt 9 3]) (.ops [mv 0,mv 10,mv 3,oT (.call (.c (.fn 139 [])) [(.t 0),(.t 1),(.v 7),(.t 2)]),vt 10 3]))) .skip)) (.ops [mv 0,mv 8,mv 9,mv 10,mv 3,oT (.call (.c (.fn 140 [])) [(.t 0),(.t 1),(.t 2),(.t 3),(.v 7),(.t 4)]),vt 9 5])) .skip)) (.seq (.ops [oV 13 (.load 1 false (.v 7))]) (.block 0 (.seq (.ops [oT (.bin .eql .arith (.v 13) (k6 0)),vt 14 0]) (.cond (.v 14) (.seq (.ops [mv 9,vt 4 0,oV 5 (.mov (k6 1))]) .ret) (.seq (.ops [oT (.bin .eql .arith (.v 13) (k6 12)),vt 15 0]) (.cond (.v 15) (.seq (.ops [mv 9,vt 4 0,oV 5 (.mov (k6 2))]) .ret) (.seq (.ops [mv 9,vt 4 0,oV 5 (.mov (k6 0))]) .ret)))))))))))))),[.v 4,.v 5],[]⟩
def c97:AFunc:=⟨[0,1,2,8,9,15],(.seq (.ops [mv 1,vt 3 0]) (.seq (.ops [mv 2,oT (.bin .sub .arith (.t 0) (k6 1)),vt 4 1]) (.block 0 (.loop (.seq (.seq (.ops [mv 3,mv 4,oV 5 (.bin .lss .arith (.t 0) (.t 1))]) (.cond (.v 5) .skip (.exit 0))) (.block 1 (.seq (.ops [mv 0,mv 3,mv 0,mv 4,mv 0,mv 4,iT 3 4 5,lT 3 6,mv 0,mv 3,iT 3 8 9,lT 3 10,iT 3 0 1,sT 3 12 7,iT 3 2 3,sT 3 14 11]) (.seq (.ops [mv 3,oT (.bin .add .arith (.t 0) (k6 1)),vt 3 1]) (.ops [mv 4,oT (.bin .sub .arith (.t 0) (k6 1)),vt 4 1]))))))))),[],[]⟩
def c98:AFunc:=⟨[0,1,2,3,8,9,10,11,12,16,36,41,45,65,69,84,104,109,124],(.seq (.ops [oV 4 (.mov (.c (.bool false)))]) (.seq (.ops [mv 1,oT (.bin .add .arith (.t 0) (k6 1)),vt 5 1]) (.seq (.seq (.ops [oV 6 (.mov (k6 0))]) (.block 0 (.loop (.seq (.seq (.ops [mv 6,oV 9 (.bin .lss .arith (.t 0) (k6 5))]) (.cond (.v 9) .skip (.exit 0))) (.seq (.block 1 (.seq (.block 2 (.loop (.seq (.seq (.ops [mv 5,mv 2,oT (.bin .lss .arith (.t 0) (.t 1)),mt 2,oG 3 true (.mov (.v 3)),oG 3 true (.mov (.v 0)),oG 3 true (.mov (.v 5)),oG 3 true (.iaddr 3 (.t 5) (.t 6)),oG 3 true (.load 3 true (.t 7)),oG 3 true (.mov (.v 0)),oG 3 true (.mov (.v 5)),oG 3 true (.bin .sub .arith (.t 10) (k6 1)),oG 3 true (.iaddr 3 (.t 9) (.t 11)),oG 3 true (.load 3 true (.t 12)),oG 3 true (.call (.t 4) [(.t 8),(.t 13)]),oG 3 true (.bin .lss .arith (.t 14) (k6 0)),oG 3 true (.un .not (.t 15)),oV 10 (.pick (.t 3) (.t 16) (.c (.bool false)))]) (.cond (.v 10) .skip (.exit 2))) (.block 3 (.ops [mv 5,oT (.bin .add .arith (.t 0) (k6 1)),vt 5 1]))))) (.seq (.seq (.ops [mv 5,mv 2,oV 11 (.bin .eql .arith (.t 0) (.t 1))]) (.cond (.v 11) (.seq (.ops [oV 4 (.mov (.c (.bool true)))]) .ret) .skip)) (.seq (.seq (.ops [mv 2,mv 1,oT (.bin .sub .arith (.t 0) (.t 1)),oV 12 (.bin .lss .arith (.t 2) (k6 50))]) (.cond (.v 12) (.seq (.ops [oV 4 (.mov (.c (.bool false)))]) .ret) .skip)) (.seq (.ops [mv 0,mv 5,mv 0,mv 5,oT (.bin .sub .arith (.t 3) (k6 1)),mv 0,mv 5,oT (.bin .sub .arith (.t 6) (k6 1)),iT 3 5 7,lT 3 8,mv 0,mv 5,iT 3 10 11,lT 3 12,iT 3 0 1,sT 3 14 9,iT 3 2 4,sT 3 16 13]) (.seq (.seq (.ops [mv 5,mv 1,oT (.bin .sub .arith (.t 0) (.t 1)),oV 13 (.bin .geq .arith (.t 2) (k6 2))]) (.cond (.v 13) (.seq (.ops [mv 5,oT (.bin .sub .arith (.t 0) (k6 1)),vt 7 1]) (.block 4 (.loop (.seq (.seq (.ops [mv 7,oV 14 (.bin .geq .arith (.t 0) (k6 1))]) (.cond (.v 14) .skip (.exit 4))) (.seq (.block 5 (.seq (.seq (.ops [mv 3,mv 0,mv 7,iT 3 1 2,lT 3 3,mv 0,mv 7,oT (.bin .sub .arith (.t 6) (k6 1)),iT 3 5 7,lT 3 8,oT (.call (.t 0) [(.t 4),(.t 9)]),oT (.bin .lss .arith (.t 10) (k6 0)),oV 15 (.un .not (.t 11))]) (.cond (.v 15) (.exit 4) .skip)) (.ops [mv 0,mv 7,mv 0,mv 7,oT (.bin .sub .arith (.t 3) (k6 1)),mv 0,mv 7,oT (.bin .sub .arith (.t 6) (k6 1)),iT 3 5 7,lT 3 8,mv 0,mv 7,iT 3 10 11,lT 3 12,iT 3 0 1,sT 3 14 9,iT 3 2 4,sT 3 16 13]))) (.ops [mv 7,oT (.bin .sub .arith (.t 0) (k6 1)),vt 7 1])))))) .skip)) (.seq (.ops [mv 2,mv 5,oT (.bin .sub .arith (.t 0) (.t 1)),oV 16 (.bin .geq .arith (.t 2) (k6 2))]) (.cond (.v 16) (.seq (.ops [mv 5,oT (.bin .add .arith (.t 0) (k6 1)),vt 8 1]) (.block 6 (.loop (.seq (.seq (.ops [mv 8,mv 2,oV 17 (.bin .lss .arith (.t 0) (.t 1))]) (.cond (.v 17) .skip (.exit 6))) (.seq (.block 7 (.seq (.seq (.ops [mv 3,mv 0,mv 8,iT 3 1 2,lT 3 3,mv 0,mv 8,oT (.bin .sub .arith (.t 6) (k6 1)),iT 3 5 7,lT 3 8,oT (.call (.t 0) [(.t 4),(.t 9)]),oT (.bin .lss .arith (.t 10) (k6 0)),oV 18 (.un .not (.t 11))]) (.cond (.v 18) (.exit 6) .skip)) (.ops [mv 0,mv 8,mv 0,mv 8,oT (.bin .sub .arith (.t 3) (k6 1)),mv 0,mv 8,oT (.bin .sub .arith (.t 6) (k6 1)),iT 3 5 7,lT 3 8,mv 0,mv 8,iT 3 10 11,lT 3 12,iT 3 0 1,sT 3 14 9,iT 3 2 4,sT 3 16 13]))) (.ops [mv 8,oT (.bin .add .arith (.t 0) (k6 1)),vt 8 1])))))) .skip)))))))) (.ops [mv 6,oT (.bin .add .arith (.t 0) (k6 1)),vt 6 1])))))) (.seq (.ops [oV 4 (.mov (.c (.bool false)))]) .ret)))),[.v 4],[]⟩
def c99:AFunc:=⟨[0,1,2,3,4,10,11,12,47,65,70],(.seq (.ops [oV 5 (.mov (k6 0))]) (.seq (.ops [mv 0,mv 1,mv 0,mv 3,mv 0,mv 3,iT 3 4 5,lT 3 6,mv 0,mv 1,iT 3 8 9,lT 3 10,iT 3 0 1,sT 3 12 7,iT 3 2 3,sT 3 14 11]) (.seq (.ops [mv 1,oT (.bin .add .arith (.t 0) (k6 1)),mv 2,oT (.bin .sub .arith (.t 2) (k6 1)),vt 6 1,vt 7 3]) (.seq (.block 0 (.loop (.block 1 (.seq (.block 2 (.loop (.seq (.seq (.ops [mv 6,mv 7,oT (.bin .leq .arith (.t 0) (.t 1)),mt 2,oG 3 true (.mov (.v 4)),oG 3 true (.mov (.v 0)),oG 3 true (.mov (.v 1)),oG 3 true (.iaddr 3 (.t 5) (.t 6)),oG 3 true (.load 3 true (.t 7)),oG 3 true (.mov (.v 0)),oG 3 true (.mov (.v 6)),oG 3 true (.iaddr 3 (.t 9) (.t 10)),oG 3 true (.load 3 true (.t 11)),oG 3 true (.call (.t 4) [(.t 8),(.t 12)]),oG 3 true (.bin .lss .arith (.t 13) (k6 0)),oG 3 true (.un .not (.t 14)),oV 8 (.pick (.t 3) (.t 15) (.c (.bool false)))]) (.cond (.v 8) .skip (.exit 2))) (.block 3 (.ops [mv 6,oT (.bin .add .arith (.t 0) (k6 1)),vt 6 1]))))) (.seq (.block 4 (.loop (.seq (.seq (.ops [mv 6,mv 7,oT (.bin .leq .arith (.t 0) (.t 1)),mt 2,oG 3 true (.mov (.v 4)),oG 3 true (.mov (.v 0)),oG 3 true (.mov (.v 1)),oG 3 true (.iaddr 3 (.t 5) (.t 6)),oG 3 true (.load 3 true (.t 7)),oG 3 true (.mov (.v 0)),oG 3 true (.mov (.v 7)),oG 3 true (.iaddr 3 (.t 9) (.t 10)),oG 3 true (.load 3 true (.t 11)),oG 3 true (.call (.t 4) [(.t 8),(.t 12)]),oG 3 true (.bin .lss .arith (.t 13) (k6 0)),oV 9 (.pick (.t 3) (.t 14) (.c (.bool false)))]) (.cond (.v 9) .skip (.exit 4))) (.block 5 (.ops [mv 7,oT (.bin .sub .arith (.t 0) (k6 1)),vt 7 1]))))) (.seq (.seq (.ops [mv 6,mv 7,oV 10 (.bin .gtr .arith (.t 0) (.t 1))]) (.cond (.v 10) (.exit 0) .skip)) (.seq (.ops [mv 0,mv 6,mv 0,mv 7,mv 0,mv 7,iT 3 4 5,lT 3 6,mv 0,mv 6,iT 3 8 9,lT 3 10,iT 3 0 1,sT 3 12 7,iT 3 2 3,sT 3 14 11]) (.seq (.ops [mv 6,oT (.bin .add .arith (.t 0) (k6 1)),vt 6 1]) (.ops [mv 7,oT (.bin .sub .arith (.t 0) (k6 1)),vt 7 1]))))))))) (.seq (.ops [mv 6,vt 5 0]) .ret))))),[.v 5],[]⟩
def c100:AFunc:=⟨[0,1,2,3,4,10,11,12,13,47,66,71,120,139,144],(.seq (.ops [oV 5 (.mov (k6 0)),oV 6 (.mov (.c (.bool false)))]) (.seq (.ops [mv 0,mv 1,mv 0,mv 3,mv 0,mv 3,iT 3 4 5,lT 3 6,mv 0,mv 1,iT 3 8 9,lT 3 10,iT 3 0 1,sT 3 12 7,iT 3 2 3,sT 3 14 11]) (.seq (.ops [mv 1,oT (.bin .add .arith (.t 0) (k6 1)),mv 2,oT (.bin .sub .arith (.t 2) (k6 1)),vt 7 1,vt 8 3]) (.seq (.block 0 (.loop (.seq (.seq (.ops [mv 7,mv 8,oT (.bin .leq .arith (.t 0) (.t 1)),mt 2,oG 3 true (.mov (.v 4)),oG 3 true (.mov (.v 0)),oG 3 true (.mov (.v 7)),oG 3 true (.iaddr 3 (.t 5) (.t 6)),oG 3 true (.load 3 true (.t 7)),oG 3 true (.mov (.v 0)),oG 3 true (.mov (.v 1)),oG 3 true (.iaddr 3 (.t 9) (.t 10)),oG 3 true (.load 3 true (.t 11)),oG 3 true (.call (.t 4) [(.t 8),(.t 12)]),oG 3 true (.bin .lss .arith (.t 13) (k6 0)),oV 9 (.pick (.t 3) (.t 14) (.c (.bool false)))]) (.cond (.v 9) .skip (.exit 0))) (.block 1 (.ops [mv 7,oT (.bin .add .arith (.t 0) (k6 1)),vt 7 1]))))) (.seq (.block 2 (.loop (.seq (.seq (.ops [mv 7,mv 8,oT (.bin .leq .arith (.t 0) (.t 1)),mt 2,oG 3 true (.mov (.v 4)),oG 3 true (.mov (.v 0)),oG 3 true (.mov (.v 8)),oG 3 true (.iaddr 3 (.t 5) (.t 6)),oG 3 true (.load 3 true (.t 7)),oG 3 true (.mov (.v 0)),oG 3 true (.mov (.v 1)),oG 3 true (.iaddr 3 (.t 9) (.t 10)),oG 3 true (.load 3 true (.t 11)),oG 3 true (.call (.t 4) [(.t 8),(.t 12)]),oG 3 true (.bin .lss .arith (.t 13) (k6 0)),oG 3 true (.un .not (.t 14)),oV 10 (.pick (.t 3) (.t 15) (.c (.bool false)))]) (.cond (.v 10) .skip (.exit 2))) (.block 3 (.ops [mv 8,oT (.bin .sub .arith (.t 0) (k6 1)),vt 8 1]))))) (.seq (.seq (.ops [mv 7,mv 8,oV 11 (.bin .gtr .arith (.t 0) (.t 1))]) (.cond (.v 11) (.seq (.ops [mv 0,mv 8,mv 0,mv 1,mv 0,mv 1,iT 3 4 5,lT 3 6,mv 0,mv 8,iT 3 8 9,lT 3 10,iT 3 0 1,sT 3 12 7,iT 3 2 3,sT 3 14 11]) (.seq (.ops [mv 8,vt 5 0,oV 6 (.mov (.c (.bool true)))]) .ret)) .skip)) (.seq (.ops [mv 0,mv 7,mv 0,mv 8,mv 0,mv 8,iT 3 4 5,lT 3 6,mv 0,mv 7,iT 3 8 9,lT 3 10,iT 3 0 1,sT 3 12 7,iT 3 2 3,sT 3 14 11]) (.seq (.ops [mv 7,oT (.bin .add .arith (.t 0) (k6 1)),vt 7 1]) (.seq (.ops [mv 8,oT (.bin .sub .arith (.t 0) (k6 1)),vt 8 1]) (.seq (.block 4 (.loop (.block 5 (.seq (.block 6 (.loop (.seq (.seq (.ops [mv 7,mv 8,oT (.bin .leq .arith (.t 0) (.t 1)),mt 2,oG 3 true (.mov (.v 4)),oG 3 true (.mov (.v 0)),oG 3 true (.mov (.v 7)),oG 3 true (.iaddr 3 (.t 5) (.t 6)),oG 3 true (.load 3 true (.t 7)),oG 3 true (.mov (.v 0)),oG 3 true (.mov (.v 1)),oG 3 true (.iaddr 3 (.t 9) (.t 10)),oG 3 true (.load 3 true (.t 11)),oG 3 true (.call (.t 4) [(.t 8),(.t 12)]),oG 3 true (.bin .lss .arith (.t 13) (k6 0)),oV 12 (.pick (.t 3) (.t 14) (.c (.bool false)))]) (.cond (.v 12) .skip (.exit 6))) (.block 7 (.ops [mv 7,oT (.bin .add .arith (.t 0) (k6 1)),vt 7 1]))))) (.seq (.block 8 (.loop (.seq (.seq (.ops [mv 7,mv 8,oT (.bin .leq .arith (.t 0) (.t 1)),mt 2,oG 3 true (.mov (.v 4)),oG 3 true (.mov (.v 0)),oG 3 true (.mov (.v 8)),oG 3 true (.iaddr 3 (.t 5) (.t 6)),oG 3 true (.load 3 true (.t 7)),oG 3 true (.mov (.v 0)),oG 3 true (.mov (.v 1)),oG 3 true (.iaddr 3 (.t 9) (.t 10)),oG 3 true (.load 3 true (.t 11)),oG 3 true (.call (.t 4) [(.t 8),(.t 12)]),oG 3 true (.bin .lss .arith (.t 13) (k6 0)),oG 3 true (.un .not (.t 14)),oV 13 (.pick (.t 3) (.t 15) (.c (.bool false)))]) (.cond (.v 13) .skip (.exit 8))) (.block 9 (.ops [mv 8,oT (.bin .sub .arith (.t 0) (k6 1)),vt 8 1]))))) (.seq (.seq (.ops [mv 7,mv 8,oV 14 (.bin .gtr .arith (.t 0) (.t 1))]) (.cond (.v 14) (.exit 4) .skip)) (.seq (.ops [mv 0,mv 7,mv 0,mv 8,mv 0,mv 8,iT 3 4 5,lT 3 6,mv 0,mv 7,iT 3 8 9,lT 3 10,iT 3 0 1,sT 3 12 7,iT 3 2 3,sT 3 14 11]) (.seq (.ops [mv 7,oT (.bin .add .arith (.t 0) (k6 1)),vt 7 1]) (.ops [mv 8,oT (.bin .sub .arith (.t 0) (k6 1)),vt 8 1]))))))))) (.seq (.ops [mv 0,mv 8,mv 0,mv 1,mv 0,mv 1,iT 3 4 5,lT 3 6,mv 0,mv 8,iT 3 8 9,lT 3 10,iT 3 0 1,sT 3 12 7,iT 3 2 3,sT 3 14 11]) (.seq (.ops [mv 8,vt 5 0,oV 6 (.mov (.c (.bool false)))]) .ret)))))))))))),[.v 5,.v 6],[]⟩
def c101:AFunc:=⟨[0,2,4,8],(.seq (.ops [oV 1 (.mov (k6 0))]) (.seq (.seq (.ops [mv 0,oV 2 (.bin .geq .arith (.t 0) (.c (.int .u32 65536)))]) (.cond (.v 2) (.seq (.ops [mv 0,oT (.bin .shr .arith (.t 0) (.c (.int .u64 16))),vt 0 1]) (.ops [oV 1 (.mov (k6 16))])) .skip)) (.seq (.seq (.ops [mv 0,oV 3 (.bin .geq .arith (.t 0) (.c (.int .u32 256)))]) (.cond (.v 3) (.seq (.ops [mv 0,oT (.bin .shr .arith (.t 0) (.c (.int .u64 8))),vt 0 1]) (.ops [mv 1,oT (.bin .add .arith (.t 0) (k6 8)),vt 1 1])) .skip)) (.seq (.ops [mv 1,mv 0,oT (.toInt .u8 (.t 1)),oT (.sidx (.c (.str ([0,1,2,2,3,3,3,3]++List.replicate 8 4++List.replicate 16 5++List.replicate 32 6++List.replicate 64 7++List.replicate 128 8))) (.t 2)),oT (.toInt .i64 (.t 3)),oT (.bin .add .arith (.t 0) (.t 4)),vt 1 5]) .ret)))),[.v 1],[]⟩
def c102:AFunc:=⟨[0,2,4,8,14],(.seq (.ops [oV 1 (.mov (k6 0))]) (.seq (.seq (.ops [mv 0,oV 2 (.bin .geq .arith (.t 0) (.c (.int .u64 4294967296)))]) (.cond (.v 2) (.seq (.ops [mv 0,oT (.bin .shr .arith (.t 0) (.c (.int .u64 32))),vt 0 1]) (.ops [oV 1 (.mov (k6 32))])) .skip)) (.seq (.seq (.ops [mv 0,oV 3 (.bin .geq .arith (.t 0) (.c (.int .u64 65536)))]) (.cond (.v 3) (.seq (.ops [mv 0,oT (.bin .shr .arith (.t 0) (.c (.int .u64 16))),vt 0 1]) (.ops [mv 1,oT (.bin .add .arith (.t 0) (k6 16)),vt 1 1])) .skip)) (.seq (.seq (.ops [mv 0,oV 4 (.bin .geq .arith (.t 0) (.c (.int .u64 256)))]) (.cond (.v 4) (.seq (.ops [mv 0,oT (.bin .shr .arith (.t 0) (.c (.int .u64 8))),vt 0 1]) (.ops [mv 1,oT (.bin .add .arith (.t 0) (k6 8)),vt 1 1])) .skip)) (.seq (.ops [mv 1,mv 0,oT (.toInt .u8 (.t 1)),oT (.sidx (.c (.str ([0,1,2,2,3,3,3,3]++List.replicate 8 4++List.replicate 16 5++List.replicate 32 6++List.replicate 64 7++List.replicate 128 8))) (.t 2)),oT (.toInt .i64 (.t 3)),oT (.bin .add .arith (.t 0) (.t 4)),vt 1 5]) .ret))))),[.v 1],[]⟩
def c103:AFunc:=⟨[0,1,4],(.seq (.ops [oV 2 (.mov (.c (.bool false)))]) (.seq (.ops [mv 1,oT (.bin .geq .arith (.t 0) (k6 1)),mt 1,oG 2 true (.mov (.v 1)),oG 2 true (.bin .leq .arith (.t 3) (k6 4)),oT (.pick (.t 2) (.t 4) (.c (.bool false))),mt 5,oG 6 true (.mov (.v 0)),oG 6 true (.pcall 26 [(.t 7)]),oT (.pick (.t 6) (.t 8) (.c (.bool false))),vt 2 9]) .ret)),[.v 2],[]⟩
def c104:AFunc:=⟨[0,1,2,6,7,8,9,11,15,16,17,18,23,27,28,29,30,40],(.seq (.ops [oV 3 (.mov (.c nS))]) (.seq (.ops [oV 4 (.mov (.c nS))]) (.seq (.seq (.ops [mv 0,oT (.call (.c (.fn 141 [])) [(.t 0)]),mv 2,oV 8 (.slice 1 (.t 1) .none (some (.t 2))),oV 9 (.len (.v 8)),oV 10 (.mov (k6 0))]) (.block 0 (.loop (.seq (.ops [oV 11 (.bin .lss .arith (.v 10) (.v 9))]) (.seq (.cond (.v 11) .skip (.exit 0)) (.seq (.block 1 (.seq (.ops [mv 10,oT (.iaddr 1 (.v 8) (.v 10)),lS 1 1,vt 5 0,vt 6 2]) (.seq (.seq (.ops [mv 5,oV 12 (.bin .gtr .arith (.t 0) (k6 0))]) (.cond (.v 12) (.ops [mv 4,oT (.lit 0 3 1 1 false [z6] [(0,(k6 0))]),oT (.append false 3 8 1 false (.t 0) (.t 1)),vt 4 2]) .skip)) (.seq (.ops [vv 13 1,oV 14 (.len (.v 13)),oV 15 (.mov (k6 0))]) (.block 2 (.loop (.seq (.ops [oV 16 (.bin .lss .arith (.v 15) (.v 14))]) (.seq (.cond (.v 16) .skip (.exit 2)) (.seq (.block 3 (.seq (.ops [oT (.iaddr 1 (.v 13) (.v 15)),lS 1 0,vt 7 1]) (.seq (.ops [mv 7,oT (.bin .geq .arith (.t 0) (k6 0)),mt 1,oG 2 true (.mov (.v 7)),oG 2 true (.mov (.v 0)),oG 2 true (.len (.t 4)),oG 2 true (.bin .lss .arith (.t 3) (.t 5)),oV 17 (.pick (.t 2) (.t 6) (.c (.bool false)))]) (.cond (.v 17) (.ops [mv 4,mv 6,mv 7,oT (.call (.t 1) [(.t 2)]),oT (.bin .add .arith (.t 3) (k6 1)),oT (.lit 0 3 1 1 false [z6] [(0,(.t 4))]),oT (.append false 3 8 1 false (.t 0) (.t 5)),vt 4 6]) .skip)))) (.ops [oT (.bin .add .arith (.v 15) (k6 1)),vt 15 0])))))))))) (.ops [oT (.bin .add .arith (.v 10) (k6 1)),vt 10 0]))))))) (.seq (.ops [mv 4,vt 3 0]) .ret)))),[.v 3],[]⟩
def c105:AFunc:=⟨[0,2],(.seq (.ops [oV 1 (.mov (.c (.bool false)))]) (.seq (.ops [mv 0,mv 0,oT (.bin .neq .arith (.t 0) (.t 1)),vt 1 2]) .ret)),[.v 1],[]⟩
def c106:AFunc:=⟨[0,1,3,4],(.seq (.ops [oV 2 (.box 3 true (.v 1)),oV 3 (.mov (.c (.bool false)))]) (.seq (.ops [mv 0,lV 3 2,oT (.call (.c (.fn 142 [])) [(.t 0),(.t 1)]),oT (.bin .geq .arith (.t 2) (k6 0)),vt 3 3]) .ret)),[.v 3],[]⟩
def c107:AFunc:=⟨[0,1,2,3,4,5],(.seq (.ops [oV 3 (.box 3 true (.v 0)),oV 4 (.box 3 true (.v 1)),oV 5 (.mov (k6 0))]) (.seq (.ops [lV 7 2,lV 3 3,oT (.pcall 108 [(.t 0),(.t 1)]),lV 7 2,lV 3 4,oT (.pcall 108 [(.t 3),(.t 4)]),oT (.pcall 68 [(.t 2),(.t 5)]),lV 3 3,lV 3 4,oT (.pcall 33 [(.t 7),(.t 8)]),oT (.lit 0 3 2 1 false [z6] [(0,(.t 6)),(1,(.t 9))]),oT (.pcall 31 [(.t 10)]),vt 5 11]) .ret)),[.v 5],[]⟩
def c108:AFunc:=⟨[0,1,2,3,4,5,7],(.seq (.ops [oV 2 (.box 7 true (.v 0)),oV 3 (.box 3 true (.v 1)),oV 4 (.mov (k6 0))]) (.seq (.ops [lV 7 2,lV 3 3,oT (.pcall 18 [(.t 0),(.t 1)]),mt 2,eT 3 0,eT 3 1,oV 5 (.alloc 67 14 true [z6,z6,z6,z6,z6,z6,nS,nS,nS,nS,nS,nS,nS,nS]),sV 14 5 4,mt 5]) (.seq (.ops [fV 7 5,lS 1 0,oT (.pcall 63 [(.t 1)]),mt 2,eT 3 0,eT 3 1,oV 6 (.alloc 83 7 true [(.str []),z6,z6,z6,z6,z6,z6]),sV 7 6 4,mt 5]) (.seq (.ops [fV 1 6,lS 1 0,vt 4 1]) .ret)))),[.v 4],[]⟩
def c109:AFunc:=⟨[0,1,4,5,6,9,14],(.seq (.ops [oV 2 (.mov (.c (.str [])))]) (.seq (.seq (.ops [mv 1,oT (.bin .rem .arith (.t 0) (k6 2)),oV 5 (.bin .eql .arith (.t 1) (k6 0))]) (.cond (.v 5) (.seq (.ops [mv 0,oT (.pcall 143 [(.t 0)]),vt 2 1]) .ret) .skip)) (.seq (.ops [oV 3 (.mov (.c (.str [])))]) (.seq (.seq (.ops [mv 0,vt 4 0]) (.block 0 (.loop (.seq (.seq (.ops [mv 4,oV 6 (.bin .gtr .arith (.t 0) (k6 0))]) (.cond (.v 6) .skip (.exit 0))) (.seq (.block 1 (.ops [mv 4,oT (.bin .sub .arith (.t 0) (k6 1)),oT (.bin .rem .arith (.t 1) (k6 26)),oT (.bin .add .arith (k6 97) (.t 2)),oT (.toInt .u8 (.t 3)),oT (.lit 0 5 1 1 false [(.int .u8 0)] [(0,(.t 4))]),oT (.x .b2s [(.t 5)]),mv 3,oT (.bin .add .arith (.t 6) (.t 7)),vt 3 8])) (.ops [mv 4,oT (.bin .sub .arith (.t 0) (k6 1)),oT (.bin .quo .arith (.t 1) (k6 26)),vt 4 2])))))) (.seq (.ops [mv 3,vt 2 0]) .ret))))),[.v 2],[]⟩
def c110:AFunc:=⟨[0,2,3,5,11],(.seq (.ops [oV 1 (.mov (.c (.bool false)))]) (.seq (.seq (.ops [oV 2 (.mov (k6 0))]) (.block 0 (.loop (.seq (.seq (.ops [mv 2,oV 3 (.bin .lss .arith (.t 0) (k6 30))]) (.cond (.v 3) .skip (.exit 0))) (.seq (.block 1 (.seq (.ops [mv 2,oT (.sidx (.c (.str [48,49,50,51,52,53,54,55,56,57,45,35,46,124,40,41,42,63,123,125,62,47,95,126,59,58,44,61,34,64])) (.t 0)),mv 0,oV 4 (.bin .eql .arith (.t 1) (.t 2))]) (.cond (.v 4) (.seq (.ops [oV 1 (.mov (.c (.bool true)))]) .ret) .skip))) (.ops [mv 2,oT (.bin .add .arith (.t 0) (k6 1)),vt 2 1])))))) (.seq (.ops [mv 0,oT (.bin .lss .arith (.t 0) (.c (.int .u8 33))),vt 1 1]) .ret))),[.v 1],[]⟩
def c111:AFunc:=⟨[0,1,2,3,8,9,10,13,26],(.seq (.ops [oV 4 (.mov (k6 0))]) (.seq (.seq (.ops [oV 5 (.mov (k6 1))]) (.block 0 (.loop (.seq (.seq (.ops [mv 5,mv 3,oV 7 (.bin .leq .arith (.t 0) (.t 1))]) (.cond (.v 7) .skip (.exit 0))) (.seq (.block 1 (.seq (.ops [mv 0,mv 1,mv 5,oT (.call (.c (.fn 144 [])) [(.t 0),(.t 1),(.t 2)]),mv 0,mv 2,mv 5,oT (.call (.c (.fn 144 [])) [(.t 4),(.t 5),(.t 6)]),oT (.pcall 76 [(.t 3),(.t 7)]),vt 6 8]) (.seq (.ops [mv 6,oV 8 (.bin .neq .arith (.t 0) (k6 0))]) (.cond (.v 8) (.seq (.ops [mv 6,vt 4 0]) .ret) .skip)))) (.ops [mv 5,oT (.bin .add .arith (.t 0) (k6 1)),vt 5 1])))))) (.seq (.ops [oV 4 (.mov (k6 0))]) .ret))),[.v 4],[]⟩
def c131:AFunc:=⟨[0,1,2,3,4,5,7],(.seq (.ops [oV 2 (.box 7 true (.v 0)),oV 3 (.box 3 true (.v 1)),oV 4 (.mov (k6 0))]) (.seq (.ops [lV 7 2,lV 3 3,oT (.pcall 57 [(.t 0),(.t 1)]),mt 2,eT 3 0,eT 3 1,oV 5 (.alloc 67 14 true [z6,z6,z6,z6,z6,z6,nS,nS,nS,nS,nS,nS,nS,nS]),sV 14 5 4,mt 5]) (.seq (.ops [fV 7 5,lS 1 0,oT (.pcall 72 [(.t 1)]),mt 2,eT 3 0,eT 3 1,oV 6 (.alloc 83 7 true [(.str []),z6,z6,z6,z6,z6,z6]),sV 7 6 4,mt 5]) (.seq (.ops [fV 1 6,lS 1 0,vt 4 1]) .ret)))),[.v 4],[]⟩
def c132:AFunc:=⟨[0,2,3,7,37],(.seq (.ops [oV 1 (.mov (.c (.bool false)))]) (.seq (.seq (.ops [oV 2 (.mov (k6 0))]) (.block 0 (.loop (.seq (.seq (.ops [mv 2,mv 0,oT (.len (.t 1)),oV 3 (.bin .lss .arith (.t 0) (.t 2))]) (.cond (.v 3) .skip (.exit 0))) (.seq (.block 1 (.seq (.ops [mv 0,mv 2,iT 1 0 1,lS 1 2,oT (.bin .lss .arith (.t 3) (k6 0)),mt 4,oG 5 false (.mov (.v 0)),oG 5 false (.mov (.v 2)),oG 5 false (.iaddr 1 (.t 6) (.t 7)),oG 5 false (.load 1 false (.t 8)),oG 5 false (.bin .geq .arith (.t 9) (k6 64)),oT (.pick (.t 5) (.c (.bool true)) (.t 10)),mt 11,oG 12 false (.mov (.v 2)),oG 12 false (.bin .gtr .arith (.t 13) (k6 0)),oG 12 false (.mov (.t 14)),oG 15 true (.mov (.v 0)),oG 15 true (.mov (.v 2)),oG 15 true (.iaddr 1 (.t 16) (.t 17)),oG 15 true (.load 1 false (.t 18)),oG 15 true (.mov (.v 0)),oG 15 true (.mov (.v 2)),oG 15 true (.bin .sub .arith (.t 21) (k6 1)),oG 15 true (.iaddr 1 (.t 20) (.t 22)),oG 15 true (.load 1 false (.t 23)),oG 15 true (.bin .leq .arith (.t 19) (.t 24)),oG 12 false (.pick (.t 15) (.t 25) (.c (.bool false))),oV 4 (.pick (.t 12) (.c (.bool true)) (.t 26))]) (.cond (.v 4) (.seq (.ops [oV 1 (.mov (.c (.bool false)))]) .ret) .skip))) (.ops [mv 2,oT (.bin .add .arith (.t 0) (k6 1)),vt 2 1])))))) (.seq (.ops [mv 0,oT (.len (.t 0)),oT (.bin .gtr .arith (.t 1) (k6 0)),vt 1 2]) .ret))),[.v 1],[]⟩
def c133:AFunc:=⟨[0,1,3,4,5,6,19,33],(.seq (.ops [oV 2 (.box 3 true (.v 1)),oV 3 (.mov (.c nS))]) (.seq (.ops [oV 4 (.mov (k6 0))]) (.seq (.block 0 (.loop (.seq (.seq (.ops [mv 4,mv 0,oT (.len (.t 1)),oT (.bin .lss .arith (.t 0) (.t 2)),mt 3,oG 4 true (.mov (.v 0)),oG 4 true (.mov (.v 4)),oG 4 true (.iaddr 3 (.t 5) (.t 6)),oG 4 true (.load 3 true (.t 7)),oG 4 true (.load 3 true (.v 2)),oG 4 true (.call (.c (.fn 170 [])) [(.t 8),(.t 9)]),oG 4 true (.bin .lss .arith (.t 10) (k6 0)),oV 6 (.pick (.t 4) (.t 11) (.c (.bool false)))]) (.cond (.v 6) .skip (.exit 0))) (.block 1 (.ops [mv 4,oT (.bin .add .arith (.t 0) (k6 1)),vt 4 1]))))) (.seq (.seq (.ops [mv 4,mv 0,oT (.len (.t 1)),oT (.bin .lss .arith (.t 0) (.t 2)),mt 3,oG 4 true (.mov (.v 0)),oG 4 true (.mov (.v 4)),oG 4 true (.iaddr 3 (.t 5) (.t 6)),oG 4 true (.load 3 true (.t 7)),oG 4 true (.load 3 true (.v 2)),oG 4 true (.call (.c (.fn 171 [])) [(.t 8),(.t 9)]),oV 7 (.pick (.t 4) (.t 10) (.c (.bool false)))]) (.cond (.v 7) (.seq (.ops [mv 0,vt 3 0]) .ret) .skip)) (.seq (.ops [oV 5 (.mov (.c nS))]) (.seq (.ops [mv 5,mv 0,mv 4,oT (.slice 3 (.t 1) .none (some (.t 2))),oT (.append false 139 56 3 true (.t 0) (.t 3)),lV 3 2,oT (.lit 0 139 1 3 true [z6,nS,nS] [(0,(.t 5))]),oT (.append false 139 56 3 true (.t 4) (.t 6)),vt 5 7]) (.seq (.ops [mv 5,mv 0,mv 4,oT (.slice 3 (.t 1) (some (.t 2)) .none),oT (.append false 139 56 3 true (.t 0) (.t 3)),vt 3 4]) .ret))))))),[.v 3],[]⟩
def c134:AFunc:=⟨[0,1,2,3,4,7,12,21,24,29,37],(.seq (.ops [oV 1 (.box 3 true (.v 0)),oV 2 (.mov (.c (.bool false)))]) (.seq (.seq (.ops [fV 0 1,lS 1 0,oV 5 (.bin .eql .arith (.t 1) (k6 3))]) (.cond (.v 5) (.seq (.seq (.ops [oV 3 (.mov (k6 0))]) (.block 0 (.loop (.seq (.seq (.ops [mv 3,fV 2 1,lS 1 1,oT (.len (.t 2)),oV 6 (.bin .lss .arith (.t 0) (.t 3))]) (.cond (.v 6) .skip (.exit 0))) (.seq (.block 1 (.seq (.ops [fV 2 1,lS 1 0,mv 3,iT 3 1 2,lT 3 3,oT (.call (.c (.fn 134 [])) [(.t 4)]),oV 7 (.un .not (.t 5))]) (.cond (.v 7) (.seq (.ops [oV 2 (.mov (.c (.bool false)))]) .ret) .skip))) (.ops [mv 3,oT (.bin .add .arith (.t 0) (k6 1)),vt 3 1])))))) (.seq (.ops [oV 2 (.mov (.c (.bool true)))]) .ret)) .skip)) (.seq (.seq (.ops [fV 0 1,lS 1 0,oV 8 (.bin .eql .arith (.t 1) (k6 4))]) (.cond (.v 8) (.seq (.seq (.ops [oV 4 (.mov (k6 0))]) (.block 2 (.loop (.seq (.seq (.ops [mv 4,fV 2 1,lS 1 1,oT (.len (.t 2)),oV 9 (.bin .lss .arith (.t 0) (.t 3))]) (.cond (.v 9) .skip (.exit 2))) (.seq (.block 3 (.seq (.ops [fV 2 1,lS 1 0,mv 4,iT 3 1 2,lT 3 3,oV 10 (.call (.c (.fn 134 [])) [(.t 4)])]) (.cond (.v 10) (.seq (.ops [oV 2 (.mov (.c (.bool true)))]) .ret) .skip))) (.ops [mv 4,oT (.bin .add .arith (.t 0) (k6 1)),vt 4 1])))))) (.seq (.ops [oV 2 (.mov (.c (.bool false)))]) .ret)) .skip)) (.seq (.ops [fV 0 1,lS 1 0,oT (.bin .eql .arith (.t 1) (k6 1)),mt 2,oG 3 false (.faddr 0 (.v 1)),oG 3 false (.load 1 false (.t 4)),oG 3 false (.bin .eql .arith (.t 5) (k6 5)),oT (.pick (.t 3) (.c (.bool true)) (.t 6)),vt 2 7]) .ret)))),[.v 2],[]⟩
def c136:AFunc:=⟨[0,1,2,3,4,10,11,18,40,58],(.seq (.ops [mv 1,vt 5 0]) (.block 0 (.loop (.block 1 (.seq (.ops [mv 5,oT (.bin .mul .arith (k6 2) (.t 0)),oT (.bin .add .arith (.t 1) (k6 1)),vt 6 2]) (.seq (.seq (.ops [mv 6,mv 2,oV 7 (.bin .geq .arith (.t 0) (.t 1))]) (.cond (.v 7) (.exit 0) .skip)) (.seq (.seq (.ops [mv 6,oT (.bin .add .arith (.t 0) (k6 1)),mv 2,oT (.bin .lss .arith (.t 1) (.t 2)),mt 3,oG 4 true (.mov (.v 4)),oG 4 true (.mov (.v 0)),oG 4 true (.mov (.v 3)),oG 4 true (.mov (.v 6)),oG 4 true (.bin .add .arith (.t 7) (.t 8)),oG 4 true (.iaddr 3 (.t 6) (.t 9)),oG 4 true (.load 3 true (.t 10)),oG 4 true (.mov (.v 0)),oG 4 true (.mov (.v 3)),oG 4 true (.mov (.v 6)),oG 4 true (.bin .add .arith (.t 13) (.t 14)),oG 4 true (.bin .add .arith (.t 15) (k6 1)),oG 4 true (.iaddr 3 (.t 12) (.t 16)),oG 4 true (.load 3 true (.t 17)),oG 4 true (.call (.t 5) [(.t 11),(.t 18)]),oG 4 true (.bin .lss .arith (.t 19) (k6 0)),oV 8 (.pick (.t 4) (.t 20) (.c (.bool false)))]) (.cond (.v 8) (.ops [mv 6,oT (.bin .add .arith (.t 0) (k6 1)),vt 6 1]) .skip)) (.seq (.seq (.ops [mv 4,mv 0,mv 3,mv 5,oT (.bin .add .arith (.t 2) (.t 3)),iT 3 1 4,lT 3 5,mv 0,mv 3,mv 6,oT (.bin .add .arith (.t 8) (.t 9)),iT 3 7 10,lT 3 11,oT (.call (.t 0) [(.t 6),(.t 12)]),oT (.bin .lss .arith (.t 13) (k6 0)),oV 9 (.un .not (.t 14))]) (.cond (.v 9) .ret .skip)) (.seq (.ops [mv 0,mv 3,mv 5,oT (.bin .add .arith (.t 1) (.t 2)),mv 0,mv 3,mv 6,oT (.bin .add .arith (.t 5) (.t 6)),mv 0,mv 3,mv 6,oT (.bin .add .arith (.t 9) (.t 10)),iT 3 8 11,lT 3 12,mv 0,mv 3,mv 5,oT (.bin .add .arith (.t 15) (.t 16)),iT 3 14 17,lT 3 18,iT 3 0 3,sT 3 20 13,iT 3 4 7,sT 3 22 19]) (.ops [mv 6,vt 5 0])))))))))),[],[]⟩
def c137:AFunc:=⟨[0,2],(.seq (.ops [oV 1 (.mov (.c (.int .u64 0)))]) (.seq (.ops [mv 0,oT (.toInt .u64 (.t 0)),oT (.call (.c (.fn 65 [])) [(.t 1)]),oT (.bin .shl .arith (.c (.int .u64 1)) (.t 2)),vt 1 3]) .ret)),[.v 1],[]⟩
def c138:AFunc:=⟨[0,2],(.seq (.ops [oV 1 (.mov (.c (.int .u64 0)))]) (.seq (.ops [mv 0,oT (.nilc (.t 0)),lS 1 1,mv 0,oT (.nilc (.t 3)),lS 1 4,oT (.bin .shl .arith (.t 5) (.c (.int .u64 13))),oT (.bin .xor .arith (.t 2) (.t 6)),oT (.nilc (.t 0)),sT 1 8 7]) (.seq (.ops [mv 0,oT (.nilc (.t 0)),lS 1 1,mv 0,oT (.nilc (.t 3)),lS 1 4,oT (.bin .shr .arith (.t 5) (.c (.int .u64 7))),oT (.bin .xor .arith (.t 2) (.t 6)),oT (.nilc (.t 0)),sT 1 8 7]) (.seq (.ops [mv 0,oT (.nilc (.t 0)),lS 1 1,mv 0,oT (.nilc (.t 3)),lS 1 4,oT (.bin .shl .arith (.t 5) (.c (.int .u64 17))),oT (.bin .xor .arith (.t 2) (.t 6)),oT (.nilc (.t 0)),sT 1 8 7]) (.seq (.ops [mv 0,oT (.nilc (.t 0)),lS 1 1,vt 1 2]) .ret))))),[.v 1],[]⟩
def c139:AFunc:=⟨[0,1,2,3,8],(.seq (.ops [oV 4 (.mov (k6 0))]) (.seq (.ops [mv 0,mv 1,oT (.bin .sub .arith (.t 1) (k6 1)),mv 1,mv 1,oT (.bin .add .arith (.t 4) (k6 1)),mv 2,mv 3,oT (.call (.c (.fn 140 [])) [(.t 0),(.t 2),(.t 3),(.t 5),(.t 6),(.t 7)]),vt 4 8]) .ret)),[.v 4],[]⟩
def c140:AFunc:=⟨[0,1,2,3,4,5,12],(.seq (.ops [oV 6 (.mov (k6 0))]) (.seq (.ops [mv 0,mv 1,mv 2,mv 4,mv 5,oT (.call (.c (.fn 173 [])) [(.t 0),(.t 1),(.t 2),(.t 3),(.t 4)]),mt 5,eT 6 0,eT 6 1,vt 1 7,vt 2 8]) (.seq (.ops [mv 0,mv 2,mv 3,mv 4,mv 5,oT (.call (.c (.fn 173 [])) [(.t 0),(.t 1),(.t 2),(.t 3),(.t 4)]),mt 5,eT 6 0,eT 6 1,vt 2 7,vt 3 8]) (.seq (.ops [mv 0,mv 1,mv 2,mv 4,mv 5,oT (.call (.c (.fn 173 [])) [(.t 0),(.t 1),(.t 2),(.t 3),(.t 4)]),mt 5,eT 6 0,eT 6 1,vt 1 7,vt 2 8]) (.seq (.ops [mv 2,vt 6 0]) .ret))))),[.v 6],[]⟩
def c141:AFunc:=⟨[0,1,2],(.seq (.ops [oV 1 (.box 1 false (.v 0)),oV 2 (.mov (.c nS))]) (.seq (.ops [oT (.clo 174 [(.v 1)]),oT (.clo 175 [(.v 1)]),oT (.clo 176 [(.v 1)]),oT (.lit 2 274 4 1 false [.nilfn] [(0,(.t 0)),(1,(.t 1)),(2,(.t 2)),(3,(.c (.fn 177 [])))]),vt 2 3]) .ret)),[.v 2],[]⟩
def c142:AFunc:=⟨[0,1,3,4,5,7,8,9,16],(.seq (.ops [oV 2 (.box 3 true (.v 1)),oV 3 (.mov (k6 0))]) (.seq (.seq (.ops [mv 0,oV 5 (.len (.t 0)),oV 6 (.mov (k6 0))]) (.block 0 (.loop (.seq (.ops [oV 7 (.bin .lss .arith (.v 6) (.v 5))]) (.seq (.cond (.v 7) .skip (.exit 0)) (.seq (.block 1 (.seq (.ops [mv 6,vt 4 0]) (.seq (.ops [lV 3 2,mv 0,mv 4,iT 3 1 2,lT 3 3,oV 8 (.bin .eql (.struct [.int,.int,.int]) (.t 0) (.t 4))]) (.cond (.v 8) (.seq (.ops [mv 4,vt 3 0]) .ret) .skip)))) (.ops [oT (.bin .add .arith (.v 6) (k6 1)),vt 6 0]))))))) (.seq (.ops [oV 3 (.mov (k6 (-1)))]) .ret))),[.v 3],[]⟩
def c143:AFunc:=⟨[0,2],(.seq (.ops [oV 1 (.mov (.c (.str [])))]) (.seq (.ops [mv 0,oT (.call (.c (.fn 178 [])) [(.t 0)]),vt 1 1]) .ret)),[.v 1],[]⟩
def c144:AFunc:=⟨[0,1,2,6,7,8,9,13,27,28,29,39,49,59],(.seq (.ops [oV 3 (.mov (.c nS))]) (.seq (.ops [oV 4 (.mov (.c nS))]) (.seq (.seq (.ops [oV 5 (.mov (k6 0))]) (.block 0 (.loop (.seq (.seq (.ops [mv 5,mv 1,oT (.len (.t 1)),oV 7 (.bin .lss .arith (.t 0) (.t 2))]) (.cond (.v 7) .skip (.exit 0))) (.seq (.block 1 (.seq (.ops [mv 1,mv 5,iT 1 0 1,lS 1 2,vt 6 3]) (.seq (.seq (.ops [mv 6,oT (.bin .lss .arith (.t 0) (k6 0)),mt 1,oG 2 false (.mov (.v 6)),oG 2 false (.mov (.v 0)),oG 2 false (.len (.t 4)),oG 2 false (.bin .geq .arith (.t 3) (.t 5)),oV 8 (.pick (.t 2) (.c (.bool true)) (.t 6))]) (.cond (.v 8) (.exit 1) .skip)) (.seq (.ops [vv 9 2]) (.block 2 (.seq (.ops [oT (.bin .eql .arith (.v 9) (k6 1)),vt 10 0]) (.cond (.v 10) (.ops [mv 4,mv 0,mv 6,iT 5 1 2,fT 1 3,lS 1 4,oT (.lit 0 3 1 1 false [z6] [(0,(.t 5))]),oT (.append false 3 8 1 false (.t 0) (.t 6)),vt 4 7]) (.seq (.ops [oT (.bin .eql .arith (.v 9) (k6 2)),vt 11 0]) (.cond (.v 11) (.ops [mv 4,mv 0,mv 6,iT 5 1 2,fT 2 3,lS 1 4,oT (.lit 0 3 1 1 false [z6] [(0,(.t 5))]),oT (.append false 3 8 1 false (.t 0) (.t 6)),vt 4 7]) (.seq (.ops [oT (.bin .eql .arith (.v 9) (k6 3)),vt 12 0]) (.cond (.v 12) (.ops [mv 4,mv 0,mv 6,iT 5 1 2,fT 3 3,lS 1 4,oT (.lit 0 3 1 1 false [z6] [(0,(.t 5))]),oT (.append false 3 8 1 false (.t 0) (.t 6)),vt 4 7]) (.seq (.ops [oT (.bin .eql .arith (.v 9) (k6 4)),vt 13 0]) (.cond (.v 13) (.ops [mv 4,mv 6,oT (.lit 0 3 1 1 false [z6] [(0,(.t 1))]),oT (.append false 3 8 1 false (.t 0) (.t 2)),vt 4 3]) .skip))))))))))))) (.ops [mv 5,oT (.bin .add .arith (.t 0) (k6 1)),vt 5 1])))))) (.seq (.ops [mv 4,vt 3 0]) .ret)))),[.v 3],[]⟩
def c170:AFunc:=⟨[0,1,2,3,4,5,6,7,28,43,66,81],(.seq (.ops [oV 2 (.box 3 true (.v 0)),oV 3 (.box 3 true (.v 1)),oV 4 (.mov (k6 0))]) (.seq (.ops [fV 0 2,lS 1 0,fV 0 3,lS 1 2,oT (.call (.c (.fn 211 [])) [(.t 1),(.t 3)]),vt 5 4]) (.seq (.seq (.ops [oV 6 (.mov (k6 0))]) (.block 0 (.loop (.seq (.seq (.ops [mv 6,fV 1 2,lS 1 1,oT (.len (.t 2)),oT (.bin .lss .arith (.t 0) (.t 3)),mt 4,oG 5 true (.mov (.v 6)),oG 5 true (.faddr 1 (.v 3)),oG 5 true (.load 1 false (.t 7)),oG 5 true (.len (.t 8)),oG 5 true (.bin .lss .arith (.t 6) (.t 9)),oT (.pick (.t 5) (.t 10) (.c (.bool false))),mt 11,oG 12 true (.mov (.v 5)),oG 12 true (.bin .eql .arith (.t 13) (k6 0)),oV 8 (.pick (.t 12) (.t 14) (.c (.bool false)))]) (.cond (.v 8) .skip (.exit 0))) (.seq (.block 1 (.ops [fV 1 2,lS 1 0,mv 6,iT 1 1 2,lS 1 3,fV 1 3,lS 1 5,mv 6,iT 1 6 7,lS 1 8,oT (.call (.c (.fn 211 [])) [(.t 4),(.t 9)]),vt 5 10])) (.ops [mv 6,oT (.bin .add .arith (.t 0) (k6 1)),vt 6 1])))))) (.seq (.seq (.ops [mv 5,oV 9 (.bin .eql .arith (.t 0) (k6 0))]) (.cond (.v 9) (.ops [fV 1 2,lS 1 0,oT (.len (.t 1)),fV 1 3,lS 1 3,oT (.len (.t 4)),oT (.call (.c (.fn 211 [])) [(.t 2),(.t 5)]),vt 5 6]) .skip)) (.seq (.seq (.ops [oV 7 (.mov (k6 0))]) (.block 2 (.loop (.seq (.seq (.ops [mv 7,fV 2 2,lS 1 1,oT (.len (.t 2)),oT (.bin .lss .arith (.t 0) (.t 3)),mt 4,oG 5 true (.mov (.v 7)),oG 5 true (.faddr 2 (.v 3)),oG 5 true (.load 1 false (.t 7)),oG 5 true (.len (.t 8)),oG 5 true (.bin .lss .arith (.t 6) (.t 9)),oT (.pick (.t 5) (.t 10) (.c (.bool false))),mt 11,oG 12 true (.mov (.v 5)),oG 12 true (.bin .eql .arith (.t 13) (k6 0)),oV 10 (.pick (.t 12) (.t 14) (.c (.bool false)))]) (.cond (.v 10) .skip (.exit 2))) (.seq (.block 3 (.ops [fV 2 2,lS 1 0,mv 7,iT 3 1 2,lT 3 3,fV 2 3,lS 1 5,mv 7,iT 3 6 7,lT 3 8,oT (.call (.c (.fn 170 [])) [(.t 4),(.t 9)]),vt 5 10])) (.ops [mv 7,oT (.bin .add .arith (.t 0) (k6 1)),vt 7 1])))))) (.seq (.seq (.ops [mv 5,oV 11 (.bin .eql .arith (.t 0) (k6 0))]) (.cond (.v 11) (.ops [fV 2 2,lS 1 0,oT (.len (.t 1)),fV 2 3,lS 1 3,oT (.len (.t 4)),oT (.call (.c (.fn 211 [])) [(.t 2),(.t 5)]),vt 5 6]) .skip)) (.seq (.ops [mv 5,vt 4 0]) .ret))))))),[.v 4],[]⟩
def c171:AFunc:=⟨[0,1,2,3,4],(.seq (.ops [oV 2 (.box 3 true (.v 0)),oV 3 (.box 3 true (.v 1)),oV 4 (.mov (.c (.bool false)))]) (.seq (.ops [lV 3 2,lV 3 3,oT (.call (.c (.fn 170 [])) [(.t 0),(.t 1)]),oT (.bin .eql .arith (.t 2) (k6 0)),vt 4 3]) .ret)),[.v 4],[]⟩
def c173:AFunc:=⟨[0,1,2,3,4,10,11,22],(.seq (.ops [oV 5 (.mov (k6 0)),oV 6 (.mov (k6 0))]) (.seq (.seq (.ops [mv 4,mv 0,mv 2,iT 3 1 2,lT 3 3,mv 0,mv 1,iT 3 5 6,lT 3 7,oT (.call (.t 0) [(.t 4),(.t 8)]),oV 7 (.bin .lss .arith (.t 9) (k6 0))]) (.cond (.v 7) (.seq (.ops [mv 3,oT (.nilc (.t 0)),lS 1 1,oT (.bin .add .arith (.t 2) (k6 1)),oT (.nilc (.t 0)),sT 1 4 3]) (.seq (.ops [mv 2,mv 1,vt 5 0,vt 6 1]) .ret)) .skip)) (.seq (.ops [mv 1,mv 2,vt 5 0,vt 6 1]) .ret))),[.v 5,.v 6],[]⟩
def c174:AFunc:=⟨[0,1,3],(.seq (.ops [oV 2 (.mov (k6 0))]) (.seq (.ops [lU 1 1,mv 0,iT 5 0 1,fT 1 2,lS 1 3,vt 2 4]) .ret)),[.v 2],[]⟩
def c175:AFunc:=⟨[0,1,3],(.seq (.ops [oV 2 (.mov (k6 0))]) (.seq (.ops [lU 1 1,mv 0,iT 5 0 1,fT 2 2,lS 1 3,vt 2 4]) .ret)),[.v 2],[]⟩
def c176:AFunc:=⟨[0,1,3],(.seq (.ops [oV 2 (.mov (k6 0))]) (.seq (.ops [lU 1 1,mv 0,iT 5 0 1,fT 3 2,lS 1 3,vt 2 4]) .ret)),[.v 2],[]⟩
def c177:AFunc:=⟨[0,2],(.seq (.ops [oV 1 (.mov (k6 0))]) (.seq (.ops [mv 0,vt 1 0]) .ret)),[.v 1],[]⟩
def c178:AFunc:=⟨[0,2],(.seq (.ops [oV 1 (.mov (.c (.str [])))]) (.seq (.ops [mv 0,oT (.call (.c (.fn 213 [])) [(.t 0),(k6 10)]),vt 1 1]) .ret)),[.v 1],[]⟩
def c211:AFunc:=⟨[0,1,4,7,10],(.seq (.ops [oV 2 (.mov (k6 0))]) (.seq (.seq (.ops [mv 0,mv 1,oV 3 (.bin .lss .arith (.t 0) (.t 1))]) (.cond (.v 3) (.seq (.ops [oV 2 (.mov (k6 (-1)))]) .ret) .skip)) (.seq (.seq (.ops [mv 0,mv 1,oV 4 (.bin .gtr .arith (.t 0) (.t 1))]) (.cond (.v 4) (.seq (.ops [oV 2 (.mov (k6 1))]) .ret) .skip)) (.seq (.ops [oV 2 (.mov (k6 0))]) .ret)))),[.v 2],[]⟩
def c213:AFunc:=⟨[0,1,4,5,6,7,9,11,17,23,34],(.seq (.ops [oV 2 (.mov (.c (.str [])))]) (.seq (.seq (.ops [mv 1,oV 7 (.bin .eql .arith (.t 0) (k6 10))]) (.cond (.v 7) (.seq (.seq (.ops [mv 0,oT (.bin .leq .arith (k6 0) (.t 0)),mt 1,oG 2 true (.mov (.v 0)),oG 2 true (.bin .lss .arith (.t 3) (k6 100)),oV 8 (.pick (.t 2) (.t 4) (.c (.bool false)))]) (.cond (.v 8) (.seq (.ops [mv 0,oT (.call (.c (.fn 250 [])) [(.t 0)]),vt 2 1]) .ret) .skip)) (.seq (.ops [oV 3 (.alloc 396 24 true (List.replicate 24 (.int .u8 0)))]) (.seq (.ops [mv 0,oT (.toInt .u64 (.t 0)),vt 4 1]) (.seq (.seq (.ops [mv 0,oV 9 (.bin .lss .arith (.t 0) (k6 0))]) (.cond (.v 9) (.ops [mv 4,oT (.un .neg (.t 0)),vt 4 1]) .skip)) (.seq (.ops [mv 4,oT (.call (.c (.fn 251 [])) [(.t 0)]),vt 5 1]) (.seq (.ops [mv 5,oT (.bin .add .arith (k6 1) (.t 0)),oT (.x (.aslice 24 1 false true true) [(.v 3),(k6 1),(.t 1)]),mv 4,oT (.call (.c (.fn 252 [])) [(.t 2),(.t 3)])]) (.seq (.seq (.ops [mv 0,oV 10 (.bin .lss .arith (.t 0) (k6 0))]) (.cond (.v 10) (.seq (.ops [oT (.aaddr 24 1 (.v 3) (k6 0)),oN (.store 1 (.t 0) (.c (.int .u8 45)))]) (.seq (.ops [mv 5,oT (.bin .add .arith (k6 1) (.t 0)),oT (.x (.aslice 24 1 false false true) [(.v 3),(.t 1)]),oT (.x .b2s [(.t 2)]),vt 2 3]) .ret)) .skip)) (.seq (.ops [mv 5,oT (.bin .add .arith (k6 1) (.t 0)),oT (.x (.aslice 24 1 false true true) [(.v 3),(k6 1),(.t 1)]),oT (.x .b2s [(.t 2)]),vt 2 3]) .ret)))))))) .skip)) (.seq (.ops [mv 0,oT (.toInt .u64 (.t 0)),mv 1,mv 0,oT (.bin .lss .arith (.t 3) (k6 0)),oT (.call (.c (.fn 253 [])) [(.c nS),(.t 1),(.t 2),(.t 4),(.c (.bool false))]),mt 5,eT 6 0,eT 6 1,mt 7,vt 6 8]) (.seq (.ops [mv 6,vt 2 0]) .ret)))),[.v 2],[]⟩
def c250:AFunc:=⟨[0,2,4],(.seq (.ops [oV 1 (.mov (.c (.str [])))]) (.seq (.seq (.ops [mv 0,oV 2 (.bin .lss .arith (.t 0) (k6 10))]) (.cond (.v 2) (.seq (.ops [mv 0,mv 0,oT (.bin .add .arith (.t 1) (k6 1)),oT (.sslice (.c (.str [48,49,50,51,52,53,54,55,56,57,97,98,99,100,101,102,103,104,105,106,107,108,109,110,111,112,113,114,115,116,117,118,119,120,121,122])) (some (.t 0)) (some (.t 2))),vt 1 3]) .ret) .skip)) (.seq (.ops [mv 0,oT (.bin .mul .arith (.t 0) (k6 2)),mv 0,oT (.bin .mul .arith (.t 2) (k6 2)),oT (.bin .add .arith (.t 3) (k6 2)),oT (.sslice (.c (.str [48,48,48,49,48,50,48,51,48,52,48,53,48,54,48,55,48,56,48,57,49,48,49,49,49,50,49,51,49,52,49,53,49,54,49,55,49,56,49,57,50,48,50,49,50,50,50,51,50,52,50,53,50,54,50,55,50,56,50,57,51,48,51,49,51,50,51,51,51,52,51,53,51,54,51,55,51,56,51,57,52,48,52,49,52,50,52,51,52,52,52,53,52,54,52,55,52,56,52,57,53,48,53,49,53,50,53,51,53,52,53,53,53,54,53,55,53,56,53,57,54,48,54,49,54,50,54,51,54,52,54,53,54,54,54,55,54,56,54,57,55,48,55,49,55,50,55,51,55,52,55,53,55,54,55,55,55,56,55,57,56,48,56,49,56,50,56,51,56,52,56,53,56,54,56,55,56,56,56,57,57,48,57,49,57,50,57,51,57,52,57,53,57,54,57,55,57,56,57,57])) (some (.t 1)) (some (.t 4))),vt 1 5]) .ret))),[.v 1],[]⟩
def c251:AFunc:=⟨[0,2,3],(.seq (.ops [oV 1 (.mov (k6 0))]) (.seq (.ops [mv 0,oT (.call (.c (.fn 102 [])) [(.t 0)]),oT (.call (.c (.fn 274 [])) [(.t 1)]),vt 2 2]) (.seq .refuse .ret))),[.v 1],[]⟩
def c252:AFunc:=⟨[0,1,4,5,6,7,8,9,10,11,12,13,14,15,16,20,99,139,161],(.seq (.ops [mv 0,oT (.len (.t 0)),vt 2 1]) (.seq (.block 0 (.loop (.seq (.seq (.ops [mv 2,oV 15 (.bin .geq .arith (.t 0) (k6 8))]) (.cond (.v 15) .skip (.exit 0))) (.block 1 (.seq (.ops [mv 1,oT (.bin .rem .arith (.t 0) (.c (.int .u64 100000000))),oT (.toInt .u32 (.t 1)),vt 3 2]) (.seq (.ops [mv 1,oT (.bin .quo .arith (.t 0) (.c (.int .u64 100000000))),vt 1 1]) (.seq (.ops [mv 3,oT (.bin .quo .arith (.t 0) (.c (.int .u32 10000))),mv 3,oT (.bin .rem .arith (.t 2) (.c (.int .u32 10000))),vt 4 1,vt 5 3]) (.seq (.ops [mv 5,oT (.bin .quo .arith (.t 0) (.c (.int .u32 100))),oT (.bin .mul .arith (.t 1) (.c (.int .u32 2))),mv 5,oT (.bin .rem .arith (.t 3) (.c (.int .u32 100))),oT (.bin .mul .arith (.t 4) (.c (.int .u32 2))),vt 6 2,vt 7 5]) (.seq (.ops [mv 4,oT (.bin .quo .arith (.t 0) (.c (.int .u32 100))),oT (.bin .mul .arith (.t 1) (.c (.int .u32 2))),mv 4,oT (.bin .rem .arith (.t 3) (.c (.int .u32 100))),oT (.bin .mul .arith (.t 4) (.c (.int .u32 2))),vt 8 2,vt 9 5]) (.seq (.ops [mv 0,mv 2,oT (.bin .sub .arith (.t 1) (k6 1)),mv 0,mv 2,oT (.bin .sub .arith (.t 4) (k6 2)),mv 7,oT (.bin .add .arith (.t 6) (.c (.int .u32 1))),oT (.sidx (.c (.str [48,48,48,49,48,50,48,51,48,52,48,53,48,54,48,55,48,56,48,57,49,48,49,49,49,50,49,51,49,52,49,53,49,54,49,55,49,56,49,57,50,48,50,49,50,50,50,51,50,52,50,53,50,54,50,55,50,56,50,57,51,48,51,49,51,50,51,51,51,52,51,53,51,54,51,55,51,56,51,57,52,48,52,49,52,50,52,51,52,52,52,53,52,54,52,55,52,56,52,57,53,48,53,49,53,50,53,51,53,52,53,53,53,54,53,55,53,56,53,57,54,48,54,49,54,50,54,51,54,52,54,53,54,54,54,55,54,56,54,57,55,48,55,49,55,50,55,51,55,52,55,53,55,54,55,55,55,56,55,57,56,48,56,49,56,50,56,51,56,52,56,53,56,54,56,55,56,56,56,57,57,48,57,49,57,50,57,51,57,52,57,53,57,54,57,55,57,56,57,57])) (.t 7)),mv 7,oT (.sidx (.c (.str [48,48,48,49,48,50,48,51,48,52,48,53,48,54,48,55,48,56,48,57,49,48,49,49,49,50,49,51,49,52,49,53,49,54,49,55,49,56,49,57,50,48,50,49,50,50,50,51,50,52,50,53,50,54,50,55,50,56,50,57,51,48,51,49,51,50,51,51,51,52,51,53,51,54,51,55,51,56,51,57,52,48,52,49,52,50,52,51,52,52,52,53,52,54,52,55,52,56,52,57,53,48,53,49,53,50,53,51,53,52,53,53,53,54,53,55,53,56,53,57,54,48,54,49,54,50,54,51,54,52,54,53,54,54,54,55,54,56,54,57,55,48,55,49,55,50,55,51,55,52,55,53,55,54,55,55,55,56,55,57,56,48,56,49,56,50,56,51,56,52,56,53,56,54,56,55,56,56,56,57,57,48,57,49,57,50,57,51,57,52,57,53,57,54,57,55,57,56,57,57])) (.t 9)),iT 1 0 2,sT 1 11 8,iT 1 3 5,sT 1 13 10]) (.seq (.ops [mv 0,mv 2,oT (.bin .sub .arith (.t 1) (k6 3)),mv 0,mv 2,oT (.bin .sub .arith (.t 4) (k6 4)),mv 6,oT (.bin .add .arith (.t 6) (.c (.int .u32 1))),oT (.sidx (.c (.str [48,48,48,49,48,50,48,51,48,52,48,53,48,54,48,55,48,56,48,57,49,48,49,49,49,50,49,51,49,52,49,53,49,54,49,55,49,56,49,57,50,48,50,49,50,50,50,51,50,52,50,53,50,54,50,55,50,56,50,57,51,48,51,49,51,50,51,51,51,52,51,53,51,54,51,55,51,56,51,57,52,48,52,49,52,50,52,51,52,52,52,53,52,54,52,55,52,56,52,57,53,48,53,49,53,50,53,51,53,52,53,53,53,54,53,55,53,56,53,57,54,48,54,49,54,50,54,51,54,52,54,53,54,54,54,55,54,56,54,57,55,48,55,49,55,50,55,51,55,52,55,53,55,54,55,55,55,56,55,57,56,48,56,49,56,50,56,51,56,52,56,53,56,54,56,55,56,56,56,57,57,48,57,49,57,50,57,51,57,52,57,53,57,54,57,55,57,56,57,57])) (.t 7)),mv 6,oT (.sidx (.c (.str [48,48,48,49,48,50,48,51,48,52,48,53,48,54,48,55,48,56,48,57,49,48,49,49,49,50,49,51,49,52,49,53,49,54,49,55,49,56,49,57,50,48,50,49,50,50,50,51,50,52,50,53,50,54,50,55,50,56,50,57,51,48,51,49,51,50,51,51,51,52,51,53,51,54,51,55,51,56,51,57,52,48,52,49,52,50,52,51,52,52,52,53,52,54,52,55,52,56,52,57,53,48,53,49,53,50,53,51,53,52,53,53,53,54,53,55,53,56,53,57,54,48,54,49,54,50,54,51,54,52,54,53,54,54,54,55,54,56,54,57,55,48,55,49,55,50,55,51,55,52,55,53,55,54,55,55,55,56,55,57,56,48,56,49,56,50,56,51,56,52,56,53,56,54,56,55,56,56,56,57,57,48,57,49,57,50,57,51,57,52,57,53,57,54,57,55,57,56,57,57])) (.t 9)),iT 1 0 2,sT 1 11 8,iT 1 3 5,sT 1 13 10]) (.seq (.ops [mv 0,mv 2,oT (.bin .sub .arith (.t 1) (k6 5)),mv 0,mv 2,oT (.bin .sub .arith (.t 4) (k6 6)),mv 9,oT (.bin .add .arith (.t 6) (.c (.int .u32 1))),oT (.sidx (.c (.str [48,48,48,49,48,50,48,51,48,52,48,53,48,54,48,55,48,56,48,57,49,48,49,49,49,50,49,51,49,52,49,53,49,54,49,55,49,56,49,57,50,48,50,49,50,50,50,51,50,52,50,53,50,54,50,55,50,56,50,57,51,48,51,49,51,50,51,51,51,52,51,53,51,54,51,55,51,56,51,57,52,48,52,49,52,50,52,51,52,52,52,53,52,54,52,55,52,56,52,57,53,48,53,49,53,50,53,51,53,52,53,53,53,54,53,55,53,56,53,57,54,48,54,49,54,50,54,51,54,52,54,53,54,54,54,55,54,56,54,57,55,48,55,49,55,50,55,51,55,52,55,53,55,54,55,55,55,56,55,57,56,48,56,49,56,50,56,51,56,52,56,53,56,54,56,55,56,56,56,57,57,48,57,49,57,50,57,51,57,52,57,53,57,54,57,55,57,56,57,57])) (.t 7)),mv 9,oT (.sidx (.c (.str [48,48,48,49,48,50,48,51,48,52,48,53,48,54,48,55,48,56,48,57,49,48,49,49,49,50,49,51,49,52,49,53,49,54,49,55,49,56,49,57,50,48,50,49,50,50,50,51,50,52,50,53,50,54,50,55,50,56,50,57,51,48,51,49,51,50,51,51,51,52,51,53,51,54,51,55,51,56,51,57,52,48,52,49,52,50,52,51,52,52,52,53,52,54,52,55,52,56,52,57,53,48,53,49,53,50,53,51,53,52,53,53,53,54,53,55,53,56,53,57,54,48,54,49,54,50,54,51,54,52,54,53,54,54,54,55,54,56,54,57,55,48,55,49,55,50,55,51,55,52,55,53,55,54,55,55,55,56,55,57,56,48,56,49,56,50,56,51,56,52,56,53,56,54,56,55,56,56,56,57,57,48,57,49,57,50,57,51,57,52,57,53,57,54,57,55,57,56,57,57])) (.t 9)),iT 1 0 2,sT 1 11 8,iT 1 3 5,sT 1 13 10]) (.seq (.ops [mv 0,mv 2,oT (.bin .sub .arith (.t 1) (k6 7)),mv 0,mv 2,oT (.bin .sub .arith (.t 4) (k6 8)),mv 8,oT (.bin .add .arith (.t 6) (.c (.int .u32 1))),oT (.sidx (.c (.str [48,48,48,49,48,50,48,51,48,52,48,53,48,54,48,55,48,56,48,57,49,48,49,49,49,50,49,51,49,52,49,53,49,54,49,55,49,56,49,57,50,48,50,49,50,50,50,51,50,52,50,53,50,54,50,55,50,56,50,57,51,48,51,49,51,50,51,51,51,52,51,53,51,54,51,55,51,56,51,57,52,48,52,49,52,50,52,51,52,52,52,53,52,54,52,55,52,56,52,57,53,48,53,49,53,50,53,51,53,52,53,53,53,54,53,55,53,56,53,57,54,48,54,49,54,50,54,51,54,52,54,53,54,54,54,55,54,56,54,57,55,48,55,49,55,50,55,51,55,52,55,53,55,54,55,55,55,56,55,57,56,48,56,49,56,50,56,51,56,52,56,53,56,54,56,55,56,56,56,57,57,48,57,49,57,50,57,51,57,52,57,53,57,54,57,55,57,56,57,57])) (.t 7)),mv 8,oT (.sidx (.c (.str [48,48,48,49,48,50,48,51,48,52,48,53,48,54,48,55,48,56,48,57,49,48,49,49,49,50,49,51,49,52,49,53,49,54,49,55,49,56,49,57,50,48,50,49,50,50,50,51,50,52,50,53,50,54,50,55,50,56,50,57,51,48,51,49,51,50,51,51,51,52,51,53,51,54,51,55,51,56,51,57,52,48,52,49,52,50,52,51,52,52,52,53,52,54,52,55,52,56,52,57,53,48,53,49,53,50,53,51,53,52,53,53,53,54,53,55,53,56,53,57,54,48,54,49,54,50,54,51,54,52,54,53,54,54,54,55,54,56,54,57,55,48,55,49,55,50,55,51,55,52,55,53,55,54,55,55,55,56,55,57,56,48,56,49,56,50,56,51,56,52,56,53,56,54,56,55,56,56,56,57,57,48,57,49,57,50,57,51,57,52,57,53,57,54,57,55,57,56,57,57])) (.t 9)),iT 1 0 2,sT 1 11 8,iT 1 3 5,sT 1 13 10]) (.ops [mv 2,oT (.bin .sub .arith (.t 0) (k6 8)),vt 2 1])))))))))))))) (.seq (.ops [mv 1,oT (.toInt .u32 (.t 0)),vt 10 1]) (.seq (.seq (.ops [mv 2,oV 16 (.bin .geq .arith (.t 0) (k6 4))]) (.cond (.v 16) (.seq (.ops [mv 10,oT (.bin .rem .arith (.t 0) (.c (.int .u32 10000))),vt 11 1]) (.seq (.ops [mv 10,oT (.bin .quo .arith (.t 0) (.c (.int .u32 10000))),vt 10 1]) (.seq (.ops [mv 11,oT (.bin .quo .arith (.t 0) (.c (.int .u32 100))),oT (.bin .mul .arith (.t 1) (.c (.int .u32 2))),mv 11,oT (.bin .rem .arith (.t 3) (.c (.int .u32 100))),oT (.bin .mul .arith (.t 4) (.c (.int .u32 2))),vt 12 2,vt 13 5]) (.seq (.ops [mv 0,mv 2,oT (.bin .sub .arith (.t 1) (k6 1)),mv 0,mv 2,oT (.bin .sub .arith (.t 4) (k6 2)),mv 13,oT (.bin .add .arith (.t 6) (.c (.int .u32 1))),oT (.sidx (.c (.str [48,48,48,49,48,50,48,51,48,52,48,53,48,54,48,55,48,56,48,57,49,48,49,49,49,50,49,51,49,52,49,53,49,54,49,55,49,56,49,57,50,48,50,49,50,50,50,51,50,52,50,53,50,54,50,55,50,56,50,57,51,48,51,49,51,50,51,51,51,52,51,53,51,54,51,55,51,56,51,57,52,48,52,49,52,50,52,51,52,52,52,53,52,54,52,55,52,56,52,57,53,48,53,49,53,50,53,51,53,52,53,53,53,54,53,55,53,56,53,57,54,48,54,49,54,50,54,51,54,52,54,53,54,54,54,55,54,56,54,57,55,48,55,49,55,50,55,51,55,52,55,53,55,54,55,55,55,56,55,57,56,48,56,49,56,50,56,51,56,52,56,53,56,54,56,55,56,56,56,57,57,48,57,49,57,50,57,51,57,52,57,53,57,54,57,55,57,56,57,57])) (.t 7)),mv 13,oT (.sidx (.c (.str [48,48,48,49,48,50,48,51,48,52,48,53,48,54,48,55,48,56,48,57,49,48,49,49,49,50,49,51,49,52,49,53,49,54,49,55,49,56,49,57,50,48,50,49,50,50,50,51,50,52,50,53,50,54,50,55,50,56,50,57,51,48,51,49,51,50,51,51,51,52,51,53,51,54,51,55,51,56,51,57,52,48,52,49,52,50,52,51,52,52,52,53,52,54,52,55,52,56,52,57,53,48,53,49,53,50,53,51,53,52,53,53,53,54,53,55,53,56,53,57,54,48,54,49,54,50,54,51,54,52,54,53,54,54,54,55,54,56,54,57,55,48,55,49,55,50,55,51,55,52,55,53,55,54,55,55,55,56,55,57,56,48,56,49,56,50,56,51,56,52,56,53,56,54,56,55,56,56,56,57,57,48,57,49,57,50,57,51,57,52,57,53,57,54,57,55,57,56,57,57])) (.t 9)),iT 1 0 2,sT 1 11 8,iT 1 3 5,sT 1 13 10]) (.seq (.ops [mv 0,mv 2,oT (.bin .sub .arith (.t 1) (k6 3)),mv 0,mv 2,oT (.bin .sub .arith (.t 4) (k6 4)),mv 12,oT (.bin .add .arith (.t 6) (.c (.int .u32 1))),oT (.sidx (.c (.str [48,48,48,49,48,50,48,51,48,52,48,53,48,54,48,55,48,56,48,57,49,48,49,49,49,50,49,51,49,52,49,53,49,54,49,55,49,56,49,57,50,48,50,49,50,50,50,51,50,52,50,53,50,54,50,55,50,56,50,57,51,48,51,49,51,50,51,51,51,52,51,53,51,54,51,55,51,56,51,57,52,48,52,49,52,50,52,51,52,52,52,53,52,54,52,55,52,56,52,57,53,48,53,49,53,50,53,51,53,52,53,53,53,54,53,55,53,56,53,57,54,48,54,49,54,50,54,51,54,52,54,53,54,54,54,55,54,56,54,57,55,48,55,49,55,50,55,51,55,52,55,53,55,54,55,55,55,56,55,57,56,48,56,49,56,50,56,51,56,52,56,53,56,54,56,55,56,56,56,57,57,48,57,49,57,50,57,51,57,52,57,53,57,54,57,55,57,56,57,57])) (.t 7)),mv 12,oT (.sidx (.c (.str [48,48,48,49,48,50,48,51,48,52,48,53,48,54,48,55,48,56,48,57,49,48,49,49,49,50,49,51,49,52,49,53,49,54,49,55,49,56,49,57,50,48,50,49,50,50,50,51,50,52,50,53,50,54,50,55,50,56,50,57,51,48,51,49,51,50,51,51,51,52,51,53,51,54,51,55,51,56,51,57,52,48,52,49,52,50,52,51,52,52,52,53,52,54,52,55,52,56,52,57,53,48,53,49,53,50,53,51,53,52,53,53,53,54,53,55,53,56,53,57,54,48,54,49,54,50,54,51,54,52,54,53,54,54,54,55,54,56,54,57,55,48,55,49,55,50,55,51,55,52,55,53,55,54,55,55,55,56,55,57,56,48,56,49,56,50,56,51,56,52,56,53,56,54,56,55,56,56,56,57,57,48,57,49,57,50,57,51,57,52,57,53,57,54,57,55,57,56,57,57])) (.t 9)),iT 1 0 2,sT 1 11 8,iT 1 3 5,sT 1 13 10]) (.ops [mv 2,oT (.bin .sub .arith (.t 0) (k6 4)),vt 2 1])))))) .skip)) (.seq (.seq (.ops [mv 2,oV 17 (.bin .geq .arith (.t 0) (k6 2))]) (.cond (.v 17) (.seq (.ops [mv 10,oT (.bin .rem .arith (.t 0) (.c (.int .u32 100))),oT (.bin .mul .arith (.t 1) (.c (.int .u32 2))),vt 14 2]) (.seq (.ops [mv 10,oT (.bin .quo .arith (.t 0) (.c (.int .u32 100))),vt 10 1]) (.seq (.ops [mv 0,mv 2,oT (.bin .sub .arith (.t 1) (k6 1)),mv 0,mv 2,oT (.bin .sub .arith (.t 4) (k6 2)),mv 14,oT (.bin .add .arith (.t 6) (.c (.int .u32 1))),oT (.sidx (.c (.str [48,48,48,49,48,50,48,51,48,52,48,53,48,54,48,55,48,56,48,57,49,48,49,49,49,50,49,51,49,52,49,53,49,54,49,55,49,56,49,57,50,48,50,49,50,50,50,51,50,52,50,53,50,54,50,55,50,56,50,57,51,48,51,49,51,50,51,51,51,52,51,53,51,54,51,55,51,56,51,57,52,48,52,49,52,50,52,51,52,52,52,53,52,54,52,55,52,56,52,57,53,48,53,49,53,50,53,51,53,52,53,53,53,54,53,55,53,56,53,57,54,48,54,49,54,50,54,51,54,52,54,53,54,54,54,55,54,56,54,57,55,48,55,49,55,50,55,51,55,52,55,53,55,54,55,55,55,56,55,57,56,48,56,49,56,50,56,51,56,52,56,53,56,54,56,55,56,56,56,57,57,48,57,49,57,50,57,51,57,52,57,53,57,54,57,55,57,56,57,57])) (.t 7)),mv 14,oT (.sidx (.c (.str [48,48,48,49,48,50,48,51,48,52,48,53,48,54,48,55,48,56,48,57,49,48,49,49,49,50,49,51,49,52,49,53,49,54,49,55,49,56,49,57,50,48,50,49,50,50,50,51,50,52,50,53,50,54,50,55,50,56,50,57,51,48,51,49,51,50,51,51,51,52,51,53,51,54,51,55,51,56,51,57,52,48,52,49,52,50,52,51,52,52,52,53,52,54,52,55,52,56,52,57,53,48,53,49,53,50,53,51,53,52,53,53,53,54,53,55,53,56,53,57,54,48,54,49,54,50,54,51,54,52,54,53,54,54,54,55,54,56,54,57,55,48,55,49,55,50,55,51,55,52,55,53,55,54,55,55,55,56,55,57,56,48,56,49,56,50,56,51,56,52,56,53,56,54,56,55,56,56,56,57,57,48,57,49,57,50,57,51,57,52,57,53,57,54,57,55,57,56,57,57])) (.t 9)),iT 1 0 2,sT 1 11 8,iT 1 3 5,sT 1 13 10]) (.ops [mv 2,oT (.bin .sub .arith (.t 0) (k6 2)),vt 2 1])))) .skip)) (.seq (.ops [mv 2,oV 18 (.bin .gtr .arith (.t 0) (k6 0))]) (.cond (.v 18) (.ops [mv 0,mv 10,oT (.bin .add .arith (.c (.int .u32 48)) (.t 1)),oT (.toInt .u8 (.t 2)),oT (.iaddr 1 (.t 0) (k6 0)),sT 1 4 3]) .skip))))))),[],[]⟩
def c253:AFunc:=⟨[0,1,2,3,4,10,11,12,13,14,15,16,17,18,28,30,34,46,68,89,94],(.seq (.ops [oV 5 (.mov (.c nS)),oV 6 (.mov (.c (.str [])))]) (.seq (.seq (.ops [mv 2,oT (.bin .lss .arith (.t 0) (k6 2)),mt 1,oG 2 false (.mov (.v 2)),oG 2 false (.bin .eql .arith (.t 3) (k6 10)),oT (.pick (.t 2) (.c (.bool true)) (.t 4)),mt 5,oG 6 false (.mov (.v 2)),oG 6 false (.bin .gtr .arith (.t 7) (k6 36)),oV 14 (.pick (.t 6) (.c (.bool true)) (.t 8))]) (.cond (.v 14) .refuse .skip)) (.seq (.ops [oV 7 (.alloc 415 65 true (List.replicate 65 (.int .u8 0)))]) (.seq (.ops [oV 8 (.mov (k6 65))]) (.seq (.seq (.ops [vv 15 3]) (.cond (.v 15) (.ops [mv 1,oT (.un .neg (.t 0)),vt 1 1]) .skip)) (.seq (.seq (.ops [mv 2,oV 16 (.call (.c (.fn 276 [])) [(.t 0)])]) (.cond (.v 16) (.seq (.ops [mv 2,oT (.toInt .u64 (.t 0)),oT (.call (.c (.fn 277 [])) [(.t 1)]),oT (.toInt .u64 (.t 2)),vt 9 3]) (.seq (.ops [mv 2,oT (.toInt .u64 (.t 0)),vt 10 1]) (.seq (.ops [mv 2,oT (.toInt .u64 (.t 0)),oT (.bin .sub .arith (.t 1) (.c (.int .u64 1))),vt 11 2]) (.seq (.block 0 (.loop (.seq (.seq (.ops [mv 1,mv 10,oV 17 (.bin .geq .arith (.t 0) (.t 1))]) (.cond (.v 17) .skip (.exit 0))) (.block 1 (.seq (.ops [mv 8,oT (.bin .sub .arith (.t 0) (k6 1)),vt 8 1]) (.seq (.ops [mv 8,mv 1,mv 11,oT (.bin .and .arith (.t 1) (.t 2)),oT (.sidx (.c (.str [48,49,50,51,52,53,54,55,56,57,97,98,99,100,101,102,103,104,105,106,107,108,109,110,111,112,113,114,115,116,117,118,119,120,121,122])) (.t 3)),oT (.aaddr 65 1 (.v 7) (.t 0)),sT 1 5 4]) (.ops [mv 1,mv 9,oT (.bin .shr .arith (.t 0) (.t 1)),vt 1 2]))))))) (.seq (.ops [mv 8,oT (.bin .sub .arith (.t 0) (k6 1)),vt 8 1]) (.ops [mv 8,mv 1,oT (.sidx (.c (.str [48,49,50,51,52,53,54,55,56,57,97,98,99,100,101,102,103,104,105,106,107,108,109,110,111,112,113,114,115,116,117,118,119,120,121,122])) (.t 1)),oT (.aaddr 65 1 (.v 7) (.t 0)),sT 1 3 2])))))) (.seq (.ops [mv 2,oT (.toInt .u64 (.t 0)),vt 12 1]) (.seq (.block 2 (.loop (.seq (.seq (.ops [mv 1,mv 12,oV 18 (.bin .geq .arith (.t 0) (.t 1))]) (.cond (.v 18) .skip (.exit 2))) (.block 3 (.seq (.ops [mv 8,oT (.bin .sub .arith (.t 0) (k6 1)),vt 8 1]) (.seq (.ops [mv 1,mv 12,oT (.bin .quo .arith (.t 0) (.t 1)),vt 13 2]) (.seq (.ops [mv 8,mv 1,mv 13,mv 12,oT (.bin .mul .arith (.t 2) (.t 3)),oT (.bin .sub .arith (.t 1) (.t 4)),oT (.sidx (.c (.str [48,49,50,51,52,53,54,55,56,57,97,98,99,100,101,102,103,104,105,106,107,108,109,110,111,112,113,114,115,116,117,118,119,120,121,122])) (.t 5)),oT (.aaddr 65 1 (.v 7) (.t 0)),sT 1 7 6]) (.ops [mv 13,vt 1 0])))))))) (.seq (.ops [mv 8,oT (.bin .sub .arith (.t 0) (k6 1)),vt 8 1]) (.ops [mv 8,mv 1,oT (.sidx (.c (.str [48,49,50,51,52,53,54,55,56,57,97,98,99,100,101,102,103,104,105,106,107,108,109,110,111,112,113,114,115,116,117,118,119,120,121,122])) (.t 1)),oT (.aaddr 65 1 (.v 7) (.t 0)),sT 1 3 2])))))) (.seq (.seq (.ops [vv 19 3]) (.cond (.v 19) (.seq (.ops [mv 8,oT (.bin .sub .arith (.t 0) (k6 1)),vt 8 1]) (.ops [mv 8,oT (.aaddr 65 1 (.v 7) (.t 0)),oN (.store 1 (.t 1) (.c (.int .u8 45)))])) .skip)) (.seq (.seq (.ops [vv 20 4]) (.cond (.v 20) (.seq (.ops [mv 0,mv 8,oT (.x (.aslice 65 1 false true false) [(.v 7),(.t 1)]),oT (.append false 5 1 1 false (.t 0) (.t 2)),vt 5 3]) .ret) .skip)) (.seq (.ops [mv 8,oT (.x (.aslice 65 1 false true false) [(.v 7),(.t 0)]),oT (.x .b2s [(.t 1)]),vt 6 2]) .ret))))))))),[.v 5,.v 6],[]⟩
def c274:AFunc:=⟨[0,2],(.seq (.ops [oV 1 (.mov (k6 0))]) (.seq (.ops [mv 0,oT (.bin .mul .arith (.t 0) (k6 78913)),oT (.bin .shr .arith (.t 1) (.c (.int .u64 18))),vt 1 2]) .ret)),[.v 1],[]⟩
def c276:AFunc:=⟨[0,2],(.seq (.ops [oV 1 (.mov (.c (.bool false)))]) (.seq (.ops [mv 0,mv 0,oT (.bin .sub .arith (.t 1) (k6 1)),oT (.bin .and .arith (.t 0) (.t 2)),oT (.bin .eql .arith (.t 3) (k6 0)),vt 1 4]) .ret)),[.v 1],[]⟩
def c277:AFunc:=⟨[0,2],(.seq (.ops [oV 1 (.mov (k6 0))]) (.seq (.cond (.c (.bool false)) (.seq (.ops [mv 0,oT (.toInt .u32 (.t 0)),oT (.call (.c (.fn 298 [])) [(.t 1)]),vt 1 2]) .ret) .skip) (.seq (.ops [mv 0,oT (.call (.c (.fn 299 [])) [(.t 0)]),vt 1 1]) .ret))),[.v 1],[]⟩
def c298:AFunc:=⟨[0,2,4],(.seq (.ops [oV 1 (.mov (k6 0))]) (.seq (.seq (.ops [mv 0,oV 2 (.bin .eql .arith (.t 0) (.c (.int .u32 0)))]) (.cond (.v 2) (.seq (.ops [oV 1 (.mov (k6 32))]) .ret) .skip)) (.seq .refuse .ret))),[.v 1],[]⟩
def c299:AFunc:=⟨[0,2,4],(.seq (.ops [oV 1 (.mov (k6 0))]) (.seq (.seq (.ops [mv 0,oV 2 (.bin .eql .arith (.t 0) (.c (.int .u64 0)))]) (.cond (.v 2) (.seq (.ops [oV 1 (.mov (k6 64))]) .ret) .skip)) (.seq .refuse .ret))),[.v 1],[]⟩
theorem c3_ok:compFunc Tryz.prog hints 3=some c3:=by kernel_rfl
theorem c7_ok:compFunc Tryz.prog hints 7=some c7:=by kernel_rfl
theorem c8_ok:compFunc Tryz.prog hints 8=some c8:=by kernel_rfl
theorem c9_ok:compFunc Tryz.prog hints 9=some c9:=by kernel_rfl
theorem c10_ok:compFunc Tryz.prog hints 10=some c10:=by kernel_rfl
theorem c11_ok:compFunc Tryz.prog hints 11=some c11:=by kernel_rfl
theorem c12_ok:compFunc Tryz.prog hints 12=some c12:=by kernel_rfl
theorem c13_ok:compFunc Tryz.prog hints 13=some c13:=by kernel_rfl
theorem c17_ok:compFunc Tryz.prog hints 17=some c17:=by kernel_rfl
theorem c18_ok:compFunc Tryz.prog hints 18=some c18:=by kernel_rfl
theorem c19_ok:compFunc Tryz.prog hints 19=some c19:=by kernel_rfl
theorem c20_ok:compFunc Tryz.prog hints 20=some c20:=by kernel_rfl
theorem c21_ok:compFunc Tryz.prog hints 21=some c21:=by kernel_rfl
theorem c22_ok:compFunc Tryz.prog hints 22=some c22:=by kernel_rfl
theorem c23_ok:compFunc Tryz.prog hints 23=some c23:=by kernel_rfl
theorem c24_ok:compFunc Tryz.prog hints 24=some c24:=by kernel_rfl
theorem c25_ok:compFunc Tryz.prog hints 25=some c25:=by kernel_rfl
theorem c26_ok:compFunc Tryz.prog hints 26=some c26:=by kernel_rfl
theorem c27_ok:compFunc Tryz.prog hints 27=some c27:=by kernel_rfl
theorem c28_ok:compFunc Tryz.prog hints 28=some c28:=by kernel_rfl
theorem c29_ok:compFunc Tryz.prog hints 29=some c29:=by kernel_rfl
theorem c30_ok:compFunc Tryz.prog hints 30=some c30:=by kernel_rfl
theorem c31_ok:compFunc Tryz.prog hints 31=some c31:=by kernel_rfl
theorem c32_ok:compFunc Tryz.prog hints 32=some c32:=by kernel_rfl
theorem c33_ok:compFunc Tryz.prog hints 33=some c33:=by kernel_rfl
theorem c35_ok:compFunc Tryz.prog hints 35=some c35:=by kernel_rfl
theorem c36_ok:compFunc Tryz.prog hints 36=some c36:=by kernel_rfl
theorem c37_ok:compFunc Tryz.prog hints 37=some c37:=by kernel_rfl
theorem c38_ok:compFunc Tryz.prog hints 38=some c38:=by kernel_rfl
theorem c39_ok:compFunc Tryz.prog hints 39=some c39:=by kernel_rfl
theorem c40_ok:compFunc Tryz.prog hints 40=some c40:=by kernel_rfl
theorem c41_ok:compFunc Tryz.prog hints 41=some c41:=by kernel_rfl
theorem c50_ok:compFunc Tryz.prog hints 50=some c50:=by kernel_rfl
theorem c53_ok:compFunc Tryz.prog hints 53=some c53:=by kernel_rfl
theorem c54_ok:compFunc Tryz.prog hints 54=some c54:=by kernel_rfl
theorem c55_ok:compFunc Tryz.prog hints 55=some c55:=by kernel_rfl
theorem c56_ok:compFunc Tryz.prog hints 56=some c56:=by kernel_rfl
theorem c57_ok:compFunc Tryz.prog hints 57=some c57:=by kernel_rfl
theorem c58_ok:compFunc Tryz.prog hints 58=some c58:=by kernel_rfl
theorem c59_ok:compFunc Tryz.prog hints 59=some c59:=by kernel_rfl
theorem c60_ok:compFunc Tryz.prog hints 60=some c60:=by kernel_rfl
theorem c61_ok:compFunc Tryz.prog hints 61=some c61:=by kernel_rfl
theorem c62_ok:compFunc Tryz.prog hints 62=some c62:=by kernel_rfl
theorem c63_ok:compFunc Tryz.prog hints 63=some c63:=by kernel_rfl
theorem c64_ok:compFunc Tryz.prog hints 64=some c64:=by kernel_rfl
theorem c65_ok:compFunc Tryz.prog hints 65=some c65:=by kernel_rfl
theorem c66_ok:compFunc Tryz.prog hints 66=some c66:=by kernel_rfl
theorem c67_ok:compFunc Tryz.prog hints 67=some c67:=by kernel_rfl
theorem c68_ok:compFunc Tryz.prog hints 68=some c68:=by kernel_rfl
theorem c69_ok:compFunc Tryz.prog hints 69=some c69:=by kernel_rfl
theorem c70_ok:compFunc Tryz.prog hints 70=some c70:=by kernel_rfl
theorem c71_ok:compFunc Tryz.prog hints 71=some c71:=by kernel_rfl
theorem c72_ok:compFunc Tryz.prog hints 72=some c72:=by kernel_rfl
theorem c73_ok:compFunc Tryz.prog hints 73=some c73:=by kernel_rfl
theorem c74_ok:compFunc Tryz.prog hints 74=some c74:=by kernel_rfl
theorem c75_ok:compFunc Tryz.prog hints 75=some c75:=by kernel_rfl
theorem c76_ok:compFunc Tryz.prog hints 76=some c76:=by kernel_rfl
theorem c86_ok:compFunc Tryz.prog hints 86=some c86:=by kernel_rfl
theorem c87_ok:compFunc Tryz.prog hints 87=some c87:=by kernel_rfl
theorem c88_ok:compFunc Tryz.prog hints 88=some c88:=by kernel_rfl
theorem c89_ok:compFunc Tryz.prog hints 89=some c89:=by kernel_rfl
theorem c90_ok:compFunc Tryz.prog hints 90=some c90:=by kernel_rfl
theorem c91_ok:compFunc Tryz.prog hints 91=some c91:=by kernel_rfl
theorem c92_ok:compFunc Tryz.prog hints 92=some c92:=by kernel_rfl
theorem c93_ok:compFunc Tryz.prog hints 93=some c93:=by kernel_rfl
theorem c94_ok:compFunc Tryz.prog hints 94=some c94:=by kernel_rfl
theorem c95_ok:compFunc Tryz.prog hints 95=some c95:=by kernel_rfl
theorem c96_ok:compFunc Tryz.prog hints 96=some c96:=by kernel_rfl
theorem c97_ok:compFunc Tryz.prog hints 97=some c97:=by kernel_rfl
theorem c98_ok:compFunc Tryz.prog hints 98=some c98:=by kernel_rfl
theorem c99_ok:compFunc Tryz.prog hints 99=some c99:=by kernel_rfl
theorem c100_ok:compFunc Tryz.prog hints 100=some c100:=by kernel_rfl
theorem c101_ok:compFunc Tryz.prog hints 101=some c101:=by kernel_rfl
theorem c102_ok:compFunc Tryz.prog hints 102=some c102:=by kernel_rfl
theorem c103_ok:compFunc Tryz.prog hints 103=some c103:=by kernel_rfl
theorem c104_ok:compFunc Tryz.prog hints 104=some c104:=by kernel_rfl
theorem c105_ok:compFunc Tryz.prog hints 105=some c105:=by kernel_rfl
theorem c106_ok:compFunc Tryz.prog hints 106=some c106:=by kernel_rfl
theorem c107_ok:compFunc Tryz.prog hints 107=some c107:=by kernel_rfl
theorem c108_ok:compFunc Tryz.prog hints 108=some c108:=by kernel_rfl
theorem c109_ok:compFunc Tryz.prog hints 109=some c109:=by kernel_rfl
theorem c110_ok:compFunc Tryz.prog hints 110=some c110:=by kernel_rfl
theorem c111_ok:compFunc Tryz.prog hints 111=some c111:=by kernel_rfl
theorem c131_ok:compFunc Tryz.prog hints 131=some c131:=by kernel_rfl
theorem c132_ok:compFunc Tryz.prog hints 132=some c132:=by kernel_rfl
theorem c133_ok:compFunc Tryz.prog hints 133=some c133:=by kernel_rfl
theorem c134_ok:compFunc Tryz.prog hints 134=some c134:=by kernel_rfl
theorem c136_ok:compFunc Tryz.prog hints 136=some c136:=by kernel_rfl
theorem c137_ok:compFunc Tryz.prog hints 137=some c137:=by kernel_rfl
theorem c138_ok:compFunc Tryz.prog hints 138=some c138:=by kernel_rfl
theorem c139_ok:compFunc Tryz.prog hints 139=some c139:=by kernel_rfl
theorem c140_ok:compFunc Tryz.prog hints 140=some c140:=by kernel_rfl
theorem c141_ok:compFunc Tryz.prog hints 141=some c141:=by kernel_rfl
theorem c142_ok:compFunc Tryz.prog hints 142=some c142:=by kernel_rfl
theorem c143_ok:compFunc Tryz.prog hints 143=some c143:=by kernel_rfl
theorem c144_ok:compFunc Tryz.prog hints 144=some c144:=by kernel_rfl
theorem c170_ok:compFunc Tryz.prog hints 170=some c170:=by kernel_rfl
theorem c171_ok:compFunc Tryz.prog hints 171=some c171:=by kernel_rfl
theorem c173_ok:compFunc Tryz.prog hints 173=some c173:=by kernel_rfl
theorem c174_ok:compFunc Tryz.prog hints 174=some c174:=by kernel_rfl
theorem c175_ok:compFunc Tryz.prog hints 175=some c175:=by kernel_rfl
theorem c176_ok:compFunc Tryz.prog hints 176=some c176:=by kernel_rfl
theorem c177_ok:compFunc Tryz.prog hints 177=some c177:=by kernel_rfl
theorem c178_ok:compFunc Tryz.prog hints 178=some c178:=by kernel_rfl
theorem c211_ok:compFunc Tryz.prog hints 211=some c211:=by kernel_rfl
theorem c213_ok:compFunc Tryz.prog hints 213=some c213:=by kernel_rfl
theorem c250_ok:compFunc Tryz.prog hints 250=some c250:=by kernel_rfl
theorem c251_ok:compFunc Tryz.prog hints 251=some c251:=by kernel_rfl
theorem c252_ok:compFunc Tryz.prog hints 252=some c252:=by kernel_rfl
theorem c253_ok:compFunc Tryz.prog hints 253=some c253:=by kernel_rfl
theorem c274_ok:compFunc Tryz.prog hints 274=some c274:=by kernel_rfl
theorem c276_ok:compFunc Tryz.prog hints 276=some c276:=by kernel_rfl
theorem c277_ok:compFunc Tryz.prog hints 277=some c277:=by kernel_rfl
theorem c298_ok:compFunc Tryz.prog hints 298=some c298:=by kernel_rfl
theorem c299_ok:compFunc Tryz.prog hints 299=some c299:=by kernel_rfl
end Go.Proofs.YthhdkkecolocdaaGreatDoor

namespace Go.Proofs.YthhdkkecolocdaaGreatDoor
open Go Go.Shelf Go.Proofs
set_option maxHeartbeats 4000000
set_option maxRecDepth 100000
def splA_ren:Go.Shelf.Ren:=⟨fun|146=>154|221=>195|268=>235|138=>236|143=>237|195=>264|197=>265|218=>266|219=>267|260=>285|217=>172|225=>286|224=>287|267=>288|266=>212|314=>302|n=>n,fun|9=>9|31=>37|3=>3|4=>4|0=>0|105=>406|21=>21|5=>5|46=>162|119=>426|139=>429|138=>428|146=>430|51=>220|n=>n,fun|1=>1|3=>3|4=>4|n=>n⟩
theorem splA:Go.Proofs.Lays.n146 Tryz.prog splA_ren where
 mixed:=by kernel_rfl
 f138:=Tryz.func236.trans (congrArg some (by kernel_rfl))
 f143:=Tryz.func237.trans (congrArg some (by kernel_rfl))
 f146:=Tryz.func154.trans (congrArg some (by kernel_rfl))
 f195:=Tryz.func264.trans (congrArg some (by kernel_rfl))
 f197:=Tryz.func265.trans (congrArg some (by kernel_rfl))
 f217:=Tryz.func172.trans (congrArg some (by kernel_rfl))
 f218:=Tryz.func266.trans (congrArg some (by kernel_rfl))
 f219:=Tryz.func267.trans (congrArg some (by kernel_rfl))
 f221:=Tryz.func195.trans (congrArg some (by kernel_rfl))
 f224:=Tryz.func287.trans (congrArg some (by kernel_rfl))
 f225:=Tryz.func286.trans (congrArg some (by kernel_rfl))
 f260:=Tryz.func285.trans (congrArg some (by kernel_rfl))
 f266:=Tryz.func212.trans (congrArg some (by kernel_rfl))
 f267:=Tryz.func288.trans (congrArg some (by kernel_rfl))
 f268:=Tryz.func235.trans (congrArg some (by kernel_rfl))
 f314:=Tryz.func302.trans (congrArg some (by kernel_rfl))
 t0:=Tryz.underlying0
 a0:=Tryz.isAgg0
 z0:=Tryz.sizeOf0
 v0:=Tryz.zeroValue0
 t3:=Tryz.underlying3
 a3:=Tryz.isAgg3
 z3:=Tryz.sizeOf3
 v3:=Tryz.zeroValue3
 t4:=Tryz.underlying4
 a4:=Tryz.isAgg4
 z4:=Tryz.sizeOf4
 v4:=Tryz.zeroValue4
 t5:=Tryz.underlying5
 a5:=Tryz.isAgg5
 z5:=Tryz.sizeOf5
 v5:=Tryz.zeroValue5
 t9:=Tryz.underlying9
 a9:=Tryz.isAgg9
 z9:=Tryz.sizeOf9
 v9:=Tryz.zeroValue9
 t21:=Tryz.underlying21
 a21:=Tryz.isAgg21
 z21:=Tryz.sizeOf21
 v21:=Tryz.zeroValue21
 t31:=Tryz.underlying37
 a31:=Tryz.isAgg37
 z31:=Tryz.sizeOf37
 v31:=Tryz.zeroValue37
 t46:=Tryz.underlying162
 a46:=Tryz.isAgg162
 z46:=Tryz.sizeOf162
 v46:=Tryz.zeroValue162
 t51:=Tryz.underlying220
 a51:=Tryz.isAgg220
 z51:=Tryz.sizeOf220
 v51:=Tryz.zeroValue220
 t105:=Tryz.underlying406
 a105:=Tryz.isAgg406
 z105:=Tryz.sizeOf406
 v105:=Tryz.zeroValue406
 t119:=Tryz.underlying426
 a119:=Tryz.isAgg426
 z119:=Tryz.sizeOf426
 t138:=Tryz.underlying428
 a138:=Tryz.isAgg428
 z138:=Tryz.sizeOf428
 v138:=Tryz.zeroValue428
 t139:=Tryz.underlying429
 a139:=Tryz.isAgg429
 z139:=Tryz.sizeOf429
 v139:=Tryz.zeroValue429
 t146:=Tryz.underlying430
 a146:=Tryz.isAgg430
 z146:=Tryz.sizeOf430
 v146:=Tryz.zeroValue430
 g1:=by kernel_rfl
 g3:=by kernel_rfl
 g4:=by kernel_rfl
def idxA_ren:Go.Shelf.Ren:=⟨fun|137=>135|217=>172|266=>212|n=>n,fun|9=>9|5=>5|3=>3|n=>n,fun|n=>n⟩
theorem idxA:Go.Proofs.Lays.n137 Tryz.prog idxA_ren where
 mixed:=by kernel_rfl
 f137:=Tryz.func135.trans (congrArg some (by kernel_rfl))
 f217:=Tryz.func172.trans (congrArg some (by kernel_rfl))
 f266:=Tryz.func212.trans (congrArg some (by kernel_rfl))
 t3:=Tryz.underlying3
 a3:=Tryz.isAgg3
 z3:=Tryz.sizeOf3
 v3:=Tryz.zeroValue3
 t5:=Tryz.underlying5
 a5:=Tryz.isAgg5
 z5:=Tryz.sizeOf5
 v5:=Tryz.zeroValue5
 t9:=Tryz.underlying9
 a9:=Tryz.isAgg9
 z9:=Tryz.sizeOf9
 v9:=Tryz.zeroValue9
end Go.Proofs.YthhdkkecolocdaaGreatDoor

namespace Go.Abs
variable {P:Program}
section
open Go.Shelf Go.Proofs
variable {ρ:Ren}
end
end Go.Abs

namespace Go.Abs
open Go.Shelf Go.Proofs Go.RowKit Go.Lib
variable {P:Program} {ρ:Ren}
def splitS (args:List AVal) (h:Heap):Option (AVal×Heap) :=
 match args with
 | [.str s,.str [c]]=>if s.length<4294967281 then some (.sl ((Lib.splitK [c] 0 (Lib.count s [c]) s).map .str) .none,h) else none
 | _=>none
theorem index_one (c:UInt8):∀ s:List UInt8,Lib.index s [c]=Lib.indexByte s c
 | []=>rfl
 | b::l=>by
   rw [Lib.index,Lib.indexByte,index_one c l]
   by_cases h:b=c
   ·subst h;simp
   ·have h':¬ c=b:=fun e=>h e.symm
    simp [List.isPrefixOf,h,h']
set_option maxHeartbeats 1000000 in
theorem split_one (L:Lays.n146 P ρ) (hi9:(P.info? (ρ.t 9)).map (fun i=>(i.zero,i.size,i.bytes))=some (some (.string ByteArray.empty),1,16)) (s:ByteArray) (c:UInt8) (w:World) (hs:s.size<4294967281) :
  Calls P (ρ.f 146) #[.string s,.string ⟨#[c]⟩] w fun e w' =>
   e = .returned (.slice (some ⟨w.heap.size,0,none⟩) (Lib.countB s ⟨#[c]⟩+1) (Lib.countB s ⟨#[c]⟩+1))∧w'=w.alloc (.cells ((Lib.splitB ⟨#[c]⟩ 0 (Lib.countB s ⟨#[c]⟩) s).map Value.string).toArray (ρ.t 9)):=by
 have h1:1≤(⟨#[c]⟩:ByteArray).size:=Nat.le_refl _
 have hle:=Lib.countB_le ⟨#[c]⟩ h1 s.size s (Nat.le_refl _)
 have hlen:=Lib.splitB_all ⟨#[c]⟩ h1 0 _ s rfl
 have hC:Calls P (ρ.f 138) #[.string s,.string ⟨#[c]⟩] w fun e w'=>e = .returned (.int .i64 (Lib.countB s ⟨#[c]⟩))∧w'=w:=by
  refine (Any.strings_Count_one { L with } s c w).mono fun e w' ⟨he,hw⟩=>⟨?_,hw⟩
  rw [he]
  show _=Ending.returned (Value.int .i64 ((Lib.count s.data.toList [c]:Nat):Int))
  rw [Lib.count_one]
  rfl
 have key:=Any.strings_genSplit_core { L with } hi9 s ⟨#[c]⟩ 0 (-1) (Lib.countB s ⟨#[c]⟩+1) w hs h1 (Nat.zero_le _)
  (fun x cs hx=>by
   refine (Any.strings_Index_one { L with } x c _).mono fun e w' ⟨he,hw⟩=>⟨?_,hw⟩
   rw [he]
   show Ending.returned (Value.int .i64 (Lib.indexByte x.data.toList c))=Ending.returned (Value.int .i64 (Lib.index x.data.toList [c]))
   rw [index_one]) hC (by decide) (by decide) (by rw [if_pos (by decide)];omega)
 rw [Nat.add_sub_cancel,hlen] at key
 have e2:Lib.cellsOf (Lib.splitB ⟨#[c]⟩ 0 (Lib.countB s ⟨#[c]⟩) s) (Lib.countB s ⟨#[c]⟩+1)=((Lib.splitB ⟨#[c]⟩ 0 (Lib.countB s ⟨#[c]⟩) s).map Value.string).toArray:=by rw [←hlen];exact Lib.cellsOf_full _
 rw [e2] at key
 have t3:=L.t3;have t9:=L.t9;have t31:=L.t31
 have a3:=L.a3;have a9:=L.a9;have a31:=L.a31
 have z3:=L.z3;have v3:=L.v3;have z9:=L.z9;have v9:=L.v9;have z31:=L.z31;have v31:=L.v31
 have e221:∀ args w,(callFunc (ρ.f 221) args).run P w = .ok (.enter (ρ.f 221) args) w:=enters_of L.f221 (by kernel_rfl) rfl
 go_enter L.f146,Body.n146_ntmps ρ
 go_wp2_with (go_at_fn (ρ.f 221);refine key.mono ?_;rintro e w' ⟨rfl,hw⟩;rw [hw])
 go_ret
 exact ⟨rfl,rfl⟩
def idxS (args:List AVal) (h:Heap):Option (AVal×Heap) :=
 match args with
 | [.str s,.int .u8 c]=>some (.int .i64 (Lib.indexByte s c.toNat.toUInt8),h)
 | _=>none
theorem idx_ok (L:Lays.n137 P ρ) (e137:∀ args w,(callFunc (ρ.f 137) args).run P w = .ok (.enter (ρ.f 137) args) w):HandOk P (ρ.f 137) idxS:=by
 refine ⟨fun args h r h' e w G cargs H hp=>?_,e137⟩
 have hlen:=hp.len
 unfold idxS at e
 split at e
 ·rename_i s c
  simp only [Option.some.injEq,Prod.mk.injEq] at e
  obtain ⟨rfl,rfl⟩:=e
  obtain ⟨l⟩:=cargs
  match l,hlen with
  | [v0,v1],_ =>
    have r0:=hp.rel 0 v0 (.str s) (by simp) (by simp)
    have r1:=hp.rel 1 v1 (.int .u8 c) (by simp) (by simp)
    cases r0 with
    | str bs =>
    cases r1
    refine (Any.strings_IndexByte L bs c w).mono ?_
    rintro e w' ⟨rfl,rfl⟩
    exact ⟨_,G,rfl,Ext.refl _ _ _,H,.int _ _⟩
 ·simp at e
theorem flat_strs:∀ L0:List ByteArray,flat (L0.map (AVal.str ∘ fun x=>x.data.toList))=L0.map (AVal.str ∘ fun x=>x.data.toList)
 | []=>rfl
 | a::l=>by
   have:=flat_strs l
   simp only [flat,List.map_cons,List.flatMap_cons] at this ⊢
   rw [this];rfl
theorem split_ok (L:Lays.n146 P ρ) (hi9:(P.info? (ρ.t 9)).map (fun i=>(i.zero,i.size,i.bytes))=some (some (.string ByteArray.empty),1,16)) (e146:∀ args w,(callFunc (ρ.f 146) args).run P w = .ok (.enter (ρ.f 146) args) w):HandOk P (ρ.f 146) splitS:=by
 refine ⟨fun args h r h' e w G cargs H hp=>?_,e146⟩
 have hlen:=hp.len
 unfold splitS at e
 split at e
 ·rename_i s c
  split at e
  ·rename_i hsz
   simp only [Option.some.injEq,Prod.mk.injEq] at e
   obtain ⟨rfl,rfl⟩:=e
   obtain ⟨l⟩:=cargs
   match l,hlen with
   | [v0,v1],_ =>
     have r0:=hp.rel 0 v0 (.str s) (by simp) (by simp)
     have r1:=hp.rel 1 v1 (.str [c]) (by simp) (by simp)
     cases r0 with
     | str bs =>
     generalize hc:([c]:List UInt8)=lc at r1
     cases r1 with
     | str cb =>
     have hcb:cb=⟨#[c]⟩:=by
      cases cb with
      | mk d =>
        simp only at hc
        have:d=#[c]:=by apply Array.ext';simpa using hc.symm
        rw [this]
     subst hcb
     have hbs:bs.size<4294967281:=by
      show bs.data.size<_
      rw [←Array.length_toList]
      exact hsz
     refine (split_one L hi9 bs c w hbs).mono ?_
     rintro e w' ⟨rfl,rfl⟩
     have h1:1≤(⟨#[c]⟩:ByteArray).size:=Nat.le_refl _
     have hn:=Lib.splitB_all ⟨#[c]⟩ h1 0 _ bs rfl
     have hd:=Lib.splitB_data ⟨#[c]⟩ 0 (Lib.countB bs ⟨#[c]⟩) bs
     generalize hL:Lib.splitB ⟨#[c]⟩ 0 (Lib.countB bs ⟨#[c]⟩) bs=L0 at hn hd ⊢
     have hk:Lib.splitK [c] 0 (Lib.count bs.data.toList [c]) bs.data.toList=L0.map (·.data.toList):=hd.symm
     rw [hk,List.map_map]
     refine ⟨_,_,rfl,Ext.alloc_free _ _,H.alloc_free _ _,?_⟩
     have hfl:=flat_strs L0
     have key:=VRel.sl (w:=w.alloc (.cells (L0.map Value.string).toArray (ρ.t 9))) (G:={ G with lim:=fun b=>if b=w.heap.size then none else G.lim b }) w.heap.size 0 (Lib.countB bs ⟨#[c]⟩+1) 1 (L0.map (AVal.str ∘ fun x=>x.data.toList)) .none (fun k=>((L0.map Value.string)[k]?).getD .nilFunc)
      (fun x hx=>by obtain ⟨y,_,rfl⟩:=List.mem_map.1 hx;rfl)
      (fun k x hx=>by
       rw [hfl] at hx
       have hlt:k<L0.length:=by have:=(List.getElem?_eq_some_iff.1 hx).1;simpa using this
       have hnew:(w.alloc (.cells (L0.map Value.string).toArray (ρ.t 9))).heap[w.heap.size]?=some (.cells (L0.map Value.string).toArray (ρ.t 9)):=World.alloc_heap_new _ _
       simp only [World.cell?,hnew]
       simp [hlt])
      (fun k x hx=>by
       rw [hfl,List.getElem?_map] at hx
       obtain ⟨y,hy,rfl⟩:=Option.map_eq_some_iff.1 hx
       rw [List.getElem?_map,hy]
       exact .str y)
      (fun k _ m hm=>by simp at hm)
      (fun x hx=>by rw [hfl] at hx;obtain ⟨y,_,rfl⟩:=List.mem_map.1 hx;rfl)
      (fun x hx=>by rw [hfl] at hx;obtain ⟨y,_,rfl⟩:=List.mem_map.1 hx;rfl)
      (by rw [List.length_map,hn];exact Nat.le_refl _) (by simp) (fun _ _ hh=>by simp at hh)
     rwa [List.length_map,hn] at key
  ·simp at e
 ·simp at e
end Go.Abs

namespace Go.Abs
def seqL:Code→Code
 | .seq a _=>a
 | c=>c
def seqR:Code→Code
 | .seq _ b=>b
 | c=>c
def bodyOf (P:Program) (g:Nat):Code:=((P.funcs[g]?).bind (·.body)).getD .skip
def regOps:Code→Array Oper
 | .region _ ops _=>ops
 | _=>#[]
variable {P:Program} {Hh:Hints} {F:Nat→Option AEnt}
def SW (P:Program) (Hh:Hints) (nt:Nat) (slots:List Nat) (c:Code) (vs:List AVal) (h:Heap) (Q:AExit→List AVal→Heap→Prop):Prop :=
 ∀ (m:Nat) (a:Act) (w:World) (G:Ghost) (Qm:Exit→Act→World→Prop),G.env=envOf P Hh→CRel w G a nt slots vs h →
   (∀ e vs' h' a' w' G',Q e vs' h'→Ext w G h w' G' h'→CRel w' G' a' nt slots vs' h'→Marks w a.defers w' G' h' a'.defers→Qm (exitOf e) a' w')→c.wpIn (rF none) m P Qm a w
theorem SW.of_wp (hmix:P.follows .mixedOrders=true) (hT:Table P Hh F) {fid nt:Nat} {slots:List Nat} (hnd:slots.Nodup) {top:Bool} {k:Nat} {c:Code} (hs:top=true→SitesOk P fid nt k c) {vs:List AVal} {h:Heap} {Q:AExit→List AVal→Heap→Prop}
  (w0:WP F (compCode P Hh fid nt slots top k c) vs h Q):SW P Hh nt slots c vs h Q:=by
 intro m a w G Qm hE hC hQ
 unfold WP at w0
 obtain ⟨n,e,vs',h',hr,hq⟩:=w0
 exact (all_ok hmix hT n).1 none m top fid nt slots k c vs h e vs' h' a w G Qm hnd hs (fun l q=>by simp at q) hE hr hC (fun a' w' G' hX hC' hM=>hQ e vs' h' a' w' G' hq hX hC' hM)
theorem SW.seq {nt:Nat} {slots:List Nat} {x y:Code} {vs:List AVal} {h:Heap} {Q:AExit→List AVal→Heap→Prop}
  (a0:SW P Hh nt slots x vs h (fun e vs' h'=>match e with
   | .normal=>SW P Hh nt slots y vs' h' Q
   | e=>Q e vs' h')):SW P Hh nt slots (.seq x y) vs h Q:=by
 intro m a w G Qm hE hC hQ
 refine wpIn_seq (a0 m a w G _ hE hC fun e vs' h' a' w' G' hq hX hC' hM=>?_)
 cases e with
 | normal=>exact hq m a' w' G' Qm (hX.env.trans hE) hC' fun e2 vs2 h2 a2 w2 G2 hq2 hX2 hC2 hM2=>hQ e2 vs2 h2 a2 w2 G2 hq2 (hX.trans hX2) hC2 (hM.trans hX.size hX2 hM2)
 | exit i=>exact hQ _ vs' h' a' w' G' hq hX hC' hM
 | ret=>exact hQ _ vs' h' a' w' G' hq hX hC' hM
theorem cfOf_ok (hmix:P.follows .mixedOrders=true) (hT:Table P Hh F) (n:Nat):CfOk P Hh (cfOf F n):=by
 have ih:=all_ok hmix hT n
 refine ⟨fun g args h0 r h1 hc=>?_,fun id args h0 r h1 hc=>?_⟩
 ·simp only [cfOf,tsk,Bool.false_eq_true,if_false] at hc
  cases hrun:run F n (.call g args h0) with
  | none=>rw [hrun] at hc;simp at hc
  | some res =>
    rw [hrun] at hc
    cases res with
    | code _ _ _=>simp [Res.asVal] at hc
    | val r1 h2 =>
      simp only [Option.bind_some,Res.asVal,Option.some.injEq,Prod.mk.injEq] at hc
      obtain ⟨rfl,rfl⟩:=hc
      refine ⟨ih.2.1 g args h0 _ _ hrun,fun cargs w=>?_,fun hg=>?_⟩
      ·cases n with
       | zero=>simp [run] at hrun
       | succ n =>
         simp only [run] at hrun
         split at hrun
         ·simp at hrun
         ·rename_i s hs;exact (hT.hand hs).2 cargs w
         ·rename_i af haf;exact callFunc_enter (hT.comp haf) cargs w
      ·cases n with
       | zero=>simp [run] at hrun
       | succ n =>
         simp only [run] at hrun
         split at hrun
         ·simp at hrun
         ·rename_i s hs
          have hq:=hT g
          rw [hs] at hq
          simp only [Option.map_eq_some_iff] at hrun
          obtain ⟨p,hp,he⟩:=hrun
          simp only [Res.val.injEq] at he
          obtain ⟨rfl,rfl⟩:=he
          exact hq.2 hg _ _ _ _ hp
         ·rename_i af haf
          have hq:=hT g
          rw [haf] at hq
          rw [hq.2] at hg;simp at hg
 ·simp only [cfOf,tsk,if_true] at hc
  cases hrun:run F n (.yield id args h0) with
  | none=>rw [hrun] at hc;simp at hc
  | some res =>
    rw [hrun] at hc
    cases res with
    | code _ _ _=>simp [Res.asVal] at hc
    | val r1 h2 =>
      simp only [Option.bind_some,Res.asVal,Option.some.injEq,Prod.mk.injEq] at hc
      obtain ⟨rfl,rfl⟩:=hc
      exact ih.2.2 id args h0 _ _ hrun
theorem SW.region (hmix:P.follows .mixedOrders=true) (hT:Table P Hh F) {fid nt:Nat} {slots:List Nat} (hnd:slots.Nodup) {id:Nat} {ops:Array Oper} {asx:List AOper} (hc:compOpers P Hh fid slots ops.toList ops.toList 0=some asx) (hd:dstsOk nt slots ops.toList=true)
  {pairs:List (Nat×Nat)} {reps:List (List Nat)} (hr:repsOk Hh ops.toList asx pairs reps=true) {vs:List AVal} {h:Heap} {Q:AExit→List AVal→Heap→Prop}
  (hw:∀ r∈reps,∃ l,renOpers r asx r=some l∧WP F (.ops l) vs h Q):SW P Hh nt slots (.region id ops true) vs h Q:=by
 intro m a w G Qm hE hC hQ
 have hl:asx.length=ops.size:=by have:=(compOpers_get hc).1;simpa using this
 refine wpIn_region_draw fun t=>?_
 rw [hmix]
 -- all the walks,on one measure of fuel
 have hfu:∀ n,∀ g args h r h',Hh.grow g=true→cfOf F n false g args h=some (r,h')→TokExt h h':=fun n g args h r h' hg e=>((cfOf_ok hmix hT n).1 g args h r h' e).2.2 hg
 have hall:∀ rs:List (List Nat),(∀ r∈rs,r∈reps)→∃ n,∀ r∈rs,∃ s',foldI (cfOf F n) asx r ⟨vs,List.replicate asx.length .bad,h⟩=some s'∧Q .normal s'.vs s'.h:=by
  intro rs
  induction rs with
  | nil=>intro _;exact ⟨0,by simp⟩
  | cons r rs ih =>
    intro hrs
    obtain ⟨n1,h1⟩:=ih (fun x hx=>hrs x (by simp [hx]))
    obtain ⟨l,hren,hwp⟩:=hw r (hrs r (by simp))
    unfold WP at hwp
    obtain ⟨n2,e,vs',h',hrun,hq⟩:=hwp
    cases n2 with
    | zero=>simp [run] at hrun
    | succ n2 =>
      rw [run_ops] at hrun
      split at hrun
      rotate_left
      ·simp at hrun
      rename_i s1 hs1
      simp only [Option.some.injEq,Res.code.injEq] at hrun
      obtain ⟨rfl,rfl,rfl⟩:=hrun
      simp only [repsOk,Bool.and_eq_true,List.all_eq_true] at hr
      obtain ⟨hrn,hrp⟩:=permOk_perm (hr.1.2 r (hrs r (by simp)))
      have hll:=renOpers_len hren
      have hmem:∀ k,k∈r↔k<asx.length:=fun k=>by rw [hrp.mem_iff,List.mem_range]
      obtain ⟨s1',r1,r2,r3⟩:=ren_fold (cf:=cfOf F n2) (asx:=asx) hrn 0 r l ⟨vs,List.replicate asx.length .bad,h⟩ ⟨vs,List.replicate l.length .bad,h⟩ s1 rfl hren rfl rfl (by simp [hll]) (fun k=>by rw [hmem k];simp) (fun k=>by
       simp only [evOpd,List.getElem?_replicate]
       split<;>split<;>rfl) hs1
      refine ⟨max n1 n2,fun x hx=>?_⟩
      have mono:∀ {n:Nat},n≤max n1 n2→∀ {l:List Nat} {s τ:St},foldI (cfOf F n) asx l s=some τ→foldI (cfOf F (max n1 n2)) asx l s=some τ:=by
       intro n hle l
       induction l with
       | nil=>intro s τ e;exact e
       | cons k l ihl =>
         intro s τ e
         simp only [foldI] at e ⊢
         split at e
         ·rename_i ao ha
          split at e
          ·rename_i s2 hs2
           rw [stepA_mono (cfOf_le fun _ _ q=>run_mono hle q) hs2]
           exact ihl e
          ·simp at e
         ·simp at e
      rcases List.mem_cons.1 hx with rfl|hx
      ·exact ⟨s1',mono (Nat.le_max_right _ _) r1,by rw [r2,r3];exact hq⟩
      ·obtain ⟨s',q1,q2⟩:=h1 x hx
       exact ⟨s',mono (Nat.le_max_left _ _) q1,q2⟩
 obtain ⟨n,hn⟩:=hall reps (fun r hr=>hr)
 obtain ⟨r,hrm,hrt⟩:=draw_reps (hfu n) hl hr (s:=⟨vs,List.replicate asx.length .bad,h⟩) t
 obtain ⟨s',q1,q2⟩:=hn r hrm
 have hC':=hC.mono_refl
 refine fold_ok (s:=⟨vs,List.replicate asx.length .bad,h⟩) (cfOf_ok hmix hT n) hnd hd hc _ hE ⟨hC'.H,hC'.F,⟨by simp [hl],fun k t o x h1 h2 h3 h4=>?_⟩,hC'.size⟩ (hrt s' q1) fun a' w' G' hX S' hdf=>?_
 ·simp only [List.getElem?_replicate] at h4
  split at h4
  ·simp at h4;subst h4;exact .bad _
  ·simp at h4
 ·exact hQ .normal s'.vs s'.h a' w' G' q2 hX.drew ⟨S'.H,S'.F,S'.size⟩ (.of_eq hdf)
theorem SW.mono {nt:Nat} {slots:List Nat} {c:Code} {vs:List AVal} {h:Heap} {Q Q':AExit→List AVal→Heap→Prop} (a0:SW P Hh nt slots c vs h Q) (hi:∀ e vs h,Q e vs h→Q' e vs h):SW P Hh nt slots c vs h Q' :=
 fun m a w G Qm hE hC hQ=>a0 m a w G Qm hE hC fun e vs' h' a' w' G' hq=>hQ e vs' h' a' w' G' (hi _ _ _ hq)
theorem leavesM_mono {fn:Func} {tmps:Array Value} {m:Nat} {R R':Ending→World→Prop} (hi:∀ e w,R e w→R' e w):∀ (bs:List Nat) {w:World},
  LeavesInM (rF none) m P fn tmps R (bs.map (fun b=>({ target := .collected b,args:=#[] }:Deferred))) .returning w→LeavesInM (rF none) m P fn tmps R' (bs.map (fun b=>({ target := .collected b,args:=#[] }:Deferred))) .returning w
 | [],w,⟨v,q1,q2⟩=>⟨v,q1,hi _ _ q2⟩
 | b::bs,w,⟨h1,h2⟩=>by
   rcases h2 with ⟨r,w',e1,e2,e3⟩|⟨_,fv,cap,f,args,e1,_⟩
   ·exact ⟨h1,.inl ⟨r,w',e1,e2,leavesM_mono hi bs e3⟩⟩
   ·simp at e1
theorem calls_of_SW {g:Nat} {fn:Func} {c:Code} {slots:List Nat} {ris:List ResV} (hf:P.funcs[g]?=some fn) (hb:fn.body=some c) (hres:resRVs P slots fn.results.toList=some ris) {args:List AVal} {h:Heap} {K:AVal→Heap→Prop}
  (hw:SW P Hh fn.ntmps slots c (slots.map fun s=>(args[s]?).getD (.tup [])) h (fun e vs h'=>(e = .normal∨e = .ret)∧∃ r,resultsA ris vs h'=some r∧K r h')) {w:World} {G:Ghost} {cargs:Array Value} (hE:G.env=envOf P Hh) (H:HRel w G h) (hp:Pts w G cargs args) :
  Calls P g cargs w (fun e w'=>∃ r h',K r h'∧∃ v G',e = .returned v∧Ext w G h w' G' h'∧HRel w' G' h'∧VRel w' G' v r):=by
 refine (callsIn_wide (n:=0)).1 (callsIn_of_wp_marks (F:=rF none) hf hb trivial ?_)
 have hget:∀ s,(cargs++Array.replicate (fn.ntmps - cargs.size) undef).getD s undef=(cargs[s]?).getD undef:=by
  intro s
  rw [Array.getD_eq_getD_getElem?]
  by_cases hs:s<cargs.size
  ·rw [Array.getElem?_append_left hs]
  ·rw [Array.getElem?_append_right (by omega:cargs.size≤s),Array.getElem?_replicate,Array.getElem?_eq_none (by omega:cargs.size≤s)]
   split<;>rfl
 have S0:CRel w G { tmps:=cargs++Array.replicate (fn.ntmps - cargs.size) undef,defers:=[] } fn.ntmps slots (slots.map fun s=>(args[s]?).getD (.tup [])) h:=by
  refine ⟨H,⟨by simp,fun i s x h1 h2=>?_⟩,by simp;omega⟩
  simp only [List.getElem?_map,h1,Option.map_some,Option.some.injEq] at h2
  subst h2
  rw [hget]
  by_cases hs:s<cargs.size
  ·obtain ⟨x,hx⟩:∃ x,args[s]?=some x:=⟨_,List.getElem?_eq_getElem (by rw [←hp.len];exact hs)⟩
   rw [hx,Array.getElem?_eq_getElem hs]
   exact hp.rel s _ x (Array.getElem?_eq_getElem hs) hx
  ·rw [Array.getElem?_eq_none (by omega),List.getElem?_eq_none (by rw [←hp.len];omega)]
   exact .tup #[] [] rfl (by simp)
 refine hw 0 _ w G _ hE S0 fun e vs h' a' w' G' hq hX hC hM=>?_
 obtain ⟨he,r,hr,hK⟩:=hq
 obtain ⟨bs,e1,e2,e3⟩:=hM
 have key:=leaves_ok hres hr (P:=P) (m:=0) bs e2 (fun b hb=>⟨(e3 b hb).1,(e3 b hb).2.2.1,(e3 b hb).2.2.2⟩) hX hC.H hC.F
 have key2:LeavesInM (rF none) 0 P fn a'.tmps (fun e w'=>∃ r h',K r h'∧∃ v G',e = .returned v∧Ext w G h w' G' h'∧HRel w' G' h'∧VRel w' G' v r) a'.defers .returning w':=by
  rw [e1,List.append_nil]
  exact leavesM_mono (fun e w q=>⟨r,h',hK,q⟩) bs key
 rcases he with rfl|rfl
 ·exact key2
 ·exact key2
end Go.Abs

namespace Go.Abs
def blockC:Code→Code
 | .block _ c=>c
 | c=>c
def blockI:Code→Nat
 | .block i _=>i
 | _=>0
def loopC:Code→Code
 | .loop c=>c
 | c=>c
variable {P:Program} {Hh:Hints} {F:Nat→Option AEnt}
theorem SW.cond {nt:Nat} {slots:List Nat} {x:Operand} {x':Opd} {c1 c2:Code} {vs:List AVal} {h:Heap} {Q:AExit→List AVal→Heap→Prop} {b:Bool} (hx:compOpd Hh.glob slots [] 0 x=some x') (hb:evOpd vs [] x' = .bool b)
  (a0:SW P Hh nt slots (if b then c1 else c2) vs h Q):SW P Hh nt slots (.cond x c1 c2) vs h Q:=by
 intro m a w G Qm hE hC hQ
 have hT0:TRel w G a.tmps slots [] []:=⟨rfl,by simp⟩
 have hv:=operand_ok (k:=0) (fun g cs hg=>(hC.H.glob g cs (by rw [hE];exact hg)).1) hC.F hT0 x x' hx
 rw [hb] at hv
 generalize hev:a.eval x=v at hv
 cases b with
 | true=>cases hv;exact wpIn_cond_true hev (a0 m a w G Qm hE hC hQ)
 | false=>cases hv;exact wpIn_cond_false hev (a0 m a w G Qm hE hC hQ)
def inBlk (id:Nat) (Q:AExit→List AVal→Heap→Prop):AExit→List AVal→Heap→Prop
 | .exit i,vs,h=>if i=id then Q .normal vs h else Q (.exit i) vs h
 | e,vs,h=>Q e vs h
theorem SW.block {nt:Nat} {slots:List Nat} {id:Nat} {c1:Code} {vs:List AVal} {h:Heap} {Q:AExit→List AVal→Heap→Prop} (a0:SW P Hh nt slots c1 vs h (inBlk id Q)):SW P Hh nt slots (.block id c1) vs h Q:=by
 intro m a w G Qm hE hC hQ
 refine wpIn_block (a0 m a w G _ hE hC fun e vs' h' a' w' G' hq hX hC' hM=>?_)
 cases e with
 | normal=>exact hQ .normal vs' h' a' w' G' hq hX hC' hM
 | exit i =>
   simp only [inBlk] at hq
   simp only [exitOf,Exit.inBlock]
   split
   ·rename_i hi
    rw [if_pos hi] at hq
    exact hQ .normal vs' h' a' w' G' hq hX hC' hM
   ·rename_i hi
    rw [if_neg hi] at hq
    exact hQ (.exit i) vs' h' a' w' G' hq hX hC' hM
 | ret=>exact hQ .ret vs' h' a' w' G' hq hX hC' hM
def inLp (J:Nat→List AVal→Heap→Prop) (m:Nat) (Q:AExit→List AVal→Heap→Prop):AExit→List AVal→Heap→Prop
 | .normal,vs,h=>∃ m',m'<m∧J m' vs h
 | e,vs,h=>Q e vs h
theorem SW.loop {nt:Nat} {slots:List Nat} {c1:Code} {vs:List AVal} {h:Heap} {Q:AExit→List AVal→Heap→Prop} (J:Nat→List AVal→Heap→Prop) (n:Nat) (h0:J n vs h)
  (round:∀ m vs h,J m vs h→SW P Hh nt slots c1 vs h (inLp J m Q)):SW P Hh nt slots (.loop c1) vs h Q:=by
 intro m0 a w G Qm hE hC hQ
 refine wpIn_loop_ind (fun m a1 w1=>∃ vs1 h1 G1,J m vs1 h1∧CRel w1 G1 a1 nt slots vs1 h1∧Ext w G h w1 G1 h1∧Marks w a.defers w1 G1 h1 a1.defers) (m:=n) ⟨vs,h,G,h0,hC,Ext.refl _ _ _,.same⟩ ?_
 rintro m a1 w1 ⟨vs1,h1,G1,hJ,S1,hX1,hd1⟩
 refine round m vs1 h1 hJ m0 a1 w1 G1 _ (hX1.env.trans hE) S1 fun e vs2 h2 a2 w2 G2 hq hX2 S2 hM2=>?_
 cases e with
 | normal =>
   obtain ⟨m',hlt,hJ'⟩:=hq
   exact ⟨m',hlt,vs2,h2,G2,hJ',S2,hX1.trans hX2,hd1.trans hX1.size hX2 hM2⟩
 | exit i=>exact hQ (.exit i) vs2 h2 a2 w2 G2 hq (hX1.trans hX2) S2 (hd1.trans hX1.size hX2 hM2)
 | ret=>exact hQ .ret vs2 h2 a2 w2 G2 hq (hX1.trans hX2) S2 (hd1.trans hX1.size hX2 hM2)
end Go.Abs

namespace Go.Abs
variable {F:Nat→Option AEnt} {ev:Opd→AVal} {h:Heap} {K:AVal→Heap→Prop}
theorem wrap_in64 {x:Int} (h1 : -9223372036854775808≤x) (h2:x<9223372036854775808):IntKind.i64.wrap x=x:=IntWalk.i64_in x ⟨h1,by omega⟩
theorem stripL_append:∀ {a b a' b':List AVal},stripL a=some a'→stripL b=some b'→stripL (a++b)=some (a'++b')
 | [],b,a',b',h1,h2=>by simp [stripL] at h1;subst h1;simpa using h2
 | x::a,b,a',b',h1,h2=>by
   simp only [stripL] at h1
   split at h1
   ·rename_i y ys e1 e2
    simp at h1;subst h1
    simp only [List.cons_append,stripL,e1,stripL_append e2 h2]
   ·simp at h1
def Pt (t:Tok):Prop:=t = .none∨t = .nil
theorem strip_pt {t:Tok} (ht:Pt t) {xs:List AVal}:strip (.sl xs t)=some (.sl xs t):=by
 rcases ht with rfl|rfl<;>rfl
theorem purify_pt {t:Tok} (ht:Pt t) {xs:List AVal} {h:Heap}:purify h (.sl xs t)=some (.sl xs t):=by
 rcases ht with rfl|rfl<;>rfl
theorem roomOk_of {n bytes:Nat} (h1:n≤1000000) (h2:bytes≤10000):roomOk n bytes=true:=by
 simp only [roomOk,Bool.and_eq_true,decide_eq_true_eq]
 refine ⟨by omega,?_⟩
 calc (4*n+1024)*bytes≤(4*1000000+1024)*10000:=Nat.mul_le_mul (by omega) h2
  _≤281474976710656:=by decide
theorem get_push (h:Heap) (o:Obj):(h.push o).get h.next=some o:=Heap.get_push h o
theorem get_lt {h:Heap} {j:Nat} {o:Obj} (hj:h.get j=some o):j<h.next:=Heap.get_lt hj
theorem get_push_old {h:Heap} {o o':Obj} {j:Nat} (hj:h.get j=some o'):(h.push o).get j=some o':=by
 rw [Heap.get_push_old _ (get_lt hj)];exact hj
theorem put_push (h:Heap) (o o':Obj):(h.push o).put h.next (some o')=h.push o':=by
 show (if h.next<h.next+1 then (⟨h.next+1,HT.ins (h.next+1) (HT.ins (h.next+1) h.t h.next (some o)) h.next (some o')⟩:Heap) else h.push o)=⟨h.next+1,HT.ins (h.next+1) h.t h.next (some o')⟩
 rw [if_pos (Nat.lt_succ_self _),HT.ins_ins]
theorem put_push_old {h:Heap} {o:Obj} {j:Nat} (o':Option Obj) (hj:j<h.next):(h.push o).put j o'=(h.put j o').push o:=by
 exact Heap.put_push_lt h hj o' o
end Go.Abs
