/-
  Merged from LyQ LyArg LgG LgM LgA LgB LgC LgD LyX1 LyX2 LyX3 LyX4 LyX5 LyR LyX6 LyX8 LyX7 LyX9 LyZ1 LvTab_Tryz LvF_Tryz: The generators: numbers, trees of senses.
-/
import Derived.Test.YthhdkkecolocdaaGreatDoorM05
import Derived.Test.YthhdkkecolocdaaGreatDoorM03
import Derived.Test.YthhdkkecolocdaaGreatDoorRows
import Derived.LaidMore
import Derived.LaidLaws
import Derived.OpenShut
import Derived.Stop.Joined
import Derived.Lay
import Derived.Test.YthhdkkecolocdaaGreatDoorM04
import Derived.Test.YthhdkkecolocdaaGreatDoorM02
import Derived.Test.YthhdkkecolocdaaGreatDoorProg
import Derived.KernelRfl
set_option linter.unusedSimpArgs false
set_option linter.unusedVariables false
set_option linter.defProp false
set_option linter.constructorNameAsVariable false
/-
 The generators: numbers, trees of senses.
-/
set_option maxHeartbeats 4000000
namespace Go.Proofs.YthhdkkecolocdaaGreatDoor
open Go Go.Abs Go.Ly
def i64 (n:Int):Prop := -9223372036854775808≤n∧n<9223372036854775808
def aroundS (n m:Int):Int:=(if n<0 then -(n+1) else n).tmod m
theorem around_v {n m:Int} (hn:i64 n) (hm:0<m):PV F 10 [.int .i64 n,.int .i64 m]=some (.int .i64 (aroundS n m)):=by
 refine PV_wp (fn:=c10) rfl ?_
 obtain ⟨hn1,hn2⟩:=hn
 simp only [uT,c10]
 replace fx:=Dum_eq
 (first|refine go ?_|exact goC);repeat' (refine gI ?_ ?_<;>intro hyp<;>first|refine goF ?_|exact goFc|refine goT ?_|exact goTc|skip)
 ·simp [aroundS,hyp]
 ·simp [aroundS,hyp]
def atS (l:List Int) (i m:Int):Int:=if i<0∨(l.length:Int)≤i then 0 else aroundS (nth l i.toNat) m
theorem nth_i64 {l:List Int} (hl:∀ x∈l,i64 x) (i:Nat):i64 (nth l i):=by
 by_cases h:i<l.length
 ·exact hl _ (nth_mem h)
 ·simp [nth,List.getD_eq_getElem?_getD,List.getElem?_eq_none (by omega:l.length≤i),i64]
theorem at_v {l:List Int} {t:Abs.Tok} {i m:Int} (hl:∀ x∈l,i64 x) (hm:0<m):PV F 21 [.sl (l.map (.int .i64)) t,.int .i64 i,.int .i64 m]=some (.int .i64 (atS l i m)):=by
 refine PV_wp (fn:=c21) rfl ?_
 simp only [uT,c21]
 have ha:=around_v (nth_i64 hl i.toNat) hm
 replace fx:=@ha
 (first|refine go ?_|exact goC);repeat' (refine gI ?_ ?_<;>intro hyp<;>first|refine goF ?_|exact goFc|refine goT ?_|exact goTc|skip)
 ·simp [atS,hyp]
 ·simp [atS, *]
 ·simp [atS, *]
theorem around_bound (n:Int) {m:Int} (hm:0<m):0≤aroundS n m∧aroundS n m<m:=by
 unfold aroundS
 have:0≤(if n<0 then -(n+1) else n):=by split<;>omega
 rw [Int.tmod_eq_emod_of_nonneg this]
 exact ⟨Int.emod_nonneg _ (by omega),Int.emod_lt_of_pos _ hm⟩
theorem at_bound (l:List Int) (i:Int) {m:Int} (hm:0<m):0≤atS l i m∧atS l i m<m:=by
 unfold atS
 split
 ·omega
 ·exact around_bound _ hm
def strV (s:Tx):AVal := .str s
theorem strV_eq (s:Tx):strV s = .str s:=rfl
def headL:List Tx:=[[99,97,116],[97,110,116],[98,101,116],[99,104,33]]
def enOf (l:List Int) (i:Nat):En:=⟨⟨0,1,i⟩,nth headL (atS l i 4).toNat⟩
def esOf (l:List Int) (n:Nat):List En:=(List.range n).map (enOf l)
def snOf (l:List Int) (i:Nat) (prev:List Sn):Sn where
 id:=⟨((i % 2:Nat):Int),2+((i / 4:Nat):Int),((i % 4:Nat):Int)⟩
 par:=if atS l (33+(i:Int)) 17=1 then ⟨3,3,3⟩ else if 0<i∧0<atS l (13+(i:Int)) 3 then (nth prev (atS l (23+(i:Int)) i).toNat).id else ⟨0,1,atS l (3+(i:Int)) 2⟩
 ord:=if atS l (53+(i:Int)) 6=1 then [atS l (43+(i:Int)) 4,7] else [atS l (43+(i:Int)) 4]
 gl:=true
def ssOf (l:List Int):Nat→List Sn
 | 0=>[]
 | n+1=>ssOf l n++[snOf l n (ssOf l n)]
def treeN (l:List Int):Nat:=(1+atS l 2 9).toNat
def treeB (l:List Int):Bk:=⟨esOf l 2,ssOf l (treeN l)⟩
theorem treeN_b (l:List Int):1≤treeN l∧treeN l≤9:=by
 have:=at_bound l 2 (m:=9) (by omega)
 unfold treeN;omega
theorem ssOf_len (l:List Int):∀ n,(ssOf l n).length=n
 | 0=>rfl
 | n+1=>by simp [ssOf,ssOf_len l n]
theorem esOf_len (l:List Int) (n:Nat):(esOf l n).length=n:=by simp [esOf]
theorem esOf_succ (l:List Int) (n:Nat):esOf l (n+1)=esOf l n++[enOf l n]:=by simp [esOf,List.range_succ]
theorem Gr.put {α:Type} {h:Heap} {ty sz:Nat} {l:List α} {tk:Abs.Tok} (g:Gr h ty sz l tk) {r:Nat} {mu:Bool} {z:Nat} {ag:Bool} {cs:List AVal} (hr:h.get r=some (.row mu z ag cs)) (o:Option Abs.Obj):Gr (h.put r o) ty sz l tk:=by
 rcases g with g|⟨i,g1,g2⟩
 ·exact .inl g
 ·exact .inr ⟨i,g1,by rw [get_put_ne (by rintro rfl;rw [hr] at g2;simp at g2)];exact g2⟩
theorem GrF.put {α:Type} {S:Nat→Prop} {h0 h:Heap} {ty sz:Nat} {l:List α} {tk:Abs.Tok} (g:GrF S h0 h ty sz l tk) {r:Nat} {mu:Bool} {z:Nat} {ag:Bool} {cs:List AVal} (hr:h.get r=some (.row mu z ag cs)) (h0r:h0.next≤r) (o:Option Abs.Obj):GrF S h0 (h.put r o) ty sz l tk :=
 ⟨Gr.put g.1 hr o,⟨by rw [put_next];exact g.2.1.1,fun j hj q=>by rw [get_put_ne (by omega)];exact g.2.1.2 j hj q⟩,g.2.2⟩
theorem GrF.other {α β:Type} {S:Nat→Prop} {h0 h h':Heap} {ty sz ty2 sz2:Nat} {l:List α} {l2:List β} {tk tk2:Abs.Tok} (g:GrF S h0 h ty sz l tk) (g2:Gr h ty2 sz2 l2 tk2) (ht:ty≠ty2) (f:Fr S h0 h') (h1:h.next≤h'.next) (oth:∀ j,j<h.next→(∀ i s,tk2 = .own i s→j≠i)→h'.get j=h.get j):GrF S h0 h' ty sz l tk:=by
 refine ⟨?_,f,g.2.2⟩
 rcases g.1 with q|⟨i,q1,q2⟩
 ·exact .inl q
 ·refine .inr ⟨i,q1,?_⟩
  rw [oth i (get_lt q2)]
  ·exact q2
  ·rintro j s rfl rfl
   rcases g2 with ⟨_,q⟩|⟨k,q,q3⟩
   ·simp at q
   ·simp only [Abs.Tok.own.injEq] at q
    rw [q.1,q3] at q2
    simp only [Option.some.injEq,Abs.Obj.tok.injEq] at q2
    exact ht q2.symm
theorem idcE (x:Ly.Id):x.cells=[.int .i64 x.o,.int .i64 x.s,.int .i64 x.i]:=rfl
theorem enLen (x:En):x.val.cells.length=5:=rfl
theorem enMk (x:En):mk true x.val.cells=some x.val:=rfl
theorem enSt (x:En):stripL x.val.cells=some x.val.cells:=rfl
theorem snLen (x:Sn):x.val.cells.length=14:=rfl
theorem snMk (x:Sn):mk true x.val.cells=some x.val:=rfl
theorem snSt (x:Sn):stripL x.val.cells=some x.val.cells:=by
 have:=st_sn x
 simp only [Sn.val,strip] at this
 cases hq:stripL x.cells with
 | none=>rw [hq] at this;simp at this
 | some c =>
   rw [hq] at this
   simp only [Option.map_some,Option.some.injEq,AVal.agg.injEq] at this
   show stripL x.cells=some x.cells
   rw [hq,this]
def bkRow (es ss:AVal):List AVal:=[es,ss,.sl [] .nil,.sl [] .nil,.sl [] .nil,.sl [] .nil,.sl [] .nil]
theorem tree_c {l:List Int} {t:Abs.Tok} (ht:Pt t) (hl:∀ x∈l,i64 x) (h:Heap):CV F 7 [.sl (l.map (.int .i64)) t] h (fun v h'=>∃ t1 t2,v = .agg (bkRow (.sl ((treeB l).es.map En.val) t1) (.sl ((treeB l).ss.map Sn.val) t2))∧Gr h' 70 5 (treeB l).es t1∧Gr h' 67 14 (treeB l).ss t2∧Fr (fun _=>False) h h'):=by
 refine CV_wp (fn:=c7) rfl ?_
 simp only [uT,c7]
 have st:=strip_pt ht (xs:=l.map (.int .i64))
 have av:=fun (i m:Int) (hm:0<m)=>at_v (t:=t) (i:=i) hl hm
 replace fx:=Dum_eq
 first|refine go ?_|exact goC
 refine w_loop (fun k vs H=>∃ (i:Nat) (t1:Abs.Tok) (x1 x2 x3 x4 x5 x6 x7 x8:AVal),k=2 - i∧i≤2∧GrF (fun _=>False) h H 70 5 (esOf l i) t1∧h.next+2≤H.next∧H.get h.next=some (.row true (typed 31) true (bkRow (.sl [] .nil) (.sl [] .nil)))∧H.get (h.next+1)=some (.row true (typed 31) true (bkRow (.sl ((esOf l i).map En.val) t1) (.sl [] .nil))) ∧
   vs=[.sl (l.map (.int .i64)) t,.ptr h.next 0,.ptr (h.next+1) 0,.int .i64 (i:Int),x1,x2,x3,x4,x5,x6,x7,x8]) 2
  ⟨0,.nil,_,_,_,_,_,_,_,_,rfl,by omega,(GrF.nil _ _ _ _).step (((Fr.refl _ _).push _).push _),by simp only [push_next];omega,?_,?_,rfl⟩ ?_
 ·rw [get_push_ne (by simp [push_next])];exact get_push_eq rfl
 ·exact get_push_eq (by simp [push_next])
 rintro k vs H ⟨i,t1,x1,x2,x3,x4,x5,x6,x7,x8,rfl,hi,hgr,hnx,g0,g1,rfl⟩
 have lb:∀ H,litA 0 9 4 1 false [.str []] (some [.str [99,97,116],.str [97,110,116],.str [98,101,116],.str [99,104,33]]) H=some (.sl (headL.map strV) .none,H):=fun H=>lit_none rfl rfl rfl rfl
 have hlh:headL.length=4:=rfl
 by_cases hi2:i<2
 ·have a4:=av i 4 (by omega)
  have b4:=at_bound l i (m:=4) (by omega)
  unfold bkRow at g0 g1
  replace fx:=aI @g0 (aI @g1 (aI @a4 (aI @lb (aI @strV_eq @st))))
  (first|refine go ?_|exact goC);repeat' (first|refine gP ?_|exact gPc)
  refine append_F (f:=En.val) (S:=fun _=>False) (h0:=h) (esOf l i) [enOf l i] enLen enMk enSt rfl rfl hgr (by rw [esOf_len];simp;omega) (by omega) (by omega) (by omega) fun H2 t2 hgr2 hn2 keep2 oth2=>?_
  have k0:=keep2 _ _ _ _ _ g0
  have k1:=keep2 _ _ _ _ _ g1
  rw [←esOf_succ] at hgr2 ⊢
  replace fx:=aI @k0 @k1
  first|refine go ?_|exact goC
  exact lp_n ⟨_,by omega,i+1,t2,_,_,_,_,_,_,_,_,rfl,by omega,GrF.put hgr2 k1 (by omega) _,by rw [put_next];omega,by rw [get_put_ne (by omega)];exact k0,get_put_old k1,by push_cast;rfl⟩
 ·have hi3:i=2:=by omega
  subst hi3
  have a9:=av 2 9 (by omega)
  have b9:=at_bound l 2 (m:=9) (by omega)
  unfold bkRow at g0 g1
  replace fx:=aI @a9 @st
  (first|refine go ?_|exact goC);repeat' (first|refine gN ?_|exact gNc)
  have en:(1:Int)+atS l 2 9=(treeN l:Int):=by unfold treeN;omega
  obtain ⟨hn1,hn2⟩:=treeN_b l
  rw [en]
  show WP _ _ _ _ _
  unfold treeB
  generalize treeN l=n at hn1 hn2 ⊢
  refine w_loop (fun k vs H=>∃ (i:Nat) (t2:Abs.Tok) (x1 x2 x3 x4 x5 x6:AVal),k=n - i∧i≤n∧GrF (fun _=>False) h H 70 5 (esOf l 2) t1∧GrF (fun _=>False) h H 67 14 (ssOf l i) t2∧h.next+2≤H.next∧H.get h.next=some (.row true (typed 31) true (bkRow (.sl [] .nil) (.sl [] .nil)))∧H.get (h.next+1)=some (.row true (typed 31) true (bkRow (.sl ((esOf l 2).map En.val) t1) (.sl ((ssOf l i).map Sn.val) t2))) ∧
    vs=[.sl (l.map (.int .i64)) t,.ptr h.next 0,.ptr (h.next+1) 0,.int .i64 2,.int .i64 (n:Int),.int .i64 (i:Int),x1,x2,x3,x4,x5,x6]) n
   ⟨0,.nil,_,_,_,_,_,_,rfl,by omega,hgr,⟨Gr.nil _ _ _,hgr.fr,by simp⟩,hnx,g0,g1,rfl⟩ ?_
  clear hgr g0 g1
  rintro k vs H ⟨i,t2,x1,x2,x3,x4,x5,x6,rfl,hi,hgr,hgs,hnx,g0,g1,rfl⟩
  unfold bkRow at g0 g1
  by_cases hi4:i<n
  ·have a3:=av (3+i) 2 (by omega)
   have a13:=av (13+i) 3 (by omega)
   have a33:=av (33+i) 17 (by omega)
   have a43:=av (43+i) 4 (by omega)
   have a53:=av (53+i) 6 (by omega)
   have e1:Int.tmod (i:Int) 2=((i % 2:Nat):Int):=rfl
   have e2:Int.tdiv (i:Int) 4=((i / 4:Nat):Int):=rfl
   have e3:Int.tmod (i:Int) 4=((i % 4:Nat):Int):=rfl
   have hlen:=ssOf_len l i
   have lo:∀ H,litA 1 83 1 7 true [.str [],.int .i64 0,.int .i64 0,.int .i64 0,.int .i64 0,.int .i64 0,.int .i64 0] (some [.str [],.int .i64 (atS l (43+i) 4),.int .i64 0,.int .i64 0,.int .i64 0,.int .i64 0,.int .i64 0]) H=some (.sl ([atS l (43+i) 4].map numV) (.own H.next 7),H.push (.tok 83)):=fun H=>lit_own rfl rfl rfl rfl
   have a23:=fun (h:0<i)=>av (23+i) i (by omega)
   have b23:=fun (h:0<i)=>at_bound l (23+i) (m:=i) (by omega)
   by_cases h3:atS l (53+i) 6=1
   ·by_cases h0:0<i<;>by_cases h1:0<atS l (13+i) 3<;>by_cases h2:atS l (33+i) 17=1
    all_goals
     skip
     replace fx:=aI @g0 (aI @g1 (aI @a3 (aI @a13 (aI @a23 (aI @a33 (aI @a43 (aI @a53 (aI @e1 (aI @e2 (aI @e3 (aI @st (aI @snId (aI @snVL (aI @snL (aI @idcE @lo)))))))))))))))
     (first|refine go ?_|exact goC);repeat' (first|refine gP ?_|exact gPc|refine gN ?_|exact gNc)
     have f2:∀ o p,Fr (fun _=>False) H ((H.push o).push p):=fun o p=>((Fr.refl _ _).push _).push _
     refine append_F (f:=numV) (S:=fun _=>False) (h0:=H) [atS l (43+i) 4] [7] (fun _=>rfl) (fun _=>rfl) (fun _=>rfl) rfl rfl ⟨.inr ⟨H.next+1,rfl,get_push_eq (by rw [push_next])⟩,f2 _ _,by simp⟩ (by simp) (by omega) (by omega) (by omega) fun H6 t6 hgn6 hn6 keep6 oth6=>?_
     have r6:=keep6 H.next _ _ _ _ (get_push_old (get_push_eq rfl))
     have gs6:=GrF.other (l2:=[atS l (43+i) 4]) (hgs.step (f2 _ _)) (.inr ⟨H.next+1,rfl,get_push_eq (by rw [push_next])⟩) (by decide) (hgs.fr.trans hgn6.fr) hn6 oth6
     have ge6:=GrF.other (l2:=[atS l (43+i) 4]) (hgr.step (f2 _ _)) (.inr ⟨H.next+1,rfl,get_push_eq (by rw [push_next])⟩) (by decide) (hgs.fr.trans hgn6.fr) hn6 oth6
     have k06:=keep6 _ _ _ _ _ (get_push_old (get_push_old g0))
     have k16:=keep6 _ _ _ _ _ (get_push_old (get_push_old g1))
     obtain ⟨i6,rfl⟩:∃ i6,t6 = .own i6 7:=by
      rcases hgn6.gr with ⟨q,_⟩|⟨i6,q,_⟩
      ·simp at q
      ·exact ⟨i6,q⟩
     replace fx:=aI @r6 (aI @k06 @k16)
     first|refine go ?_|exact goC
     have gsC:=fun o=>GrF.put gs6 r6 (by omega) o
     have geC:=fun o=>GrF.put ge6 r6 (by omega) o
     have k0C:∀ o,(H6.put H.next o).get h.next=_:=fun o=>(get_put_ne (by omega)).trans k06
     have k1C:∀ o,(H6.put H.next o).get (h.next+1)=_:=fun o=>(get_put_ne (by omega)).trans k16
     refine append_F (f:=Sn.val) (S:=fun _=>False) (h0:=h) (ssOf l i) [snOf l i (ssOf l i)] snLen snMk snSt rfl (by simp [snOf,Sn.val,Sn.cells,Id.cells,glV,txtV,betT,tk,numV,elemsA,flat,AVal.cells,h0,h1,h2,h3];done) (gsC _) (by rw [hlen];simp;omega) (by omega) (by omega) (by omega) fun H5 t5 hgs5 hn5 keep5 oth5=>?_
     have k0:=keep5 _ _ _ _ _ (k0C _)
     have k1:=keep5 _ _ _ _ _ (k1C _)
     have he5:=GrF.other (geC _) (gsC _).gr (by decide) hgs5.fr hn5 oth5
     rw [show ssOf l i++[snOf l i (ssOf l i)]=ssOf l (i+1) from rfl] at hgs5 ⊢
     simp only [put_next,push_next] at hn5 hn6
     replace fx:=aI @k0 @k1
     first|refine go ?_|exact goC
     exact lp_n ⟨_,by omega,i+1,t5,_,_,_,_,_,_,rfl,by omega,GrF.put he5 k1 (by omega) _,GrF.put hgs5 k1 (by omega) _,by rw [put_next];omega,by rw [get_put_ne (by omega)];exact k0,get_put_old k1,by push_cast;rfl⟩
   ·by_cases h0:0<i<;>by_cases h1:0<atS l (13+i) 3<;>by_cases h2:atS l (33+i) 17=1
    all_goals
     skip
     replace fx:=aI @g0 (aI @g1 (aI @a3 (aI @a13 (aI @a23 (aI @a33 (aI @a43 (aI @a53 (aI @e1 (aI @e2 (aI @e3 (aI @st (aI @snId (aI @snVL (aI @snL (aI @idcE @lo)))))))))))))))
     (first|refine go ?_|exact goC);repeat' (first|refine gP ?_|exact gPc|refine gN ?_|exact gNc)
     have gsC:=fun o p=>hgs.step (((Fr.refl _ _).push o).push p)
     have geC:=fun o p=>hgr.step (((Fr.refl _ _).push o).push p)
     have k0C:=fun o p=>get_push_old (o:=p) (get_push_old (o:=o) g0)
     have k1C:=fun o p=>get_push_old (o:=p) (get_push_old (o:=o) g1)
     refine append_F (f:=Sn.val) (S:=fun _=>False) (h0:=h) (ssOf l i) [snOf l i (ssOf l i)] snLen snMk snSt rfl (by simp [snOf,Sn.val,Sn.cells,Id.cells,glV,txtV,betT,tk,numV,elemsA,flat,AVal.cells,h0,h1,h2,h3];done) (gsC _ _) (by rw [hlen];simp;omega) (by omega) (by omega) (by omega) fun H5 t5 hgs5 hn5 keep5 oth5=>?_
     have k0:=keep5 _ _ _ _ _ (k0C _ _)
     have k1:=keep5 _ _ _ _ _ (k1C _ _)
     have he5:=GrF.other (geC _ _) (gsC _ _).gr (by decide) hgs5.fr hn5 oth5
     rw [show ssOf l i++[snOf l i (ssOf l i)]=ssOf l (i+1) from rfl] at hgs5 ⊢
     simp only [push_next] at hn5
     replace fx:=aI @k0 @k1
     first|refine go ?_|exact goC
     exact lp_n ⟨_,by omega,i+1,t5,_,_,_,_,_,_,rfl,by omega,GrF.put he5 k1 (by omega) _,GrF.put hgs5 k1 (by omega) _,by rw [put_next];omega,by rw [get_put_ne (by omega)];exact k0,get_put_old k1,by push_cast;rfl⟩
  ·have hi5:i=n:=by omega
   subst hi5
   replace fx:=aI @g0 @g1
   (first|refine go ?_|exact goC);repeat' (first|refine gN ?_|exact gNc)
   exact ⟨t1,t2,rfl,Gr.put hgr.gr g0 _,Gr.put hgs.gr g0 _,(GrF.put hgs g0 (by omega) _).fr⟩
end Go.Proofs.YthhdkkecolocdaaGreatDoor

namespace Go.Proofs.YthhdkkecolocdaaGreatDoor
open Go Go.Abs Go.ChangeShapes Go.WideShapes Go.ChangeAt Go.RowKit
theorem own:ownKnob Tryz.prog.godebug=none:=by kernel_rfl
theorem laidOut:laidOutB Tryz.prog=true:=by kernel_rfl
def laidK:List (String×DataW Unit):=[("math/bits.deBruijn32tab",Rows.laid_math_bits_deBruijn32tab),("math/bits.deBruijn64tab",Rows.laid_math_bits_deBruijn64tab),("internal/strconv.uint64pow10",Rows.laid_internal_strconv_uint64pow10),("unicode/utf8.acceptRanges",Rows.laid_unicode_utf8_acceptRanges),("wordbook/calendar.lengths",Rows.laid_wordbook_calendar_lengths),("unicode/utf8.first",Rows.laid_unicode_utf8_first)]
theorem globs {W:World} (h:laidMetH Tryz.prog laidK W):∀ g cs,hints.glob g=some cs→VRel W (G0 (envOf Tryz.prog hints)) (.pointer (some ⟨g,0,none⟩)) (.rp cs)∧∀ c∈cs,strip c=some c:=by
 intro g cs hgl
 simp [hints] at hgl
theorem door_met (os:Os) (args:Array Value):laidMetH Tryz.prog laidK ((World.laidAll Tryz.prog os laidK).forCall (fun _ _=>0) ⟨#[],args,[]⟩).memory:=by
 rw [MakeChecks.laidMetH_plain _ _ _ (by kernel_rfl)]
 exact laidMet_laidAll _ (by kernel_rfl) (by kernel_rfl)
theorem maxLen_eq:maxLen=9223372036854775807:=by unfold maxLen;first|rfl|decide
attribute [local irreducible] okA
theorem mk_one {ag:Bool} {x c:AVal} (h:mk false x.cells=some x) (hc:x.cells=[c]):x=c:=by
 rw [hc] at h;simpa [mk] using h.symm
theorem argI {n:Nat} {x:AVal} (h1:mk (isSt Tryz.prog 3) x.cells=some x) (h2:okA Tryz.prog (n+1) 3 x.cells):∃ z,x = .int .i64 z∧i64 z:=by
 have hst:isSt Tryz.prog 3=false:=by kernel_rfl
 rw [hst] at h1
 rw [okA] at h2
 simp only [Tryz.underlying3] at h2
 obtain ⟨z,hz,hw⟩:=h2
 exact ⟨z,mk_one (ag:=false) h1 hz,wf_i64 hw⟩
theorem list_of {α:Type} {p:AVal→Prop} {f:α→AVal} {q:α→Prop} (hp:∀ x,p x→∃ a,x=f a∧q a):∀ {xs:List AVal},(∀ x∈xs,p x)→∃ l:List α,xs=l.map f∧∀ a∈l,q a
 | [],_=>⟨[],rfl,by simp⟩
 | x::xs,h=>by
   obtain ⟨z,rfl,hz⟩:=hp x (h x (by simp))
   obtain ⟨l,rfl,hl⟩:=list_of hp (xs:=xs) (fun y hy=>h y (by simp [hy]))
   exact ⟨z::l,rfl,fun p hp=>by
    rcases List.mem_cons.1 hp with rfl|hp
    ·exact hz
    ·exact hl p hp⟩
structure ArgL (l:List Int) (t:Abs.Tok):Prop where
 pt:Pt t
 ok:∀ z∈l,i64 z
theorem argL {n:Nat} {x:AVal} (h1:mk (isSt Tryz.prog 22) x.cells=some x) (h2:okA Tryz.prog (n+2) 22 x.cells):∃ (l:List Int) (tk:Abs.Tok),x = .sl (l.map (.int .i64)) tk∧ArgL l tk:=by
 have hst:isSt Tryz.prog 22=false:=by kernel_rfl
 rw [hst] at h1
 rw [okA] at h2
 simp only [Tryz.underlying22] at h2
 obtain ⟨xs,tk,hx,htk,hlen,hall⟩:=h2
 rw [maxLen_eq] at hlen
 obtain ⟨l,rfl,hl⟩:=list_of (f:=AVal.int .i64) (q:=i64) (fun x hx=>argI (n:=n) hx.1 hx.2) hall
 refine ⟨l,tk,mk_one (ag:=false) h1 hx,?_,hl⟩
 rcases htk with rfl|⟨rfl,_⟩
 ·exact .inl rfl
 ·exact .inr rfl
end Go.Proofs.YthhdkkecolocdaaGreatDoor

namespace Go.Abs
section
variable {F:Nat→Option AEnt}
def Pu (h:Heap) (v:AVal) (xs:List AVal):Prop:=∃ u,Pt u∧purify h v=some (.sl xs u)∧(strip v=none∨strip v=some (.sl xs u))
theorem Pu.sl (h:Heap) (xs:List AVal) (tk:Tok):Pu h (.sl xs tk) xs:=by
 obtain ⟨u,h1,h2,h3⟩:=pur_tk2 h xs tk
 exact ⟨u,h1,h2,.inr h3⟩
end
def mnxV (mx:Bool):AVal→AVal→Option AVal
 | .int k a,.int _ b=>some (.int k (if mx then (if a<b then b else a) else (if b<a then b else a)))
 | _,_=>none
theorem mnxV_int (mx:Bool) (k k':IntKind) (a b:Int):mnxV mx (.int k a) (.int k' b)=some (.int k (if mx then (if a<b then b else a) else (if b<a then b else a))):=rfl
theorem XW_mnx {F:Nat→Option AEnt} {ev:Opd→AVal} {h:Heap} {K:AVal→Heap→Prop} {mx:Bool} {x y:Opd}:XW F (.mnx mx x y) ev h K↔bindK (mnxV mx (ev x) (ev y)) K h :=
 XW_val (fun _=>rfl) (by
  simp only [evalA]
  generalize ev x=a
  generalize ev y=b
  cases a<;>cases b<;>rfl)
def strV (t:List UInt8):AVal := .str t
theorem strV_eq (t:List UInt8):strV t = .str t:=rfl
def intN (i:Nat):AVal := .int .i64 (i:Int)
theorem intN_eq (i:Nat):intN i = .int .i64 (i:Int):=rfl
theorem intN_len (n:Nat):(intN n).cells.length=1:=rfl
end Go.Abs

namespace Go.Gt
open Go Go.Abs
abbrev Bs:=List UInt8
structure Ltr where
 text:Bs
 base:Int
 mark:Int
 cs:Int
 width:Int
 deriving Inhabited
def Ltr.cells (l:Ltr):List AVal:=[.str l.text,.int .i64 l.base,.int .i64 l.mark,.int .i64 l.cs,.int .i64 l.width]
def Ltr.val (l:Ltr):AVal := .agg l.cells
def texts (a:List Ltr):List Bs:=a.map Ltr.text
def reserved:Bs:=[48,49,50,51,52,53,54,55,56,57,45,35,46,124,40,41,42,63,123,125,62,47,95,126,59,58,44,61,34,64]
def resB (b:UInt8):Bool:=decide (b.toNat<33) || decide (b∈reserved)
def plainT (s:Bs):Bool:=s.all (fun b=>!resB b) && decide (1≤s.length∧s.length≤4)
def OkN (a:List Ltr) (i:Nat):Prop :=
 0≤(nth a i).base∧(nth a i).base<a.length∧(nth a (nth a i).base.toNat).base=(nth a i).base∧0≤(nth a i).mark∧(nth a i).mark≤15∧0≤(nth a i).cs∧(nth a i).cs≤1∧1≤(nth a i).width∧(nth a i).width≤1000 ∧
 ¬ ((nth a i).base=(i:Int)∧0<(nth a i).mark+(nth a i).cs)
instance (a:List Ltr) (i:Nat):Decidable (OkN a i):=by unfold OkN;infer_instance
def okL (a:List Ltr) (i:Nat):Bool:=plainT (nth a i).text && decide (OkN a i)
def validA (a:List Ltr):Bool:=decide (1≤a.length∧a.length≤60) && ((List.range a.length).all (okL a) && decide (texts a).Nodup)
def starts (s t:Bs):Prop:=s.take t.length=t
instance (s t:Bs):Decidable (starts s t):=by unfold starts;infer_instance
def best (a:List Ltr) (s:Bs):Nat→Option Nat
 | 0=>none
 | k+1=>match best a s k with
   | none=>if starts s (nth a k).text then some k else none
   | some b=>if starts s (nth a k).text∧(nth a b).text.length<(nth a k).text.length then some k else some b
theorem best_none {a:List Ltr} {s:Bs}:∀ {k:Nat},best a s k=none→∀ j,j<k→¬ starts s (nth a j).text
 | 0,_,j,hj=>by omega
 | k+1,h,j,hj=>by
   simp only [best] at h
   split at h
   ·rename_i hb
    split at h
    ·simp at h
    ·rename_i hn
     by_cases e:j=k
     ·subst e;exact hn
     ·exact best_none hb j (by omega)
   ·split at h<;>simp at h
theorem best_some {a:List Ltr} {s:Bs}:∀ {k b:Nat},best a s k=some b→b<k∧starts s (nth a b).text∧∀ j,j<k→starts s (nth a j).text→(nth a j).text.length≤(nth a b).text.length
 | 0,b,h=>by simp [best] at h
 | k+1,b,h=>by
   simp only [best] at h
   split at h
   ·rename_i hb
    split at h
    ·rename_i hs
     obtain rfl:=Option.some.inj h
     refine ⟨by omega,hs,fun j hj hsj=>?_⟩
     by_cases e:j=k
     ·subst e;exact Nat.le_refl _
     ·exact absurd hsj (best_none hb j (by omega))
    ·simp at h
   ·rename_i b0 hb
    obtain ⟨h1,h2,h3⟩:=best_some hb
    split at h
    ·rename_i hs
     obtain rfl:=Option.some.inj h
     refine ⟨by omega,hs.1,fun j hj hsj=>?_⟩
     by_cases e:j=k
     ·subst e;exact Nat.le_refl _
     ·have:=h3 j (by omega) hsj;omega
    ·rename_i hs
     obtain rfl:=Option.some.inj h
     refine ⟨by omega,h2,fun j hj hsj=>?_⟩
     by_cases e:j=k
     ·subst e
      by_cases hl:(nth a b0).text.length<(nth a j).text.length
      ·exact absurd ⟨hsj,hl⟩ hs
      ·omega
     ·exact h3 j (by omega) hsj
def stepA (a:List Ltr) (s:Bs):Option Nat:=best a s a.length
theorem texts_inj {a:List Ltr} (h:(texts a).Nodup) {i j:Nat} (hi:i<a.length) (hj:j<a.length) (e:(nth a i).text=(nth a j).text):i=j:=by
 rw [nth_eq hi,nth_eq hj] at e
 have h1:i<(texts a).length:=by simpa [texts] using hi
 have h2:j<(texts a).length:=by simpa [texts] using hj
 refine (List.getElem?_inj h1 h).1 ?_
 rw [List.getElem?_eq_getElem h1,List.getElem?_eq_getElem h2]
 simpa [texts] using e
theorem step_eq {a:List Ltr} (h:(texts a).Nodup) {s:Bs} {i:Nat} (hi:i<a.length) (hs:starts s (nth a i).text) (hm:∀ j,j<a.length→starts s (nth a j).text→(nth a j).text.length≤(nth a i).text.length):stepA a s=some i:=by
 cases hb:best a s a.length with
 | none=>exact absurd hs (best_none hb i hi)
 | some b =>
   obtain ⟨h1,h2,h3⟩:=best_some hb
   have e1:=h3 i hi hs
   have e2:=hm b h1 h2
   have e:(nth a b).text=(nth a i).text:=by
    rw [starts] at hs h2
    rw [←hs,←h2,show (nth a b).text.length=(nth a i).text.length by omega]
   rw [stepA,hb,texts_inj h h1 hi e]
theorem step_none {a:List Ltr} {s:Bs} (h:∀ j,j<a.length→¬ starts s (nth a j).text):stepA a s=none:=by
 cases hb:best a s a.length with
 | none=>exact hb
 | some b =>
   obtain ⟨h1,h2,_⟩:=best_some hb
   exact absurd h2 (h b h1)
def readF (a:List Ltr) (s:Bs):Nat→Nat→List Nat×Int
 | 0,_=>([],-1)
 | f+1,p=>if p<s.length then (match stepA a (s.drop p) with
   | some i=>(i::(readF a s f (p+(nth a i).text.length)).1,(readF a s f (p+(nth a i).text.length)).2)
   | none=>([],(p:Int))) else ([],-1)
def readA (a:List Ltr) (s:Bs):List Nat×Int:=if validA a=true then readF a s (s.length+1) 0 else ([],0)
theorem valid_facts {a:List Ltr} (h:validA a=true):1≤a.length∧a.length≤60∧(∀ i,i<a.length→plainT (nth a i).text=true∧OkN a i)∧(texts a).Nodup:=by
 simp only [validA,Bool.and_eq_true,decide_eq_true_eq,List.all_eq_true,List.mem_range,okL] at h
 exact ⟨h.1.1,h.1.2,fun i hi=>⟨(h.2.1 i hi).1,(h.2.1 i hi).2⟩,h.2.2⟩
theorem valid_no {a:List Ltr} {i:Nat} (hi:i<a.length) (h:okL a i=false):validA a=false:=by
 rw [Bool.eq_false_iff]
 intro q
 simp only [validA,Bool.and_eq_true,List.all_eq_true,List.mem_range] at q
 have:=q.2.1 i hi
 rw [h] at this;simp at this
theorem valid_dup {a:List Ltr} {i k:Nat} (h:k<i) (hi:i<a.length) (e:(nth a k).text=(nth a i).text):validA a=false:=by
 rw [Bool.eq_false_iff]
 intro q
 simp only [validA,Bool.and_eq_true,decide_eq_true_eq] at q
 have:=texts_inj q.2.2 (by omega) hi e
 omega
theorem valid_yes {a:List Ltr} (h1:1≤a.length∧a.length≤60) (h2:∀ i,i<a.length→okL a i=true) (h3:∀ i,i<a.length→∀ k,k<i→(nth a k).text≠(nth a i).text):validA a=true:=by
 simp only [validA,Bool.and_eq_true,decide_eq_true_eq,List.all_eq_true,List.mem_range]
 refine ⟨h1,h2,?_⟩
 rw [List.Nodup,List.pairwise_iff_getElem]
 intro i j hi hj hij
 have hi':i<a.length:=by simpa [texts] using hi
 have hj':j<a.length:=by simpa [texts] using hj
 have:=h3 j hj' i hij
 rw [nth_eq hi',nth_eq hj'] at this
 simpa [texts] using this
theorem plain_len {s:Bs} (h:plainT s=true):1≤s.length∧s.length≤4:=by
 simp only [plainT,Bool.and_eq_true,decide_eq_true_eq] at h
 exact h.2
structure Wd where
 b:Nat
 e:Nat
 l:List Nat
 deriving Inhabited
def Wd.cells (x:Wd):List AVal:=[.int .i64 (x.b:Int),.int .i64 (x.e:Int),.sl (x.l.map intN) .none]
def Wd.val (x:Wd):AVal := .agg x.cells
theorem readA_inv {a:List Ltr} (h:validA a=false) (s:Bs):readA a s=([],0):=by rw [readA,if_neg (by simp [h])]
end Go.Gt

namespace Go.Proofs.YthhdkkecolocdaaGreatDoor
open Go Go.Abs Go.Gt
theorem byte_res (b:UInt8) (k:Nat) (hk:k<30):nth reserved k=b↔(((nth reserved k).toNat:Int)=(b.toNat:Int)):=by
 constructor
 ·intro e;rw [e]
 ·intro e;exact UInt8.toNat_inj.1 (by omega)
theorem reserved_v (b:UInt8):PV F 110 [.int .u8 (b.toNat:Int)]=some (.bool (resB b)):=by
 refine PV_wp (fn:=c110) rfl ?_
 simp only [uT,c110]
 have hlen:reserved.length=30:=rfl
 rw [show ([48,49,50,51,52,53,54,55,56,57,45,35,46,124,40,41,42,63,123,125,62,47,95,126,59,58,44,61,34,64]:List UInt8)=reserved from rfl]
 have hb:=b.toNat_lt
 replace fx:=Dum_eq
 first|refine go ?_|exact goC
 refine w_loop (fun m vs h=>∃ (k:Nat) (x1 x2:AVal),m=30 - k∧k≤30∧(∀ i,i<k→nth reserved i≠b)∧vs=[.int .u8 (b.toNat:Int),.bool false,.int .i64 (k:Int),x1,x2]) 30
  ⟨0,_,_,rfl,by omega,fun i hi=>by omega,rfl⟩ ?_
 rintro m vs h ⟨k,x1,x2,rfl,hk,hz,rfl⟩
 by_cases hks:k<30
 ·by_cases h0:nth reserved k=b
  ·have e0:=(byte_res b k hks).1 h0
   have e:resB b=true:=by
    have:b∈reserved:=by rw [←h0];exact nth_mem (by rw [hlen];exact hks)
    simp [resB,this]
   replace fx:=aI @e0 (aI @e @hlen)
   (first|refine go ?_|exact goC);repeat' (first|refine gP ?_|exact gPc)
  ·have e0:¬ ((nth reserved k).toNat:Int)=(b.toNat:Int):=fun q=>h0 ((byte_res b k hks).2 q)
   replace fx:=aI @e0 @hlen
   (first|refine go ?_|exact goC);repeat' (first|refine gP ?_|exact gPc)
   refine lp_n ⟨_,by omega,k+1,_,_,rfl,by omega,fun i hi=>?_,by push_cast;rfl⟩
   by_cases e:i=k
   ·rw [e];exact h0
   ·exact hz i (by omega)
 ·have hn:b∉reserved:=fun hm=>by
   obtain ⟨i,hi,e⟩:=List.getElem_of_mem hm
   exact hz i (by rw [hlen] at hi;omega) (by rw [nth_eq hi];exact e)
  have e:resB b=decide (b.toNat<33):=by simp [resB,hn]
  replace fx:=aI @e @hlen
  (first|refine go ?_|exact goC);repeat' (first|refine gN ?_|exact gNc)
  exact decide_eq_decide.2 (by omega)
theorem rplain_v (s:Bs) (hl:s.length≤1000000):PV F 71 [.str s]=some (.bool (plainT s)):=by
 refine PV_wp (fn:=c71) rfl ?_
 simp only [uT,c71]
 replace fx:=Dum_eq
 first|refine go ?_|exact goC
 refine w_loop (fun m vs h=>∃ (k:Nat) (x1 x2:AVal),m=s.length - k∧k≤s.length∧(∀ i,i<k→resB (nth s i)=false)∧vs=[.str s,.bool false,.int .i64 (k:Int),x1,x2]) s.length
  ⟨0,_,_,rfl,by omega,fun i hi=>by omega,rfl⟩ ?_
 rintro m vs h ⟨k,x1,x2,rfl,hk,hz,rfl⟩
 by_cases hks:k<s.length
 ·have rv:=reserved_v (nth s k)
  cases hr:resB (nth s k) with
  | true =>
    rw [hr] at rv
    have e:plainT s=false:=by
     have:(s.all fun b=>!resB b)=false:=by
      rw [Bool.eq_false_iff]
      intro q
      have:=List.all_eq_true.1 q _ (nth_mem hks)
      rw [hr] at this;simp at this
     simp [plainT,this]
    replace fx:=aI @rv @e
    (first|refine go ?_|exact goC);repeat' (first|refine gP ?_|exact gPc)
  | false =>
    rw [hr] at rv
    replace fx:=@rv
    (first|refine go ?_|exact goC);repeat' (first|refine gP ?_|exact gPc)
    refine lp_n ⟨_,by omega,k+1,_,_,rfl,by omega,fun i hi=>?_,by push_cast;rfl⟩
    by_cases e:i=k
    ·rw [e];exact hr
    ·exact hz i (by omega)
 ·have e:(s.all fun b=>!resB b)=true:=by
   rw [List.all_eq_true]
   intro x hx
   obtain ⟨i,hi,rfl⟩:=List.getElem_of_mem hx
   have:=hz i (by omega)
   rw [nth_eq hi] at this
   simp [this]
  have e2:plainT s=decide (1≤s.length∧s.length≤4):=by simp [plainT,e]
  by_cases h1:1≤s.length∧s.length≤4
  ·rw [e2,decide_eq_true h1]
   replace fx:=Dum_eq
   (first|refine go ?_|exact goC);repeat' (first|refine gP ?_|exact gPc|refine gN ?_|exact gNc)
   omega
  ·rw [e2,decide_eq_false h1]
   replace fx:=Dum_eq
   (first|refine go ?_|exact goC);repeat' (first|refine gN ?_|exact gNc|(refine gI ?_ ?_<;>intro hyp<;>first|refine goF ?_|exact goFc|refine goT ?_|exact goTc|skip))
   all_goals first|omega|simp<;>omega
theorem ltL (o:Ltr):o.val.cells.length=5:=rfl
theorem ltT (o:Ltr):AVal.agg (List.take 5 o.val.cells)=o.val:=rfl
theorem ltS (o:Ltr):setCells [.str [],.int .i64 0,.int .i64 0,.int .i64 0,.int .i64 0] 0 o.val.cells=o.cells:=rfl
theorem ltN (o:Ltr):o.cells.length=5:=rfl
theorem lt0 (o:Ltr):List.take 1 o.cells=[.str o.text]:=rfl
theorem lt1 (o:Ltr):List.take 1 (List.drop 1 o.cells)=[.int .i64 o.base]:=rfl
theorem lt2 (o:Ltr):List.take 1 (List.drop 2 o.cells)=[.int .i64 o.mark]:=rfl
theorem lt3 (o:Ltr):List.take 1 (List.drop 3 o.cells)=[.int .i64 o.cs]:=rfl
theorem lt4 (o:Ltr):List.take 1 (List.drop 4 o.cells)=[.int .i64 o.width]:=rfl
theorem lv0 (o:Ltr):List.take 1 o.val.cells=[.str o.text]:=rfl
theorem lv1 (o:Ltr):List.take 1 (List.drop 1 o.val.cells)=[.int .i64 o.base]:=rfl
theorem lvD (o:Ltr):(List.drop 1 o.val.cells).length=4:=rfl
theorem lvN (o:Ltr):o.val.cells.length=5:=rfl
theorem rlong_v (a:List Ltr) (s:Bs) (p:Nat) (u:Tok) (hu:Pt u) (ha:a.length≤1000000) (hs:s.length≤1000000) (hp:p≤s.length) (ht:∀ x∈a,x.text.length≤1000000) :
  PV F 73 [.sl (a.map Ltr.val) u,.str s,.int .i64 (p:Int)]=some (.int .i64 (match stepA a (s.drop p) with|some i=>(i:Int)|none => -1)):=by
 refine PV_wp (fn:=c73) rfl ?_
 simp only [uT,c73]
 replace fx:=Dum_eq
 first|refine go ?_|exact goC
 refine w_loop (fun m vs h=>∃ (k:Nat) (x1 x2 x3:AVal),m=a.length - k∧k≤a.length∧vs=[.sl (a.map Ltr.val) u,.str s,.int .i64 (p:Int),.int .i64 0,.int .i64 (match best a (s.drop p) k with|some i=>(i:Int)|none => -1),.int .i64 (k:Int),x1,x2,x3]) a.length
  ⟨0,_,_,_,rfl,by omega,rfl⟩ ?_
 rintro m vs h ⟨k,x1,x2,x3,rfl,hk,rfl⟩
 by_cases hks:k<a.length
 ·have htk:=ht _ (nth_mem hks)
  have hst:starts (s.drop p) (nth a k).text↔p+(nth a k).text.length≤s.length∧(s.drop p).take (nth a k).text.length=(nth a k).text:=by
   rw [starts]
   constructor
   ·intro e
    refine ⟨?_,e⟩
    have:=congrArg List.length e
    rw [List.length_take,List.length_drop] at this
    omega
   ·exact fun e=>e.2
  have hsub:((p:Int)+((nth a k).text.length:Int)).toNat - p=(nth a k).text.length:=by omega
  by_cases hs1:starts (s.drop p) (nth a k).text
  ·obtain ⟨q1,q2⟩:=hst.1 hs1
   cases hb:best a (s.drop p) k with
   | none =>
     have hb1:best a (s.drop p) (k+1)=some k:=by simp only [best,hb,if_pos hs1]
     replace fx:=aI @ltL (aI @lv0 (aI @lvN (aI @hsub @q2)))
     (first|refine go ?_|exact goC);repeat' (first|refine gP ?_|exact gPc)
     exact lp_n ⟨_,by omega,k+1,_,_,_,rfl,by omega,by rw [hb1];push_cast;rfl⟩
   | some b =>
     obtain ⟨b1,b2,_⟩:=best_some hb
     by_cases hl:(nth a b).text.length<(nth a k).text.length
     ·have hb1:best a (s.drop p) (k+1)=some k:=by simp only [best,hb,if_pos (And.intro hs1 hl)]
      replace fx:=aI @ltL (aI @lv0 (aI @lvN (aI @hsub @q2)))
      (first|refine go ?_|exact goC);repeat' (first|refine gP ?_|exact gPc|refine gN ?_|exact gNc)
      exact lp_n ⟨_,by omega,k+1,_,_,_,rfl,by omega,by rw [hb1];push_cast;rfl⟩
     ·have hb1:best a (s.drop p) (k+1)=some b:=by
       simp only [best,hb]
       rw [if_neg (fun q=>hl q.2)]
      replace fx:=aI @ltL (aI @lv0 (aI @lvN (aI @hsub @q2)))
      (first|refine go ?_|exact goC);repeat' (first|refine gP ?_|exact gPc|refine gN ?_|exact gNc)
      exact lp_n ⟨_,by omega,k+1,_,_,_,rfl,by omega,by rw [hb1];push_cast;rfl⟩
  ·have hb1:best a (s.drop p) (k+1)=best a (s.drop p) k:=by
    simp only [best]
    cases best a (s.drop p) k with
    | none=>simp [hs1]
    | some b=>simp [hs1]
   by_cases q1:p+(nth a k).text.length≤s.length
   ·have q2:¬ (s.drop p).take (nth a k).text.length=(nth a k).text:=fun e=>hs1 (hst.2 ⟨q1,e⟩)
    replace fx:=aI @ltL (aI @lv0 (aI @lvN (aI @hsub @q2)))
    (first|refine go ?_|exact goC);repeat' (first|refine gP ?_|exact gPc)
    exact lp_n ⟨_,by omega,k+1,_,_,_,rfl,by omega,by rw [hb1];push_cast;rfl⟩
   ·replace fx:=aI @ltL (aI @lv0 @lvN)
    (first|refine go ?_|exact goC);repeat' (first|refine gP ?_|exact gPc|refine gN ?_|exact gNc)
    exact lp_n ⟨_,by omega,k+1,_,_,_,rfl,by omega,by rw [hb1];push_cast;rfl⟩
 ·have e:k=a.length:=by omega
  subst e
  replace fx:=Dum_eq
  (first|refine go ?_|exact goC);repeat' (first|refine gN ?_|exact gNc)
  rfl
theorem okL_false {a:List Ltr} {k:Nat} (h:okL a k=false) (hp:plainT (nth a k).text=true):¬ OkN a k:=by
 rw [okL,hp,Bool.true_and] at h
 exact of_decide_eq_false h
theorem rvalid_v (a:List Ltr) (u:Tok) (hu:Pt u) (ha:a.length≤1000000) (ht:∀ x∈a,x.text.length≤1000000):PV F 35 [.sl (a.map Ltr.val) u]=some (.bool (validA a)):=by
 refine PV_wp (fn:=c35) rfl ?_
 simp only [uT,c35]
 by_cases h0:1≤a.length∧a.length≤60
 ·replace fx:=Dum_eq
  (first|refine go ?_|exact goC);repeat' (first|refine gN ?_|exact gNc)
  refine w_loop (fun m vs h=>∃ (k:Nat) (x1 x2 x3 x4 x5 x6 x7 x8:AVal),m=a.length - k∧k≤a.length∧(∀ i,i<k→okL a i=true)∧(∀ i,i<k→∀ j,j<i→(nth a j).text≠(nth a i).text)∧vs=[.sl (a.map Ltr.val) u,.bool false,.int .i64 (k:Int),x1,x2,x3,x4,x5,x6,x7,x8]) a.length
   ⟨0,_,_,_,_,_,_,_,_,rfl,by omega,fun i hi=>by omega,fun i hi=>by omega,rfl⟩ ?_
  rintro m vs h ⟨k,x1,x2,x3,x4,x5,x6,x7,x8,rfl,hk,hz,hd,rfl⟩
  by_cases hks:k<a.length
  ·have htk:=ht _ (nth_mem hks)
   have rp:=rplain_v (nth a k).text htk
   cases hok:okL a k with
   | true =>
     have hok2:plainT (nth a k).text=true∧OkN a k:=by simpa only [okL,Bool.and_eq_true,decide_eq_true_eq] using hok
     obtain ⟨o0,o1,o2,o3,o4,o5,o6,o7,o8,o9,o10⟩:=hok2
     rw [o0] at rp
     have o11:¬ ((nth a k).base=(k:Int)∧(¬ (nth a k).mark=0∨¬ (nth a k).cs=0)):=by omega
     replace fx:=aI @rp (aI @ltL (aI @ltT (aI @ltS (aI @ltN (aI @lt0 (aI @lt1 (aI @lt2 (aI @lt3 (aI @lt4 (aI @lv1 (aI @lvN @lvD)))))))))))
     (first|refine go ?_|exact goC);repeat' (first|refine gP ?_|exact gPc|refine gN ?_|exact gNc|(refine gI ?_ ?_<;>intro hyp<;>first|refine goF ?_|exact goFc|refine goT ?_|exact goTc|skip))
     all_goals
      have gx:(h.push (Obj.row true (typed 110) true (nth a k).cells)).get h.next=some (Obj.row true (typed 110) true (nth a k).cells):=get_push_eq rfl
      generalize (h.push (Obj.row true (typed 110) true (nth a k).cells))=h1 at gx ⊢
      generalize h.next=q at gx ⊢
      refine w_loop (fun m vs h'=>∃ (j:Nat) (x1 x2 x3 x4 x5 x6:AVal),m=k - j∧j≤k∧(∀ i,i<j→(nth a i).text≠(nth a k).text)∧vs=[.sl (a.map Ltr.val) u,.bool false,.int .i64 (k:Int),.ptr q 0,.int .i64 (j:Int),x1,x2,x3,x4,x5,x6]∧h'.get q=some (Obj.row true (typed 110) true (nth a k).cells)) k
       ⟨0,_,_,_,_,_,_,rfl,by omega,fun i hi=>by omega,rfl,gx⟩ ?_
      clear gx
      rintro m vs h' ⟨j,x1,x2,x3,x4,x5,x6,rfl,hj,hdj,rfl,gx⟩
      by_cases hjk:j<k
      ·by_cases he:(nth a j).text=(nth a k).text
       ·replace fx:=aI @gx (aI @ltL (aI @ltN (aI @lt0 (aI @lv0 (aI @lvN @he)))))
        (first|refine go ?_|exact goC);repeat' (first|refine gP ?_|exact gPc)
        rw [valid_dup hjk hks he]
       ·replace fx:=aI @gx (aI @ltL (aI @ltN (aI @lt0 (aI @lv0 (aI @lvN @he)))))
        (first|refine go ?_|exact goC);repeat' (first|refine gP ?_|exact gPc)
        refine lp_n ⟨_,by omega,j+1,_,_,_,_,_,_,rfl,by omega,fun i hi=>?_,by push_cast;rfl,gx⟩
        by_cases e:i=j
        ·rw [e];exact he
        ·exact hdj i (by omega)
      ·replace fx:=Dum_eq
       (first|refine go ?_|exact goC);repeat' (first|refine gN ?_|exact gNc)
       refine lp_n ⟨_,by omega,k+1,_,_,_,_,_,_,_,_,rfl,by omega,fun i hi=>?_,fun i hi j2 hj2=>?_,by push_cast;rfl⟩
       ·by_cases e:i=k
        ·rw [e];exact hok
        ·exact hz i (by omega)
       ·by_cases e:i=k
        ·rw [e] at hj2 ⊢;exact hdj j2 (by omega)
        ·exact hd i (by omega) j2 hj2
   | false =>
     cases hp:plainT (nth a k).text with
     | false =>
       rw [hp] at rp
       replace fx:=aI @rp (aI @ltL (aI @ltT (aI @ltS (aI @ltN (aI @lt0 (aI @lt1 (aI @lt2 (aI @lt3 (aI @lt4 (aI @lv1 (aI @lvN @lvD)))))))))))
       (first|refine go ?_|exact goC);repeat' (first|refine gP ?_|exact gPc)
       rw [valid_no hks hok]
     | true =>
       rw [hp] at rp
       have hno:=okL_false hok hp
       by_cases c1:(nth a k).base<0
       ·clear hno
        replace fx:=aI @rp (aI @ltL (aI @ltT (aI @ltS (aI @ltN (aI @lt0 (aI @lt1 (aI @lt2 (aI @lt3 (aI @lt4 (aI @lv1 (aI @lvN @lvD)))))))))))
        (first|refine go ?_|exact goC);repeat' (first|refine gP ?_|exact gPc)
        rw [valid_no hks hok]
       by_cases c2:(a.length:Int)≤(nth a k).base
       ·clear hno
        replace fx:=aI @rp (aI @ltL (aI @ltT (aI @ltS (aI @ltN (aI @lt0 (aI @lt1 (aI @lt2 (aI @lt3 (aI @lt4 (aI @lv1 (aI @lvN @lvD)))))))))))
        (first|refine go ?_|exact goC);repeat' (first|refine gP ?_|exact gPc|refine gN ?_|exact gNc)
        rw [valid_no hks hok]
       by_cases c3:¬ (nth a (nth a k).base.toNat).base=(nth a k).base
       ·clear hno
        replace fx:=aI @rp (aI @ltL (aI @ltT (aI @ltS (aI @ltN (aI @lt0 (aI @lt1 (aI @lt2 (aI @lt3 (aI @lt4 (aI @lv1 (aI @lvN @lvD)))))))))))
        (first|refine go ?_|exact goC);repeat' (first|refine gP ?_|exact gPc|refine gN ?_|exact gNc)
        rw [valid_no hks hok]
       by_cases c4:(nth a k).mark<0
       ·clear hno
        replace fx:=aI @rp (aI @ltL (aI @ltT (aI @ltS (aI @ltN (aI @lt0 (aI @lt1 (aI @lt2 (aI @lt3 (aI @lt4 (aI @lv1 (aI @lvN @lvD)))))))))))
        (first|refine go ?_|exact goC);repeat' (first|refine gP ?_|exact gPc|refine gN ?_|exact gNc)
        rw [valid_no hks hok]
       by_cases c5:15<(nth a k).mark
       ·clear hno
        replace fx:=aI @rp (aI @ltL (aI @ltT (aI @ltS (aI @ltN (aI @lt0 (aI @lt1 (aI @lt2 (aI @lt3 (aI @lt4 (aI @lv1 (aI @lvN @lvD)))))))))))
        (first|refine go ?_|exact goC);repeat' (first|refine gP ?_|exact gPc|refine gN ?_|exact gNc)
        rw [valid_no hks hok]
       by_cases c6:(nth a k).cs<0
       ·clear hno
        replace fx:=aI @rp (aI @ltL (aI @ltT (aI @ltS (aI @ltN (aI @lt0 (aI @lt1 (aI @lt2 (aI @lt3 (aI @lt4 (aI @lv1 (aI @lvN @lvD)))))))))))
        (first|refine go ?_|exact goC);repeat' (first|refine gP ?_|exact gPc|refine gN ?_|exact gNc)
        rw [valid_no hks hok]
       by_cases c7:1<(nth a k).cs
       ·clear hno
        replace fx:=aI @rp (aI @ltL (aI @ltT (aI @ltS (aI @ltN (aI @lt0 (aI @lt1 (aI @lt2 (aI @lt3 (aI @lt4 (aI @lv1 (aI @lvN @lvD)))))))))))
        (first|refine go ?_|exact goC);repeat' (first|refine gP ?_|exact gPc|refine gN ?_|exact gNc)
        rw [valid_no hks hok]
       by_cases c8:(nth a k).width<1
       ·clear hno
        replace fx:=aI @rp (aI @ltL (aI @ltT (aI @ltS (aI @ltN (aI @lt0 (aI @lt1 (aI @lt2 (aI @lt3 (aI @lt4 (aI @lv1 (aI @lvN @lvD)))))))))))
        (first|refine go ?_|exact goC);repeat' (first|refine gP ?_|exact gPc|refine gN ?_|exact gNc)
        rw [valid_no hks hok]
       by_cases c9:1000<(nth a k).width
       ·clear hno
        replace fx:=aI @rp (aI @ltL (aI @ltT (aI @ltS (aI @ltN (aI @lt0 (aI @lt1 (aI @lt2 (aI @lt3 (aI @lt4 (aI @lv1 (aI @lvN @lvD)))))))))))
        (first|refine go ?_|exact goC);repeat' (first|refine gP ?_|exact gPc|refine gN ?_|exact gNc)
        rw [valid_no hks hok]
       have c10:(nth a k).base=(k:Int)∧(¬ (nth a k).mark=0∨¬ (nth a k).cs=0):=by
        refine Classical.byContradiction fun q=>hno ?_
        unfold OkN
        omega
       obtain ⟨c11,c12⟩:=c10
       by_cases c13:(nth a k).mark=0
       ·clear hno
        replace fx:=aI @rp (aI @ltL (aI @ltT (aI @ltS (aI @ltN (aI @lt0 (aI @lt1 (aI @lt2 (aI @lt3 (aI @lt4 (aI @lv1 (aI @lvN @lvD)))))))))))
        (first|refine go ?_|exact goC);repeat' (first|refine gP ?_|exact gPc|refine gN ?_|exact gNc)
        rw [valid_no hks hok]
       ·clear hno
        replace fx:=aI @rp (aI @ltL (aI @ltT (aI @ltS (aI @ltN (aI @lt0 (aI @lt1 (aI @lt2 (aI @lt3 (aI @lt4 (aI @lv1 (aI @lvN @lvD)))))))))))
        (first|refine go ?_|exact goC);repeat' (first|refine gP ?_|exact gPc|refine gN ?_|exact gNc)
        rw [valid_no hks hok]
  ·have e:k=a.length:=by omega
   subst e
   rw [valid_yes h0 hz hd]
   replace fx:=Dum_eq
   (first|refine go ?_|exact goC);repeat' (first|refine gN ?_|exact gNc)
 ·have e:validA a=false:=by
   simp only [validA,decide_eq_false h0,Bool.false_and]
  rw [e]
  replace fx:=Dum_eq
  (first|refine go ?_|exact goC);repeat' (first|refine gP ?_|exact gPc|(refine gI ?_ ?_<;>intro hyp<;>first|refine goF ?_|exact goFc|refine goT ?_|exact goTc|skip))
end Go.Proofs.YthhdkkecolocdaaGreatDoor

namespace Go.Proofs.YthhdkkecolocdaaGreatDoor
open Go Go.Abs Go.Gt
def tkE {α:Type} (l:List α):Tok:=match l with
 | [] => .nil
 | _::_ => .none
def readV (r:List Nat×Int):AVal := .tup [.sl (r.1.map intN) (tkE r.1),.int .i64 r.2]
theorem pur_gr {α:Type} {h:Heap} {ty sz:Nat} {l:List α} {tk:Tok} (g:Gr h ty sz l tk) (hn:l=[]→tk = .nil) (f:α→AVal):purify h (.sl (l.map f) tk)=some (.sl (l.map f) (tkE l)):=by
 rcases g with ⟨rfl,_⟩|⟨i,rfl,_⟩
 ·rw [hn rfl];rfl
 ·cases l with
  | nil=>have:=hn rfl;simp at this
  | cons x l=>rfl
theorem pur_pair {h:Heap} {x x' y:AVal} (h1:purify h x=some x') (h2:purify h y=some y):purify h (.tup [x,y])=some (.tup [x',y]):=by
 simp only [purify,purifyL,h1,h2]
 rfl
theorem pur_read {h:Heap} {ty sz:Nat} {l:List Nat} {tk:Tok} (g:Gr h ty sz l tk) (hn:l=[]→tk = .nil) (n:Int):purify h (.tup [.sl (l.map intN) tk,.int .i64 n])=some (readV (l,n)) :=
 pur_pair (pur_gr g hn intN) (by simp only [purify])
theorem rread_v (a:List Ltr) (s:Bs) (u:Tok) (hu:Pt u) (ha:a.length≤1000000) (hs:s.length≤900000) (ht:∀ x∈a,x.text.length≤1000000) :
  PV F 39 [.sl (a.map Ltr.val) u,.str s]=some (readV (readA a s)):=by
 refine PV_wp (fn:=c39) rfl ?_
 simp only [uT,c39]
 have rv:=rvalid_v a u hu ha ht
 have sl:strip (.sl (a.map Ltr.val) u)=some (.sl (a.map Ltr.val) u):=by rcases hu with rfl|rfl<;>rfl
 cases hva:validA a with
 | false =>
   rw [hva] at rv
   rw [readA_inv hva]
   replace fx:=aI @sl @rv
   first|refine go ?_|exact goC
   rfl
 | true =>
   rw [hva] at rv
   have hr:readA a s=readF a s (s.length+1) 0:=by rw [readA,if_pos hva]
   rw [hr]
   generalize hR0:readF a s (s.length+1) 0=R
   obtain ⟨l1,l2,l3,l4⟩:=valid_facts hva
   have rl:=fun (p:Nat) (hp:p≤s.length)=>rlong_v a s p u hu ha (by omega) hp ht
   replace fx:=aI @sl @rv
   first|refine go ?_|exact goC
   refine w_loop (fun m vs h=>∃ (p f:Nat) (ls:List Nat) (tk:Tok) (x1 x2 x3 x4:AVal),m=s.length - p∧p≤s.length∧s.length<p+f∧R=(ls++(readF a s f p).1,(readF a s f p).2)∧ls.length≤p ∧
     vs=[.sl (a.map Ltr.val) u,.str s,.sl [] .nil,.int .i64 0,.sl (ls.map intN) tk,.int .i64 (p:Int),x1,x2,x3,x4]∧GrF (fun _=>False) Heap.empty h 3 1 ls tk∧(ls=[]→tk = .nil)) s.length
    ⟨0,s.length+1,[],.nil,_,_,_,_,rfl,by omega,by omega,by rw [hR0];simp,by simp,rfl,GrF.nil _ _ _ _,fun _=>rfl⟩ ?_
   rintro m vs h ⟨p,f,ls,tk,x1,x2,x3,x4,rfl,hp,hf,hR,hll,rfl,G,hnil⟩
   by_cases hps:p<s.length
   ·obtain ⟨f,rfl⟩:∃ f',f=f'+1:=⟨f - 1,by omega⟩
    have rlp:=rl p hp
    simp only [readF] at hR
    rw [if_pos hps] at hR
    cases hst:stepA a (s.drop p) with
    | none =>
      rw [hst] at rlp hR
      simp only [List.append_nil] at rlp hR
      rw [hR]
      replace fx:=aI @sl @rlp
      (first|refine go ?_|exact goC);repeat' (first|refine gP ?_|exact gPc)
      exact pur_read G.gr hnil _
    | some i =>
      rw [hst] at rlp hR
      simp only at rlp hR
      obtain ⟨b1,b2,_⟩:=best_some hst
      have hl:=plain_len (l3 i b1).1
      have hlen:p+(nth a i).text.length≤s.length:=by
       have:=congrArg List.length b2
       rw [List.length_take,List.length_drop] at this
       omega
      have lb:∀ (x:Nat) H,litA 0 3 1 1 false [.int .i64 0] (some [.int .i64 (x:Int)]) H=some (.sl [intN x] .none,H):=fun x H=>lit_none rfl rfl rfl rfl
      replace fx:=aI @sl (aI @rlp @lb)
      (first|refine go ?_|exact goC);repeat' (first|refine gP ?_|exact gPc|refine gN ?_|exact gNc)
      refine append_F (f:=intN) ls [i] intN_len (fun _=>rfl) (fun _=>rfl) (lenA_sl (f:=intN) (l:=[i])) (elems_sl (f:=intN) (l:=[i]) intN_len) G (by simp;omega) (by omega) (by omega) (by omega) ?_
      intro h1 tk1 G1 n1 _ _
      replace fx:=aI @ltL (aI @lv0 @lvN)
      first|refine go ?_|exact goC
      exact lp_n ⟨_,by omega,p+(nth a i).text.length,f,ls++[i],tk1,_,_,_,_,rfl,hlen,by omega,by rw [hR];simp,by simp;omega,by push_cast;rfl,G1,by simp⟩
   ·obtain ⟨f,rfl⟩:∃ f',f=f'+1:=⟨f - 1,by omega⟩
    simp only [readF] at hR
    rw [if_neg hps] at hR
    simp only [List.append_nil] at hR
    rw [hR]
    replace fx:=Dum_eq
    (first|refine go ?_|exact goC);repeat' (first|refine gN ?_|exact gNc)
    exact pur_read G.gr hnil _
end Go.Proofs.YthhdkkecolocdaaGreatDoor

namespace Go.Proofs.YthhdkkecolocdaaGreatDoor
open Go Go.Abs Go.Gt
theorem within_v (n lo hi:Int):PV F 91 [.int .i64 n,.int .i64 lo,.int .i64 hi]=some (.bool (decide (lo≤n∧n≤hi))):=by
 refine PV_wp (fn:=c91) rfl ?_
 simp only [uT,c91]
 by_cases h1:lo≤n
 ·by_cases h2:n≤hi
  ·rw [decide_eq_true (And.intro h1 h2)]
   replace fx:=Dum_eq
   (first|refine go ?_|exact goC);repeat' (first|refine gP ?_|exact gPc)
   omega
  ·rw [decide_eq_false (fun q=>h2 q.2)]
   replace fx:=Dum_eq
   (first|refine go ?_|exact goC);repeat' (first|refine gP ?_|exact gPc)
   simpa using h2
 ·rw [decide_eq_false (fun q=>h1 q.1)]
  replace fx:=Dum_eq
  (first|refine go ?_|exact goC);repeat' (first|refine gN ?_|exact gNc)
theorem index_byte:∀ (l:Bs) (c:UInt8),(c∈l∧0≤Lib.indexByte l c)∨(c∉l∧Lib.indexByte l c = -1)
 | [],c => .inr ⟨by simp,rfl⟩
 | b::l,c=>by
   by_cases hb:b=c
   ·subst hb
    exact .inl ⟨by simp,by simp [Lib.indexByte]⟩
   ·rcases index_byte l c with ⟨h1,h2⟩|⟨h1,h2⟩
    ·refine .inl ⟨by simp [h1],?_⟩
     simp only [Lib.indexByte]
     rw [if_neg (by simpa using hb)]
     split<;>first|(rename_i q;simp at q;omega)|omega
    ·refine .inr ⟨by simp [h1,Ne.symm hb],?_⟩
     simp only [Lib.indexByte]
     rw [if_neg (by simpa using hb),h2]
     rfl
theorem idx_c (s:Bs) (b:UInt8) (h:Heap):CV F 135 [.str s,.int .u8 (b.toNat:Int)] h (fun v h'=>v = .int .i64 (Lib.indexByte s b)∧h'=h):=by
 refine CV_hand (s:=idxS) rfl (r := .int .i64 (Lib.indexByte s b)) (h':=h) ?_ ⟨rfl,rfl⟩
 simp only [idxS]
 have:(b.toNat:Int).toNat.toUInt8=b:=by simp
 rw [this]
theorem plain_v (s:Bs) (hl:s.length≤1000000):PV F 92 [.str s]=some (.bool (plainT s)):=by
 refine PV_wp (fn:=c92) rfl ?_
 simp only [uT,c92]
 rw [show ([48,49,50,51,52,53,54,55,56,57,45,35,46,124,40,41,42,63,123,125,62,47,95,126,59,58,44,61,34,64]:List UInt8)=reserved from rfl]
 replace fx:=Dum_eq
 first|refine go ?_|exact goC
 refine w_loop (fun m vs h=>∃ (k:Nat) (x1 x2 x3:AVal),m=s.length - k∧k≤s.length∧(∀ i,i<k→resB (nth s i)=false)∧vs=[.str s,.bool false,x1,.int .i64 (s.length:Int),.int .i64 (k:Int),x2,x3]) s.length
  ⟨0,_,_,_,rfl,by omega,fun i hi=>by omega,rfl⟩ ?_
 rintro m vs h ⟨k,x1,x2,x3,rfl,hk,hz,rfl⟩
 by_cases hks:k<s.length
 ·have hlt:=(nth s k).toNat_lt
  have hno:resB (nth s k)=true→plainT s=false:=by
   intro hr
   have:(s.all fun b=>!resB b)=false:=by
    rw [Bool.eq_false_iff]
    intro q
    have:=List.all_eq_true.1 q _ (nth_mem hks)
    rw [hr] at this;simp at this
   simp [plainT,this]
  by_cases h33:(nth s k).toNat<33
  ·have e:plainT s=false:=hno (by simp [resB,h33])
   replace fx:=@e
   (first|refine go ?_|exact goC);repeat' (first|refine gP ?_|exact gPc)
  ·replace fx:=Dum_eq
   (first|refine go ?_|exact goC);repeat' (first|refine gP ?_|exact gPc|refine gN ?_|exact gNc)
   refine CV_mono (idx_c reserved (nth s k) _) ?_
   rintro v h1 ⟨rfl,rfl⟩
   rcases index_byte reserved (nth s k) with ⟨i1,i2⟩|⟨i1,i2⟩
   ·have e:plainT s=false:=hno (by simp [resB,i1])
    replace fx:=@e
    (first|refine go ?_|exact goC);repeat' (first|refine gP ?_|exact gPc|refine gN ?_|exact gNc)
   ·rw [i2]
    have hr:resB (nth s k)=false:=by simp [resB,i1];omega
    replace fx:=Dum_eq
    (first|refine go ?_|exact goC);repeat' (first|refine gN ?_|exact gNc)
    refine lp_n ⟨_,by omega,k+1,_,_,_,rfl,by omega,fun i hi=>?_,by push_cast;rfl⟩
    by_cases e:i=k
    ·rw [e];exact hr
    ·exact hz i (by omega)
 ·have e:(s.all fun b=>!resB b)=true:=by
   rw [List.all_eq_true]
   intro x hx
   obtain ⟨i,hi,rfl⟩:=List.getElem_of_mem hx
   have:=hz i (by omega)
   rw [nth_eq hi] at this
   simp [this]
  have e2:plainT s=decide (1≤s.length∧s.length≤4):=by simp [plainT,e]
  by_cases h1:s=[]
  ·subst h1
   rw [e2]
   replace fx:=Dum_eq
   (first|refine go ?_|exact goC);repeat' (first|refine gN ?_|exact gNc)
  ·have h2:1≤s.length:=by
    cases s with
    | nil=>exact absurd rfl h1
    | cons _ _=>simp
   by_cases h3:s.length≤4
   ·rw [e2,decide_eq_true (And.intro h2 h3)]
    replace fx:=@h1
    (first|refine go ?_|exact goC);repeat' (first|refine gN ?_|exact gNc)
    omega
   ·rw [e2,decide_eq_false (fun q=>h3 q.2)]
    replace fx:=@h1
    (first|refine go ?_|exact goC);repeat' (first|refine gN ?_|exact gNc)
    simp
    omega
def ebOf (a:List Ltr) (k:Nat):List (Nat×AVal×AVal):=(List.range k).map fun i=>(i,.str (nth a i).text,.int .i64 (i:Int))
theorem ebOf_succ (a:List Ltr) (k:Nat):ebOf a (k+1)=ebOf a k++[(k,.str (nth a k).text,.int .i64 (k:Int))]:=by simp [ebOf,List.range_succ]
theorem ebOf_len (a:List Ltr) (k:Nat):(ebOf a k).length=k:=by simp [ebOf]
theorem findE_app (kd:KD) (x:AVal):∀ (l1 l2:List (Nat×AVal×AVal)) (n:Nat),findE kd x (l1++l2) n=match findE kd x l1 n with
  | some r=>some r
  | none=>findE kd x l2 (n+l1.length)
 | [],l2,n=>by simp [findE]
 | e::l1,l2,n=>by
   simp only [List.cons_append,findE]
   split
   ·rfl
   ·rw [findE_app kd x l1 l2 (n+1),show n+1+l1.length=n+(e::l1).length by simp;omega]
theorem keyS (t t':Bs):keyEq .str (.str t) (.str t')=decide (t=t'):=by
 by_cases h:t=t'
 ·subst h;simp [keyEq]
 ·simp [keyEq,h]
theorem find_no (a:List Ltr) (t:Bs):∀ k,(∀ i,i<k→(nth a i).text≠t)→findE .str (.str t) (ebOf a k) 0=none
 | 0,_=>rfl
 | k+1,h=>by
   rw [ebOf_succ,findE_app,find_no a t k (fun i hi=>h i (by omega))]
   simp only [findE,keyS]
   rw [decide_eq_false (fun e=>h k (by omega) e.symm)]
   rfl
theorem find_yes (a:List Ltr) (t:Bs) {i:Nat} (ht:(nth a i).text=t) (hf:∀ j,j<i→(nth a j).text≠t):∀ k,i<k→findE .str (.str t) (ebOf a k) 0=some (i,.int .i64 (i:Int))
 | 0,h=>by omega
 | k+1,h=>by
   rw [ebOf_succ,findE_app]
   by_cases e:i=k
   ·subst e
    rw [find_no a t i hf]
    simp only [findE,keyS,ht,decide_true,if_true,ebOf_len,Nat.zero_add]
   ·rw [find_yes a t ht hf k (by omega)]
def Dif (a:List Ltr) (k:Nat):Prop:=∀ i,i<k→∀ j,j<i→(nth a j).text≠(nth a i).text
def MapT (a:List Ltr) (k c:Nat) (es:List (Nat×AVal×AVal)):Prop:=(Dif a k∧c=k∧es=ebOf a k)∨(¬ Dif a k∧es.length<k)
theorem mput_len (kd:KD) (k v:AVal) (c:Nat) (es:List (Nat×AVal×AVal)):(mput kd k v c es).2.length≤es.length+1:=by
 unfold mput
 split<;>simp
theorem MapT.put {a:List Ltr} {k c:Nat} {es:List (Nat×AVal×AVal)} (m:MapT a k c es):MapT a (k+1) (mput .str (.str (nth a k).text) (.int .i64 (k:Int)) c es).1 (mput .str (.str (nth a k).text) (.int .i64 (k:Int)) c es).2:=by
 rcases m with ⟨h1,rfl,rfl⟩|⟨h1,h2⟩
 ·by_cases hd:∀ j,j<c→(nth a j).text≠(nth a c).text
  ·left
   have hf:=find_no a (nth a c).text c hd
   refine ⟨fun i hi j hj=>?_,?_,?_⟩
   ·by_cases e:i=c
    ·subst e;exact hd j hj
    ·exact h1 i (by omega) j hj
   ·simp only [mput,hf]
   ·simp only [mput,hf,ebOf_succ]
  ·right
   refine ⟨fun q=>hd (fun j hj=>q c (by omega) j hj),?_⟩
   have:∃ j,j<c∧(nth a j).text=(nth a c).text:=Classical.byContradiction fun no=>hd fun j hj e=>no ⟨j,hj,e⟩
   obtain ⟨j,hj,e⟩:=this
   have hf:=find_yes a (nth a c).text e (fun j2 hj2 e2=>h1 j hj j2 hj2 (e2.trans e.symm)) c hj
   simp only [mput,hf,List.length_modify,ebOf_len]
   omega
 ·right
  refine ⟨fun q=>h1 (fun i hi j hj=>q i (by omega) j hj),?_⟩
  have:=mput_len .str (.str (nth a k).text) (.int .i64 (k:Int)) c es
  omega
theorem mk1 (n:Int) (h:Heap):evalX (.mkmap .str) [.int .i64 n] h=some (.mp h.next,h.push (.map .str 0 [])):=_root_.id rfl
theorem plain_int (n:Int):plain (.int .i64 n)=true:=rfl
theorem aindex_c (a:List Ltr) (u:Tok) (hu:Pt u) (ha:a.length≤1000000) (ht:∀ x∈a,x.text.length≤1000000) (h0:Heap) :
  CV F 62 [.sl (a.map Ltr.val) u] h0 (fun v h'=>Fr (fun _=>False) h0 h'∧(validA a=false→v = .nilmp)∧(validA a=true→∃ q c,v = .mp q∧h0.next≤q∧h'.get q=some (.map .str c (ebOf a a.length)))):=by
 refine CV_wp (fn:=c62) rfl ?_
 simp only [uT,c62]
 have w0:=within_v (a.length:Int) 1 60
 by_cases hl:1≤(a.length:Int)∧(a.length:Int)≤60
 ·rw [decide_eq_true hl] at w0
  replace fx:=aI @w0 @mk1
  first|refine go ?_|exact goC
  have fr0:Fr (fun _=>False) h0 (h0.push (.map .str 0 [])):=(Fr.refl _ _).push _
  have gm0:(h0.push (.map .str 0 [])).get h0.next=some (.map .str 0 []):=get_push_eq rfl
  generalize h0.push (.map .str 0 [])=h1 at fr0 gm0 ⊢
  generalize hq:h0.next=q at gm0 ⊢
  refine w_loop (fun m vs h=>∃ (k c:Nat) (es:List (Nat×AVal×AVal)) (x1 x2 x3 x4 x5 x6 x7:AVal),m=a.length - k∧k≤a.length∧(∀ i,i<k→okL a i=true)∧MapT a k c es∧vs=[.sl (a.map Ltr.val) u,.nilmp,.mp q,x1,x2,x3,.sl (a.map Ltr.val) u,.int .i64 (a.length:Int),.int .i64 (k:Int),x4,x5,x6,x7] ∧
    Fr (fun _=>False) h0 h∧h.get q=some (.map .str c es)) a.length
   ⟨0,0,[],_,_,_,_,_,_,_,rfl,by omega,fun i hi=>by omega,.inl ⟨fun i hi=>by omega,rfl,rfl⟩,rfl,fr0,gm0⟩ ?_
  rintro m vs h ⟨k,c,es,x1,x2,x3,x4,x5,x6,x7,rfl,hk,hz,hm,rfl,G0,gm⟩
  by_cases hks:k<a.length
  ·have htk:=ht _ (nth_mem hks)
   have rp:=plain_v (nth a k).text htk
   have w1:=within_v (nth a k).base 0 ((a.length:Int) - 1)
   have w2:=within_v (nth a k).mark 0 15
   have w3:=within_v (nth a k).cs 0 1
   have w4:=within_v (nth a k).width 1 1000
   have G:Fr (fun _=>False) h0 (h.push (Obj.row true (typed 110) true (nth a k).cells)):=G0.push _
   cases hok:okL a k with
   | true =>
     have hok2:plainT (nth a k).text=true∧OkN a k:=by simpa only [okL,Bool.and_eq_true,decide_eq_true_eq] using hok
     obtain ⟨o0,o1,o2,o3,o4,o5,o6,o7,o8,o9,o10⟩:=hok2
     rw [o0] at rp
     rw [decide_eq_true (by omega)] at w1 w2 w3 w4
     have gm1:(h.push (Obj.row true (typed 110) true (nth a k).cells)).get q=some (.map .str c es):=get_push_old gm
     have gx1:(h.push (Obj.row true (typed 110) true (nth a k).cells)).get h.next=some (Obj.row true (typed 110) true (nth a k).cells):=get_push_eq rfl
     have hpi:=plain_int (k:Int)
     replace fx:=aI @rp (aI @w1 (aI @w2 (aI @w3 (aI @w4 (aI @ltL (aI @ltT (aI @ltS (aI @ltN (aI @lt0 (aI @lt1 (aI @lt2 (aI @lt3 (aI @lt4 (aI @lv1 (aI @lvN (aI @lvD (aI @gm1 (aI @gx1 @hpi))))))))))))))))))
     (first|refine go ?_|exact goC);repeat' (first|refine gP ?_|exact gPc|refine gN ?_|exact gNc|(refine gI ?_ ?_<;>intro hyp<;>first|refine goF ?_|exact goFc|refine goT ?_|exact goTc|skip))
     all_goals
      exact lp_n ⟨_,by omega,k+1,_,_,_,_,_,_,_,_,_,rfl,by omega,fun i hi=>by
       by_cases e:i=k
       ·rw [e];exact hok
       ·exact hz i (by omega),hm.put,by push_cast;rfl,G.put (.inr (by omega)) _,get_put_old gm1⟩
   | false =>
     cases hp:plainT (nth a k).text with
     | false =>
       rw [hp] at rp
       replace fx:=aI @rp (aI @w1 (aI @w2 (aI @w3 (aI @w4 (aI @ltL (aI @ltT (aI @ltS (aI @ltN (aI @lt0 (aI @lt1 (aI @lt2 (aI @lt3 (aI @lt4 (aI @lv1 (aI @lvN @lvD)))))))))))))))
       (first|refine go ?_|exact goC);repeat' (first|refine gP ?_|exact gPc)
       exact ⟨G,fun _=>by first|rfl|trivial,fun q=>by rw [valid_no hks hok] at q;simp at q⟩
     | true =>
       rw [hp] at rp
       have hno:=okL_false hok hp
       by_cases c1:0≤(nth a k).base∧(nth a k).base≤(a.length:Int) - 1
       rotate_left
       ·rw [decide_eq_false c1] at w1
        clear hno
        replace fx:=aI @rp (aI @w1 (aI @w2 (aI @w3 (aI @w4 (aI @ltL (aI @ltT (aI @ltS (aI @ltN (aI @lt0 (aI @lt1 (aI @lt2 (aI @lt3 (aI @lt4 (aI @lv1 (aI @lvN @lvD)))))))))))))))
        (first|refine go ?_|exact goC);repeat' (first|refine gP ?_|exact gPc)
        exact ⟨G,fun _=>by first|rfl|trivial,fun q=>by rw [valid_no hks hok] at q;simp at q⟩
       rw [decide_eq_true c1] at w1
       by_cases c3:¬ (nth a (nth a k).base.toNat).base=(nth a k).base
       ·clear hno
        replace fx:=aI @rp (aI @w1 (aI @w2 (aI @w3 (aI @w4 (aI @ltL (aI @ltT (aI @ltS (aI @ltN (aI @lt0 (aI @lt1 (aI @lt2 (aI @lt3 (aI @lt4 (aI @lv1 (aI @lvN @lvD)))))))))))))))
        (first|refine go ?_|exact goC);repeat' (first|refine gP ?_|exact gPc|refine gN ?_|exact gNc)
        exact ⟨G,fun _=>by first|rfl|trivial,fun q=>by rw [valid_no hks hok] at q;simp at q⟩
       by_cases c4:0≤(nth a k).mark∧(nth a k).mark≤15
       rotate_left
       ·rw [decide_eq_false c4] at w2
        clear hno
        replace fx:=aI @rp (aI @w1 (aI @w2 (aI @w3 (aI @w4 (aI @ltL (aI @ltT (aI @ltS (aI @ltN (aI @lt0 (aI @lt1 (aI @lt2 (aI @lt3 (aI @lt4 (aI @lv1 (aI @lvN @lvD)))))))))))))))
        (first|refine go ?_|exact goC);repeat' (first|refine gP ?_|exact gPc)
        exact ⟨G,fun _=>by first|rfl|trivial,fun q=>by rw [valid_no hks hok] at q;simp at q⟩
       rw [decide_eq_true c4] at w2
       by_cases c6:0≤(nth a k).cs∧(nth a k).cs≤1
       rotate_left
       ·rw [decide_eq_false c6] at w3
        clear hno
        replace fx:=aI @rp (aI @w1 (aI @w2 (aI @w3 (aI @w4 (aI @ltL (aI @ltT (aI @ltS (aI @ltN (aI @lt0 (aI @lt1 (aI @lt2 (aI @lt3 (aI @lt4 (aI @lv1 (aI @lvN @lvD)))))))))))))))
        (first|refine go ?_|exact goC);repeat' (first|refine gP ?_|exact gPc)
        exact ⟨G,fun _=>by first|rfl|trivial,fun q=>by rw [valid_no hks hok] at q;simp at q⟩
       rw [decide_eq_true c6] at w3
       by_cases c8:1≤(nth a k).width∧(nth a k).width≤1000
       rotate_left
       ·rw [decide_eq_false c8] at w4
        clear hno
        replace fx:=aI @rp (aI @w1 (aI @w2 (aI @w3 (aI @w4 (aI @ltL (aI @ltT (aI @ltS (aI @ltN (aI @lt0 (aI @lt1 (aI @lt2 (aI @lt3 (aI @lt4 (aI @lv1 (aI @lvN @lvD)))))))))))))))
        (first|refine go ?_|exact goC);repeat' (first|refine gP ?_|exact gPc)
        exact ⟨G,fun _=>by first|rfl|trivial,fun q=>by rw [valid_no hks hok] at q;simp at q⟩
       rw [decide_eq_true c8] at w4
       have c10:(nth a k).base=(k:Int)∧0<(nth a k).mark+(nth a k).cs:=by
        refine Classical.byContradiction fun q=>hno ?_
        unfold OkN
        omega
       obtain ⟨c11,c12⟩:=c10
       clear hno
       replace fx:=aI @rp (aI @w1 (aI @w2 (aI @w3 (aI @w4 (aI @ltL (aI @ltT (aI @ltS (aI @ltN (aI @lt0 (aI @lt1 (aI @lt2 (aI @lt3 (aI @lt4 (aI @lv1 (aI @lvN @lvD)))))))))))))))
       (first|refine go ?_|exact goC);repeat' (first|refine gP ?_|exact gPc)
       exact ⟨G,fun _=>by first|rfl|trivial,fun q=>by rw [valid_no hks hok] at q;simp at q⟩
  ·have e:k=a.length:=by omega
   subst e
   have hml:evalX .mlen [.mp q] h=some (.int .i64 (es.length:Int),h):=by simp only [evalX,gm]
   rcases hm with ⟨m1,rfl,rfl⟩|⟨m1,m2⟩
   ·have hv:validA a=true:=valid_yes (by omega) hz m1
    rw [ebOf_len] at hml
    replace fx:=@hml
    (first|refine go ?_|exact goC);repeat' (first|refine gN ?_|exact gNc)
    exact ⟨G0,fun e=>by rw [hv] at e;simp at e,fun _=>⟨q,_,rfl,by omega,gm⟩⟩
   ·have hv:validA a=false:=by
     rw [Bool.eq_false_iff]
     intro e
     obtain ⟨_,_,_,hnd⟩:=valid_facts e
     exact m1 fun i hi j hj he=>by have:=texts_inj hnd (by omega) hi he;omega
    replace fx:=@hml
    (first|refine go ?_|exact goC);repeat' (first|refine gP ?_|exact gPc|refine gN ?_|exact gNc)
    exact ⟨G0,fun _=>by first|rfl|trivial,fun e=>by rw [hv] at e;simp at e⟩
 ·rw [decide_eq_false hl] at w0
  have e:validA a=false:=by
   rw [validA,decide_eq_false (by omega),Bool.false_and]
  replace fx:=@w0
  first|refine go ?_|exact goC
  exact ⟨Fr.refl _ _,fun _=>by first|rfl|trivial,fun q=>by rw [e] at q;simp at q⟩
end Go.Proofs.YthhdkkecolocdaaGreatDoor

namespace Go.Proofs.YthhdkkecolocdaaGreatDoor
open Go Go.Abs Go.Gt
theorem valid_v (a:List Ltr) (u:Tok) (hu:Pt u) (ha:a.length≤1000000) (ht:∀ x∈a,x.text.length≤1000000):PV F 26 [.sl (a.map Ltr.val) u]=some (.bool (validA a)):=by
 refine PV_wp (fn:=c26) rfl ?_
 simp only [uT,c26]
 replace fx:=Dum_eq
 first|refine go ?_|exact goC
 refine CV_mono (aindex_c a u hu ha ht _) ?_
 rintro v h1 ⟨_,h2,h3⟩
 have n1:binA .neq .mp .nilmp .nilmp=some (.bool false):=rfl
 have n2:∀ q,binA .neq .mp (.mp q) .nilmp=some (.bool true):=fun _=>rfl
 cases hv:validA a with
 | false =>
   rw [h2 hv]
   replace fx:=@n1
   first|refine go ?_|exact goC
 | true =>
   obtain ⟨q,c,rfl,_⟩:=h3 hv
   replace fx:=@n2
   first|refine go ?_|exact goC
theorem _root_.Go.Abs.Gr.nn {α:Type} {h:Heap} {ty sz:Nat} {l:List α} {tk:Tok} (g:Gr h ty sz l tk) (hne:l≠[]):tk ≠ .nil:=by
 rcases g with ⟨e,_⟩|⟨i,rfl,_⟩
 ·exact absurd e hne
 ·simp
theorem read_c (a:List Ltr) (s:Bs) (u:Tok) (hu:Pt u) (ha:a.length≤1000000) (hs:s.length≤900000) (ht:∀ x∈a,x.text.length≤1000000) (h0:Heap) :
  CV F 28 [.sl (a.map Ltr.val) u,.str s] h0 (fun v h'=>∃ tk,v = .tup [.sl ((readA a s).1.map intN) tk,.int .i64 (readA a s).2]∧Fr (fun _=>False) h0 h'∧((readA a s).1≠[]→tk ≠ .nil)):=by
 refine CV_wp (fn:=c28) rfl ?_
 simp only [uT,c28]
 replace fx:=Dum_eq
 first|refine go ?_|exact goC
 refine CV_mono (aindex_c a u hu ha ht _) ?_
 rintro v h1 ⟨f1,q2,q3⟩
 have n1:binA .eql .mp .nilmp .nilmp=some (.bool true):=rfl
 have n2:∀ q,binA .eql .mp (.mp q) .nilmp=some (.bool false):=fun _=>rfl
 cases hva:validA a with
 | false =>
   rw [q2 hva,readA_inv hva]
   replace fx:=@n1
   first|refine go ?_|exact goC
   exact ⟨_,rfl,f1,by simp⟩
 | true =>
   obtain ⟨q,c,rfl,hq,gm1⟩:=q3 hva
   clear q2 q3
   have hr:readA a s=readF a s (s.length+1) 0:=by rw [readA,if_pos hva]
   rw [hr]
   generalize hR0:readF a s (s.length+1) 0=R
   obtain ⟨l1,l2,l3,l4⟩:=valid_facts hva
   replace fx:=@n2
   first|refine go ?_|exact goC
   refine w_loop (fun m vs h=>∃ (p f:Nat) (ls:List Nat) (tk:Tok) (x1 x2 x3 x4 x5 x6 x7:AVal),m=s.length - p∧p≤s.length∧s.length<p+f∧R=(ls++(readF a s f p).1,(readF a s f p).2)∧ls.length≤p ∧
     vs=[.sl (a.map Ltr.val) u,.str s,.sl [] .nil,.int .i64 0,.mp q,.sl (ls.map intN) tk,.int .i64 (p:Int),x1,x2,x3,x4,x5,x6,x7]∧GrF (fun _=>False) h0 h 3 1 ls tk∧h.get q=some (.map .str c (ebOf a a.length))) s.length
    ⟨0,s.length+1,[],.nil,_,_,_,_,_,_,_,rfl,by omega,by omega,by rw [hR0];simp,by simp,rfl,(GrF.nil _ _ _ _).step f1,gm1⟩ ?_
   rintro m vs h ⟨p,f,ls,tk,x1,x2,x3,x4,x5,x6,x7,rfl,hp,hf,hR,hll,rfl,G,gm⟩
   obtain ⟨f,rfl⟩:∃ f',f=f'+1:=⟨f - 1,by omega⟩
   simp only [readF] at hR
   by_cases hps:p<s.length
   ·rw [if_pos hps] at hR
    have hmin:(if (s.length:Int) - (p:Int)<4 then (s.length:Int) - (p:Int) else 4)=((min 4 (s.length - p):Nat):Int):=by split<;>omega
    replace fx:=aI @XW_mnx (aI @mnxV_int @hmin)
    (first|refine go ?_|exact goC);repeat' (first|refine gP ?_|exact gPc)
    refine w_loop (fun m vs h'=>∃ (n:Nat) (x1 x2 x3 x4 x5 x6:AVal),m=n∧n≤4∧p+n≤s.length∧(∀ n',n<n'→n'≤4→p+n'≤s.length→∀ i,i<a.length→(nth a i).text≠(s.drop p).take n') ∧
      vs=[.sl (a.map Ltr.val) u,.str s,.sl [] .nil,.int .i64 0,.mp q,.sl (ls.map intN) tk,.int .i64 (p:Int),.int .i64 (n:Int),x1,x2,x3,x4,x5,x6]∧h'=h) (min 4 (s.length - p))
     ⟨min 4 (s.length - p),_,_,_,_,_,_,rfl,by omega,by omega,fun n' h1 h2 h3=>by omega,rfl,rfl⟩ ?_
    rintro n vs h' ⟨_,x1,x2,x3,x4,x5,x6,rfl,hn4,hpn,hno,rfl,rfl⟩
    by_cases hn0:n=0
    ·subst hn0
     have hst:stepA a (s.drop p)=none:=step_none fun j hj hsj=>by
      have hpl:=plain_len (l3 j hj).1
      have hlen:p+(nth a j).text.length≤s.length:=by
       have:=congrArg List.length hsj
       rw [List.length_take,List.length_drop] at this
       omega
      exact hno _ (by omega) hpl.2 hlen j hj hsj.symm
     rw [hst] at hR
     simp only [List.append_nil] at hR
     rw [hR]
     replace fx:=Dum_eq
     (first|refine go ?_|exact goC);repeat' (first|refine gN ?_|exact gNc)
     exact ⟨_,rfl,G.fr,G.gr.nn⟩
    ·have hsub:((p:Int)+(n:Int)).toNat - p=n:=by omega
     by_cases hx:∃ i,i<a.length∧(nth a i).text=(s.drop p).take n
     ·obtain ⟨i,hi,hti⟩:=hx
      have hlen:(nth a i).text.length=n:=by rw [hti,List.length_take,List.length_drop];omega
      have hst:stepA a (s.drop p)=some i:=by
       refine step_eq l4 hi (by rw [starts,hlen];exact hti.symm) fun j hj hsj=>?_
       refine Classical.byContradiction fun hc=>?_
       have hpl:=plain_len (l3 j hj).1
       have hl2:p+(nth a j).text.length≤s.length:=by
        have:=congrArg List.length hsj
        rw [List.length_take,List.length_drop] at this
        omega
       exact hno _ (by omega) hpl.2 hl2 j hj hsj.symm
      have hf:=find_yes a ((s.drop p).take n) hti (fun j hj e=>by have:=texts_inj l4 (by omega) hi (e.trans hti.symm);omega) a.length hi
      have hlk:=fun z ok H=>lookM_some hf z ok H c
      have lb:∀ (x:Nat) H,litA 0 3 1 1 false [.int .i64 0] (some [.int .i64 (x:Int)]) H=some (.sl [intN x] .none,H):=fun x H=>lit_none rfl rfl rfl rfl
      rw [hst] at hR
      simp only [hlen] at hR
      replace fx:=aI @hsub (aI @gm (aI @hlk @lb))
      (first|refine go ?_|exact goC);repeat' (first|refine gP ?_|exact gPc)
      refine append_F (f:=intN) ls [i] intN_len (fun _=>rfl) (fun _=>rfl) (lenA_sl (f:=intN) (l:=[i])) (elems_sl (f:=intN) (l:=[i]) intN_len) G (by simp;omega) (by omega) (by omega) (by omega) ?_
      intro h2 tk2 G2 n2 r2 k2
      replace fx:=Dum_eq
      first|refine go ?_|exact goC
      have gm2:h2.get q=some (.map .str c (ebOf a a.length)):=by
       refine (k2 q (get_lt gm) fun i' s' e=>?_).trans gm
       rintro rfl
       rcases G.gr with ⟨_,e2⟩|⟨id,e2,e3⟩
       ·rw [e] at e2;rcases e2 with e2|e2<;>simp at e2
       ·rw [e] at e2
        simp only [Tok.own.injEq] at e2
        rw [←e2.1,gm] at e3
        simp at e3
      exact lp_n ⟨_,by omega,p+n,f,ls++[i],tk2,_,_,_,_,_,_,_,rfl,hpn,by omega,by rw [hR];simp,by simp;omega,by push_cast;rfl,G2,gm2⟩
     ·have hf:=find_no a ((s.drop p).take n) a.length (fun i hi e=>hx ⟨i,hi,e⟩)
      have hlk:=fun z ok H=>lookM_none hf z ok H c
      replace fx:=aI @hsub (aI @gm @hlk)
      (first|refine go ?_|exact goC);repeat' (first|refine gP ?_|exact gPc)
      exact lp_n ⟨_,by omega,n - 1,_,_,_,_,_,_,rfl,by omega,by omega,fun n' e1 e2 e3 i hi=>by
       by_cases e:n'=n
       ·subst e;exact fun q=>hx ⟨i,hi,q⟩
       ·exact hno n' (by omega) e2 e3 i hi,by rw [show ((n - 1:Nat):Int)=(n:Int) - 1 by omega],rfl⟩
   ·rw [if_neg hps] at hR
    simp only [List.append_nil] at hR
    rw [hR]
    replace fx:=Dum_eq
    (first|refine go ?_|exact goC);repeat' (first|refine gN ?_|exact gNc)
    exact ⟨_,rfl,G.fr,G.gr.nn⟩
def RowsBut (id:Nat) (h h':Heap):Prop:=h.next≤h'.next∧∀ j mu s a cs,j≠id→h.get j=some (.row mu s a cs)→h'.get j=some (.row mu s a cs)
theorem RowsBut.trans {id:Nat} {h h1 h2:Heap} (a:RowsBut id h h1) (b:RowsBut id h1 h2):RowsBut id h h2:=⟨Nat.le_trans a.1 b.1,fun j mu s ag cs hj hg=>b.2 _ _ _ _ _ hj (a.2 _ _ _ _ _ hj hg)⟩
end Go.Proofs.YthhdkkecolocdaaGreatDoor

namespace Go.Proofs.YthhdkkecolocdaaGreatDoor
open Go Go.Abs Go.Gt
def levF (a:List Ltr) (i x:Nat):Int:=if i=0 then (nth a x).base else if i=1 then (nth a x).mark else if i=2 then (nth a x).cs else (x:Int)
def keyP (a:List Ltr) (w:List Nat) (i:Nat):List Int:=(if 0<i then [0] else [])++w.map fun x=>levF a i x+1
def keyM (a:List Ltr) (w:List Nat):Nat→List Int
 | 0=>[]
 | i+1=>keyM a w i++keyP a w i
def gOf (i:Nat):Nat:=if i=0 then 174 else if i=1 then 175 else if i=2 then 176 else 177
def capOf (c i:Nat):List AVal:=if i<3 then [.ptr c 0] else []
def fnV (c i:Nat):AVal := .fn (gOf i) (capOf c i)
theorem fnV_eq (c i:Nat):fnV c i = .fn (gOf i) (capOf c i):=rfl
theorem ltrL (x:Ltr):x.val.cells.length=5:=rfl
theorem ltr1 (x:Ltr):List.take 1 (List.drop 1 x.val.cells)=[.int .i64 x.base]:=rfl
theorem ltr2 (x:Ltr):List.take 1 (List.drop 2 x.val.cells)=[.int .i64 x.mark]:=rfl
theorem ltr3 (x:Ltr):List.take 1 (List.drop 3 x.val.cells)=[.int .i64 x.cs]:=rfl
theorem ltrD1 (x:Ltr):(List.drop 1 x.val.cells).length=4:=rfl
theorem ltrD2 (x:Ltr):(List.drop 2 x.val.cells).length=3:=rfl
theorem ltrD3 (x:Ltr):(List.drop 3 x.val.cells).length=2:=rfl
theorem lev_c (a:List Ltr) (u:Abs.Tok) {h:Heap} {c z:Nat} {mu:Bool} (hc:h.get c=some (.row mu z false [.sl (a.map Ltr.val) u])) {i x:Nat} (hi:i<4) (hx:x<a.length) :
  CV F (gOf i) ([.int .i64 (x:Int)]++capOf c i) h (fun v h'=>v = .int .i64 (levF a i x)∧h'=h):=by
 match i,hi with
 | 0,_ =>
   refine CV_wp (fn:=c174) rfl ?_
   simp only [uT,c174,capOf]
   replace fx:=aI @hc (aI @ltrL (aI @ltr1 @ltrD1))
   first|refine go ?_|exact goC
   rfl
 | 1,_ =>
   refine CV_wp (fn:=c175) rfl ?_
   simp only [uT,c175,capOf]
   replace fx:=aI @hc (aI @ltrL (aI @ltr2 @ltrD2))
   first|refine go ?_|exact goC
   rfl
 | 2,_ =>
   refine CV_wp (fn:=c176) rfl ?_
   simp only [uT,c176,capOf]
   replace fx:=aI @hc (aI @ltrL (aI @ltr3 @ltrD3))
   first|refine go ?_|exact goC
   rfl
 | 3,_ =>
   refine CV_wp (fn:=c177) rfl ?_
   simp only [uT,c177,capOf]
   replace fx:=Dum_eq
   first|refine go ?_|exact goC
   rfl
def four:List Nat:=[0,1,2,3]
theorem levels_c (a:List Ltr) (u:Abs.Tok) (h:Heap):CV F 141 [.sl (a.map Ltr.val) u] h (fun v h'=>v = .ref (h.next+1) 0 4 1∧h'.get h.next=some (.row true 0 false [.sl (a.map Ltr.val) u])∧h'.get (h.next+1)=some (.row true 1 false (flat (four.map (fnV h.next))))∧Fr (fun _=>False) h h'∧h'.next=h.next+2):=by
 refine CV_wp (fn:=c141) rfl ?_
 simp only [uT,c141]
 replace fx:=Dum_eq
 first|refine go ?_|exact goC
 exact ⟨rfl,((Fr.refl _ _).push _).push _⟩
theorem nth4 {i:Nat} (h:i<4):nth four i=i:=by
 match i,h with
 | 0,_=>rfl
 | 1,_=>rfl
 | 2,_=>rfl
 | 3,_=>rfl
theorem key_c (a:List Ltr) (u t:Abs.Tok) (w:List Nat) (hw:∀ x∈w,x<a.length) (hb:∀ x∈w,∀ i,i<4 → -1000≤levF a i x∧levF a i x≤1000) (ha:a.length≤1000) (hwl:w.length≤1000) (h:Heap) :
  CV F 104 [.sl (a.map Ltr.val) u,.sl (w.map intN) t,.int .i64 4] h (fun v h'=>∃ tk,v = .sl ((keyM a w 4).map (.int .i64)) tk∧Fr (fun _=>False) h h'∧(∀ i s,tk = .own i s→h.next≤i)∧Gr h' 3 1 (keyM a w 4) tk):=by
 refine CV_wp (fn:=c104) rfl ?_
 simp only [uT,c104]
 replace fx:=Dum_eq
 first|refine go ?_|exact goC
 refine CV_mono (levels_c a u h) ?_
 rintro v h1 ⟨rfl,g1,g2,f1,n1⟩
 have c4:((4:Nat):Int)=4:=rfl
 replace fx:=@c4
 first|refine go ?_|exact goC
 have kl:∀ i,i≤4→(keyM a w i).length≤i*(w.length+1):=by
  intro i
  induction i with
  | zero=>intro _;simp [keyM]
  | succ i ih =>
    intro hi
    have:=ih (by omega)
    rw [keyM,List.length_append,Nat.succ_mul]
    have:(keyP a w i).length≤w.length+1:=by unfold keyP;split<;>simp<;>omega
    omega
 refine w_loop (fun k vs H=>∃ (i:Nat) (tk:Abs.Tok) (x1 x2 x3 x4 x5 x6 x7 x8 x9 x10:AVal),k=4 - i∧i≤4∧GrF (fun _=>False) h H 3 1 (keyM a w i) tk∧h.next+2≤H.next∧H.get h.next=some (.row true 0 false [.sl (a.map Ltr.val) u])∧H.get (h.next+1)=some (.row true 1 false (flat (four.map (fnV h.next)))) ∧
   vs=[.sl (a.map Ltr.val) u,.sl (w.map intN) t,.int .i64 4,.sl [] .nil,.sl ((keyM a w i).map (.int .i64)) tk,x1,x2,x3,.ref (h.next+1) 0 4 1,.int .i64 4,.int .i64 (i:Int),x4,x5,x6,x7,x8,x9,x10]) 4
  ⟨0,.nil,_,_,_,_,_,_,_,_,_,_,rfl,by omega,⟨Gr.nil _ _ _,f1,by simp⟩,by omega,g1,g2,rfl⟩ ?_
 clear g1 g2 f1 n1
 rintro k vs H ⟨i,tk,x1,x2,x3,x4,x5,x6,x7,x8,x9,x10,rfl,hi,hgr,hnx,g1,g2,rfl⟩
 by_cases hi2:i<4
 ·have l1:=loadG_flat0 (f:=fnV h.next) (sz:=1) (fun _=>rfl) four (n:=i) (m:=1) false true 1 false hi2 (by omega)
  rw [nth4 hi2] at l1
  have l2:mk false (List.take 1 (fnV h.next i).cells)=some (fnV h.next i):=rfl
  rw [l2] at l1
  have kli:=kl i hi
  have klb:(keyM a w i).length≤10000:=by
   have:=Nat.mul_le_mul hi (show w.length+1≤1001 by omega)
   omega
  by_cases h0:0<i
  ·replace fx:=aI @g2 @l1
   (first|refine go ?_|exact goC);repeat' (first|refine gP ?_|exact gPc)
   refine append_F (f:=AVal.int .i64) (S:=fun _=>False) (h0:=h) (keyM a w i) [0] (fun _=>rfl) (fun _=>rfl) (fun _=>rfl) rfl rfl hgr (by simp;omega) (by omega) (by omega) (by omega) fun H2 tk2 hgr2 hn2 keep2 oth2=>?_
   have g1:=keep2 _ _ _ _ _ g1
   have g2:=keep2 _ _ _ _ _ g2
   have kp:keyP a w i=[0]++w.map fun x=>levF a i x+1:=by unfold keyP;rw [if_pos h0]
   replace fx:=Dum_eq
   first|refine go ?_|exact goC
   refine w_loop (fun k vs H'=>∃ (j:Nat) (tk3:Abs.Tok) (x1 x2 x3 x4 x5:AVal),k=w.length - j∧j≤w.length∧GrF (fun _=>False) h H' 3 1 (keyM a w i++[0]++(w.take j).map fun x=>levF a i x+1) tk3∧h.next+2≤H'.next∧H'.get h.next=some (.row true 0 false [.sl (a.map Ltr.val) u])∧H'.get (h.next+1)=some (.row true 1 false (flat (four.map (fnV h.next)))) ∧
     vs=[.sl (a.map Ltr.val) u,.sl (w.map intN) t,.int .i64 4,.sl [] .nil,.sl ((keyM a w i++[0]++(w.take j).map fun x=>levF a i x+1).map (.int .i64)) tk3,.int .i64 (i:Int),fnV h.next i,x1,.ref (h.next+1) 0 4 1,.int .i64 4,.int .i64 (i:Int),x2,x3,.sl (w.map intN) t,.int .i64 (w.length:Int),.int .i64 (j:Int),x4,x5]) w.length
    ⟨0,_,_,_,_,_,_,rfl,by omega,by rw [List.take_zero,List.map_nil,List.append_nil];exact hgr2,by omega,g1,g2,by simp only [List.take_zero,List.map_nil,List.append_nil]<;>rfl⟩ ?_
   rintro k vs H' ⟨j,tk3,x1,x2,x3,x4,x5,rfl,hj,hgr3,hnx3,g1,g2,rfl⟩
   by_cases hj2:j<w.length
   ·obtain ⟨x,hx⟩:∃ x,nth w j=x:=⟨_,rfl⟩
    have hxa:=hw _ (nth_mem hj2)
    have hxb:=hb _ (nth_mem hj2) i hi2
    rw [hx] at hxa hxb
    replace fx:=aI @hx (aI @intN_eq @fnV_eq)
    (first|refine go ?_|exact goC);repeat' (first|refine gP ?_|exact gPc)
    refine CV_mono (lev_c a u g1 hi2 hxa) ?_
    rintro v h3 ⟨rfl,rfl⟩
    replace fx:=Dum_eq
    first|refine go ?_|exact goC
    have hlen:(keyM a w i++[0]++(w.take j).map fun x=>levF a i x+1).length≤20000:=by simp only [List.length_append,List.length_map,List.length_cons,List.length_nil,List.length_take];omega
    refine append_F (f:=AVal.int .i64) (S:=fun _=>False) (h0:=h) (keyM a w i++[0]++(w.take j).map fun x=>levF a i x+1) [levF a i x+1] (fun _=>rfl) (fun _=>rfl) (fun _=>rfl) rfl rfl hgr3 (by simp only [List.length_cons,List.length_nil];omega) (by omega) (by omega) (by omega) fun H4 tk4 hgr4 hn4 keep4 oth4=>?_
    have g1:=keep4 _ _ _ _ _ g1
    have g2:=keep4 _ _ _ _ _ g2
    have htk:(keyM a w i++[0]++(w.take j).map fun x=>levF a i x+1)++[levF a i x+1]=keyM a w i++[0]++(w.take (j+1)).map fun x=>levF a i x+1:=by
     rw [List.take_succ_eq_append_getElem hj2,←nth_eq hj2,hx,List.map_append,List.append_assoc,List.append_assoc]
     simp
    rw [htk] at hgr4 ⊢
    replace fx:=Dum_eq
    first|refine go ?_|exact goC
    exact lp_n ⟨_,by omega,j+1,tk4,_,_,_,_,_,rfl,by omega,hgr4,by omega,g1,g2,by push_cast;rfl⟩
   ·have hjl:w.take j=w:=List.take_of_length_le (by omega)
    rw [hjl] at hgr3 ⊢
    have ks:keyM a w i++[0]++(w.map fun x=>levF a i x+1)=keyM a w (i+1):=by rw [keyM,kp,List.append_assoc]
    rw [ks] at hgr3 ⊢
    replace fx:=Dum_eq
    (first|refine go ?_|exact goC);repeat' (first|refine gN ?_|exact gNc)
    exact lp_n ⟨_,by omega,i+1,tk3,_,_,_,_,_,_,_,_,_,_,rfl,by omega,hgr3,hnx3,g1,g2,by push_cast;rfl⟩
  ·have kp:keyP a w i=w.map fun x=>levF a i x+1:=by unfold keyP;rw [if_neg h0];rfl
   have hgr2:=hgr
   have hn2:H.next≤H.next:=Nat.le_refl _
   replace fx:=aI @g2 @l1
   (first|refine go ?_|exact goC);repeat' (first|refine gP ?_|exact gPc|refine gN ?_|exact gNc)
   refine w_loop (fun k vs H'=>∃ (j:Nat) (tk3:Abs.Tok) (x1 x2 x3 x4 x5:AVal),k=w.length - j∧j≤w.length∧GrF (fun _=>False) h H' 3 1 (keyM a w i++(w.take j).map fun x=>levF a i x+1) tk3∧h.next+2≤H'.next∧H'.get h.next=some (.row true 0 false [.sl (a.map Ltr.val) u])∧H'.get (h.next+1)=some (.row true 1 false (flat (four.map (fnV h.next)))) ∧
     vs=[.sl (a.map Ltr.val) u,.sl (w.map intN) t,.int .i64 4,.sl [] .nil,.sl ((keyM a w i++(w.take j).map fun x=>levF a i x+1).map (.int .i64)) tk3,.int .i64 (i:Int),fnV h.next i,x1,.ref (h.next+1) 0 4 1,.int .i64 4,.int .i64 (i:Int),x2,x3,.sl (w.map intN) t,.int .i64 (w.length:Int),.int .i64 (j:Int),x4,x5]) w.length
    ⟨0,_,_,_,_,_,_,rfl,by omega,by rw [List.take_zero,List.map_nil,List.append_nil];exact hgr2,by omega,g1,g2,by simp only [List.take_zero,List.map_nil,List.append_nil]<;>rfl⟩ ?_
   rintro k vs H' ⟨j,tk3,x1,x2,x3,x4,x5,rfl,hj,hgr3,hnx3,g1,g2,rfl⟩
   by_cases hj2:j<w.length
   ·obtain ⟨x,hx⟩:∃ x,nth w j=x:=⟨_,rfl⟩
    have hxa:=hw _ (nth_mem hj2)
    have hxb:=hb _ (nth_mem hj2) i hi2
    rw [hx] at hxa hxb
    replace fx:=aI @hx (aI @intN_eq @fnV_eq)
    (first|refine go ?_|exact goC);repeat' (first|refine gP ?_|exact gPc)
    refine CV_mono (lev_c a u g1 hi2 hxa) ?_
    rintro v h3 ⟨rfl,rfl⟩
    replace fx:=Dum_eq
    first|refine go ?_|exact goC
    have hlen:(keyM a w i++(w.take j).map fun x=>levF a i x+1).length≤20000:=by simp only [List.length_append,List.length_map,List.length_cons,List.length_nil,List.length_take];omega
    refine append_F (f:=AVal.int .i64) (S:=fun _=>False) (h0:=h) (keyM a w i++(w.take j).map fun x=>levF a i x+1) [levF a i x+1] (fun _=>rfl) (fun _=>rfl) (fun _=>rfl) rfl rfl hgr3 (by simp only [List.length_cons,List.length_nil];omega) (by omega) (by omega) (by omega) fun H4 tk4 hgr4 hn4 keep4 oth4=>?_
    have g1:=keep4 _ _ _ _ _ g1
    have g2:=keep4 _ _ _ _ _ g2
    have htk:(keyM a w i++(w.take j).map fun x=>levF a i x+1)++[levF a i x+1]=keyM a w i++(w.take (j+1)).map fun x=>levF a i x+1:=by
     rw [List.take_succ_eq_append_getElem hj2,←nth_eq hj2,hx,List.map_append,List.append_assoc]
     simp
    rw [htk] at hgr4 ⊢
    replace fx:=Dum_eq
    first|refine go ?_|exact goC
    exact lp_n ⟨_,by omega,j+1,tk4,_,_,_,_,_,rfl,by omega,hgr4,by omega,g1,g2,by push_cast;rfl⟩
   ·have hjl:w.take j=w:=List.take_of_length_le (by omega)
    rw [hjl] at hgr3 ⊢
    have ks:keyM a w i++(w.map fun x=>levF a i x+1)=keyM a w (i+1):=by rw [keyM,kp]
    rw [ks] at hgr3 ⊢
    replace fx:=Dum_eq
    (first|refine go ?_|exact goC);repeat' (first|refine gN ?_|exact gNc)
    exact lp_n ⟨_,by omega,i+1,tk3,_,_,_,_,_,_,_,_,_,_,rfl,by omega,hgr3,hnx3,g1,g2,by push_cast;rfl⟩
 ·have hi4:i=4:=by omega
  subst hi4
  replace fx:=Dum_eq
  (first|refine go ?_|exact goC);repeat' (first|refine gN ?_|exact gNc)
  exact ⟨tk,rfl,hgr.fr,hgr.2.2,hgr.gr⟩
end Go.Proofs.YthhdkkecolocdaaGreatDoor

namespace Go.Proofs.YthhdkkecolocdaaGreatDoor
open Go Go.Abs Go.Gt
def cmpL:List Int→List Int→Int
 | [],[]=>0
 | [],_::_ => -1
 | _::_,[]=>1
 | a::x,b::y=>if cmpI a b=0 then cmpL x y else cmpI a b
theorem cmpL_drop {x y:List Int} {i:Nat} (h1:i<x.length) (h2:i<y.length):cmpL (x.drop i) (y.drop i)=if cmpI (nth x i) (nth y i)=0 then cmpL (x.drop (i+1)) (y.drop (i+1)) else cmpI (nth x i) (nth y i):=by
 rw [List.drop_eq_getElem_cons h1,List.drop_eq_getElem_cons h2,cmpL,←nth_eq h1,←nth_eq h2]
theorem scmp_v (x y:List Int) (hx:x.length≤100000) (hy:y.length≤100000) (t u:Abs.Tok):PV F 66 [.sl (x.map (.int .i64)) t,.sl (y.map (.int .i64)) u]=some (.int .i64 (cmpL x y)):=by
 refine PV_wp (fn:=c66) rfl ?_
 simp only [uT,c66]
 replace fx:=Dum_eq
 first|refine go ?_|exact goC
 refine w_loop (fun k vs H=>∃ (i:Nat) (x1 x2 x3 x4 x5 x6 x7 x8 x9 x10:AVal),k=x.length - i∧i≤x.length∧i≤y.length∧cmpL x y=cmpL (x.drop i) (y.drop i)∧vs=[.sl (x.map (.int .i64)) t,.sl (y.map (.int .i64)) u,.int .i64 0,x1,x2,x3,x4,.sl (x.map (.int .i64)) t,.int .i64 (x.length:Int),.int .i64 (i:Int),x5,x6,x7,x8]) x.length
  ⟨0,_,_,_,_,_,_,_,_,.bad,.bad,rfl,by omega,by omega,rfl,rfl⟩ ?_
 rintro k vs H ⟨i,x1,x2,x3,x4,x5,x6,x7,x8,x9,x10,rfl,hi,hiy,he,rfl⟩
 by_cases hi2:i<x.length
 ·by_cases hy2:i<y.length
  ·rw [cmpL_drop hi2 hy2] at he
   have cv:=compare_v (nth x i) (nth y i)
   replace fx:=@cv
   (first|refine go ?_|exact goC);repeat' (first|refine gP ?_|exact gPc|refine gN ?_|exact gNc|(refine gI ?_ ?_<;>intro hyp<;>first|refine goF ?_|exact goFc|refine goT ?_|exact goTc|skip))
   ·rw [if_pos hyp] at he
    exact lp_n ⟨_,by omega,i+1,_,_,_,_,_,_,_,_,.bad,.bad,rfl,by omega,by omega,he,by push_cast;rfl⟩
   ·rw [he,if_neg hyp]
  ·have e1:y.drop i=[]:=List.drop_eq_nil_of_le (by omega)
   rw [e1,List.drop_eq_getElem_cons hi2,cmpL] at he
   replace fx:=Dum_eq
   (first|refine go ?_|exact goC);repeat' (first|refine gP ?_|exact gPc)
   rw [he]
 ·have e1:x.drop i=[]:=List.drop_eq_nil_of_le (by omega)
  rw [e1] at he
  by_cases hy2:i<y.length
  ·rw [List.drop_eq_getElem_cons hy2,cmpL] at he
   replace fx:=Dum_eq
   (first|refine go ?_|exact goC);repeat' (first|refine gP ?_|exact gPc|refine gN ?_|exact gNc)
   rw [he]
  ·have e2:y.drop i=[]:=List.drop_eq_nil_of_le (by omega)
   rw [e2,cmpL] at he
   replace fx:=Dum_eq
   (first|refine go ?_|exact goC);repeat' (first|refine gN ?_|exact gNc)
   rw [he]
theorem usable_c (a:List Ltr) (u:Abs.Tok) (hu:Pt u) (ha:a.length≤1000000) (ht:∀ x∈a,x.text.length≤1000000) (h:Heap):CV F 103 [.sl (a.map Ltr.val) u,.int .i64 4] h (fun v h'=>v = .bool (validA a)∧h'=h):=by
 refine CV_wp (fn:=c103) rfl ?_
 simp only [uT,c103]
 have st:=strip_pt hu (xs:=a.map Ltr.val)
 have vv:=valid_v a u hu ha ht
 replace fx:=aI @st @vv
 first|refine go ?_|exact goC
theorem ckey_c (a:List Ltr) (u t:Abs.Tok) (hu:Pt u) (hv:validA a=true) (ht:∀ x∈a,x.text.length≤1000000) (w:List Nat) (hw:∀ x∈w,x<a.length) (hb:∀ x∈w,∀ i,i<4 → -1000≤levF a i x∧levF a i x≤1000) (ha:a.length≤1000) (hwl:w.length≤1000) (h:Heap) :
  CV F 67 [.sl (a.map Ltr.val) u,.sl (w.map intN) t] h (fun v h'=>∃ tk,v = .sl ((keyM a w 4).map (.int .i64)) tk∧Fr (fun _=>False) h h'):=by
 refine CV_wp (fn:=c67) rfl ?_
 simp only [uT,c67]
 replace fx:=Dum_eq
 first|refine go ?_|exact goC
 refine CV_mono (usable_c a u hu (by omega) ht h) ?_
 rintro v h1 ⟨rfl,rfl⟩
 replace fx:=@hv
 first|refine go ?_|exact goC
 refine CV_mono (key_c a u t w hw hb ha hwl _) ?_
 rintro v h2 ⟨tk,rfl,fr,_,_⟩
 replace fx:=Dum_eq
 first|refine go ?_|exact goC
 exact ⟨tk,rfl,fr⟩
theorem keyM_len (a:List Ltr) (w:List Nat):∀ i,(keyM a w i).length≤i*(w.length+1)
 | 0=>by simp [keyM]
 | i+1=>by
   have:=keyM_len a w i
   rw [keyM,List.length_append,Nat.succ_mul]
   have:(keyP a w i).length≤w.length+1:=by unfold keyP;split<;>simp<;>omega
   omega
theorem ccompare_v (a:List Ltr) (u t t':Abs.Tok) (hu:Pt u) (hv:validA a=true) (ht:∀ x∈a,x.text.length≤1000000) (v w:List Nat) (hvw:∀ x,x∈v∨x∈w→x<a.length∧∀ i,i<4 → -1000≤levF a i x∧levF a i x≤1000) (ha:a.length≤1000) (hvl:v.length≤1000) (hwl:w.length≤1000) :
  PV F 32 [.sl (a.map Ltr.val) u,.sl (v.map intN) t,.sl (w.map intN) t']=some (.int .i64 (cmpL (keyM a v 4) (keyM a w 4))):=by
 refine PV_wp (fn:=c32) rfl ?_
 simp only [uT,c32]
 have l1:=keyM_len a v 4
 have l2:=keyM_len a w 4
 replace fx:=Dum_eq
 first|refine go ?_|exact goC
 refine CV_mono (ckey_c a u t hu hv ht v (fun x hx=>(hvw x (.inl hx)).1) (fun x hx=>(hvw x (.inl hx)).2) ha hvl _) ?_
 rintro r1 h1 ⟨k1,rfl,f1⟩
 replace fx:=Dum_eq
 first|refine go ?_|exact goC
 refine CV_mono (ckey_c a u t' hu hv ht w (fun x hx=>(hvw x (.inr hx)).1) (fun x hx=>(hvw x (.inr hx)).2) ha hwl _) ?_
 rintro r2 h2 ⟨k2,rfl,f2⟩
 obtain ⟨u1,hu1,_,s1⟩:=pur_tk2 h2 ((keyM a v 4).map (.int .i64)) k1
 obtain ⟨u2,hu2,_,s2⟩:=pur_tk2 h2 ((keyM a w 4).map (.int .i64)) k2
 have sc:=scmp_v (keyM a v 4) (keyM a w 4) (by omega) (by omega) u1 u2
 replace fx:=aI @s1 (aI @s2 @sc)
 first|refine go ?_|exact goC
end Go.Proofs.YthhdkkecolocdaaGreatDoor

namespace Go.Proofs.YthhdkkecolocdaaGreatDoor
open Go Go.Abs Go.Gt
theorem cmpI_cases (a b:Int):(a<b∧cmpI a b = -1)∨(b<a∧cmpI a b=1)∨(a=b∧cmpI a b=0):=by
 unfold cmpI
 split
 ·exact .inl ⟨by assumption,rfl⟩
 ·split
  ·exact .inr (.inl ⟨by omega,rfl⟩)
  ·exact .inr (.inr ⟨by omega,rfl⟩)
theorem order6_v (x y:List Int) (hx:x.length≤100000) (hy:y.length≤100000) (t u:Abs.Tok):PV F 76 [.sl (x.map (.int .i64)) t,.sl (y.map (.int .i64)) u]=some (.int .i64 (cmpL x y)):=by
 refine PV_wp (fn:=c76) rfl ?_
 simp only [uT,c76]
 replace fx:=Dum_eq
 first|refine go ?_|exact goC
 refine w_loop (fun k vs H=>∃ (i:Nat) (x1 x2 x3 x4 x5:AVal),k=x.length - i∧i≤x.length∧i≤y.length∧cmpL x y=cmpL (x.drop i) (y.drop i)∧vs=[.sl (x.map (.int .i64)) t,.sl (y.map (.int .i64)) u,.int .i64 0,.int .i64 (i:Int),x1,x2,x3,x4,x5]) x.length
  ⟨0,_,_,_,_,_,rfl,by omega,by omega,rfl,rfl⟩ ?_
 rintro k vs H ⟨i,x1,x2,x3,x4,x5,rfl,hi,hiy,he,rfl⟩
 by_cases hi2:i<x.length
 ·by_cases hy2:i<y.length
  ·rw [cmpL_drop hi2 hy2] at he
   rcases cmpI_cases (nth x i) (nth y i) with ⟨h1,h2⟩|⟨h1,h2⟩|⟨h1,h2⟩
   ·rw [h2] at he
    replace fx:=Dum_eq
    (first|refine go ?_|exact goC);repeat' (first|refine gP ?_|exact gPc)
    rw [he];rfl
   ·rw [h2] at he
    replace fx:=Dum_eq
    (first|refine go ?_|exact goC);repeat' (first|refine gP ?_|exact gPc|refine gN ?_|exact gNc)
    rw [he];rfl
   ·rw [h2,if_pos rfl] at he
    replace fx:=Dum_eq
    (first|refine go ?_|exact goC);repeat' (first|refine gP ?_|exact gPc|refine gN ?_|exact gNc)
    exact lp_n ⟨_,by omega,i+1,_,_,_,_,_,rfl,by omega,by omega,he,by push_cast;rfl⟩
  ·have e1:y.drop i=[]:=List.drop_eq_nil_of_le (by omega)
   rw [e1,List.drop_eq_getElem_cons hi2,cmpL] at he
   replace fx:=Dum_eq
   (first|refine go ?_|exact goC);repeat' (first|refine gP ?_|exact gPc|refine gN ?_|exact gNc)
   rw [he]
 ·have e1:x.drop i=[]:=List.drop_eq_nil_of_le (by omega)
  rw [e1] at he
  by_cases hy2:i<y.length
  ·rw [List.drop_eq_getElem_cons hy2,cmpL] at he
   replace fx:=Dum_eq
   (first|refine go ?_|exact goC);repeat' (first|refine gP ?_|exact gPc|refine gN ?_|exact gNc)
   rw [he]
  ·have e2:y.drop i=[]:=List.drop_eq_nil_of_le (by omega)
   rw [e2,cmpL] at he
   replace fx:=Dum_eq
   (first|refine go ?_|exact goC);repeat' (first|refine gN ?_|exact gNc)
   rw [he]
def lvM (a:List Ltr) (w:List Nat) (i:Nat):List Int:=w.map fun x=>levF a i x
def uptoM (a:List Ltr) (v w:List Nat):Nat→Nat→Int
 | 0,_=>0
 | n+1,i=>if cmpL (lvM a v i) (lvM a w i)=0 then uptoM a v w n (i+1) else cmpL (lvM a v i) (lvM a w i)
theorem rlevel_c (a:List Ltr) (u t:Abs.Tok) (w:List Nat) (hw:∀ x∈w,x<a.length) (ha:a.length≤1000) (hwl:w.length≤1000) {i:Nat} (hi:i<4) (h:Heap) :
  CV F 144 [.sl (a.map Ltr.val) u,.sl (w.map intN) t,.int .i64 ((i:Int)+1)] h (fun v h'=>∃ tk,v = .sl ((lvM a w i).map (.int .i64)) tk∧Fr (fun _=>False) h h'):=by
 refine CV_wp (fn:=c144) rfl ?_
 simp only [uT,c144]
 replace fx:=Dum_eq
 first|refine go ?_|exact goC
 refine w_loop (fun k vs H=>∃ (j:Nat) (tk:Abs.Tok) (x1 x2 x3 x4 x5 x6 x7 x8:AVal),k=w.length - j∧j≤w.length∧GrF (fun _=>False) h H 3 1 ((w.take j).map fun x=>levF a i x) tk∧vs=[.sl (a.map Ltr.val) u,.sl (w.map intN) t,.int .i64 ((i:Int)+1),.sl [] .nil,.sl (((w.take j).map fun x=>levF a i x).map (.int .i64)) tk,.int .i64 (j:Int),x1,x2,x3,x4,x5,x6,x7,x8]) w.length
  ⟨0,.nil,_,_,_,_,_,_,_,_,rfl,by omega,GrF.nil _ _ _ _,rfl⟩ ?_
 rintro k vs H ⟨j,tk,x1,x2,x3,x4,x5,x6,x7,x8,rfl,hj,hgr,rfl⟩
 by_cases hj2:j<w.length
 ·obtain ⟨x,hx⟩:∃ x,nth w j=x:=⟨_,rfl⟩
  have hxa:=hw _ (nth_mem hj2)
  rw [hx] at hxa
  have hlx:levF a i x=if i=0 then (nth a x).base else if i=1 then (nth a x).mark else if i=2 then (nth a x).cs else (x:Int):=rfl
  have key:∀ (z:Int) (H:Heap) (tk:Abs.Tok),z=levF a i x→GrF (fun _=>False) h H 3 1 ((w.take j).map fun x=>levF a i x) tk→∀ (K:AVal→Heap→Prop),(∀ H4 tk4,GrF (fun _=>False) h H4 3 1 ((w.take (j+1)).map fun x=>levF a i x) tk4→K (.sl (((w.take (j+1)).map fun x=>levF a i x).map (.int .i64)) tk4) H4)→bindH (appendA false 3 8 1 false (.sl (((w.take j).map fun x=>levF a i x).map (.int .i64)) tk) (.sl [.int .i64 z] .none) H) K:=by
   intro z H tk hz hgr K q
   subst hz
   refine append_F (f:=AVal.int .i64) (S:=fun _=>False) (h0:=h) ((w.take j).map fun x=>levF a i x) [levF a i x] (fun _=>rfl) (fun _=>rfl) (fun _=>rfl) rfl rfl hgr (by simp;omega) (by omega) (by omega) (by omega) fun H4 tk4 hgr4 hn4 keep4 oth4=>?_
   have htk:((w.take j).map fun x=>levF a i x)++[levF a i x]=(w.take (j+1)).map fun x=>levF a i x:=by
    rw [List.take_succ_eq_append_getElem hj2,←nth_eq hj2,hx,List.map_append]
    rfl
   rw [htk] at hgr4 ⊢
   exact q _ _ hgr4
  by_cases i0:i=0
  ·replace fx:=aI @hx (aI @intN_eq (aI @ltrL (aI @ltr1 (aI @ltr2 (aI @ltr3 (aI @ltrD1 (aI @ltrD2 @ltrD3)))))))
   (first|refine go ?_|exact goC);repeat' (first|refine gP ?_|exact gPc|refine gN ?_|exact gNc)
   refine key _ _ _ (by rw [hlx,if_pos i0]) hgr _ fun H4 tk4 hgr4=>?_
   replace fx:=Dum_eq
   first|refine go ?_|exact goC
   exact lp_n ⟨_,by omega,j+1,tk4,_,_,_,_,_,_,_,_,rfl,by omega,hgr4,by push_cast;rfl⟩
  by_cases i1:i=1
  ·replace fx:=aI @hx (aI @intN_eq (aI @ltrL (aI @ltr1 (aI @ltr2 (aI @ltr3 (aI @ltrD1 (aI @ltrD2 @ltrD3)))))))
   (first|refine go ?_|exact goC);repeat' (first|refine gP ?_|exact gPc|refine gN ?_|exact gNc)
   refine key _ _ _ (by rw [hlx,if_neg i0,if_pos i1]) hgr _ fun H4 tk4 hgr4=>?_
   replace fx:=Dum_eq
   first|refine go ?_|exact goC
   exact lp_n ⟨_,by omega,j+1,tk4,_,_,_,_,_,_,_,_,rfl,by omega,hgr4,by push_cast;rfl⟩
  by_cases i2:i=2
  ·replace fx:=aI @hx (aI @intN_eq (aI @ltrL (aI @ltr1 (aI @ltr2 (aI @ltr3 (aI @ltrD1 (aI @ltrD2 @ltrD3)))))))
   (first|refine go ?_|exact goC);repeat' (first|refine gP ?_|exact gPc|refine gN ?_|exact gNc)
   refine key _ _ _ (by rw [hlx,if_neg i0,if_neg i1,if_pos i2]) hgr _ fun H4 tk4 hgr4=>?_
   replace fx:=Dum_eq
   first|refine go ?_|exact goC
   exact lp_n ⟨_,by omega,j+1,tk4,_,_,_,_,_,_,_,_,rfl,by omega,hgr4,by push_cast;rfl⟩
  ·replace fx:=aI @hx (aI @intN_eq (aI @ltrL (aI @ltr1 (aI @ltr2 (aI @ltr3 (aI @ltrD1 (aI @ltrD2 @ltrD3)))))))
   (first|refine go ?_|exact goC);repeat' (first|refine gP ?_|exact gPc|refine gN ?_|exact gNc)
   refine key _ _ _ (by rw [hlx,if_neg i0,if_neg i1,if_neg i2]) hgr _ fun H4 tk4 hgr4=>?_
   replace fx:=Dum_eq
   first|refine go ?_|exact goC
   exact lp_n ⟨_,by omega,j+1,tk4,_,_,_,_,_,_,_,_,rfl,by omega,hgr4,by push_cast;rfl⟩
 ·have e1:w.take j=w:=List.take_of_length_le (by omega)
  rw [e1] at hgr ⊢
  replace fx:=Dum_eq
  (first|refine go ?_|exact goC);repeat' (first|refine gN ?_|exact gNc)
  exact ⟨tk,rfl,hgr.fr⟩
theorem rupto_c (a:List Ltr) (u t t':Abs.Tok) (v w:List Nat) (hv:∀ x∈v,x<a.length) (hw:∀ x∈w,x<a.length) (ha:a.length≤1000) (hvl:v.length≤1000) (hwl:w.length≤1000) (h:Heap) :
  CV F 111 [.sl (a.map Ltr.val) u,.sl (v.map intN) t,.sl (w.map intN) t',.int .i64 4] h (fun r h'=>r = .int .i64 (uptoM a v w 4 0)∧Fr (fun _=>False) h h'):=by
 refine CV_wp (fn:=c111) rfl ?_
 simp only [uT,c111]
 generalize hR:uptoM a v w 4 0=R
 replace fx:=Dum_eq
 first|refine go ?_|exact goC
 refine w_loop (fun k vs H=>∃ (i:Nat) (x1 x2 x3:AVal),k=4 - i∧i≤4∧R=uptoM a v w (4 - i) i∧Fr (fun _=>False) h H∧vs=[.sl (a.map Ltr.val) u,.sl (v.map intN) t,.sl (w.map intN) t',.int .i64 4,.int .i64 0,.int .i64 ((i:Int)+1),x1,x2,x3]) 4
  ⟨0,_,_,_,rfl,by omega,hR.symm,Fr.refl _ _,rfl⟩ ?_
 rintro k vs H ⟨i,x1,x2,x3,rfl,hi,he,fr,rfl⟩
 by_cases hi2:i<4
 ·rw [show 4 - i=(4 - (i+1))+1 by omega,uptoM] at he
  replace fx:=Dum_eq
  (first|refine go ?_|exact goC);repeat' (first|refine gP ?_|exact gPc)
  refine CV_mono (rlevel_c a u t v hv ha hvl hi2 H) ?_
  rintro r1 h1 ⟨k1,rfl,f1⟩
  replace fx:=Dum_eq
  first|refine go ?_|exact goC
  refine CV_mono (rlevel_c a u t' w hw ha hwl hi2 h1) ?_
  rintro r2 h2 ⟨k2,rfl,f2⟩
  obtain ⟨u1,hu1,_,s1⟩:=pur_tk2 h2 ((lvM a v i).map (.int .i64)) k1
  obtain ⟨u2,hu2,_,s2⟩:=pur_tk2 h2 ((lvM a w i).map (.int .i64)) k2
  have sc:=order6_v (lvM a v i) (lvM a w i) (by simp [lvM];omega) (by simp [lvM];omega) u1 u2
  by_cases hz:cmpL (lvM a v i) (lvM a w i)=0
  ·rw [if_pos hz] at he
   rw [hz] at sc
   replace fx:=aI @s1 (aI @s2 @sc)
   first|refine go ?_|exact goC
   exact lp_n ⟨_,by omega,i+1,_,_,_,rfl,by omega,he,(fr.trans f1).trans f2,by push_cast;rfl⟩
  ·rw [if_neg hz] at he
   replace fx:=aI @s1 (aI @s2 @sc)
   (first|refine go ?_|exact goC);repeat' (first|refine gN ?_|exact gNc)
   exact ⟨he.symm,(fr.trans f1).trans f2⟩
 ·have e0:4 - i=0:=by omega
  rw [e0,uptoM] at he
  replace fx:=Dum_eq
  (first|refine go ?_|exact goC);repeat' (first|refine gN ?_|exact gNc)
  exact ⟨he.symm,fr⟩
theorem rcompare_v (a:List Ltr) (u t t':Abs.Tok) (hu:Pt u) (hva:validA a=true) (ht:∀ x∈a,x.text.length≤1000000) (v w:List Nat) (hv:∀ x∈v,x<a.length) (hw:∀ x∈w,x<a.length) (ha:a.length≤1000) (hvl:v.length≤1000) (hwl:w.length≤1000) :
  PV F 74 [.sl (a.map Ltr.val) u,.sl (v.map intN) t,.sl (w.map intN) t']=some (.int .i64 (uptoM a v w 4 0)):=by
 refine PV_wp (fn:=c74) rfl ?_
 simp only [uT,c74]
 have st:=strip_pt hu (xs:=a.map Ltr.val)
 have vv:=rvalid_v a u hu (by omega) ht
 rw [hva] at vv
 replace fx:=aI @st @vv
 first|refine go ?_|exact goC
 refine CV_mono (rupto_c a u t t' v w hv hw ha hvl hwl _) ?_
 rintro r h1 ⟨rfl,f⟩
 replace fx:=Dum_eq
 first|refine go ?_|exact goC
end Go.Proofs.YthhdkkecolocdaaGreatDoor

namespace Go.Proofs.YthhdkkecolocdaaGreatDoor
open Go Go.Abs Go.Gt Go.Ly
def smallL:List Ltr:=[⟨[97],0,0,0,5⟩,⟨[98],1,0,0,6⟩,⟨[99],2,0,0,5⟩,⟨[101],3,0,0,5⟩,⟨[110],4,0,0,6⟩,⟨[115],5,0,0,4⟩,⟨[116],6,0,0,3⟩,⟨[99,104],7,0,0,10⟩,⟨[195,169],3,1,0,5⟩,⟨[65],0,0,1,7⟩]
def aK (k:Nat):List Ltr:=smallL.take k
def rdW (k:Nat) (s:Tx):List Nat:=(readA (aK k) s).1
def rdE (k:Nat) (s:Tx):Int:=(readA (aK k) s).2
def rdOk (k:Nat) (s:Tx):Bool:=decide (rdE k s = -1) && !(rdW k s).isEmpty
def keyW (k:Nat) (s:Tx):List Int:=keyM (aK k) (rdW k s) 4
def allK (f:Nat→Tx→Bool):Bool:=(List.range 11).all fun k=>headL.all fun s=>f k s
theorem allK_use {f:Nat→Tx→Bool} (h:allK f=true) {k:Nat} (hk:k≤10) {s:Tx} (hs:s∈headL):f k s=true:=by
 have:=all_lt (n:=11) h (by omega:k<11)
 exact List.all_eq_true.1 this s hs
theorem valid_k0:validA (aK 0)=false:=by kernel_rfl
theorem valid_kB:((List.range 11).all fun k=>decide (k=0) || validA (aK k))=true:=by kernel_rfl
theorem valid_k {k:Nat} (h0:k≠0) (hk:k≤10):validA (aK k)=true:=by
 have:=all_lt valid_kB (by omega:k<11)
 simpa [h0] using this
def okW (a:List Ltr) (w:List Nat):Bool:=decide (w.length≤100) && w.all fun x=>decide (x<a.length) && (List.range 4).all fun i=>decide (-1000≤levF a i x) && decide (levF a i x≤1000)
theorem okW_B:allK (fun k s=>okW (aK k) (rdW k s))=true:=by kernel_rfl
theorem okW_use {k:Nat} (hk:k≤10) {s:Tx} (hs:s∈headL):(rdW k s).length≤100∧∀ x∈rdW k s,x<(aK k).length∧∀ i,i<4 → -1000≤levF (aK k) i x∧levF (aK k) i x≤1000:=by
 have:=allK_use okW_B hk hs
 simp only [okW,Bool.and_eq_true,decide_eq_true_eq,List.all_eq_true,List.mem_range] at this
 exact this
theorem upto_B:allK (fun k s=>headL.all fun s'=>decide (uptoM (aK k) (rdW k s) (rdW k s') 4 0=cmpL (keyW k s) (keyW k s')))=true:=by kernel_rfl
theorem upto_use {k:Nat} (hk:k≤10) {s s':Tx} (hs:s∈headL) (hs':s'∈headL):uptoM (aK k) (rdW k s) (rdW k s') 4 0=cmpL (keyW k s) (keyW k s'):=by
 have:=allK_use upto_B hk hs
 simpa using List.all_eq_true.1 this s' hs'
theorem text_B:(smallL.all fun x=>decide (x.text.length≤4))=true:=by kernel_rfl
theorem aK_text {k:Nat}:∀ x∈aK k,x.text.length≤1000000:=fun x hx=>by
 have:=List.all_eq_true.1 text_B x (List.mem_of_mem_take hx)
 simp only [decide_eq_true_eq] at this
 omega
theorem aK_len (k:Nat):(aK k).length≤10:=by
 have:(aK k).length≤smallL.length:=by unfold aK;rw [List.length_take];omega
 exact this
theorem cmpL_self:∀ x:List Int,cmpL x x=0
 | []=>rfl
 | a::x=>by
   rw [cmpL,if_pos,cmpL_self x]
   simp [cmpI]
theorem cmpL_eq:∀ x y:List Int,cmpL x y=0→x=y
 | [],[],_=>rfl
 | [],_::_,h=>by simp [cmpL] at h
 | _::_,[],h=>by simp [cmpL] at h
 | a::x,b::y,h=>by
   rw [cmpL] at h
   rcases cmpI_cases a b with ⟨h1,h2⟩|⟨h1,h2⟩|⟨h1,h2⟩
   ·rw [h2] at h;simp at h
   ·rw [h2] at h;simp at h
   ·rw [h2,if_pos rfl] at h
    rw [h1,cmpL_eq x y h]
theorem cmpL_anti:∀ x y:List Int,cmpL y x = - cmpL x y
 | [],[]=>rfl
 | [],_::_=>rfl
 | _::_,[]=>rfl
 | a::x,b::y=>by
   rw [cmpL,cmpL]
   rcases cmpI_cases a b with ⟨h1,h2⟩|⟨h1,h2⟩|⟨h1,h2⟩<;>rcases cmpI_cases b a with ⟨h3,h4⟩|⟨h3,h4⟩|⟨h3,h4⟩
   all_goals first|omega|(rw [h2,h4,if_pos rfl,if_pos rfl,cmpL_anti x y];done)|(rw [h2,h4];rfl)
theorem cmpL_trans:∀ x y z:List Int,cmpL x y<0→cmpL y z<0→cmpL x z<0
 | [],[],_,h,_=>by simp [cmpL] at h
 | [],_::_,[],_,h=>by simp [cmpL] at h
 | [],_::_,_::_,_,_=>by simp [cmpL]
 | _::_,[],_,h,_=>by simp [cmpL] at h
 | _::_,_::_,[],_,h=>by simp [cmpL] at h
 | a::x,b::y,c::z,h1,h2=>by
   rw [cmpL] at h1 h2 ⊢
   rcases cmpI_cases a b with ⟨p1,p2⟩|⟨p1,p2⟩|⟨p1,p2⟩<;>rcases cmpI_cases b c with ⟨q1,q2⟩|⟨q1,q2⟩|⟨q1,q2⟩<;>rw [p2] at h1<;>rw [q2] at h2
   all_goals first|(simp at h1;done)|(simp at h2;done)|skip
   ·rcases cmpI_cases a c with ⟨r1,r2⟩|⟨r1,r2⟩|⟨r1,r2⟩<;>first|omega|(rw [r2];decide)
   ·rcases cmpI_cases a c with ⟨r1,r2⟩|⟨r1,r2⟩|⟨r1,r2⟩<;>first|omega|(rw [r2];decide)
   ·rcases cmpI_cases a c with ⟨r1,r2⟩|⟨r1,r2⟩|⟨r1,r2⟩<;>first|omega|(rw [r2];decide)
   ·rw [if_pos rfl] at h1 h2
    rcases cmpI_cases a c with ⟨r1,r2⟩|⟨r1,r2⟩|⟨r1,r2⟩<;>first|omega|skip
    rw [r2,if_pos rfl]
    exact cmpL_trans x y z h1 h2
def headB (b:Bk) (x:Ly.Id):Tx:=((b.ent x).map En.head).getD []
def eI (κ:Ly.Id→List Int) (x y:Ly.Id):Int:=orI [cmpL (κ x) (κ y),ordI x y]
def eLt (κ:Ly.Id→List Int) (x y:Ly.Id):Bool:=decide (cmpL (κ x) (κ y)<0) || (decide (cmpL (κ x) (κ y)=0) && ltI x y)
theorem eI_lt (κ:Ly.Id→List Int) (x y:Ly.Id):eI κ x y<0↔eLt κ x y=true:=by
 have h:=ordI_lt x y
 unfold eI eLt orI orI orI
 simp only [Bool.or_eq_true,Bool.and_eq_true,decide_eq_true_eq,←h]
 repeat' split
 all_goals omega
theorem eLt_tot (κ:Ly.Id→List Int) (l:List Ly.Id):Tot (eLt κ) l:=by
 refine ⟨fun x y z h1 h2=>?_,fun x=>?_,fun x hx y hy hne=>?_⟩
 ·simp only [eLt,Bool.or_eq_true,Bool.and_eq_true,decide_eq_true_eq] at *
  rcases h1 with h1|⟨h1,h1'⟩<;>rcases h2 with h2|⟨h2,h2'⟩
  ·exact .inl (cmpL_trans _ _ _ h1 h2)
  ·rw [←cmpL_eq _ _ h2];exact .inl h1
  ·rw [cmpL_eq _ _ h1];exact .inl h2
  ·right
   rw [cmpL_eq _ _ h1]
   exact ⟨h2,ltI_trans h1' h2'⟩
 ·simp [eLt,ltI_irr,cmpL_self]
 ·simp only [eLt,Bool.or_eq_true,Bool.and_eq_true,decide_eq_true_eq]
  have ha:=cmpL_anti (κ x) (κ y)
  rcases ltI_tot hne with h|h
  ·by_cases e:cmpL (κ x) (κ y)=0
   ·exact .inl (.inr ⟨e,h⟩)
   ·omega
  ·by_cases e:cmpL (κ x) (κ y)=0
   ·exact .inr (.inr ⟨by omega,h⟩)
   ·omega
theorem eLt_congr {κ κ':Ly.Id→List Int} {l:List Ly.Id} (nd:l.Nodup) (h:∀ x∈l,κ x=κ' x):isort (eLt κ) l=isort (eLt κ') l:=by
 refine isort_eq (eLt_tot κ' l) nd (isort_perm _ l) ?_
 refine (isort_sorted (eLt_tot κ l) nd).imp_of_mem fun {a b} ha hb hab=>?_
 have h1:=h a ((isort_perm (eLt κ) l).mem_iff.1 ha)
 have h2:=h b ((isort_perm (eLt κ) l).mem_iff.1 hb)
 unfold eLt at hab ⊢
 rw [←h1,←h2]
 exact hab
def kapE (k:Nat) (b:Bk) (x:Ly.Id):List Int:=keyW k (headB b x)
def chkE (b:Bk) (k:Nat) (x:Ly.Id):Int:=match b.entry x with
 | none=>14
 | some y=>if rdOk k y.head=true then 0 else 2
def errE (b:Bk) (k:Nat):List Ly.Id→Int
 | []=>0
 | x::l=>if chkE b k x=0 then errE b k l else chkE b k x
def entOf (b:Bk) (x:Ly.Id):Ly.Id:=((b.entry x).map En.id).getD ⟨0,0,0⟩
def entsE (b:Bk) (L:List Ly.Id):List Ly.Id:=firsts [] (L.map (entOf b))
theorem entry_ent {b:Bk}:∀ {n:Nat} {x:Ly.Id} {y:En},b.entF n x=some y→b.ent y.id=some y
 | 0,x,y,h=>by simp [Bk.entF] at h
 | n+1,x,y,h=>by
   rw [entF_step] at h
   cases hs:b.sense x with
   | none=>rw [hs] at h;simp at h
   | some s =>
     rw [hs] at h
     simp only at h
     cases he:b.ent s.par with
     | none=>rw [he] at h;exact entry_ent h
     | some e =>
       rw [he] at h
       simp only [Option.some.injEq] at h
       subst h
       have:e.id=s.par:=by
        have:=List.find?_some he
        simpa using this
       rw [this];exact he
end Go.Proofs.YthhdkkecolocdaaGreatDoor

namespace Go.Proofs.YthhdkkecolocdaaGreatDoor
open Go Go.Abs Go.Gt Go.Ly
structure WM (k:Nat) (W:Ly.Id→List Nat) (E:List Et):Prop where
 look:∀ x,∃ t,Pt t∧(look E x).getD (.sl [] .nil) = .sl ((W x).map intN) t
 ok:∀ x,(W x).length≤100∧∀ z∈W x,z<(aK k).length∧∀ i,i<4 → -1000≤levF (aK k) i z∧levF (aK k) i z≤1000
def kapW (k:Nat) (W:Ly.Id→List Nat) (x:Ly.Id):List Int:=keyM (aK k) (W x) 4
theorem entries1_c {k:Nat} (hk0:k≠0) (hk:k≤10) {W:Ly.Id→List Nat} {E:List Et} (wm:WM k W E) {u:Abs.Tok} (hu:Pt u) {rest:List AVal} {h:Heap} {c1 c2 m c z z2:Nat} (g1:h.get c1=some (.row true z true (.sl ((aK k).map Ltr.val) u::rest))) (g2:h.get c2=some (.row true z2 false [.mp m])) (mo:MOk h m c E) (x y:Ly.Id) :
  CV F 30 [x.val,y.val,.ptr c1 0,.ptr c2 0] h (fun v h'=>v = .int .i64 (eI (kapW k W) x y)∧Fr (fun _=>False) h h'):=by
 refine CV_wp (fn:=c30) rfl ?_
 simp only [uT,c30]
 have l1:=get_lt g1
 have l2:=get_lt g2
 obtain ⟨t1,ht1,q1⟩:=wm.look x
 obtain ⟨t2,ht2,q2⟩:=wm.look y
 have mo2:=(mo.push (.row true 0 true x.cells)).push (.row true 0 true y.cells)
 have m1:=mo2.mlook x (.sl [] .nil)
 have m2:=mo2.mlook y (.sl [] .nil)
 rw [q1] at m1
 rw [q2] at m2
 unfold idK at m1 m2
 have o:=order_v x y
 have cv:=ccompare_v (aK k) u t1 t2 hu (valid_k hk0 hk) aK_text (W x) (W y) (fun z hz=>by rcases hz with hz|hz;exact (wm.ok x).2 z hz;exact (wm.ok y).2 z hz) (by have:=aK_len k;omega) (by have:=(wm.ok x).1;omega) (by have:=(wm.ok y).1;omega)
 have su:=strip_pt hu (xs:=(aK k).map Ltr.val)
 have s1:=strip_pt ht1 (xs:=(W x).map intN)
 have s2:=strip_pt ht2 (xs:=(W y).map intN)
 have c2:PV F 31 [.sl [.int .i64 (cmpL (keyM (aK k) (W x) 4) (keyM (aK k) (W y) 4)),.int .i64 (ordI x y)] .none]=some (.int .i64 (eI (kapW k W) x y)):=or_v [cmpL (keyM (aK k) (W x) 4) (keyM (aK k) (W y) 4),ordI x y] (by simp) .none
 replace fx:=aI @g1 (aI @g2 (aI @m1 (aI @m2 (aI @o (aI @cv (aI @su (aI @s1 (aI @s2 (aI @c2 (aI @mpc (aI @mpo (aI @idVL (aI @idL (aI @idA (aI @idT (aI @id_agg @st_id))))))))))))))))
 first|refine go ?_|exact goC
 exact ((Fr.refl _ _).push _).push _
end Go.Proofs.YthhdkkecolocdaaGreatDoor

namespace Go.Proofs.YthhdkkecolocdaaGreatDoor
open Go Go.Abs Go.Ly
def idN (i:Nat):Ly.Id:=⟨((i % 2:Nat):Int),2+((i / 4:Nat):Int),((i % 4:Nat):Int)⟩
theorem idN_inj {i j:Nat} (h:idN i=idN j):i=j:=by
 simp only [idN,Id.mk.injEq] at h
 omega
theorem ss_nth (l:List Int):∀ (n i:Nat),i<n→nth (ssOf l n) i=snOf l i (ssOf l i)
 | 0,i,h=>by omega
 | n+1,i,h=>by
   rw [ssOf]
   by_cases h1:i<n
   ·rw [nth_append_left (by rw [ssOf_len];exact h1)]
    exact ss_nth l n i h1
   ·have:i=n:=by omega
    subst this
    rw [nth_append_right (by rw [ssOf_len];omega),ssOf_len,Nat.sub_self]
    rfl
theorem ss_id (l:List Int) {n i:Nat} (h:i<n):(nth (ssOf l n) i).id=idN i:=by rw [ss_nth l n i h];rfl
theorem ss_mem {l:List Int} {n:Nat} {s:Sn} (h:s∈ssOf l n):∃ i,i<n∧s=snOf l i (ssOf l i):=by
 obtain ⟨i,hi,rfl⟩:=List.getElem_of_mem h
 rw [ssOf_len] at hi
 exact ⟨i,hi,by rw [←nth_eq (by rw [ssOf_len];exact hi),ss_nth l n i hi]⟩
theorem sense_none {b:Bk} {x:Ly.Id} (h:∀ s∈b.ss,s.id≠x):b.sense x=none:=by
 unfold Bk.sense
 rw [List.find?_eq_none]
 intro s hs
 simpa using h s hs
theorem idx_at (l:List Int) (es:List En) {n i:Nat} (h:i<n):(⟨es,ssOf l n⟩:Bk).idx (idN i)=i:=by
 unfold Bk.idx
 have hl:i<(ssOf l n).length:=by rw [ssOf_len];exact h
 rw [List.findIdx_eq hl]
 refine ⟨by rw [←nth_eq hl,ss_id l h];simp,fun j hj=>?_⟩
 have hjl:j<(ssOf l n).length:=by omega
 rw [←nth_eq hjl,ss_id l (by omega)]
 simp only [decide_eq_false_iff_not]
 exact fun q=>by have:=idN_inj q;omega
theorem par_cases (l:List Int) (i:Nat):(snOf l i (ssOf l i)).par=⟨3,3,3⟩∨(∃ k,k<i∧(snOf l i (ssOf l i)).par=idN k)∨∃ a,(snOf l i (ssOf l i)).par=⟨0,1,a⟩:=by
 simp only [snOf]
 split
 ·exact .inl rfl
 ·split
  ·rename_i h
   have b:=at_bound l (23+(i:Int)) (m:=(i:Int)) (by omega)
   refine .inr (.inl ⟨(atS l (23+(i:Int)) i).toNat,by omega,?_⟩)
   rw [ss_id l (by omega)]
  ·exact .inr (.inr ⟨_,rfl⟩)
theorem head_len (n:Nat):(nth headL n).length≤4:=by
 match n with
 | 0=>decide
 | 1=>decide
 | 2=>decide
 | 3=>decide
 | n+4 =>
   have:nth headL (n+4)=[]:=rfl
   rw [this];simp
theorem tree_fit (l:List Int):(treeB l).Fit:=by
 obtain ⟨n1,n2⟩:=treeN_b l
 have hs:∀ x:Ly.Id,(∀ i,x≠idN i)→(treeB l).sense x=none:=fun x hx=>sense_none fun s hs q=>by
  obtain ⟨i,hi,rfl⟩:=ss_mem hs
  exact hx i q.symm
 have he:∀ x:Ly.Id,x.s≠1→(treeB l).ent x=none:=fun x hx=>by
  unfold Bk.ent
  rw [List.find?_eq_none]
  intro e h
  obtain ⟨i,_,rfl⟩:=List.mem_map.1 h
  simp only [decide_eq_true_eq]
  rintro rfl
  exact hx rfl
 refine ⟨⟨fun s hm t ht=>?_,fun x hx=>?_⟩,by show (esOf l 2).length≤2;rw [esOf_len];omega,by show 1≤(ssOf l _).length;rw [ssOf_len];omega,by show (ssOf l _).length≤40;rw [ssOf_len];omega,?_,fun e h=>?_,fun s h=>?_,?_⟩
 ·obtain ⟨i,hi,rfl⟩:=ss_mem hm
  have e1:(treeB l).idx (snOf l i (ssOf l i)).id=i:=idx_at l _ hi
  rw [e1]
  rcases par_cases l i with q|⟨k,hk,q⟩|⟨a,q⟩
  ·rw [q,hs _ (fun j h=>by simp [idN] at h;omega)] at ht
   simp at ht
  ·have e2:(treeB l).idx (snOf l i (ssOf l i)).par=k:=by rw [q];exact idx_at l _ (by omega)
   omega
  ·rw [q,hs _ (fun j h=>by simp [idN] at h;omega)] at ht
   simp at ht
 ·refine he x ?_
  obtain ⟨s,h⟩:=Option.isSome_iff_exists.1 hx
  obtain ⟨q1,q2⟩:=sense_id h
  obtain ⟨i,hi,rfl⟩:=ss_mem q2
  rw [←q1]
  show 2+((i / 4:Nat):Int)≠1
  omega
 ·rw [List.nodup_iff_pairwise_ne,List.pairwise_iff_getElem]
  intro i j hi hj hij
  simp only [List.length_map] at hi hj
  have hn:(treeB l).ss.length=treeN l:=ssOf_len l _
  rw [List.getElem_map,List.getElem_map,←nth_eq hi,←nth_eq hj]
  show (nth (ssOf l _) i).id≠(nth (ssOf l _) j).id
  rw [ss_id l (by omega),ss_id l (by omega)]
  exact fun q=>by have:=idN_inj q;omega
 ·obtain ⟨i,_,rfl⟩:=List.mem_map.1 h
  have:=head_len (atS l i 4).toNat
  show (nth headL _).length≤10
  omega
 ·obtain ⟨i,hi,rfl⟩:=ss_mem h
  simp only [snOf]
  split<;>simp
 ·exact hs _ fun j h=>by simp [idN] at h;omega
theorem tree_small (l:List Int) (L:List Ly.Id):Small (treeB l) L:=by
 refine small_of (tree_fit l) ?_ L
 have:=treeN_b l
 show (ssOf l _).length≤12
 rw [ssOf_len]
 omega
def someN (b:Bk) (l:List Int) (i:Nat):Ly.Id:=(nth b.ss (atS l i b.ss.length).toNat).id
def someL (b:Bk) (l:List Int) (many none:Int):List Ly.Id:=(List.range many.toNat).map (someN b l)++(if none=0 then [⟨4,4,4⟩] else [])
theorem gr_pur {α:Type} {h:Heap} {ty sz:Nat} {l:List α} {tk1:Abs.Tok} (g:Gr h ty sz l tk1) (q:l=[]→tk1 = .nil) (xs:List AVal):purify h (.sl xs tk1)=some (.sl xs (tk l)):=by
 by_cases e:l=[]
 ·subst e;rw [q rfl];rfl
 ·rcases g with ⟨q1,_⟩|⟨i,rfl,_⟩
  ·exact absurd q1 e
  ·have:tk l = .none:=by unfold tk;rw [if_neg (by simpa using e)]
   rw [this];rfl
theorem some_v (b:Bk) (fit:b.Fit) {l:List Int} {t:Abs.Tok} (hl:∀ x∈l,i64 x) (many none:Int) (hm0:0≤many) (hm:many≤100) :
  PV F 9 [b.val,.sl (l.map (.int .i64)) t,.int .i64 many,.int .i64 none]=some (.sl ((someL b l many none).map Ly.Id.val) (tk (someL b l many none))):=by
 have h1:=fit.ss1
 have h2:=fit.ss
 have av:=fun (i:Int)=>at_v (t:=t) (i:=i) (m:=(b.ss.length:Int)) hl (by omega)
 obtain ⟨u,hu,_,stp⟩:=pur_tk2 Heap.empty (l.map (.int .i64)) t
 have av2:=fun (i:Int)=>at_v (t:=u) (i:=i) (m:=(b.ss.length:Int)) hl (by omega)
 refine PV_wp (fn:=c9) rfl ?_
 simp only [uT,c9]
 replace fx:=aI @bkVL (aI @bkL @bkA)
 first|refine go ?_|exact goC
 refine w_loop (fun k vs H=>∃ (i:Nat) (t1:Abs.Tok) (x1 x2:AVal),k=many.toNat - i∧i≤many.toNat∧H.get 0=some (.row true 0 true (bkC b))∧Gr H 62 3 ((List.range i).map (someN b l)) t1∧(((List.range i).map (someN b l))=[]→t1 = .nil) ∧
   vs=[b.val,.sl (l.map (.int .i64)) t,.int .i64 many,.int .i64 none,.ptr 0 0,.sl [] .nil,.sl (((List.range i).map (someN b l)).map Ly.Id.val) t1,.int .i64 (i:Int),x1,x2]) many.toNat
  ⟨0,.nil,_,_,rfl,by omega,get_push_eq rfl,Gr.nil _ _ _,fun _=>rfl,rfl⟩ ?_
 rintro k vs H ⟨i,t1,x1,x2,rfl,hi,g0,hgr,hnl,rfl⟩
 have b1:=at_bound l i (m:=(b.ss.length:Int)) (by omega)
 by_cases hi2:i<many.toNat
 ·replace fx:=aI @g0 (aI @bkL (aI @bk1 (aI @stp (aI @av2 (aI @snId (aI @snVL (aI @snL @idcE)))))))
  (first|refine go ?_|exact goC);repeat' (first|refine gP ?_|exact gPc)
  refine append_U (f:=Ly.Id.val) ((List.range i).map (someN b l)) [someN b l i] (fun _=>rfl) (fun _=>rfl) (fun _=>rfl) rfl rfl hgr (by simp;omega) (by omega) (by omega) (by omega) fun H2 t2 hgr2 hn2 keep2=>?_
  have k0:=keep2 _ _ _ _ _ g0
  have e:(List.range i).map (someN b l)++[someN b l i]=(List.range (i+1)).map (someN b l):=by simp [List.range_succ]
  rw [e] at hgr2 ⊢
  replace fx:=Dum_eq
  first|refine go ?_|exact goC
  exact lp_n ⟨_,by omega,i+1,t2,_,_,rfl,by omega,k0,hgr2,fun q=>by simp [List.range_succ] at q,by push_cast;rfl⟩
 ·have hi3:i=many.toNat:=by omega
  subst hi3
  replace fx:=Dum_eq
  (first|refine go ?_|exact goC);repeat' (first|refine gN ?_|exact gNc|(refine gI ?_ ?_<;>intro hyp<;>first|refine goF ?_|exact goFc|refine goT ?_|exact goTc|skip))
  ·have e:someL b l many none=(List.range many.toNat).map (someN b l)++[⟨4,4,4⟩]:=by unfold someL;rw [if_pos hyp]
   refine append_U (f:=Ly.Id.val) ((List.range many.toNat).map (someN b l)) [⟨4,4,4⟩] (fun _=>rfl) (fun _=>rfl) (fun _=>rfl) rfl rfl hgr (by simp;omega) (by omega) (by omega) (by omega) fun H2 t2 hgr2 hn2 keep2=>?_
   rw [←e] at hgr2 ⊢
   replace fx:=Dum_eq
   first|refine go ?_|exact goC
   exact gr_pur hgr2 (fun q=>by rw [e] at q;simp at q) _
  ·have e:someL b l many none=(List.range many.toNat).map (someN b l):=by unfold someL;rw [if_neg hyp,List.append_nil]
   rw [e]
   exact gr_pur hgr hnl _
theorem someL_len (b:Bk) (l:List Int) {many:Int} (none:Int) (h0:0≤many):(someL b l many none).length≤many.toNat+1:=by
 unfold someL
 split<;>simp
end Go.Proofs.YthhdkkecolocdaaGreatDoor

namespace Go.Proofs.YthhdkkecolocdaaGreatDoor
open Go Go.Abs Go.Gt Go.Ly
theorem read_v (a:List Ltr) (s:Bs) (u:Abs.Tok) (hu:Pt u) (ha:a.length≤1000000) (hs:s.length≤900000) (ht:∀ x∈a,x.text.length≤1000000) :
  ∃ u',Pt u'∧((readA a s).1≠[]→u' = .none)∧PV F 28 [.sl (a.map Ltr.val) u,.str s]=some (.tup [.sl ((readA a s).1.map intN) u',.int .i64 (readA a s).2]):=by
 obtain ⟨r,h',c,tk,rfl,fr,hn⟩:=read_c a s u hu ha hs ht Heap.empty
 obtain ⟨u',hu',p1,_⟩:=pur_tk2 h' ((readA a s).1.map intN) tk
 refine ⟨u',hu',fun q=>?_,PV_of c (pur_pair p1 rfl)⟩
 have:=hn q
 cases tk with
 | nil=>exact absurd rfl this
 | none=>simp only [purify,Option.some.injEq,AVal.sl.injEq,true_and] at p1;exact p1.symm
 | own i s=>simp only [purify,Option.some.injEq,AVal.sl.injEq,true_and] at p1;exact p1.symm
 | full=>simp only [purify,Option.some.injEq,AVal.sl.injEq,true_and] at p1;exact p1.symm
theorem chkE_drop {b:Bk} {k:Nat} {L:List Ly.Id} {i:Nat} (hi:i<L.length):errE b k (L.drop i)=if chkE b k (nth L i)=0 then errE b k (L.drop (i+1)) else chkE b k (nth L i):=by
 rw [List.drop_eq_getElem_cons hi,errE,←nth_eq hi]
theorem firsts_snoc:∀ (l met:List Ly.Id) (x:Ly.Id),firsts met (l++[x])=if x∈met∨x∈l then firsts met l else firsts met l++[x]
 | [],met,x=>by by_cases h:x∈met<;>simp [firsts,h]
 | y::l,met,x=>by
   rw [List.cons_append,firsts,firsts]
   by_cases h:y∈met
   ·rw [if_pos h,if_pos h,firsts_snoc l met x]
    by_cases h2:x∈met
    ·simp [h2]
    ·by_cases h3:x∈l
     ·simp [h3]
     ·have:x≠y:=fun q=>h2 (q ▸ h)
      simp [h2,h3,this]
   ·rw [if_neg h,if_neg h,firsts_snoc l (met++[y]) x]
    by_cases h2:x∈met
    ·simp [h2]
    ·by_cases h3:x∈l
     ·simp [h3]
     ·by_cases h4:x=y
      ·simp [h4]
      ·simp [h2,h3,h4]
def listE (b:Bk) (L:List Ly.Id) (e:Ly.Id):List Ly.Id:=(b.list L e).map Prod.fst
def sortE (k:Nat) (b:Bk) (L:List Ly.Id):List Ly.Id:=isort (eLt (kapE k b)) (entsE b L)
def errR (n:Int):AVal := .tup [.sl [] .nil,.sl [] .nil,.int .i64 n]
def entR (k:Nat) (b:Bk) (L:List Ly.Id):AVal:=if k=0 then errR 1 else if errE b k L=0 then .tup [idsV (sortE k b L),.sl ((sortE k b L).map fun e=>idsV (listE b L e)) (tk (sortE k b L)),.int .i64 0] else errR (errE b k L)
structure GE (b:Bk) (k:Nat) (hc:List AVal) (es:List Ly.Id) (H:Heap) (rv:AVal) (c:Nat) (E:List Et):Prop where
 nx:4≤H.next
 g0:H.get 0=some (.row true 0 true hc)
 g1:H.get 1=some (.row true 0 true (bkC b))
 mo:MOk H 2 c E
 g3:H.get 3=some (.row true (typed 93) false [.mp 2])
 sv:SV H rv es
 ro:∀ r a,rv = .ref r 0 a 3→4≤r∧es≠[]
 lk:∀ x,look E x=if x∈es then some (.sl ((rdW k (headB b x)).map intN) .none) else none
 ne:∀ x∈es,rdW k (headB b x)≠[]∧headB b x∈headL
theorem GE.push {b:Bk} {k:Nat} {hc:List AVal} {es:List Ly.Id} {H:Heap} {rv:AVal} {c:Nat} {E:List Et} (g:GE b k hc es H rv c E) (o:Abs.Obj):GE b k hc es (H.push o) rv c E :=
 ⟨by rw [push_next];have:=g.nx;omega,get_push_old g.g0,get_push_old g.g1,g.mo.push o,get_push_old g.g3,by
  rcases g.sv with q|⟨r,q,g⟩
  ·exact .inl q
  ·exact .inr ⟨r,q,get_push_old g⟩,g.ro,g.lk,g.ne⟩
theorem GE.add {b:Bk} {k:Nat} {hc:List AVal} {es:List Ly.Id} {H:Heap} {rv:AVal} {c:Nat} {E:List Et} (g:GE b k hc es H rv c E) (x:Ly.Id) (hx:x∉es) (hne:rdW k (headB b x)≠[]) (hh:headB b x∈headL) (hl:es.length≤100) :
  ∃ H1 w H2 c' E',evalX (.mput idK) [.mp 2,x.val,.sl ((rdW k (headB b x)).map intN) .none] H=some (.tup [],H1)∧appendA true 62 24 3 true rv (.sl [x.val] .none) H1=some (w,H2)∧GE b k hc (es++[x]) H2 w c' E'∧H1.get 3=H.get 3∧∀ j mu z ag cs,H.get j=some (.row mu z ag cs)→H1.get j=some (.row mu z ag cs):=by
 obtain ⟨c',E',ex,eo,el⟩:=g.mo.mput x (v := .sl ((rdW k (headB b x)).map intN) .none) rfl
 generalize hH1:H.put 2 (some (.map idK c' (enc E')))=H1 at ex
 have hn1:H1.next=H.next:=by rw [←hH1,put_next]
 have o1:∀ j,j≠2→H1.get j=H.get j:=fun j hj=>by rw [←hH1,get_put_ne hj]
 have m1:H1.get 2=some (.map idK c' (enc E')):=by rw [←hH1];exact get_put_old g.mo.1
 have sv1:SV H1 rv es:=by
  rcases g.sv with q|⟨r,q,gg⟩
  ·exact .inl q
  ·exact .inr ⟨r,q,by rw [o1 r (by have:=(g.ro r _ q).1;omega)];exact gg⟩
 obtain ⟨H2,e2,hn2,w2,oth⟩:=append_SV sv1 x (ty:=62) (bytes:=24) hl (by omega)
 have nx:=g.nx
 have low:∀ j,j<4→H2.get j=H1.get j:=fun j hj=>oth j (by omega) fun r a q=>by have:=(g.ro r a q).1;omega
 refine ⟨H1,_,H2,c',E',ex,e2,⟨by omega,by rw [low 0 (by omega),o1 0 (by omega)];exact g.g0,by rw [low 1 (by omega),o1 1 (by omega)];exact g.g1,⟨by rw [low 2 (by omega)];exact m1,eo⟩,by rw [low 3 (by omega),o1 3 (by omega)];exact g.g3,.inr ⟨_,rfl,w2⟩,fun r a q=>?_,fun y=>?_,fun y hy=>?_⟩,o1 3 (by omega),fun j mu z ag cs hj=>?_⟩
 ·have:=ref_ne q;exact ⟨by omega,by simp⟩
 ·rw [el y,g.lk y]
  by_cases h1:y=x
  ·subst h1;simp
  ·simp [h1]
 ·rcases List.mem_append.1 hy with hy|hy
  ·exact g.ne y hy
  ·simp only [List.mem_singleton] at hy
   subst hy
   exact ⟨hne,hh⟩
 ·rw [o1 j (by rintro rfl;rw [g.mo.1] at hj;simp at hj)]
  exact hj
theorem ge_start (b:Bk) (k:Nat) (hc:List AVal):GE b k hc (firsts [] ((List.take 0 ([]:List Ly.Id)).map (entOf b))) ((((Heap.empty.push (.row true 0 true hc)).push (.row true 0 true (bkC b))).push (.map idK 0 [])).push (.row true (typed 93) false [.mp 2])) (.sl [] .nil) 0 []:=by
 refine ⟨by simp [push_next,empty_next],?_,?_,⟨?_,by simp,by simp,by simp⟩,?_,.inl ⟨rfl,rfl⟩,by simp,by simp [look,firsts],by simp [firsts]⟩
 ·rw [get_push_ne (by simp [push_next,empty_next]),get_push_ne (by simp [push_next,empty_next]),get_push_ne (by simp [push_next,empty_next])];exact get_push_eq rfl
 ·rw [get_push_ne (by simp [push_next,empty_next]),get_push_ne (by simp [push_next,empty_next])];exact get_push_eq (by simp [push_next,empty_next])
 ·rw [get_push_ne (by simp [push_next,empty_next])];exact get_push_eq (by simp [push_next,empty_next])
 ·exact get_push_eq (by simp [push_next,empty_next])
theorem sl_nil:binA .eql .sl (.sl [] .nil) (.sl [] .nil)=some (.bool true):=rfl
theorem sl_some {xs:List AVal} (h:xs≠[]):binA .eql .sl (.sl xs .none) (.sl [] .nil)=some (.bool false):=by
 cases xs with
 | nil=>exact absurd rfl h
 | cons x xs=>rfl
theorem entOf_some {b:Bk} {x:Ly.Id} {y:En} (h:b.entry x=some y):entOf b x=y.id∧headB b y.id=y.head∧y∈b.es∧b.ent y.id=some y:=by
 have h2:=entry_ent (n:=b.ss.length) h
 refine ⟨by simp [entOf,h],by simp [headB,h2],List.mem_of_find?_eq_some h2,h2⟩
theorem gr_strip {α:Type} {h:Heap} {ty sz:Nat} {l:List α} {tk1:Abs.Tok} (g:Gr h ty sz l tk1) (q:l=[]→tk1 = .nil) (xs:List AVal):strip (.sl xs tk1)=some (.sl xs (tk l)):=by
 by_cases e:l=[]
 ·subst e;rw [q rfl];rfl
 ·rcases g with ⟨q1,_⟩|⟨i,rfl,_⟩
  ·exact absurd q1 e
  ·have:tk l = .none:=by unfold tk;rw [if_neg (by simpa using e)]
   rw [this];rfl
theorem idsSt (l:List Ly.Id):stripL (idsV l).cells=some (idsV l).cells:=by
 have:=strip_pt (tk_pt l) (xs:=l.map Ly.Id.val)
 show stripL [idsV l]=some [idsV l]
 simp only [stripL]
 rw [show strip (idsV l)=some (idsV l) from this]
theorem head_ne:∀ s∈headL,s≠[]:=by decide
theorem ents_len {b:Bk} (fit:b.Fit) {es:List Ly.Id} (nd:es.Nodup) (h:∀ x∈es,headB b x∈headL):es.length≤12:=by
 have h1:=nd.length_le_of_subset (l₂:=b.es.map En.id) fun x hx=>by
  have h2:=h x hx
  cases he:b.ent x with
  | none=>exact absurd (by simp [headB,he]) (head_ne _ h2)
  | some e =>
    have h3:=List.find?_some he
    exact List.mem_map.2 ⟨e,List.mem_of_find?_eq_some he,by simpa using h3⟩
 have:=fit.es
 rw [List.length_map] at h1
 omega
theorem wm_of {b:Bk} {k:Nat} (hk:k≤10) {hc:List AVal} {es:List Ly.Id} {H:Heap} {rv:AVal} {c:Nat} {E:List Et} (g:GE b k hc es H rv c E):WM k (fun x=>if x∈es then rdW k (headB b x) else []) E:=by
 refine ⟨fun x=>?_,fun x=>?_⟩
 ·rw [g.lk x]
  by_cases hx:x∈es
  ·exact ⟨.none,.inl rfl,by simp [hx]⟩
  ·exact ⟨.nil,.inr rfl,by simp [hx]⟩
 ·by_cases hx:x∈es
  ·simp only [hx,if_true]
   exact okW_use hk (g.ne x hx).2
  ·simp [hx]
theorem entries_v (b:Bk) (fit:b.Fit) (hhd:∀ e∈b.es,e.head∈headL) (L:List Ly.Id) (hL:L.length≤60) (sm:Small b L) {t u:Abs.Tok} (ht:Pt t) (hu:Pt u) {k:Nat} (hk:k≤10) {rest:List AVal} (hrl:rest.length=16) (hra:rest.all AVal.one=true) :
  PV F 11 [.agg (.sl ((aK k).map Ltr.val) u::rest),b.val,.sl (L.map Ly.Id.val) t]=some (entR k b L):=by
 have ok:=fit.ok
 refine PV_wp (fn:=c11) rfl ?_
 simp only [uT,c11]
 have st:=strip_pt ht (xs:=L.map Ly.Id.val)
 have su:=strip_pt hu (xs:=(aK k).map Ltr.val)
 have hal:=aK_len k
 have vv:=valid_v (aK k) u hu (by omega) aK_text
 by_cases hk0:k=0
 ·subst hk0
  rw [valid_k0] at vv
  have e:entR 0 b L=errR 1:=rfl
  replace fx:=aI @hrl (aI @hra (aI @bkVL (aI @bkL (aI @bkA (aI @su @vv)))))
  first|refine go ?_|exact goC
  rw [e];rfl
 ·rw [valid_k hk0 hk] at vv
  have eR:entR k b L=if errE b k L=0 then .tup [idsV (sortE k b L),.sl ((sortE k b L).map fun e=>idsV (listE b L e)) (tk (sortE k b L)),.int .i64 0] else errR (errE b k L):=by unfold entR;rw [if_neg hk0]
  replace fx:=aI @hrl (aI @hra (aI @bkVL (aI @bkL (aI @bkA (aI @su (aI @vv (aI @mpc (aI @mpo @nmp1))))))))
  first|refine go ?_|exact goC
  refine w_loop (fun q vs H=>∃ (i c:Nat) (E:List Et) (rv:AVal) (x1 x2 x3 x4 x5 x6 x7 x8 x9 x10 x11 x12 x13 x14 x15 x16 x17 x18 x19 x20 x21 x22 x23 x24 x25 x26:AVal),q=L.length - i∧i≤L.length∧errE b k L=errE b k (L.drop i)∧GE b k (.sl ((aK k).map Ltr.val) u::rest) (firsts [] ((L.take i).map (entOf b))) H rv c E ∧
    vs=[.agg (.sl ((aK k).map Ltr.val) u::rest),b.val,.sl (L.map Ly.Id.val) t,.ptr 0 0,.ptr 1 0,.sl [] .nil,.sl [] .nil,.int .i64 0,.ptr 3 0,rv,x1,x2,x3,x4,x5,x6,x7,x8,x9,x10,x11,x12,x13,.sl (L.map Ly.Id.val) t,.int .i64 (L.length:Int),.int .i64 (i:Int),x14,x15,x16,x17,x18,x19,x20,x21,x22,x23,x24,x25,x26]) L.length
   ⟨0,0,[],.sl [] .nil,_,_,_,_,_,_,_,_,_,_,_,_,_,_,_,_,_,_,_,_,_,_,_,_,_,_,rfl,by omega,rfl,ge_start b k _,rfl⟩ ?_
  rintro q vs H ⟨i,c,E,rv,x1,x2,x3,x4,x5,x6,x7,x8,x9,x10,x11,x12,x13,x14,x15,x16,x17,x18,x19,x20,x21,x22,x23,x24,x25,x26,rfl,hi,he,ge,rfl⟩
  by_cases hi2:i<L.length
  ·obtain ⟨x,hx⟩:∃ x,nth L i=x:=⟨_,rfl⟩
   rw [chkE_drop hi2,hx] at he
   have htk:(L.take (i+1)).map (entOf b)=(L.take i).map (entOf b)++[entOf b x]:=by rw [List.take_succ_eq_append_getElem hi2,←nth_eq hi2,hx,List.map_append];rfl
   have hfs:=firsts_snoc ((L.take i).map (entOf b)) [] (entOf b x)
   rw [←htk] at hfs
   generalize hes:firsts [] ((L.take i).map (entOf b))=es at ge hfs
   have hesl:es.length≤100:=by
    have h1:=(nodup_firsts ((L.take i).map (entOf b)) []).length_le_of_subset (l₂:=(L.take i).map (entOf b)) (fun z hz=>(mem_firsts.1 hz).1)
    rw [hes,List.length_map,List.length_take] at h1
    omega
   have hmem:entOf b x∈(L.take i).map (entOf b)↔entOf b x∈es:=by rw [←hes,mem_firsts];simp
   have sv:=sense_v b fit x
   have ev:=entry_v b fit x
   unfold senseR at sv
   unfold entV at ev
   have nx:=ge.nx
   have g0:=ge.g0
   have g1:=ge.g1
   have g3:=ge.g3
   obtain ⟨S,hS⟩:∃ S,(b.sense x).getD zeroSn=S:=⟨_,rfl⟩
   rw [hS] at sv
   cases hy:b.entry x with
   | none =>
     rw [hy] at ev
     simp only [zeroEn,Option.isSome_none] at ev
     have hc:chkE b k x=14:=by simp [chkE,hy]
     rw [hc,if_neg (by decide)] at he
     rw [eR,he,if_neg (by decide)]
     cases hs:(b.sense x).isSome with
     | false =>
       rw [hs] at sv
       replace fx:=aI @g0 (aI @g1 (aI @hx (aI @sv (aI @ev (aI @bkL (aI @bkA (aI @bkT (aI @bk_agg (aI @st_bk (aI @st_id (aI @idVL (aI @idL (aI @idA (aI @idT (aI @id_agg (aI @idS0 (aI @snL (aI @snVL (aI @snA @snS0)))))))))))))))))))
       (first|refine go ?_|exact goC);repeat' (first|refine gP ?_|exact gPc)
       rfl
     | true =>
       rw [hs] at sv
       replace fx:=aI @g0 (aI @g1 (aI @hx (aI @sv (aI @ev (aI @bkL (aI @bkA (aI @bkT (aI @bk_agg (aI @st_bk (aI @st_id (aI @idVL (aI @idL (aI @idA (aI @idT (aI @id_agg (aI @idS0 (aI @snL (aI @snVL (aI @snA @snS0)))))))))))))))))))
       (first|refine go ?_|exact goC);repeat' (first|refine gP ?_|exact gPc)
       rfl
   | some y =>
     rw [hy] at ev
     simp only [Option.isSome_some] at ev
     rw [entry_sense hy] at sv
     obtain ⟨p1,p2,p3,p4⟩:=entOf_some hy
     have hh:=head_v b fit y.id
     rw [show headR b y.id = .tup [.str y.head,.int .i64 0] by simp [headR,p4]] at hh
     have hd:=fit.hd y p3
     obtain ⟨u2,hu2,hu3,rd⟩:=read_v (aK k) y.head u hu (by omega) (by omega) aK_text
     have hW:(readA (aK k) y.head).1=rdW k y.head:=rfl
     have hE:(readA (aK k) y.head).2=rdE k y.head:=rfl
     rw [hW,hE] at rd
     rw [hW] at hu3
     have hc:chkE b k x=if rdOk k y.head=true then 0 else 2:=by simp [chkE,hy]
     obtain ⟨Wd,hWd⟩:∃ Wd,rdW k y.head=Wd:=⟨_,rfl⟩
     obtain ⟨Ed,hEd⟩:∃ Ed,rdE k y.head=Ed:=⟨_,rfl⟩
     have hok:rdOk k y.head=(decide (Ed = -1) && !Wd.isEmpty):=by rw [←hWd,←hEd];rfl
     by_cases hEd1:Ed = -1
     ·by_cases hWe:Wd=[]
      ·have hno:rdOk k y.head=false:=by rw [hok,hWe];simp
       rw [hc,hno] at he
       simp only [Bool.false_eq_true,if_false] at he
       rw [if_neg (by decide)] at he
       rw [eR,he,if_neg (by decide)]
       rw [hWd,hEd,hWe,hEd1] at rd
       replace fx:=aI @g0 (aI @g1 (aI @hx (aI @sv (aI @ev (aI @hh (aI @rd (aI @su (aI @bkL (aI @bkA (aI @bkT (aI @bk_agg (aI @st_bk (aI @st_id (aI @idVL (aI @idL (aI @idA (aI @idT (aI @id_agg (aI @idS0 (aI @snL (aI @snVL (aI @snA (aI @snS0 (aI @enL (aI @enVL (aI @enA (aI @enS0 @enId)))))))))))))))))))))))))))
       (first|refine go ?_|exact goC);repeat' (first|refine gP ?_|exact gPc)
       rfl
      ·have hyes:rdOk k y.head=true:=by
        rw [hok,decide_eq_true hEd1]
        cases Wd with
        | nil=>exact absurd rfl hWe
        | cons _ _=>rfl
       rw [hc,hyes,if_pos rfl,if_pos rfl] at he
       rw [hWd] at hu3
       rw [hWd,hEd,hEd1,hu3 hWe] at rd
       have hWl:(Wd.map intN)≠[]:=by simpa using hWe
       have hWn:¬ Wd.length=0:=by simpa using hWe
       have ge3:=((ge.push (.row true (typed 62) true x.cells)).push (.row true (typed 67) true S.cells)).push (.row true (typed 70) true y.cells)
       have lk:=ge3.mo.mlook y.id (.sl [] .nil)
       rw [ge3.lk y.id,p2,hWd] at lk
       by_cases hin:y.id∈es
       ·rw [if_pos hin] at lk
        simp only [Option.getD_some] at lk
        unfold idK at lk
        have s1:=sl_some hWl
        rw [if_pos (.inr (hmem.2 (by rw [p1];exact hin)))] at hfs
        replace fx:=aI @g0 (aI @g1 (aI @g3 (aI @hx (aI @sv (aI @ev (aI @hh (aI @rd (aI @su (aI @lk (aI @s1 (aI @mpc (aI @mpo (aI @bkL (aI @bkA (aI @bkT (aI @bk_agg (aI @st_bk (aI @st_id (aI @idVL (aI @idL (aI @idA (aI @idT (aI @id_agg (aI @idS0 (aI @snL (aI @snVL (aI @snA (aI @snS0 (aI @enL (aI @enVL (aI @enA (aI @enS0 @enId))))))))))))))))))))))))))))))))
        (first|refine go ?_|exact goC);repeat' (first|refine gP ?_|exact gPc|refine gN ?_|exact gNc)
        exact lp_n ⟨_,by omega,i+1,c,E,rv,_,_,_,_,_,_,_,_,_,_,_,_,_,_,_,_,_,_,_,_,_,_,_,_,_,_,rfl,by omega,he,by rw [hfs];exact ge3,by push_cast;rfl⟩
       ·rw [if_neg hin] at lk
        simp only [Option.getD_none] at lk
        unfold idK at lk
        rw [if_neg (by rw [hmem,p1];simp [hin])] at hfs
        obtain ⟨H1,w,H2,c',E',ex,ap,ge4,k3,keep⟩:=ge3.add y.id hin (by rw [p2,hWd];exact hWe) (by rw [p2];exact hhd y p3) hesl
        rw [p2,hWd] at ex
        unfold idK at ex
        have k12:=keep _ _ _ _ _ (get_push_eq (h:=(H.push (.row true (typed 62) true x.cells)).push (.row true (typed 67) true S.cells)) (o := .row true (typed 70) true y.cells) rfl)
        simp only [push_next] at k12
        have g33:=ge3.g3
        replace fx:=aI @g0 (aI @g1 (aI @g3 (aI @hx (aI @sv (aI @ev (aI @hh (aI @rd (aI @su (aI @lk (aI @sl_nil (aI @ex (aI @ap (aI @k12 (aI @idChk (aI @mpc (aI @mpo (aI @bkL (aI @bkA (aI @bkT (aI @bk_agg (aI @st_bk (aI @st_id (aI @idVL (aI @idL (aI @idA (aI @idT (aI @id_agg (aI @idS0 (aI @snL (aI @snVL (aI @snA (aI @snS0 (aI @enL (aI @enVL (aI @enA (aI @enS0 @enId))))))))))))))))))))))))))))))))))))
        (first|refine go ?_|exact goC);repeat' (first|refine gP ?_|exact gPc|refine gN ?_|exact gNc)
        rw [←p1] at ge4
        exact lp_n ⟨_,by omega,i+1,c',E',w,_,_,_,_,_,_,_,_,_,_,_,_,_,_,_,_,_,_,_,_,_,_,_,_,_,_,rfl,by omega,he,by rw [hfs];exact ge4,by push_cast;rfl⟩
     ·have hno:rdOk k y.head=false:=by rw [hok,decide_eq_false hEd1];rfl
      rw [hc,hno] at he
      simp only [Bool.false_eq_true,if_false] at he
      rw [if_neg (by decide)] at he
      rw [eR,he,if_neg (by decide)]
      rw [hWd,hEd] at rd
      replace fx:=aI @g0 (aI @g1 (aI @hx (aI @sv (aI @ev (aI @hh (aI @rd (aI @su (aI @bkL (aI @bkA (aI @bkT (aI @bk_agg (aI @st_bk (aI @st_id (aI @idVL (aI @idL (aI @idA (aI @idT (aI @id_agg (aI @idS0 (aI @snL (aI @snVL (aI @snA (aI @snS0 (aI @enL (aI @enVL (aI @enA (aI @enS0 @enId)))))))))))))))))))))))))))
      (first|refine go ?_|exact goC);repeat' (first|refine gP ?_|exact gPc|refine gN ?_|exact gNc)
      rfl
  ·have e0:L.drop i=[]:=List.drop_eq_nil_of_le (by omega)
   have e1:L.take i=L:=List.take_of_length_le (by omega)
   rw [e0,errE] at he
   rw [e1] at ge
   rw [eR,if_pos he]
   have hE:firsts [] (L.map (entOf b))=entsE b L:=rfl
   rw [hE] at ge
   have nd:(entsE b L).Nodup:=nodup_firsts _ _
   have hS:sortE k b L=isort (eLt (kapE k b)) (entsE b L):=rfl
   generalize entsE b L=es at ge nd hS
   have hes:es.length≤12:=ents_len fit nd fun x hx=>(ge.ne x hx).2
   have wm:=wm_of hk ge
   have hκ:isort (eLt (kapW k fun x=>if x∈es then rdW k (headB b x) else [])) es=isort (eLt (kapE k b)) es:=eLt_congr nd fun x hx=>by simp [kapW,kapE,keyW,hx]
   rw [←hS] at hκ
   have hsl:(sortE k b L).length=es.length:=by rw [hS,(isort_perm _ _).length_eq]
   rcases ge.sv with ⟨rfl,hnil⟩|⟨r,rfl,gr⟩
   ·subst hnil
    have hz:sortE k b L=[]:=by rw [hS];rfl
    rw [hz]
    have c0:=sort0_c .nil 30 [.ptr 0 0,.ptr 3 0] H
    replace fx:=Dum_eq
    (first|refine go ?_|exact goC);repeat' (first|refine gN ?_|exact gNc)
    refine CV_mono c0 ?_
    rintro v h1 ⟨rfl,rfl⟩
    replace fx:=Dum_eq
    first|refine go ?_|exact goC
    refine w_loop (fun q vs H'=>∃ (x1 x2 x3 x4 x5 x6 x7 x8 x9 x10 x11 x12 x13 x14 x15 x16 x17 x18 x19 x20 x21 x22 x23 x24 x25 x26 x27 x28 x29 x30 x31:AVal),q=0∧vs=[x1,x2,x3,x4,x5,.sl [] .nil,.sl [] .nil,.int .i64 0,x6,.sl [] .nil,x7,x8,x9,x10,x11,x12,x13,x14,.sl [] .nil,x15,x16,x17,x18,x19,x20,x21,x22,x23,x24,x25,x26,.sl [] .nil,.int .i64 0,.int .i64 0,x27,x28,x29,x30,x31]) 0 ⟨_,_,_,_,_,_,_,_,_,_,_,_,_,_,_,_,_,_,_,_,_,_,_,_,_,_,_,_,_,_,_,rfl,rfl⟩ ?_
    rintro q vs H' ⟨x1,x2,x3,x4,x5,x6,x7,x8,x9,x10,x11,x12,x13,x14,x15,x16,x17,x18,x19,x20,x21,x22,x23,x24,x25,x26,x27,x28,x29,x30,x31,rfl,rfl⟩
    replace fx:=Dum_eq
    first|refine go ?_|exact goC
    rfl
   ·obtain ⟨hr4,hesne⟩:=ge.ro r _ rfl
    have cm:CmpOk (eLt (kapW k fun x=>if x∈es then rdW k (headB b x) else [])) 30 [.ptr 0 0,.ptr 3 0] r (fun h=>h.get 0=some (.row true 0 true (.sl ((aK k).map Ltr.val) u::rest))∧h.get 3=some (.row true (typed 93) false [.mp 2])∧MOk h 2 c E):=by
     refine ⟨fun h x y hI=>?_,fun h h' hI f=>⟨by rw [f.2 0 (get_lt hI.1) (by omega)];exact hI.1,by rw [f.2 3 (get_lt hI.2.1) (by omega)];exact hI.2.1,by rw [f.2 2 (get_lt hI.2.2.1) (by omega)];exact hI.2.2.1,hI.2.2.2⟩⟩
     refine CV_mono (entries1_c hk0 hk wm hu hI.1 hI.2.1 hI.2.2 x y) ?_
     rintro v h' ⟨rfl,fr⟩
     exact ⟨_,rfl,eI_lt _ x y,fr⟩
    have sc:=sort_c cm es (eLt_tot _ _) nd hes ⟨ge.g0,ge.g3,ge.mo⟩ gr
    rw [hκ] at sc
    replace fx:=Dum_eq
    (first|refine go ?_|exact goC);repeat' (first|refine gN ?_|exact gNc)
    refine CV_mono sc ?_
    rintro v H2 ⟨q1,q2,rfl⟩
    have g1:H2.get 1=some (.row true 0 true (bkC b)):=by rw [q2.2 1 (get_lt ge.g1) (by omega)];exact ge.g1
    rw [←hsl]
    have hSne:sortE k b L≠[]:=by
     intro q
     rw [q] at hsl
     have:=ge.sv
     rcases this with ⟨q2,_⟩|⟨r2,q2,_⟩
     ·simp at q2
     ·exact hesne (List.length_eq_zero_iff.1 hsl.symm)
    generalize sortE k b L=S at q1 hsl hSne ⊢
    clear sc cm ge gr hκ hS nd
    replace fx:=Dum_eq
    first|refine go ?_|exact goC
    refine w_loop (fun q vs H'=>∃ (i:Nat) (t18:Abs.Tok) (x1 x2 x3 x4 x5 x6 x7 x8 x9 x10 x11 x12 x13 x14 x15 x16 x17 x18 x19 x20 x21 x22 x23 x24 x25 x26 x27 x28 x29:AVal),q=S.length - i∧i≤S.length∧GrF (fun _=>False) Heap.empty H' 49 1 ((S.take i).map (listE b L)) t18∧((S.take i).map (listE b L)=[]→t18 = .nil)∧H'.get 1=some (.row true 0 true (bkC b))∧H'.get r=some (.row true 3 true (flat (S.map Ly.Id.val))) ∧
      vs=[x1,x2,.sl (L.map Ly.Id.val) t,x3,.ptr 1 0,.sl [] .nil,.sl [] .nil,.int .i64 0,x4,.ref r 0 S.length 3,x5,x6,x7,x8,x9,x10,x11,x12,.sl (((S.take i).map (listE b L)).map idsV) t18,x13,x14,x15,x16,x17,x18,x19,x20,x21,x22,x23,x24,.ref r 0 S.length 3,.int .i64 (S.length:Int),.int .i64 (i:Int),x25,x26,x27,x28,x29]) S.length
     ⟨0,.nil,_,_,_,_,_,_,_,_,_,_,_,_,_,_,_,_,_,_,_,_,_,_,_,_,_,_,_,_,_,rfl,by omega,(Gr.nil _ _ _).toF,fun _=>rfl,g1,q1,rfl⟩ ?_
    clear g1 q1
    rintro q vs H' ⟨i,t18,x1,x2,x3,x4,x5,x6,x7,x8,x9,x10,x11,x12,x13,x14,x15,x16,x17,x18,x19,x20,x21,x22,x23,x24,x25,x26,x27,x28,x29,rfl,hi,gl,hn18,g1,gr,rfl⟩
    by_cases hi2:i<S.length
    ·obtain ⟨e,hx⟩:∃ e,nth S i=e:=⟨_,rfl⟩
     have lv:=list_v b fit L hL sm ht e
     have l1:=loadG_flat0 (f:=Ly.Id.val) (sz:=3) (fun _=>rfl) S (n:=i) (m:=3) true true 3 true hi2 (by omega)
     rw [hx] at l1
     obtain ⟨l,hl⟩:∃ l,b.list L e=l:=⟨_,rfl⟩
     rw [hl] at lv
     have lt1:=get_lt g1
     have lt2:=get_lt gr
     have hll:l.length≤1000:=by
      have h1:=ok.list_nodup L e
      rw [hl] at h1
      have h2:=h1.length_le_of_subset (l₂:=L) fun z hz=>by rw [←hl] at hz;exact (ok.mem_list.1 hz).1
      rw [List.length_map] at h2
      omega
     replace fx:=aI @gr (aI @g1 (aI @l1 (aI @lv (aI @st (aI @bkL (aI @bkA (aI @bkT (aI @bk_agg (aI @st_bk (aI @st_id (aI @idVL (aI @idL (aI @idA (aI @idT (aI @id_agg @idS0)))))))))))))))
     (first|refine go ?_|exact goC);repeat' (first|refine gP ?_|exact gPc)
     refine w_loop (fun q vs H''=>∃ (j:Nat) (t20:Abs.Tok) (x1 x2 x3 x4 x5 x6 x7 x8 x9 x10 x11 x12 x13 x14 x15 x16 x17 x18 x19 x20 x21 x22 x23 x24 x25:AVal),q=l.length - j∧j≤l.length∧GrF (fun _=>False) Heap.empty H'' 49 1 ((S.take i).map (listE b L)) t18∧GrF (fun _=>False) Heap.empty H'' 62 3 ((l.take j).map Prod.fst) t20∧((l.take j).map Prod.fst=[]→t20 = .nil)∧H''.get 1=some (.row true 0 true (bkC b))∧H''.get r=some (.row true 3 true (flat (S.map Ly.Id.val))) ∧
       vs=[x1,x2,.sl (L.map Ly.Id.val) t,x3,.ptr 1 0,.sl [] .nil,.sl [] .nil,.int .i64 0,x4,.ref r 0 S.length 3,x5,x6,x7,x8,x9,x10,x11,x12,.sl (((S.take i).map (listE b L)).map idsV) t18,x13,.sl (((l.take j).map Prod.fst).map Ly.Id.val) t20,x14,x15,x16,x17,x18,x19,x20,x21,x22,x23,.ref r 0 S.length 3,.int .i64 (S.length:Int),.int .i64 (i:Int),x24,.sl (l.map numdV) (tk l),.int .i64 (l.length:Int),.int .i64 (j:Int),x25]) l.length
      ⟨0,.nil,_,_,_,_,_,_,_,_,_,_,_,_,_,_,_,_,_,_,_,_,_,_,_,_,_,rfl,by omega,gl.step ((Fr.refl _ _).push _),(Gr.nil _ _ _).toF,fun _=>rfl,get_push_old g1,get_push_old gr,rfl⟩ ?_
     clear gl g1 gr
     rintro q vs H'' ⟨j,t20,x1,x2,x3,x4,x5,x6,x7,x8,x9,x10,x11,x12,x13,x14,x15,x16,x17,x18,x19,x20,x21,x22,x23,x24,x25,rfl,hj,gl,gi,hn20,g1,gr,rfl⟩
     by_cases hj2:j<l.length
     ·have lt1:=get_lt g1
      replace fx:=aI @nmL (aI @nmA (aI @nmS0 (aI @nmT (aI @nmId (aI @idVL (aI @idL (aI @idA (aI @idT (aI @id_agg (aI @idS0 @idChk))))))))))
      (first|refine go ?_|exact goC);repeat' (first|refine gP ?_|exact gPc)
      have gl2:=gl.step ((Fr.refl (fun _=>False) H'').push (.row true (typed 105) true (numdV (nth l j)).cells))
      have gi2:=gi.step ((Fr.refl (fun _=>False) H'').push (.row true (typed 105) true (numdV (nth l j)).cells))
      refine append_F (f:=Ly.Id.val) (S:=fun _=>False) (h0:=Heap.empty) ((l.take j).map Prod.fst) [(nth l j).1] (fun _=>rfl) (fun _=>rfl) (fun _=>rfl) rfl rfl gi2 (by simp;omega) (by omega) (by omega) (by omega) fun H4 t21 gi4 hn4 keep4 oth4=>?_
      have gl4:=GrF.other gl2 gi2.gr (by decide) gi4.fr hn4 oth4
      have k1:=keep4 _ _ _ _ _ (get_push_old g1)
      have kr:=keep4 _ _ _ _ _ (get_push_old gr)
      have hta:(l.take j).map Prod.fst++[(nth l j).1]=(l.take (j+1)).map Prod.fst:=by
       rw [List.take_succ_eq_append_getElem hj2,←nth_eq hj2,List.map_append]
       rfl
      rw [hta] at gi4 ⊢
      replace fx:=Dum_eq
      first|refine go ?_|exact goC
      exact lp_n ⟨_,by omega,j+1,t21,_,_,_,_,_,_,_,_,_,_,_,_,_,_,_,_,_,_,_,_,_,_,_,_,_,rfl,by omega,gl4,gi4,fun q=>by rw [←hta] at q;simp at q,k1,kr,by push_cast;rfl⟩
     ·have hjl:l.take j=l:=List.take_of_length_le (by omega)
      rw [hjl] at gi hn20 ⊢
      have hls:l.map Prod.fst=listE b L e:=by rw [←hl];rfl
      rw [hls] at gi hn20 ⊢
      have sp:=gr_strip gi.gr hn20 ((listE b L e).map Ly.Id.val)
      replace fx:=@sp
      (first|refine go ?_|exact goC);repeat' (first|refine gN ?_|exact gNc)
      refine append_F (f:=idsV) (S:=fun _=>False) (h0:=Heap.empty) ((S.take i).map (listE b L)) [listE b L e] (fun _=>rfl) (fun _=>rfl) idsSt rfl rfl gl (by simp;omega) (by omega) (by omega) (by omega) fun H4 t19 gl4 hn4 keep4 oth4=>?_
      have k1:=keep4 _ _ _ _ _ g1
      have kr:=keep4 _ _ _ _ _ gr
      have hta:(S.take i).map (listE b L)++[listE b L e]=(S.take (i+1)).map (listE b L):=by
       rw [List.take_succ_eq_append_getElem hi2,←nth_eq hi2,hx,List.map_append]
       rfl
      rw [hta] at gl4 ⊢
      replace fx:=Dum_eq
      first|refine go ?_|exact goC
      exact lp_n ⟨_,by omega,i+1,t19,_,_,_,_,_,_,_,_,_,_,_,_,_,_,_,_,_,_,_,_,_,_,_,_,_,_,_,_,_,rfl,by omega,gl4,fun q=>by rw [←hta] at q;simp at q,k1,kr,by push_cast;rfl⟩
    ·have e2:S.take i=S:=List.take_of_length_le (by omega)
     rw [e2] at gl hn18 ⊢
     have pr:purify H' (.ref r 0 S.length 3)=some (idsV S):=by
      rw [pu_ref,readRef_flat (f:=Ly.Id.val) (g:=Ly.Id.val) (fun _=>rfl) (fun _=>rfl) true (fun _=>rfl) (fun _=>rfl) S gr (Nat.le_refl _),List.take_length]
      show some (AVal.sl _ .none)=some (.sl _ (tk S))
      have:tk S = .none:=by unfold tk;rw [if_neg (by simpa using hSne)]
      rw [this]
     have pl:=gr_pur gl.gr hn18 (((S.map (listE b L)).map idsV))
     have htk:tk (S.map (listE b L))=tk S:=by cases S<;>rfl
     replace fx:=Dum_eq
     (first|refine go ?_|exact goC);repeat' (first|refine gN ?_|exact gNc)
     rw [pr,pl,htk,List.map_map]
     rfl
end Go.Proofs.YthhdkkecolocdaaGreatDoor

namespace Go.Proofs.YthhdkkecolocdaaGreatDoor
open Go Go.Abs Go.Gt Go.Ly
theorem has_iff {b:Bk} {e x:Ly.Id}:b.has e x=true↔∃ y,b.entry x=some y∧y.id=e:=by
 unfold Bk.has
 cases hy:b.entry x with
 | none=>simp
 | some y=>simp [entry_sense hy]
theorem mem_listE {b:Bk} (ok:b.Ok) {L:List Ly.Id} {e x:Ly.Id}:x∈listE b L e↔x∈L∧b.has e x=true:=ok.mem_list
theorem mem_entsE {b:Bk} {L:List Ly.Id} {e:Ly.Id}:e∈entsE b L↔∃ x∈L,entOf b x=e:=by
 unfold entsE
 rw [mem_firsts]
 simp
theorem mem_sortE {k:Nat} {b:Bk} {L:List Ly.Id} {e:Ly.Id}:e∈sortE k b L↔e∈entsE b L:=(isort_perm _ _).mem_iff
theorem entsE_nodup (b:Bk) (L:List Ly.Id):(entsE b L).Nodup:=nodup_firsts _ _
theorem sortE_nodup (k:Nat) (b:Bk) (L:List Ly.Id):(sortE k b L).Nodup:=(isort_perm _ _).nodup_iff.2 (entsE_nodup b L)
theorem listE_nodup {b:Bk} (ok:b.Ok) (L:List Ly.Id) (e:Ly.Id):(listE b L e).Nodup:=ok.list_nodup L e
end Go.Proofs.YthhdkkecolocdaaGreatDoor

namespace Go.Proofs.YthhdkkecolocdaaGreatDoor
open Go Go.Abs Go.Gt Go.Ly
theorem PV_run {n g:Nat} {asx:List AVal} {r:AVal} (h:(match run F n (.call g asx Heap.empty) with|some (.val v h')=>purify h' v|_=>none)=some r):PV F g asx=some r:=by
 split at h
 ·rename_i v h' e
  exact PV_of (h':=h') (by unfold Gives;exact ⟨n,e⟩) h
 ·simp at h
theorem PV_ex {P:AVal→Prop} {g:Nat} {fn:AFunc} (hf:F g=some (.comp fn)) {args:List AVal}
  (w:WP F fn.body (fn.slots.map fun s=>(args[s]?).getD (.tup [])) Heap.empty (fun e vs h1=>(e = .normal∨e = .ret)∧resK fn.results vs h1 (fun v h2=>∃ r,purify h2 v=some r∧P r))):∃ r,PV F g args=some r∧P r:=by
 obtain ⟨r0,h',c,r,hp,q⟩:=gives_wp (p:=fun v h1=>∃ r,purify h1 v=some r∧P r) hf w
 exact ⟨r,PV_of c hp,q⟩
def StP (n:Nat) (v:AVal):Prop:=∃ cs,v = .agg cs∧cs.length=n∧cs.all AVal.one=true∧stripL cs=some cs
theorem small_v:PV F 22 []=some (.sl (smallL.map Ltr.val) .none):=PV_run (n:=200) (by kernel_rfl)
theorem rx1:PV F 58 [.sl [.int .i64 0,.int .i64 1,.int .i64 2,.int .i64 3,.int .i64 4,.int .i64 5,.int .i64 6,.int .i64 7,.int .i64 8,.int .i64 9] .none]=some (.agg [.int .i64 2,.sl [.int .i64 0,.int .i64 1,.int .i64 2,.int .i64 3,.int .i64 4,.int .i64 5,.int .i64 6,.int .i64 7,.int .i64 8,.int .i64 9] .none,.sl [] .nil]):=PV_run (n:=200) (by kernel_rfl)
theorem rx2:PV F 58 [.sl [.int .i64 63] .none]=some (.agg [.int .i64 2,.sl [.int .i64 63] .none,.sl [] .nil]):=PV_run (n:=200) (by kernel_rfl)
theorem rx3:PV F 58 [.sl [.int .i64 3] .none]=some (.agg [.int .i64 2,.sl [.int .i64 3] .none,.sl [] .nil]):=PV_run (n:=200) (by kernel_rfl)
theorem rx4:PV F 58 [.sl [.int .i64 0,.int .i64 3] .none]=some (.agg [.int .i64 2,.sl [.int .i64 0,.int .i64 3] .none,.sl [] .nil]):=PV_run (n:=200) (by kernel_rfl)
def evC:List AVal:=[.int .i64 2,.sl [.int .i64 0,.int .i64 1,.int .i64 2,.int .i64 3,.int .i64 4,.int .i64 5,.int .i64 6,.int .i64 7,.int .i64 8,.int .i64 9] .none,.sl [] .nil]
def stC:List AVal:=[.int .i64 5,.sl [] .nil,.sl [.agg evC] .none]
def seC:List AVal:=[.int .i64 3,.sl [] .nil,.sl [.agg evC,.agg stC] .none]
theorem rx5:PV F 61 [.agg evC]=some (.agg stC):=PV_run (n:=200) (by kernel_rfl)
theorem rx6:PV F 60 [.sl [.agg evC,.agg stC] .none]=some (.agg seC):=PV_run (n:=200) (by kernel_rfl)
theorem rx7:PV F 59 [.agg seC]=some (.agg seC):=PV_run (n:=200) (by kernel_rfl)
def sfC:List AVal:=[.int .i64 3,.sl [] .nil,.sl [.agg [.int .i64 2,.sl [.int .i64 63] .none,.sl [] .nil],.agg [.int .i64 2,.sl [.int .i64 3] .none,.sl [] .nil]] .none]
theorem rx8:PV F 60 [.sl [.agg [.int .i64 2,.sl [.int .i64 63] .none,.sl [] .nil],.agg [.int .i64 2,.sl [.int .i64 3] .none,.sl [] .nil]] .none]=some (.agg sfC):=PV_run (n:=200) (by kernel_rfl)
theorem rx9:PV F 59 [.agg sfC]=some (.agg sfC):=PV_run (n:=200) (by kernel_rfl)
theorem font_v {l:List Int} {t:Abs.Tok} (ht:Pt t) (hl:∀ x∈l,i64 x):∃ r,PV F 25 [.sl (l.map (.int .i64)) t]=some r∧StP 5 r:=by
 refine PV_ex (fn:=c25) rfl ?_
 simp only [uT,c25]
 have st:=strip_pt ht (xs:=l.map (.int .i64))
 have av:=fun (i m:Int) (hm:0<m)=>at_v (t:=t) (i:=i) hl hm
 have bv:=fun (i m:Int) (hm:0<m)=>at_bound l i (m:=m) hm
 have a3:=av 3 6 (by omega)
 have a4:=av 4 6 (by omega)
 have a5:=av 5 5 (by omega)
 have a6:=av 6 60 (by omega)
 have a7:=av 7 2 (by omega)
 have b3:=bv 3 6 (by omega)
 have b4:=bv 4 6 (by omega)
 have b5:=bv 5 5 (by omega)
 have b6:=bv 6 60 (by omega)
 by_cases h7:atS l 7 2=1
 ·replace fx:=aI @st (aI @a3 (aI @a4 (aI @a5 (aI @a6 @a7))))
  (first|refine go ?_|exact goC);repeat' (first|refine gP ?_|exact gPc)
  exact ⟨_,rfl,rfl,rfl,rfl⟩
 ·replace fx:=aI @st (aI @a3 (aI @a4 (aI @a5 (aI @a6 @a7))))
  (first|refine go ?_|exact goC);repeat' (first|refine gN ?_|exact gNc)
  exact ⟨_,rfl,rfl,rfl,rfl⟩
mutual
theorem strip_pu (h:Heap):∀ (x:AVal) {y:AVal},strip x=some y→purify h x=some y
 | .bool _,_,e=>by simpa [purify,strip] using e
 | .int _ _,_,e=>by simpa [purify,strip] using e
 | .str _,_,e=>by simpa [purify,strip] using e
 | .sl xs (.own _ _),_,e=>by simpa [purify,strip] using e
 | .sl xs .nil,_,e=>by simpa [purify,strip] using e
 | .sl xs .none,_,e=>by simpa [purify,strip] using e
 | .sl xs .full,_,e=>by simpa [purify,strip] using e
 | .nilptr,_,e=>by simpa [purify,strip] using e
 | .ptr _ _,_,e=>by simp [strip] at e
 | .rp _,_,e=>by simp [strip] at e
 | .ref id off len sz,y,e=>by simp [strip] at e
 | .fn f cap,y,e=>by
   simp only [strip,purify,Option.map_eq_some_iff] at e ⊢
   obtain ⟨c,hc,rfl⟩:=e
   exact ⟨c,stripL_pu h cap hc,rfl⟩
 | .nilfn,_,e=>by simpa [purify,strip] using e
 | .nilif,_,e=>by simpa [purify,strip] using e
 | .mp _,_,e=>by simp [strip] at e
 | .nilmp,_,e=>by simpa [purify,strip] using e
 | .agg cs,y,e=>by
   simp only [strip,purify,Option.map_eq_some_iff] at e ⊢
   obtain ⟨c,hc,rfl⟩:=e
   exact ⟨c,stripL_pu h cs hc,rfl⟩
 | .tup cs,y,e=>by
   simp only [strip,purify,Option.map_eq_some_iff] at e ⊢
   obtain ⟨c,hc,rfl⟩:=e
   exact ⟨c,stripL_pu h cs hc,rfl⟩
 | .yld _,_,e=>by simp [strip] at e
 | .bad,_,e=>by simp [strip] at e
theorem stripL_pu (h:Heap):∀ (xs:List AVal) {ys:List AVal},stripL xs=some ys→purifyL h xs=some ys
 | [],_,e=>by simpa [purifyL,stripL] using e
 | x::xs,ys,e=>by
   simp only [stripL,purifyL] at e ⊢
   split at e
   ·rename_i y ys' h1 h2
    rw [strip_pu h x h1,stripL_pu h xs h2];exact e
   ·simp at e
end
theorem strip_sl (xs:List AVal) (t:Abs.Tok):∃ c,strip (.sl xs t)=some c∧strip c=some c∧c.one=true:=by cases t<;>exact ⟨_,rfl,rfl,rfl⟩
theorem sl2 (n:Int) (h0:0≤n) (h1:n<3):sliceA 1 (.sl [.str [100,114,111,112],.str [100,111,117,98,108,101]] .none) none (some (.int .i64 n))=some (.sl (([[100,114,111,112],[100,111,117,98,108,101]].take n.toNat).map strV) .none) :=
 slice_sl_b strV [[100,114,111,112],[100,111,117,98,108,101]] .none .i64 n h0 (by simp;omega) (fun _=>rfl) (by simp)
theorem grammar_v {l:List Int} {t:Abs.Tok} (ht:Pt t) (hl:∀ x∈l,i64 x):∃ r,PV F 23 [.sl (l.map (.int .i64)) t]=some r∧StP 4 r:=by
 refine PV_ex (fn:=c23) rfl ?_
 simp only [uT,c23]
 have st:=strip_pt ht (xs:=l.map (.int .i64))
 have av:=fun (i m:Int) (hm:0<m)=>at_v (t:=t) (i:=i) hl hm
 have a0:=av 0 3 (by omega)
 have a1:=av 1 2 (by omega)
 have a2:=av 2 3 (by omega)
 have b2:=at_bound l 2 (m:=3) (by omega)
 have s2:=sl2 _ b2.1 b2.2
 have r5:=rx5
 have r6:=rx6
 have r7:=rx7
 have r8:=rx8
 have r9:=rx9
 unfold seC stC evC at r5 r6 r7
 unfold sfC at r8 r9
 by_cases h0:atS l 0 3=1
 ·replace fx:=aI @st (aI @a0 (aI @a1 (aI @a2 (aI @s2 (aI @rx1 (aI @rx2 (aI @rx3 (aI @rx4 (aI @r5 (aI @r6 (aI @r7 (aI @r8 @r9))))))))))))
  (first|refine go ?_|exact goC);repeat' (first|refine gP ?_|exact gPc)
  exact ⟨_,rfl,rfl,rfl,rfl⟩
 ·replace fx:=aI @st (aI @a0 (aI @a1 (aI @a2 (aI @s2 (aI @rx1 (aI @rx2 (aI @rx3 (aI @rx4 (aI @r5 (aI @r6 (aI @r7 (aI @r8 @r9))))))))))))
  (first|refine go ?_|exact goC);repeat' (first|refine gN ?_|exact gNc)
  exact ⟨_,rfl,rfl,rfl,rfl⟩
structure Tm where
 o:Tx
 u:Int
 c:Int
 deriving Inhabited
def Tm.cells (x:Tm):List AVal:=[.str x.o,.int .i64 x.u,.int .i64 x.c]
def Tm.val (x:Tm):AVal := .agg x.cells
theorem tmVL (x:Tm):x.val.cells=x.cells:=rfl
theorem tmL (x:Tm):x.cells.length=3:=rfl
theorem tm0 (x:Tm):List.take 1 x.cells=[.str x.o]:=rfl
def coreT:List Tx:=[[97],[97,110],[98,101],[99]]
theorem core_c {h:Heap} {K:AVal→Heap→Prop} (k:K (.sl (coreT.map strV) (.own h.next 1)) (h.push (.tok 9))):CV F 24 [] h K:=by
 refine CV_wp (fn:=c24) rfl ?_
 simp only [uT,c24]
 have lb:∀ H,litA 1 9 4 1 false [.str []] (some [.str [97],.str [97,110],.str [98,101],.str [99]]) H=some (.sl (coreT.map strV) (.own H.next 1),H.push (.tok 9)):=fun H=>lit_own rfl rfl rfl rfl
 replace fx:=@lb
 first|refine go ?_|exact goC
 exact k
def hsZ:List AVal:=[.sl [] .nil,.sl [] .nil,.sl [] .nil,.sl [] .nil,.sl [] .nil,.sl [] .nil,.sl [] .nil,.sl [] .nil,.sl [] .nil,.int .i64 0,.int .i64 0,.int .i64 0,.int .i64 0,.sl [] .nil,.int .i64 0,.int .i64 0,.int .i64 0]
def hsRow (g0 g1 g2 g3 core terms prints f0 f1 f2 f3 f4:AVal) (w r c:Int):List AVal:=[.sl (smallL.map Ltr.val) .none,g0,g1,g2,g3,core,.sl [] .nil,terms,prints,f0,f1,f2,f3,f4,.int .i64 w,.int .i64 r,.int .i64 c]
theorem StP4 {v:AVal} (h:StP 4 v):∃ a b c d,v = .agg [a,b,c,d]∧a.one=true∧b.one=true∧c.one=true∧d.one=true∧strip a=some a∧strip b=some b∧strip c=some c∧strip d=some d:=by
 obtain ⟨cs,rfl,h1,h2,h3⟩:=h
 match cs,h1 with
 | [a,b,c,d],_ =>
   refine ⟨a,b,c,d,rfl,?_⟩
   simp only [List.all_cons,List.all_nil,Bool.and_true,Bool.and_eq_true] at h2
   refine ⟨h2.1,h2.2.1,h2.2.2.1,h2.2.2.2,?_⟩
   cases ha:strip a<;>cases hb:strip b<;>cases hc:strip c<;>cases hd:strip d<;>simp [stripL,ha,hb,hc,hd] at h3 ⊢
   exact h3
theorem StP5 {v:AVal} (h:StP 5 v):∃ a b c d e,v = .agg [a,b,c,d,e]∧a.one=true∧b.one=true∧c.one=true∧d.one=true∧e.one=true∧strip a=some a∧strip b=some b∧strip c=some c∧strip d=some d∧strip e=some e:=by
 obtain ⟨cs,rfl,h1,h2,h3⟩:=h
 match cs,h1 with
 | [a,b,c,d,e],_ =>
   refine ⟨a,b,c,d,e,rfl,?_⟩
   simp only [List.all_cons,List.all_nil,Bool.and_true,Bool.and_eq_true] at h2
   refine ⟨h2.1,h2.2.1,h2.2.2.1,h2.2.2.2.1,h2.2.2.2.2,?_⟩
   cases ha:strip a<;>cases hb:strip b<;>cases hc:strip c<;>cases hd:strip d<;>cases he:strip e<;>simp [stripL,ha,hb,hc,hd,he] at h3 ⊢
   exact h3
def ownL:List Tx:=[[99,114,111,119,110],[104,101,105,114,115],[112,114,101,115,115]]
def HouP (r:AVal):Prop:=∃ rest,r = .agg (.sl (smallL.map Ltr.val) .none::rest)∧rest.length=16∧rest.all AVal.one=true∧stripL rest=some rest
theorem house_v {l:List Int} {t:Abs.Tok} (ht:Pt t) (hl:∀ x∈l,i64 x):∃ r,PV F 8 [.sl (l.map (.int .i64)) t]=some r∧HouP r:=by
 refine PV_ex (fn:=c8) rfl ?_
 simp only [uT,c8]
 have st:=strip_pt ht (xs:=l.map (.int .i64))
 have av:=fun (i m:Int) (hm:0<m)=>at_v (t:=t) (i:=i) hl hm
 have bv:=fun (i m:Int) (hm:0<m)=>at_bound l i (m:=m) hm
 obtain ⟨g,hg,sg⟩:=grammar_v ht hl
 obtain ⟨g0,g1,g2,g3,rfl,o0,o1,o2,o3,s0,s1,s2,s3⟩:=StP4 sg
 obtain ⟨f,hf,sf⟩:=font_v ht hl
 obtain ⟨f0,f1,f2,f3,f4,rfl,p0,p1,p2,p3,p4,q0,q1,q2,q3,q4⟩:=StP5 sf
 have a20:=av 20 121 (by omega)
 have a21:=av 21 5 (by omega)
 have a22:=av 22 2 (by omega)
 have a23:=av 23 4 (by omega)
 have b20:=bv 20 121 (by omega)
 have b21:=bv 21 5 (by omega)
 have b22:=bv 22 2 (by omega)
 have lo:∀ H,litA 0 9 3 1 false [.str []] (some [.str [99,114,111,119,110],.str [104,101,105,114,115],.str [112,114,101,115,115]]) H=some (.sl (ownL.map strV) .none,H):=fun H=>lit_none rfl rfl rfl rfl
 replace fx:=aI @st (aI @small_v (aI @hg (aI @hf (aI @a20 (aI @a21 (aI @a22 @a23))))))
 first|refine go ?_|exact goC
 refine core_c ?_
 by_cases h23:atS l 23 4=1
 ·replace fx:=aI @st (aI @small_v (aI @hg (aI @hf (aI @a20 (aI @a21 (aI @a22 (aI @a23 (aI @o0 (aI @o1 (aI @o2 (aI @o3 (aI @p0 (aI @p1 (aI @p2 (aI @p3 @p4)))))))))))))))
  (first|refine go ?_|exact goC);repeat' (first|refine gP ?_|exact gPc)
  refine append_F (f:=strV) (S:=fun _=>False) (h0:=Heap.empty) coreT [[99,97,116],[116,101,101,115]] (fun _=>rfl) (fun _=>rfl) (fun _=>rfl) rfl rfl ⟨.inr ⟨1,rfl,rfl⟩,(((Fr.refl _ _).push _).push _).push _,fun _ _ _=>Nat.zero_le _⟩ (by simp [coreT]) (by omega) (by omega) (by omega) fun H2 t2 G2 n2 keep2 oth2=>?_
  have k0:=keep2 0 _ _ _ _ rfl
  have k2:=keep2 2 _ _ _ _ rfl
  have n2':3≤H2.next:=n2
  obtain ⟨core',hc,hc2,hc3⟩:=strip_sl ((coreT++[[99,97,116],[116,101,101,115]]).map strV) t2
  have h1c:(AVal.sl ((coreT++[[99,97,116],[116,101,101,115]]).map strV) t2).one=true:=rfl
  replace fx:=aI @k0 (aI @k2 (aI @h1c @lo))
  first|refine go ?_|exact goC
  generalize AVal.sl ((coreT++[[99,97,116],[116,101,101,115]]).map strV) t2=core at hc h1c ⊢
  have hfr:Fr (fun _=>False) Heap.empty (H2.put 2 (some (.row true (typed 47) true (hsRow g0 g1 g2 g3 core (.sl [] .nil) (.sl [] .nil) f0 f1 f2 f3 f4 (60+atS l 20 121) (4+atS l 21 5) (1+atS l 22 2))))):=⟨Nat.zero_le _,fun j hj _=>absurd hj (Nat.not_lt_zero _)⟩
  have hnx2:3≤(H2.put 2 (some (.row true (typed 47) true (hsRow g0 g1 g2 g3 core (.sl [] .nil) (.sl [] .nil) f0 f1 f2 f3 f4 (60+atS l 20 121) (4+atS l 21 5) (1+atS l 22 2))))).next:=by rw [put_next];exact n2'
  have hr0:(H2.put 2 (some (.row true (typed 47) true (hsRow g0 g1 g2 g3 core (.sl [] .nil) (.sl [] .nil) f0 f1 f2 f3 f4 (60+atS l 20 121) (4+atS l 21 5) (1+atS l 22 2))))).get 0=_:=(get_put_ne (by decide)).trans k0
  have hr2:(H2.put 2 (some (.row true (typed 47) true (hsRow g0 g1 g2 g3 core (.sl [] .nil) (.sl [] .nil) f0 f1 f2 f3 f4 (60+atS l 20 121) (4+atS l 21 5) (1+atS l 22 2))))).get 2=_:=get_put_old k2
  refine w_loop (fun k vs H=>∃ (i:Nat) (T:List Tm) (t2:Abs.Tok) (x1 x2 x3 x4:AVal),k=3 - i∧i≤3∧T.length≤i∧GrF (fun _=>False) Heap.empty H 89 3 T t2∧3≤H.next∧H.get 0=some (.row true (typed 47) true hsZ)∧H.get 2=some (.row true (typed 47) true (hsRow g0 g1 g2 g3 core (.sl (T.map Tm.val) t2) (.sl [] .nil) f0 f1 f2 f3 f4 (60+atS l 20 121) (4+atS l 21 5) (1+atS l 22 2))) ∧
    vs=[.sl (l.map (.int .i64)) t,.ptr 0 0,.sl (smallL.map Ltr.val) .none,.ptr 2 0,.sl (ownL.map strV) .none,.int .i64 (i:Int),x1,x2,x3,x4]) 3
   ⟨0,[],.nil,_,_,_,_,rfl,by omega,by simp,⟨.inl ⟨rfl,.inl rfl⟩,hfr,by simp⟩,hnx2,hr0,hr2,rfl⟩ ?_
  rintro k vs H ⟨i,T,t2,x1,x2,x3,x4,rfl,hi,hT,hgr,hnx,r0,r2,rfl⟩
  unfold hsZ at r0
  unfold hsRow at r2
  by_cases hi3:i<3
  ·have e1:=av (24+i) 3 (by omega)
   have e2:=av (27+i) 30 (by omega)
   have e3:=av (30+i) 5 (by omega)
   have c2:=bv (27+i) 30 (by omega)
   have c3:=bv (30+i) 5 (by omega)
   have ol:ownL.length=3:=rfl
   by_cases h24:atS l (24+i) 3=2
   ·replace fx:=aI @st (aI @e1 (aI @r0 @r2))
    (first|refine go ?_|exact goC);repeat' (first|refine gP ?_|exact gPc)
    exact lp_n ⟨_,by omega,i+1,T,t2,_,_,_,_,rfl,by omega,by omega,hgr,hnx,r0,r2,by push_cast;rfl⟩
   ·replace fx:=aI @st (aI @e1 (aI @e2 (aI @e3 (aI @r0 (aI @r2 (aI @ol @strV_eq))))))
    (first|refine go ?_|exact goC);repeat' (first|refine gP ?_|exact gPc|refine gN ?_|exact gNc)
    refine append_F (f:=Tm.val) (S:=fun _=>False) (h0:=Heap.empty) T [⟨nth ownL i,1+atS l (27+i) 30,atS l (30+i) 5*100⟩] (fun _=>rfl) (fun _=>rfl) (fun _=>rfl) rfl rfl hgr (by simp;omega) (by omega) (by omega) (by omega) fun H5 t5 G5 n5 keep5 oth5=>?_
    have k0:=keep5 0 _ _ _ _ r0
    have k2:=keep5 2 _ _ _ _ r2
    replace fx:=aI @k0 @k2
    first|refine go ?_|exact goC
    exact lp_n ⟨_,by omega,i+1,T++[⟨nth ownL i,1+atS l (27+i) 30,atS l (30+i) 5*100⟩],t5,_,_,_,_,rfl,by omega,by simp;omega,GrF.put G5 k2 (Nat.zero_le _) _,by rw [put_next];omega,by rw [get_put_ne (by decide)];exact k0,get_put_old k2,by push_cast;rfl⟩
  ·have a33:=av 33 2 (by omega)
   have a34:=av 34 40 (by omega)
   have a35:=av 35 60 (by omega)
   have b34:=bv 34 40 (by omega)
   have b35:=bv 35 60 (by omega)
   obtain ⟨tt,ht1,ht2,ht3⟩:=strip_sl (T.map Tm.val) t2
   have w1:=fun H=>strip_pu H _ ht1
   have w2:=fun H=>strip_pu H _ hc
   have w3:=fun H=>strip_pu H _ s0
   have w4:=fun H=>strip_pu H _ s1
   have w5:=fun H=>strip_pu H _ s2
   have w6:=fun H=>strip_pu H _ s3
   have w7:=fun H=>strip_pu H _ q0
   have w8:=fun H=>strip_pu H _ q1
   have w9:=fun H=>strip_pu H _ q2
   have v1:=fun H=>strip_pu H _ q3
   have v2:=fun H=>strip_pu H _ q4
   have r02:∀ o,(H.put 2 o).get 0=_:=fun o=>(get_put_ne (by decide)).trans r0
   have r03:∀ o o',((H.put 2 o).put 0 o').get 0=o':=fun o o'=>get_put_old (r02 o)
   have hou:∀ pr,pr.one=true→strip pr=some pr→HouP (.agg [.sl (smallL.map Ltr.val) .none,g0,g1,g2,g3,core',.sl [] .nil,tt,pr,f0,f1,f2,f3,f4,.int .i64 (60+atS l 20 121),.int .i64 (4+atS l 21 5),.int .i64 (1+atS l 22 2)]):=fun pr z1 z2=>⟨_,rfl,rfl,by
    have n1:(AVal.sl [] .nil).one=true:=rfl
    have n2:∀ n,(AVal.int .i64 n).one=true:=fun _=>rfl
    simp only [List.all_cons,List.all_nil,n1,n2,o0,o1,o2,o3,p0,p1,p2,p3,p4,hc3,ht3,z1,Bool.and_true,Bool.true_and],by
    have n1:strip (.sl [] .nil)=some (.sl [] .nil):=rfl
    have n2:∀ n,strip (.int .i64 n)=some (.int .i64 n):=fun _=>rfl
    simp only [stripL,s0,s1,s2,s3,q0,q1,q2,q3,q4,hc2,ht2,z2,n1,n2]⟩
   have hlet:strip (.sl (smallL.map Ltr.val) .none)=some (.sl (smallL.map Ltr.val) .none):=rfl
   by_cases h33:atS l 33 2=1
   ·by_cases hT0:0<T.length
    ·replace fx:=aI @st (aI @a33 (aI @a34 (aI @a35 (aI @r0 (aI @r2 (aI @r02 (aI @r03 (aI @w1 (aI @w2 (aI @w3 (aI @w4 (aI @w5 (aI @w6 (aI @w7 (aI @w8 (aI @w9 (aI @v1 (aI @v2 (aI @tmVL (aI @tmL (aI @tm0 (aI @h1c (aI @o0 (aI @o1 (aI @o2 (aI @o3 (aI @p0 (aI @p1 (aI @p2 (aI @p3 (aI @p4 @hlet)))))))))))))))))))))))))))))))
     (first|refine go ?_|exact goC);repeat' (first|refine gP ?_|exact gPc|refine gN ?_|exact gNc)
     exact hou _ rfl rfl
    ·replace fx:=aI @st (aI @a33 (aI @r0 (aI @r2 (aI @r02 (aI @w1 (aI @w2 (aI @w3 (aI @w4 (aI @w5 (aI @w6 (aI @w7 (aI @w8 (aI @w9 (aI @v1 (aI @v2 (aI @h1c (aI @o0 (aI @o1 (aI @o2 (aI @o3 (aI @p0 (aI @p1 (aI @p2 (aI @p3 (aI @p4 @hlet)))))))))))))))))))))))))
     (first|refine go ?_|exact goC);repeat' (first|refine gP ?_|exact gPc|refine gN ?_|exact gNc)
     exact hou _ rfl rfl
   ·replace fx:=aI @st (aI @a33 (aI @r0 (aI @r2 (aI @r02 (aI @w1 (aI @w2 (aI @w3 (aI @w4 (aI @w5 (aI @w6 (aI @w7 (aI @w8 (aI @w9 (aI @v1 (aI @v2 (aI @h1c (aI @o0 (aI @o1 (aI @o2 (aI @o3 (aI @p0 (aI @p1 (aI @p2 (aI @p3 (aI @p4 @hlet)))))))))))))))))))))))))
    (first|refine go ?_|exact goC);repeat' (first|refine gN ?_|exact gNc)
    exact hou _ rfl rfl
 ·replace fx:=aI @st (aI @small_v (aI @hg (aI @hf (aI @a20 (aI @a21 (aI @a22 (aI @a23 (aI @lo (aI @o0 (aI @o1 (aI @o2 (aI @o3 (aI @p0 (aI @p1 (aI @p2 (aI @p3 @p4))))))))))))))))
  (first|refine go ?_|exact goC);repeat' (first|refine gN ?_|exact gNc)
  obtain ⟨core',hc,hc2,hc3⟩:=strip_sl (coreT.map strV) (.own 1 1)
  have h1c:(AVal.sl (coreT.map strV) (.own 1 1)).one=true:=rfl
  generalize AVal.sl (coreT.map strV) (.own 1 1)=core at hc h1c ⊢
  have hfr:Fr (fun _=>False) Heap.empty (((Heap.empty.push (.row true (typed 47) true hsZ)).push (.tok 9)).push (.row true (typed 47) true (hsRow g0 g1 g2 g3 core (.sl [] .nil) (.sl [] .nil) f0 f1 f2 f3 f4 (60+atS l 20 121) (4+atS l 21 5) (1+atS l 22 2)))):=(((Fr.refl _ _).push _).push _).push _
  have hnx2:3≤(((Heap.empty.push (.row true (typed 47) true hsZ)).push (.tok 9)).push (.row true (typed 47) true (hsRow g0 g1 g2 g3 core (.sl [] .nil) (.sl [] .nil) f0 f1 f2 f3 f4 (60+atS l 20 121) (4+atS l 21 5) (1+atS l 22 2)))).next:=by simp only [push_next];exact Nat.le_refl 3
  have hr0:(((Heap.empty.push (.row true (typed 47) true hsZ)).push (.tok 9)).push (.row true (typed 47) true (hsRow g0 g1 g2 g3 core (.sl [] .nil) (.sl [] .nil) f0 f1 f2 f3 f4 (60+atS l 20 121) (4+atS l 21 5) (1+atS l 22 2)))).get 0=some (.row true (typed 47) true hsZ):=rfl
  have hr2:(((Heap.empty.push (.row true (typed 47) true hsZ)).push (.tok 9)).push (.row true (typed 47) true (hsRow g0 g1 g2 g3 core (.sl [] .nil) (.sl [] .nil) f0 f1 f2 f3 f4 (60+atS l 20 121) (4+atS l 21 5) (1+atS l 22 2)))).get 2=some (.row true (typed 47) true (hsRow g0 g1 g2 g3 core (.sl [] .nil) (.sl [] .nil) f0 f1 f2 f3 f4 (60+atS l 20 121) (4+atS l 21 5) (1+atS l 22 2))):=rfl
  refine w_loop (fun k vs H=>∃ (i:Nat) (T:List Tm) (t2:Abs.Tok) (x1 x2 x3 x4:AVal),k=3 - i∧i≤3∧T.length≤i∧GrF (fun _=>False) Heap.empty H 89 3 T t2∧3≤H.next∧H.get 0=some (.row true (typed 47) true hsZ)∧H.get 2=some (.row true (typed 47) true (hsRow g0 g1 g2 g3 core (.sl (T.map Tm.val) t2) (.sl [] .nil) f0 f1 f2 f3 f4 (60+atS l 20 121) (4+atS l 21 5) (1+atS l 22 2))) ∧
    vs=[.sl (l.map (.int .i64)) t,.ptr 0 0,.sl (smallL.map Ltr.val) .none,.ptr 2 0,.sl (ownL.map strV) .none,.int .i64 (i:Int),x1,x2,x3,x4]) 3
   ⟨0,[],.nil,_,_,_,_,rfl,by omega,by simp,⟨.inl ⟨rfl,.inl rfl⟩,hfr,by simp⟩,hnx2,hr0,hr2,rfl⟩ ?_
  rintro k vs H ⟨i,T,t2,x1,x2,x3,x4,rfl,hi,hT,hgr,hnx,r0,r2,rfl⟩
  unfold hsZ at r0
  unfold hsRow at r2
  by_cases hi3:i<3
  ·have e1:=av (24+i) 3 (by omega)
   have e2:=av (27+i) 30 (by omega)
   have e3:=av (30+i) 5 (by omega)
   have c2:=bv (27+i) 30 (by omega)
   have c3:=bv (30+i) 5 (by omega)
   have ol:ownL.length=3:=rfl
   by_cases h24:atS l (24+i) 3=2
   ·replace fx:=aI @st (aI @e1 (aI @r0 @r2))
    (first|refine go ?_|exact goC);repeat' (first|refine gP ?_|exact gPc)
    exact lp_n ⟨_,by omega,i+1,T,t2,_,_,_,_,rfl,by omega,by omega,hgr,hnx,r0,r2,by push_cast;rfl⟩
   ·replace fx:=aI @st (aI @e1 (aI @e2 (aI @e3 (aI @r0 (aI @r2 (aI @ol @strV_eq))))))
    (first|refine go ?_|exact goC);repeat' (first|refine gP ?_|exact gPc|refine gN ?_|exact gNc)
    refine append_F (f:=Tm.val) (S:=fun _=>False) (h0:=Heap.empty) T [⟨nth ownL i,1+atS l (27+i) 30,atS l (30+i) 5*100⟩] (fun _=>rfl) (fun _=>rfl) (fun _=>rfl) rfl rfl hgr (by simp;omega) (by omega) (by omega) (by omega) fun H5 t5 G5 n5 keep5 oth5=>?_
    have k0:=keep5 0 _ _ _ _ r0
    have k2:=keep5 2 _ _ _ _ r2
    replace fx:=aI @k0 @k2
    first|refine go ?_|exact goC
    exact lp_n ⟨_,by omega,i+1,T++[⟨nth ownL i,1+atS l (27+i) 30,atS l (30+i) 5*100⟩],t5,_,_,_,_,rfl,by omega,by simp;omega,GrF.put G5 k2 (Nat.zero_le _) _,by rw [put_next];omega,by rw [get_put_ne (by decide)];exact k0,get_put_old k2,by push_cast;rfl⟩
  ·have a33:=av 33 2 (by omega)
   have a34:=av 34 40 (by omega)
   have a35:=av 35 60 (by omega)
   have b34:=bv 34 40 (by omega)
   have b35:=bv 35 60 (by omega)
   obtain ⟨tt,ht1,ht2,ht3⟩:=strip_sl (T.map Tm.val) t2
   have w1:=fun H=>strip_pu H _ ht1
   have w2:=fun H=>strip_pu H _ hc
   have w3:=fun H=>strip_pu H _ s0
   have w4:=fun H=>strip_pu H _ s1
   have w5:=fun H=>strip_pu H _ s2
   have w6:=fun H=>strip_pu H _ s3
   have w7:=fun H=>strip_pu H _ q0
   have w8:=fun H=>strip_pu H _ q1
   have w9:=fun H=>strip_pu H _ q2
   have v1:=fun H=>strip_pu H _ q3
   have v2:=fun H=>strip_pu H _ q4
   have r02:∀ o,(H.put 2 o).get 0=_:=fun o=>(get_put_ne (by decide)).trans r0
   have r03:∀ o o',((H.put 2 o).put 0 o').get 0=o':=fun o o'=>get_put_old (r02 o)
   have hou:∀ pr,pr.one=true→strip pr=some pr→HouP (.agg [.sl (smallL.map Ltr.val) .none,g0,g1,g2,g3,core',.sl [] .nil,tt,pr,f0,f1,f2,f3,f4,.int .i64 (60+atS l 20 121),.int .i64 (4+atS l 21 5),.int .i64 (1+atS l 22 2)]):=fun pr z1 z2=>⟨_,rfl,rfl,by
    have n1:(AVal.sl [] .nil).one=true:=rfl
    have n2:∀ n,(AVal.int .i64 n).one=true:=fun _=>rfl
    simp only [List.all_cons,List.all_nil,n1,n2,o0,o1,o2,o3,p0,p1,p2,p3,p4,hc3,ht3,z1,Bool.and_true,Bool.true_and],by
    have n1:strip (.sl [] .nil)=some (.sl [] .nil):=rfl
    have n2:∀ n,strip (.int .i64 n)=some (.int .i64 n):=fun _=>rfl
    simp only [stripL,s0,s1,s2,s3,q0,q1,q2,q3,q4,hc2,ht2,z2,n1,n2]⟩
   have hlet:strip (.sl (smallL.map Ltr.val) .none)=some (.sl (smallL.map Ltr.val) .none):=rfl
   by_cases h33:atS l 33 2=1
   ·by_cases hT0:0<T.length
    ·replace fx:=aI @st (aI @a33 (aI @a34 (aI @a35 (aI @r0 (aI @r2 (aI @r02 (aI @r03 (aI @w1 (aI @w2 (aI @w3 (aI @w4 (aI @w5 (aI @w6 (aI @w7 (aI @w8 (aI @w9 (aI @v1 (aI @v2 (aI @tmVL (aI @tmL (aI @tm0 (aI @h1c (aI @o0 (aI @o1 (aI @o2 (aI @o3 (aI @p0 (aI @p1 (aI @p2 (aI @p3 (aI @p4 @hlet)))))))))))))))))))))))))))))))
     (first|refine go ?_|exact goC);repeat' (first|refine gP ?_|exact gPc|refine gN ?_|exact gNc)
     exact hou _ rfl rfl
    ·replace fx:=aI @st (aI @a33 (aI @r0 (aI @r2 (aI @r02 (aI @w1 (aI @w2 (aI @w3 (aI @w4 (aI @w5 (aI @w6 (aI @w7 (aI @w8 (aI @w9 (aI @v1 (aI @v2 (aI @h1c (aI @o0 (aI @o1 (aI @o2 (aI @o3 (aI @p0 (aI @p1 (aI @p2 (aI @p3 (aI @p4 @hlet)))))))))))))))))))))))))
     (first|refine go ?_|exact goC);repeat' (first|refine gP ?_|exact gPc|refine gN ?_|exact gNc)
     exact hou _ rfl rfl
   ·replace fx:=aI @st (aI @a33 (aI @r0 (aI @r2 (aI @r02 (aI @w1 (aI @w2 (aI @w3 (aI @w4 (aI @w5 (aI @w6 (aI @w7 (aI @w8 (aI @w9 (aI @v1 (aI @v2 (aI @h1c (aI @o0 (aI @o1 (aI @o2 (aI @o3 (aI @p0 (aI @p1 (aI @p2 (aI @p3 (aI @p4 @hlet)))))))))))))))))))))))))
    (first|refine go ?_|exact goC);repeat' (first|refine gN ?_|exact gNc)
    exact hou _ rfl rfl
end Go.Proofs.YthhdkkecolocdaaGreatDoor

namespace Go.Proofs.YthhdkkecolocdaaGreatDoor
open Go Go.Abs Go.Gt Go.Ly
theorem idne (a:Ly.Id):binA .neq (.struct [.int,.int,.int]) a.val a.val=some (.bool false):=by
 simp only [binA,Ly.Id.val,ceq,decide_true];rfl
theorem same_v (L:List Ly.Id) (t u:Abs.Tok) (hl:L.length≤1000):PV F 13 [.sl (L.map Ly.Id.val) t,.sl (L.map Ly.Id.val) u]=some (.bool true):=by
 refine PV_wp (fn:=c13) rfl ?_
 simp only [uT,c13]
 replace fx:=Dum_eq
 first|refine go ?_|exact goC
 refine w_loop (fun m vs H=>∃ (k:Nat) (x1 x2 x3:AVal),m=L.length - k∧k≤L.length ∧
   vs=[.sl (L.map Ly.Id.val) t,.sl (L.map Ly.Id.val) u,.bool false,.int .i64 (k:Int),x1,x2,x3]) L.length
  ⟨0,_,_,_,rfl,by omega,rfl⟩ ?_
 rintro m vs H ⟨k,x1,x2,x3,rfl,hk,rfl⟩
 by_cases hk2:k<L.length
 ·replace fx:=aI @idL (aI @idA (aI @idT (aI @idVL (aI @id_agg @idne))))
  (first|refine go ?_|exact goC);repeat' (first|refine gP ?_|exact gPc)
  exact lp_n ⟨_,by omega,k+1,_,_,_,rfl,by omega,by push_cast;rfl⟩
 ·replace fx:=Dum_eq
  (first|refine go ?_|exact goC);repeat' (first|refine gN ?_|exact gNc)
def hoR (rest:List AVal):List AVal := .sl (smallL.map Ltr.val) .none::rest
theorem hoL {rest:List AVal} (h:rest.length=16):(hoR rest).length=17:=by simp [hoR,h]
theorem hoA {rest:List AVal} (h:rest.all AVal.one=true):(hoR rest).all AVal.one=true:=by simp only [hoR,List.all_cons,h];rfl
theorem hoT {rest:List AVal} (h:rest.length=16):List.take 17 (hoR rest)=hoR rest:=List.take_of_length_le (by rw [hoL h];omega)
theorem hoS {rest:List AVal} (h:rest.length=16):setCells hsZ 0 (hoR rest)=hoR rest:=by
 match rest,h with
 | [_,_,_,_,_,_,_,_,_,_,_,_,_,_,_,_],_=>rfl
theorem hoSt {rest:List AVal} (h:stripL rest=some rest):strip (.agg (hoR rest))=some (.agg (hoR rest)):=by
 have h1:strip (.sl (smallL.map Ltr.val) .none)=some (.sl (smallL.map Ltr.val) .none):=rfl
 simp only [strip,hoR,stripL,h1,h,Option.map_some]
end Go.Proofs.YthhdkkecolocdaaGreatDoor

namespace Go.Proofs.YthhdkkecolocdaaGreatDoor
open Go Go.Abs Go.Gt Go.Ly
def natI (p:List Nat):List Int:=p.map fun (k:Nat)=>(k:Int)
theorem natI_map (p:List Nat):p.map natV=(natI p).map (.int .i64):=by simp [natI,List.map_map];intro a _;rfl
theorem cmp_lex:∀ p q:List Nat,cmpL (natI p) (natI q)<0↔lexB p q=true
 | [],[]=>by simp [natI,cmpL,lexB]
 | [],_::_=>by simp [natI,cmpL,lexB]
 | _::_,[]=>by simp [natI,cmpL,lexB]
 | a::x,b::y=>by
   have ih:=cmp_lex x y
   have e:cmpL (natI (a::x)) (natI (b::y))=if cmpI (a:Int) (b:Int)=0 then cmpL (natI x) (natI y) else cmpI (a:Int) (b:Int):=rfl
   rw [e,lexB]
   rcases cmpI_cases (a:Int) (b:Int) with ⟨h1,h2⟩|⟨h1,h2⟩|⟨h1,h2⟩
   ·rw [h2,if_neg (by decide)]
    have:a<b:=by omega
    simp [this]
   ·rw [h2,if_neg (by decide)]
    have h3:¬ a<b:=by omega
    have h4:¬ a=b:=by omega
    simp [h3,h4]
   ·rw [h2,if_pos rfl,ih]
    have h3:¬ a<b:=by omega
    have h4:a=b:=by omega
    simp [h4]
theorem head_B (b:Bk) (x:Ly.Id):∃ n,headR b x = .tup [.str (headB b x),.int .i64 n]∧(n=0↔(b.ent x).isSome=true):=by
 unfold headR headB
 cases b.ent x with
 | none=>exact ⟨14,rfl,by simp⟩
 | some e=>exact ⟨0,rfl,by simp⟩
theorem head_len8:∀ s∈headL,s.length≤8:=by decide
theorem before_v (b:Bk) (fit:b.Fit) {k:Nat} (hk0:k≠0) (hk:k≤10) {u:Abs.Tok} (hu:Pt u) {rest:List AVal} (hrl:rest.length=16) (hra:rest.all AVal.one=true) (x y:Ly.Id) (hx:headB b x∈headL) (hy:headB b y∈headL) :
  PV F 40 [.agg (.sl ((aK k).map Ltr.val) u::rest),b.val,x.val,y.val]=some (.bool (eLt (kapE k b) x y)):=by
 refine PV_wp (fn:=c40) rfl ?_
 simp only [uT,c40]
 have su:=strip_pt hu (xs:=(aK k).map Ltr.val)
 have hal:=aK_len k
 obtain ⟨n1,e1,_⟩:=head_B b x
 obtain ⟨n2,e2,_⟩:=head_B b y
 have r1:=rhead_v b fit x
 have r2:=rhead_v b fit y
 rw [e1] at r1
 rw [e2] at r2
 have q1:=rread_v (aK k) (headB b x) u hu (by omega) (by have:=head_len8 _ hx;omega) aK_text
 have q2:=rread_v (aK k) (headB b y) u hu (by omega) (by have:=head_len8 _ hy;omega) aK_text
 unfold readV at q1 q2
 have w1:=okW_use hk hx
 have w2:=okW_use hk hy
 have cv:=fun t t'=>rcompare_v (aK k) u t t' hu (valid_k hk0 hk) aK_text (rdW k (headB b x)) (rdW k (headB b y)) (fun z hz=>(w1.2 z hz).1) (fun z hz=>(w2.2 z hz).1) (by omega) (by omega) (by omega)
 rw [upto_use hk hx hy] at cv
 have lv:=less_v x y
 have stt:∀ (l:List Nat),strip (.sl (l.map intN) (tkE l))=some (.sl (l.map intN) (tkE l)):=fun l=>by cases l<;>rfl
 change PV F _ _=some (.tup [.sl ((rdW k (headB b x)).map intN) (tkE (rdW k (headB b x))),.int .i64 _]) at q1
 change PV F _ _=some (.tup [.sl ((rdW k (headB b y)).map intN) (tkE (rdW k (headB b y))),.int .i64 _]) at q2
 have s1:=stt (rdW k (headB b x))
 have s2:=stt (rdW k (headB b y))
 have eL:eLt (kapE k b) x y=(decide (cmpL (keyW k (headB b x)) (keyW k (headB b y))<0) || (decide (cmpL (keyW k (headB b x)) (keyW k (headB b y))=0) && ltI x y)):=rfl
 rw [eL]
 generalize cmpL (keyW k (headB b x)) (keyW k (headB b y))=c at cv ⊢
 by_cases h1:c<0
 ·replace fx:=aI @hrl (aI @hra (aI @bkVL (aI @bkL (aI @bkA (aI @bkT (aI @bk_agg (aI @st_bk (aI @st_id (aI @idVL (aI @idL (aI @idA (aI @idT (aI @id_agg (aI @su (aI @r1 (aI @r2 (aI @q1 (aI @q2 (aI @cv (aI @lv (aI @s1 @s2)))))))))))))))))))))
  (first|refine go ?_|exact goC);repeat' (first|refine gP ?_|exact gPc)
  simp [h1]
 ·by_cases h2:c=0
  ·replace fx:=aI @hrl (aI @hra (aI @bkVL (aI @bkL (aI @bkA (aI @bkT (aI @bk_agg (aI @st_bk (aI @st_id (aI @idVL (aI @idL (aI @idA (aI @idT (aI @id_agg (aI @su (aI @r1 (aI @r2 (aI @q1 (aI @q2 (aI @cv (aI @lv (aI @s1 @s2)))))))))))))))))))))
   (first|refine go ?_|exact goC);repeat' (first|refine gP ?_|exact gPc|refine gN ?_|exact gNc)
   simp [h1,h2]
  ·replace fx:=aI @hrl (aI @hra (aI @bkVL (aI @bkL (aI @bkA (aI @bkT (aI @bk_agg (aI @st_bk (aI @st_id (aI @idVL (aI @idL (aI @idA (aI @idT (aI @id_agg (aI @su (aI @r1 (aI @r2 (aI @q1 (aI @q2 (aI @cv (aI @lv (aI @s1 @s2)))))))))))))))))))))
   (first|refine go ?_|exact goC);repeat' (first|refine gN ?_|exact gNc)
   simp [h1,h2]
def pLt (b:Bk) (L:List Ly.Id) (e:Ly.Id) (x y:Ly.Id):Bool:=lexB (b.path L e x) (b.path L e y)
theorem pLt_tot {b:Bk} (ok:b.Ok) (L:List Ly.Id) (e:Ly.Id):Tot (pLt b L e) (b.tree L e).M:=(ok.tree_ok L e).totP Bk.tree_lt
theorem list_isrt {b:Bk} (ok:b.Ok) {L m:List Ly.Id} {e:Ly.Id} (nd:m.Nodup) (h:∀ x,x∈m↔x∈L∧b.has e x=true) (so:m.Pairwise fun x y=>pLt b L e x y=true):m=listE b L e:=by
 have hp:m.Perm (b.tree L e).M:=perm_of_mem nd (ok.tree_ok L e).nd fun x=>by rw [h,Bk.mem_tree]
 rw [isort_eq (pLt_tot ok L e) (ok.tree_ok L e).nd hp so]
 exact (ok.list_sort L e).symm
def hole (l:List Ly.Id) (k:Nat) (z:Ly.Id):List Ly.Id:=l.take k++z::l.drop k
theorem hole_len (l:List Ly.Id) {k:Nat} (z:Ly.Id):(hole l k z).length=l.length+1:=by
 simp only [hole,List.length_append,List.length_cons,List.length_take,List.length_drop];omega
theorem hole_all (l:List Ly.Id) (z:Ly.Id):hole l l.length z=l++[z]:=by simp [hole]
theorem hole_lo {l:List Ly.Id} {k j:Nat} (z:Ly.Id) (hj:j<k) (hk:k≤l.length):nth (hole l k z) j=nth l j:=by
 rw [nth_eq (by rw [hole_len];omega),nth_eq (by omega)]
 simp only [hole]
 rw [List.getElem_append_left (by rw [List.length_take];omega),List.getElem_take]
theorem hole_set {l:List Ly.Id} {k:Nat} (z x:Ly.Id) (hk:k≤l.length):(hole l k z).set k x=hole l k x:=by
 simp only [hole]
 rw [List.set_append_right _ _ (by rw [List.length_take];omega)]
 have:k - (l.take k).length=0:=by rw [List.length_take];omega
 rw [this,List.set_cons_zero]
theorem hole_down {l:List Ly.Id} {k:Nat} (h0:1≤k) (hk:k≤l.length):hole l k (nth l (k - 1))=hole l (k - 1) (nth l (k - 1)):=by
 obtain ⟨k,rfl⟩:∃ j,k=j+1:=⟨k - 1,by omega⟩
 rw [Nat.add_sub_cancel]
 simp only [hole]
 rw [List.take_succ_eq_append_getElem (by omega),List.drop_eq_getElem_cons (i:=k) (by omega),←nth_eq (by omega)]
 simp
theorem PV_gvb {f:Nat} {asx:List AVal} {v:Bool} (h:PV F f asx=some (.bool v)):∃ h',Go.Abs.GV F f asx Heap.empty=some (AVal.bool v,h'):=by
 unfold PV at h
 split at h
 ·rename_i r h' e
  refine ⟨h',?_⟩
  rw [e]
  cases r with
  | bool x=>simp only [purify,Option.some.injEq,AVal.bool.injEq] at h;rw [h]
  | sl xs t=>cases t<;>simp [purify] at h
  | ref a b c d=>simp [purify] at h
  | _=>simp [purify] at h
 ·simp at h
theorem has_pc {H:Heap} {rv:AVal} {m:List Ly.Id} (sv:SV H rv m) (hm:m.length≤1000) (x:Ly.Id) {K:AVal→Heap→Prop} (k:K (.bool (decide (x∈m))) H) :
  PC F 19 (sc (strip rv) (some [x.val])) [rv,x.val] H K:=by
 rcases sv with ⟨rfl,rfl⟩|⟨r,rfl,g⟩
 ·have hv:=has_v [] x (t := .nil) (by simp)
  exact PC_some.2 ⟨_,hv,k⟩
 ·have hv:=has_v m x (t := .none) hm
  obtain ⟨h',gv⟩:=PV_gvb hv
  refine PC_none.2 ⟨_,?_,_,h',gv,rfl,k⟩
  simp only [purifyL,pu_ref,pu_id]
  rw [readRef_flat (f:=Ly.Id.val) (g:=Ly.Id.val) (fun _=>rfl) (fun _=>rfl) true (fun _=>rfl) (fun _=>rfl) m g (Nat.le_refl _),List.take_length]
  rfl
theorem sorted_v (b:Bk) (fit:b.Fit) (L:List Ly.Id) (hL:L.length≤60) {t:Abs.Tok} (ht:Pt t) (e:Ly.Id) :
  PV F 41 [b.val,.sl (L.map Ly.Id.val) t,e.val]=some (idsV (listE b L e)):=by
 have ok:=fit.ok
 refine PV_wp (fn:=c41) rfl ?_
 simp only [uT,c41]
 have st:=strip_pt ht (xs:=L.map Ly.Id.val)
 replace fx:=aI @bkVL (aI @bkL (aI @bkA (aI @idVL (aI @idL @idA))))
 first|refine go ?_|exact goC
 refine w_loop (fun q vs H=>∃ (i:Nat) (m:List Ly.Id) (rv:AVal) (x1 x2 x3 x4:AVal),q=L.length - i∧i≤L.length∧2≤H.next∧H.get 0=some (.row true 0 true (bkC b))∧H.get 1=some (.row true 0 true e.cells)∧SV H rv m∧(∀ r a,rv = .ref r 0 a 3→2≤r∧m≠[]) ∧
   m.Nodup∧(∀ x,x∈m↔x∈L.take i∧b.has e x=true)∧(m.Pairwise fun x y=>pLt b L e x y=true) ∧
   vs=[b.val,.sl (L.map Ly.Id.val) t,e.val,.ptr 0 0,.ptr 1 0,.sl [] .nil,rv,.int .i64 (i:Int),x1,x2,x3,x4]) L.length
  ⟨0,[],.sl [] .nil,_,_,_,_,rfl,by omega,by simp only [push_next];exact Nat.le_refl 2,get_push_old (get_push_eq rfl),get_push_eq (by simp [push_next,empty_next]),.inl ⟨rfl,rfl⟩,fun r a q=>by simp at q,List.nodup_nil,by simp,List.Pairwise.nil,rfl⟩ ?_
 rintro q vs H ⟨i,m,rv,x1,x2,x3,x4,rfl,hi,hnx,g0,g1,sv,rlo,nd,hmem,so,rfl⟩
 have ml:m.length≤60:=by
  have:=nd.length_le_of_subset (l₂:=L) fun x hx=>List.mem_of_mem_take ((hmem x).1 hx).1
  omega
 by_cases hi2:i<L.length
 ·obtain ⟨x,hx⟩:∃ x,nth L i=x:=⟨_,rfl⟩
  have hxL:x∈L:=by rw [←hx];exact nth_mem hi2
  have htk:L.take (i+1)=L.take i++[x]:=by rw [List.take_succ_eq_append_getElem hi2,←nth_eq hi2,hx]
  have bv:=belongs_v b fit x e
  have bkCL:bkC b=bkC b:=rfl
  replace fx:=aI @hx (aI @st_id (aI @idVL (aI @idL (aI @idA (aI @idT @id_agg)))))
  (first|refine go ?_|exact goC);repeat' (first|refine gP ?_|exact gPc)
  refine has_pc sv (by omega) x ?_
  by_cases hxm:x∈m
  ·have e1:decide (x∈m)=true:=decide_eq_true hxm
   rw [e1]
   replace fx:=Dum_eq
   first|refine go ?_|exact goC
   refine lp_n ⟨_,by omega,i+1,m,rv,_,_,_,_,rfl,by omega,hnx,g0,g1,sv,rlo,nd,fun y=>?_,so,by push_cast;rfl⟩
   rw [htk]
   by_cases hy:y=x
   ·subst hy
    have:=(hmem y).1 hxm
    simp [hxm,this.2]
   ·simp [hmem y,hy]
  ·have e1:decide (x∈m)=false:=decide_eq_false hxm
   rw [e1]
   cases hb:b.has e x with
   | false =>
     rw [hb] at bv
     replace fx:=aI @g0 (aI @g1 (aI @hx (aI @bv (aI @bkL (aI @bkA (aI @bkT (aI @bk_agg (aI @st_bk (aI @st_id (aI @idVL (aI @idL (aI @idA (aI @idT @id_agg)))))))))))))
     first|refine go ?_|exact goC
     refine lp_n ⟨_,by omega,i+1,m,rv,_,_,_,_,rfl,by omega,hnx,g0,g1,sv,rlo,nd,fun y=>?_,so,by push_cast;rfl⟩
     rw [htk]
     by_cases hy:y=x
     ·subst hy;simp [hxm,hb]
     ·simp [hmem y,hy]
   | true =>
     rw [hb] at bv
     obtain ⟨H2,ap,n2,r2,oth⟩:=append_SV sv x (ty:=62) (bytes:=24) (by omega) (by omega)
     have k0:=(oth 0 (by omega) (fun r a q=>by have:=(rlo r a q).1;omega)).trans g0
     have k1:=(oth 1 (by omega) (fun r a q=>by have:=(rlo r a q).1;omega)).trans g1
     have lnv:valA (.len (.t 0)) rv .bad H=some (.int .i64 (m.length:Int)):=by
      rcases sv with ⟨rfl,rfl⟩|⟨r,rfl,_⟩<;>rfl
     have ilt:chunkO 3 true 1 (stripL x.cells)=some [x.val]:=rfl
     replace fx:=aI @g0 (aI @g1 (aI @hx (aI @bv (aI @bkL (aI @bkA (aI @bkT (aI @bk_agg (aI @st_bk (aI @st_id (aI @idVL (aI @idL (aI @idA (aI @idT (aI @id_agg (aI @idS0 (aI @lnv (aI @ilt @ap)))))))))))))))))
     first|refine go ?_|exact goC
     have hxM:x∈(b.tree L e).M:=Bk.mem_tree.2 ⟨hxL,hb⟩
     have hmM:∀ y∈m,y∈(b.tree L e).M:=fun y hy=>Bk.mem_tree.2 ⟨List.mem_of_mem_take ((hmem y).1 hy).1,((hmem y).1 hy).2⟩
     generalize hp:H.next=p at r2 n2 hnx ⊢
     rw [←hole_all] at r2
     refine w_loop (fun q vs H'=>∃ (k:Nat) (z:Ly.Id) (x1 x2 x3:AVal),q=k+1∧k≤m.length∧H'.next=p+1∧H'.get 0=some (.row true 0 true (bkC b))∧H'.get 1=some (.row true 0 true e.cells)∧H'.get p=some (.row true 3 true (flat ((hole m k z).map Ly.Id.val))) ∧
       (∀ j,k≤j→j<m.length→pLt b L e x (nth m j)=true) ∧
       vs=[b.val,.sl (L.map Ly.Id.val) t,e.val,.ptr 0 0,.ptr 1 0,.sl [] .nil,.ref p 0 (m.length+1) 3,.int .i64 (i:Int),.int .i64 (k:Int),x1,x2,x3]) (m.length+1)
      ⟨m.length,x,_,_,_,rfl,by omega,n2,k0,k1,r2,fun j h1 h2=>by omega,rfl⟩ ?_
     clear fx g0 g1 k0 k1 r2 n2 ap oth lnv rlo sv
     rintro q vs H' ⟨k,z,x4,x5,x6,rfl,hk,n2,g0,g1,gp,hafter,rfl⟩
     have hhl:=hole_len m z (k:=k)
     have hfin:(k=0∨pLt b L e x (nth m (k - 1))=false)→(hole m k x).Pairwise (fun x y=>pLt b L e x y=true):=fun h2 =>
      put_in ((pLt_tot ok L e).sub fun y hy=>by
       rcases List.mem_append.1 hy with h|h
       ·exact hmM y h
       ·simp only [List.mem_singleton] at h;rw [h];exact hxM) so hxm hk hafter h2
     have hout:(hole m k x).Nodup∧∀ y,y∈hole m k x↔y∈L.take (i+1)∧b.has e y=true:=by
      have hp:(hole m k x).Perm (x::m):=put_perm
      refine ⟨hp.nodup_iff.2 (List.nodup_cons.2 ⟨hxm,nd⟩),fun y=>?_⟩
      rw [hp.mem_iff,htk]
      by_cases hy:y=x
      ·subst hy;simp [hb]
      ·simp [hmem y,hy]
     have s1:=storeG_flatw (f:=Ly.Id.val) (sz:=3) (fun _=>rfl) (hole m k z) (n:=k) (id:=p) (h:=H') 3 true x (by omega) rfl
     rw [hole_set z x hk] at s1
     have lx:=hole_len m x (k:=k)
     have hone:hole m k x≠[]:=fun q=>by rw [q] at lx;simp at lx
     by_cases hk0:k=0
     ·subst hk0
      replace fx:=aI @hx (aI @gp (aI @s1 (aI @idVL (aI @idL (aI @idA (aI @idT @id_agg))))))
      (first|refine go ?_|exact goC);repeat' (first|refine gN ?_|exact gNc)
      exact lp_n ⟨_,by omega,i+1,hole m 0 x,.ref p 0 (m.length+1) 3,_,_,_,_,rfl,by omega,by rw [put_next];omega,by rw [get_put_ne (by omega)];exact g0,by rw [get_put_ne (by omega)];exact g1,.inr ⟨p,by rw [lx],get_put_old gp⟩,fun r a q=>⟨by simp at q;omega,hone⟩,hout.1,hout.2,hfin (.inl rfl),by push_cast;rfl⟩
     ·have pv1:=places_v b fit L (by omega) ht hxM
      have hkl:k - 1<m.length:=by omega
      have pv2:=places_v b fit L (by omega) ht (hmM _ (nth_mem hkl))
      rw [natI_map] at pv1 pv2
      have nl:∀ y,(natI (b.path L e y)).length≤100000:=fun y=>by
       have h1:(b.path L e y).length≤b.idx y+1:=pathF_len _ _ _ _
       have h2:b.idx y≤b.ss.length:=List.findIdx_le_length
       have h3:=fit.ss
       simp only [natI,List.length_map];omega
      have ov:=order6_v (natI (b.path L e x)) (natI (b.path L e (nth m (k - 1)))) (nl _) (nl _) .none .none
      have cl:=cmp_lex (b.path L e x) (b.path L e (nth m (k - 1)))
      generalize cmpL (natI (b.path L e x)) (natI (b.path L e (nth m (k - 1))))=c at ov cl
      have l2:=loadG_flat0 (f:=Ly.Id.val) (sz:=3) (fun _=>rfl) (hole m k z) (n:=k - 1) (m:=3) true true 3 true (by omega) (by omega)
      rw [hole_lo z (by omega) hk] at l2
      have s2:=storeG_flatw (f:=Ly.Id.val) (sz:=3) (fun _=>rfl) (hole m k z) (n:=k) (id:=p) (h:=H') 3 true (nth m (k - 1)) (by omega) rfl
      rw [hole_set z _ hk,hole_down (by omega) hk] at s2
      by_cases hc:c<0
      ·replace fx:=aI @g0 (aI @g1 (aI @gp (aI @hx (aI @bkL (aI @bkA (aI @bkT (aI @bk_agg (aI @st_bk (aI @st_id (aI @idVL (aI @idL (aI @idA (aI @idT (aI @id_agg (aI @st (aI @pv1 (aI @pv2 (aI @ov (aI @l2 @s2)))))))))))))))))))
       (first|refine go ?_|exact goC);repeat' (first|refine gP ?_|exact gPc)
       refine lp_n ⟨_,by omega,k - 1,nth m (k - 1),_,_,_,rfl,by omega,by rw [put_next];exact n2,by rw [get_put_ne (by omega)];exact g0,by rw [get_put_ne (by omega)];exact g1,get_put_old gp,fun j h1 h2=>?_,by rw [show ((k:Int) - 1)=((k - 1:Nat):Int) by omega]⟩
       by_cases hj:j=k - 1
       ·subst hj;exact cl.1 hc
       ·exact hafter j (by omega) h2
      ·have h2:pLt b L e x (nth m (k - 1))=false:=by
        cases hq:pLt b L e x (nth m (k - 1))
        ·rfl
        ·exact absurd (cl.2 hq) hc
       replace fx:=aI @g0 (aI @g1 (aI @gp (aI @hx (aI @bkL (aI @bkA (aI @bkT (aI @bk_agg (aI @st_bk (aI @st_id (aI @idVL (aI @idL (aI @idA (aI @idT (aI @id_agg (aI @st (aI @pv1 (aI @pv2 (aI @ov (aI @l2 @s1)))))))))))))))))))
       (first|refine go ?_|exact goC);repeat' (first|refine gP ?_|exact gPc|refine gN ?_|exact gNc)
       exact lp_n ⟨_,by omega,i+1,hole m k x,.ref p 0 (m.length+1) 3,_,_,_,_,rfl,by omega,by rw [put_next];omega,by rw [get_put_ne (by omega)];exact g0,by rw [get_put_ne (by omega)];exact g1,.inr ⟨p,by rw [lx],get_put_old gp⟩,fun r a q=>⟨by simp at q;omega,hone⟩,hout.1,hout.2,hfin (.inr h2),by push_cast;rfl⟩
 ·have hi3:i=L.length:=by omega
  subst hi3
  rw [List.take_length] at hmem
  have:=list_isrt ok nd hmem so
  replace fx:=Dum_eq
  (first|refine go ?_|exact goC);repeat' (first|refine gN ?_|exact gNc)
  rw [←this]
  rcases sv with ⟨rfl,rfl⟩|⟨r,rfl,g⟩
  ·rfl
  ·rw [pu_ref,readRef_flat (f:=Ly.Id.val) (g:=Ly.Id.val) (fun _=>rfl) (fun _=>rfl) true (fun _=>rfl) (fun _=>rfl) m g (Nat.le_refl _),List.take_length]
   have:tk m = .none:=by unfold tk;rw [if_neg (by simpa using (rlo _ _ rfl).2)]
   unfold idsV
   rw [this];rfl
end Go.Proofs.YthhdkkecolocdaaGreatDoor

namespace Go.Abs
theorem getD_ok {α:Type} {o:Option α} {d:α} (h:o.isSome=true):o=some (o.getD d):=by cases o<;>simp at h ⊢
end Go.Abs
namespace Go.Proofs.YthhdkkecolocdaaGreatDoor
open Go Go.Abs
def hintsV:Hints:=⟨fun f s=>(f == 14 && s == 35) || (f == 69 && s == 97) || (f == 69 && s == 106),fun f s=>decide (1000000≤s) || (f == 80 && s == 9) || (f == 83 && s == 37) || (f == 83 && s == 39),fun _ _=>false,fun f=>[10,15,21,26,27,28,31,33,35,39,42,43,44,59,60,61,63,66,68,71,73,91,92,105,108,109,110,117,130,143,162,163,278,279].contains f,fun _=>false,fun _ _=>[],fun f=>[200,201,202,226,227].contains f,fun _=>none,fun f r=>if f == 14 && r == 12 then some ([(7,15),(9,15),(11,15)],[[0,1,2,3,4,5,6,8,7,9,10,11,12,13,14,15,16,17],[0,1,2,3,4,5,6,8,7,9,10,15,11,12,13,14,16,17],[0,1,2,3,4,5,6,8,7,15,9,10,11,12,13,14,16,17],[0,1,2,3,4,5,6,8,15,7,9,10,11,12,13,14,16,17]]) else if f == 45 && r == 10 then some ([(0,7),(1,7),(4,7),(7,9)],[[0,1,2,3,4,5,6,7,8,9,10,11,12,13,14,15],[0,1,2,3,4,5,6,8,9,7,10,11,12,13,14,15],[0,1,2,3,5,6,7,4,8,9,10,11,12,13,14,15],[0,1,2,3,5,6,8,9,7,4,10,11,12,13,14,15],[0,5,6,7,1,2,3,4,8,9,10,11,12,13,14,15],[0,5,6,8,9,7,1,2,3,4,10,11,12,13,14,15],[1,2,3,4,5,6,7,0,8,9,10,11,12,13,14,15],[1,2,3,4,5,6,8,9,7,0,10,11,12,13,14,15],[1,2,3,5,6,7,0,4,8,9,10,11,12,13,14,15],[1,2,3,5,6,8,9,7,0,4,10,11,12,13,14,15],[5,6,7,0,1,2,3,4,8,9,10,11,12,13,14,15],[5,6,8,9,7,0,1,2,3,4,10,11,12,13,14,15]]) else if f == 46 && r == 26 then some ([(4,5)],[[0,1,2,3,4,5,6],[0,1,2,3,5,4,6]]) else if f == 83 && r == 5 then some ([(4,5)],[[0,1,2,3,4,5,6,7],[0,1,2,3,5,4,6,7]]) else if f == 84 && r == 1 then some ([(6,10)],[[0,1,2,3,4,5,6,7,8,9,10,11,12],[0,1,2,3,4,5,10,6,7,8,9,11,12]]) else if f == 124 && r == 2 then some ([(5,9)],[[0,1,2,3,4,5,6,7,8,9,10,11],[0,1,2,3,4,9,5,6,7,8,10,11]]) else if f == 162 && r == 1 then some ([(1,9),(1,10),(4,9),(4,10),(9,10)],[[0,2,3,1,4,5,6,7,8,9,10,11,12,13],[0,2,3,1,4,5,6,7,8,10,9,11,12,13],[0,2,3,1,10,4,5,6,7,8,9,11,12,13],[0,2,3,1,9,4,5,6,7,8,10,11,12,13],[0,2,3,1,9,10,4,5,6,7,8,11,12,13],[0,2,3,1,10,9,4,5,6,7,8,11,12,13],[0,2,3,10,1,4,5,6,7,8,9,11,12,13],[0,2,3,10,1,9,4,5,6,7,8,11,12,13],[0,2,3,9,1,4,5,6,7,8,10,11,12,13],[0,2,3,9,1,10,4,5,6,7,8,11,12,13],[0,2,3,9,10,1,4,5,6,7,8,11,12,13],[0,2,3,10,9,1,4,5,6,7,8,11,12,13]]) else if f == 194 && r == 18 then some ([(1,2)],[[0,1,2,3,4],[0,2,1,3,4]]) else if f == 197 && r == 2 then some ([(3,5)],[[0,1,2,3,4,5,6,7,8],[0,1,2,4,5,3,6,7,8]]) else if f == 201 && r == 4 then some ([(1,2)],[[0,1,2,3,4],[0,2,1,3,4]]) else if f == 201 && r == 7 then some ([(1,3)],[[0,1,2,3,4,5],[0,2,3,1,4,5]]) else if f == 201 && r == 9 then some ([(1,2),(2,3)],[[0,1,2,3,4,5],[0,1,3,2,4,5],[0,2,1,3,4,5]]) else none⟩
def maskV:Nat:=994652660751055890496892560661693755016657325552641946136259982765585648148457959385088
noncomputable def cv (n:Nat):AFunc:=(compFunc Tryz.prog hintsV n).getD ⟨[],.skip,[],[]⟩
set_option maxRecDepth 100000 in
theorem cv_all:((List.range 290).all fun n=>!maskV.testBit n || ((compFunc Tryz.prog hintsV n).isSome && !hintsV.grow n))=true:=by kernel_rfl
def bitsV:Nat:=290
theorem mask_lt:maskV<2 ^ bitsV:=of_decide_eq_true (by kernel_rfl)
theorem cv_ok {n:Nat} (h:maskV.testBit n=true):compFunc Tryz.prog hintsV n=some (cv n)∧hintsV.grow n=false:=by
 have hn:n<bitsV:=by
  refine Nat.lt_of_not_le fun hle=>?_
  rw [Nat.testBit_lt_two_pow (Nat.lt_of_lt_of_le mask_lt (Nat.pow_le_pow_right (by omega) hle))] at h
  cases h
 have key:=List.all_eq_true.1 cv_all n (List.mem_range.2 (show n<290 from hn))
 simp only [h,Bool.not_true,Bool.false_or,Bool.and_eq_true,Bool.not_eq_true'] at key
 exact ⟨getD_ok key.1,key.2⟩
end Go.Proofs.YthhdkkecolocdaaGreatDoor

namespace Go.Proofs.YthhdkkecolocdaaGreatDoor
open Go Go.Abs Go.Shelf
open Go.RowKit
noncomputable def FV (g:Nat):Option AEnt:=if maskV.testBit g=true then some (.comp (cv g)) else if g=135 then some (.hand (idxS)) else if g=154 then some (.hand (splitS)) else none
theorem tableV:Table Tryz.prog hintsV FV:=by
 intro g
 unfold FV
 split
 ·rename_i h;exact cv_ok h
 split
 ·rename_i h;subst h;exact ⟨(idx_ok idxA (enters_of Tryz.func135 (by kernel_rfl) rfl)).e,fun q=>by simp [hintsV] at q⟩
 split
 ·rename_i h;subst h;exact ⟨(split_ok splA (by kernel_rfl) (enters_of Tryz.func154 (by kernel_rfl) rfl)).e,fun q=>by simp [hintsV] at q⟩
 ·trivial
end Go.Proofs.YthhdkkecolocdaaGreatDoor
