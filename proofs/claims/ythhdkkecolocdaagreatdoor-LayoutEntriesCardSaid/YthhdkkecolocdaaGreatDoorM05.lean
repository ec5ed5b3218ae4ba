/-
  Merged from LyD4 LyD5 LyD6 LyE LyE2 LyW LyH AbsSZ AbsFast AbsGc LyI LyI2 LyI3 LyI4 LyI5 LyI6 LyE3 LyJ LyK: The reference's Place, Places, letters, Number.
-/
import Derived.Test.YthhdkkecolocdaaGreatDoorM04
import Derived.Test.YthhdkkecolocdaaGreatDoorM02
set_option linter.unusedSimpArgs false
set_option linter.unusedVariables false
set_option linter.defProp false
set_option linter.constructorNameAsVariable false
/-
 The reference's Place, Places, letters, Number.
-/
set_option maxHeartbeats 4000000
namespace Go.Proofs.YthhdkkecolocdaaGreatDoor
open Go Go.Abs Go.Ly
def coll (p:Ly.Id→Bool):List Ly.Id→List Ly.Id→List Ly.Id
 | met,[]=>met
 | met,x::l=>if x∈met∨p x=false then coll p met l else coll p (met++[x]) l
theorem mem_coll {p:Ly.Id→Bool} {x:Ly.Id}:∀ {l met:List Ly.Id},x∈coll p met l↔x∈met∨(x∈l∧p x=true)
 | [],met=>by simp [coll]
 | y::l,met=>by
   rw [coll]
   split
   ·rename_i h
    rw [mem_coll (l:=l)]
    constructor
    ·rintro (h1|⟨h1,h2⟩)
     ·exact .inl h1
     ·exact .inr ⟨by simp [h1],h2⟩
    ·rintro (h1|⟨h1,h2⟩)
     ·exact .inl h1
     ·rcases List.mem_cons.1 h1 with rfl|h1
      ·rcases h with h|h
       ·exact .inl h
       ·rw [h2] at h;simp at h
      ·exact .inr ⟨h1,h2⟩
   ·rename_i h
    rw [mem_coll (l:=l)]
    simp only [not_or,Bool.not_eq_false] at h
    constructor
    ·rintro (h1|⟨h1,h2⟩)
     ·rcases List.mem_append.1 h1 with h1|h1
      ·exact .inl h1
      ·simp at h1;subst h1;exact .inr ⟨by simp,h.2⟩
     ·exact .inr ⟨by simp [h1],h2⟩
    ·rintro (h1|⟨h1,h2⟩)
     ·exact .inl (by simp [h1])
     ·rcases List.mem_cons.1 h1 with rfl|h1
      ·exact .inl (by simp)
      ·exact .inr ⟨h1,h2⟩
theorem nodup_coll {p:Ly.Id→Bool}:∀ {l met:List Ly.Id},met.Nodup→(coll p met l).Nodup
 | [],met,h=>h
 | y::l,met,h=>by
   rw [coll]
   split
   ·exact nodup_coll h
   ·rename_i hy
    simp only [not_or] at hy
    exact nodup_coll (List.nodup_append.2 ⟨h,by simp,fun a ha b hb e=>by simp at hb;subst hb;subst e;exact hy.1 ha⟩)
theorem coll_perm (p:Ly.Id→Bool) (L:List Ly.Id):(coll p [] L).Perm ((dedup L).filter p) :=
 perm_of_mem (nodup_coll List.nodup_nil) ((nodup_dedup L).filter _) fun x=>by rw [mem_coll,List.mem_filter,mem_dedup];simp
theorem coll_len {p:Ly.Id→Bool}:∀ {l met:List Ly.Id},(coll p met l).length≤met.length+l.length
 | [],met=>by simp [coll]
 | y::l,met=>by
   rw [coll]
   split
   ·have:=coll_len (p:=p) (l:=l) (met:=met);simp only [List.length_cons];omega
   ·have:=coll_len (p:=p) (l:=l) (met:=met++[y]);simp only [List.length_cons,List.length_append,List.length_nil] at this ⊢;omega
theorem coll_place (b:Bk) (L:List Ly.Id) (e x:Ly.Id):(b.tree L e).place b.key x=1+((coll (b.has e) [] L).filter fun y=>decide (b.par L y=b.par L x) && b.key y x).length:=by
 show 1+(((dedup L).filter (b.has e)).filter fun y=>decide (b.par L y=b.par L x) && b.key y x).length=_
 rw [((coll_perm (b.has e) L).filter _).length_eq]
theorem gr_push {α:Type} {h:Heap} {ty sz:Nat} {l:List α} {tk:Tok} (g:Gr h ty sz l tk) (o:Abs.Obj):Gr (h.push o) ty sz l tk:=by
 rcases g with g|⟨i,g1,g2⟩
 ·exact .inl g
 ·exact .inr ⟨i,g1,get_push_old g2⟩
theorem idChk (s:Ly.Id):chunkO 3 true 1 (stripL s.cells)=some [s.val]:=rfl
theorem par_eq {a c:Option Ly.Id}:a=c↔c.isSome=a.isSome∧parI c=parI a:=by
 cases a<;>cases c<;>simp [parI,eq_comm]
theorem place_v (b:Bk) (fit:b.Fit) (L:List Ly.Id) (hL:L.length≤100) {t:Abs.Tok} (ht:Pt t) (x:Ly.Id) {y:En} (hy:b.entry x=some y) :
  PV F 86 [b.val,.sl (L.map Ly.Id.val) t,x.val]=some (.int .i64 ((b.tree L y.id).place b.key x:Nat)):=by
 rw [coll_place]
 refine PV_wp (fn:=c86) rfl ?_
 simp only [uT,c86,Bk.val,bkV]
 have ev:=rentry_v b fit x
 rw [hy] at ev
 have pv:=parent_v b fit L (by omega) ht x
 have st:=strip_pt ht (xs:=L.map Ly.Id.val)
 unfold entV at ev
 unfold parR at pv
 unfold Bk.val bkV at ev pv
 simp only [Option.isSome_some] at ev
 replace fx:=aI @idVL (aI @idL (aI @idA (aI @idT (aI @id_agg (aI @ev (aI @pv (aI @st (aI @st_bk (aI @st_id (aI @enL (aI @enVL (aI @enA (aI @enS0 @idS0)))))))))))))
 first|refine go ?_|exact goC
 refine w_loop (fun m vs H=>∃ (k n:Nat) (met:List Ly.Id) (tm:Abs.Tok) (x1 x2 x3 x4 x5 x6 x7:AVal),m=L.length - k∧k≤L.length∧met.length≤k∧coll (b.has y.id) met (L.drop k)=coll (b.has y.id) [] L∧n=1+(met.filter fun y=>decide (b.par L y=b.par L x) && b.key y x).length∧Gr H 62 3 met tm∧4≤H.next ∧
   H.get 0=some (.row true 0 true [.sl (b.es.map En.val) .none,.sl (b.ss.map Sn.val) .none,.sl [] .nil,.sl [] .nil,.sl [] .nil,.sl [] .nil,.sl [] .nil])∧H.get 1=some (.row true 0 true x.cells)∧H.get 2=some (.row true (typed 70) true y.cells)∧H.get 3=some (.row true (typed 62) true (parI (b.par L x)).cells) ∧
   vs=[b.val,.sl (L.map Ly.Id.val) t,x.val,.ptr 0 0,.ptr 1 0,.int .i64 0,.ptr 2 0,.ptr 3 0,.bool (b.par L x).isSome,.int .i64 (n:Int),.sl (met.map Ly.Id.val) tm,.int .i64 (k:Int),x1,x2,x3,x4,x5,x6,x7]) L.length
  ⟨0,1,[],.nil,_,_,_,_,_,_,_,rfl,by omega,by simp,rfl,rfl,Gr.nil _ _ _,by simp [push_next,empty_next],?_,?_,?_,?_,rfl⟩ ?_
 ·rw [get_push_ne (by simp [push_next,empty_next]),get_push_ne (by simp [push_next,empty_next]),get_push_ne (by simp [push_next,empty_next])];exact get_push_eq rfl
 ·rw [get_push_ne (by simp [push_next,empty_next]),get_push_ne (by simp [push_next,empty_next])];exact get_push_eq (by simp [push_next,empty_next])
 ·rw [get_push_ne (by simp [push_next,empty_next])];exact get_push_eq (by simp [push_next,empty_next])
 ·exact get_push_eq (by simp [push_next,empty_next])
 rintro m vs H ⟨k,n,met,tm,x1,x2,x3,x4,x5,x6,x7,rfl,hk,hml,hco,hn,hgr,hnx,g0,g1,g2,g3,rfl⟩
 by_cases hk2:k<L.length
 ·obtain ⟨s,hs⟩:∃ s,nth L k=s:=⟨_,rfl⟩
  have hdr:L.drop k=s::L.drop (k+1):=by rw [List.drop_eq_getElem_cons hk2,←hs,nth_eq hk2]
  rw [hdr,coll] at hco
  obtain ⟨u,hu,_,stm⟩:=pur_tk2 H (met.map Ly.Id.val) tm
  have hv:=has_v met s (t:=u) (by omega)
  have bv:=belongs_v b fit s y.id
  have ps:=parent_v b fit L (by omega) ht s
  have r1:=rrank_v b fit s
  have r2:=rrank_v b fit x
  have lv:=less_v s x
  unfold parR at ps
  unfold Bk.val bkV at bv ps r1 r2
  have fr0:Fr (fun _=>False) H (H.push (.row true (typed 62) true s.cells)):=(Fr.refl _ _).push _
  by_cases h1:s∈met
  ·rw [if_pos (.inl h1)] at hco
   replace fx:=aI @g0 (aI @g1 (aI @g2 (aI @g3 (aI @hs (aI @hv (aI (eq_true h1) (aI @stm (aI @bv (aI @idVL (aI @idL (aI @idA (aI @idT (aI @id_agg (aI @idS0 (aI @st_bk (aI @st_id (aI @enL (aI @enId (aI @enVL @enA)))))))))))))))))))
   (first|refine go ?_|exact goC);repeat' (first|refine gP ?_|exact gPc)
   exact lp_n ⟨_,by omega,k+1,n,met,tm,_,_,_,_,_,_,_,rfl,by omega,by omega,hco,hn,gr_push hgr _,by simp only [push_next];omega,get_push_old g0,get_push_old g1,get_push_old g2,get_push_old g3,by push_cast;rfl⟩
  ·by_cases h2:b.has y.id s=false
   ·rw [if_pos (.inr h2)] at hco
    replace fx:=aI @g0 (aI @g1 (aI @g2 (aI @g3 (aI @hs (aI @hv (aI (eq_false h1) (aI @h2 (aI @stm (aI @bv (aI @idVL (aI @idL (aI @idA (aI @idT (aI @id_agg (aI @idS0 (aI @st_bk (aI @st_id (aI @enL (aI @enId (aI @enVL @enA))))))))))))))))))))
    (first|refine go ?_|exact goC);repeat' (first|refine gP ?_|exact gPc)
    exact lp_n ⟨_,by omega,k+1,n,met,tm,_,_,_,_,_,_,_,rfl,by omega,by omega,hco,hn,gr_push hgr _,by simp only [push_next];omega,get_push_old g0,get_push_old g1,get_push_old g2,get_push_old g3,by push_cast;rfl⟩
   ·rw [if_neg (by simp only [not_or];exact ⟨h1,h2⟩)] at hco
    simp only [Bool.not_eq_false] at h2
    have hf:((met++[s]).filter fun y=>decide (b.par L y=b.par L x) && b.key y x).length=(met.filter fun y=>decide (b.par L y=b.par L x) && b.key y x).length+(if (decide (b.par L s=b.par L x) && b.key s x)=true then 1 else 0):=by
     rw [List.filter_append,List.length_append,List.filter_cons]
     split<;>rfl
    have hml2:(met++[s]).length≤k+1:=by simp;omega
    replace fx:=aI @g0 (aI @g1 (aI @g2 (aI @g3 (aI @hs (aI @hv (aI (eq_false h1) (aI @h2 (aI @stm (aI @bv (aI @ps (aI @r1 (aI @r2 (aI @lv (aI @st (aI @idVL (aI @idL (aI @idA (aI @idT (aI @id_agg (aI @idS0 (aI @st_bk (aI @st_id (aI @enL (aI @enId (aI @enVL (aI @enA (aI @idneq @idChk)))))))))))))))))))))))))))
    (first|refine go ?_|exact goC);repeat' (first|refine gP ?_|exact gPc)
    refine append_U (f:=Ly.Id.val) met [s] (fun _=>rfl) (fun _=>rfl) (fun _=>rfl) rfl rfl (gr_push hgr _) (by simp;omega) (by omega) (by omega) (by omega) fun H' tm' hgr' hn' keep=>?_
    have k0:=keep 0 _ _ _ _ (get_push_old g0)
    have k1:=keep 1 _ _ _ _ (get_push_old g1)
    have k2:=keep 2 _ _ _ _ (get_push_old g2)
    have k3:=keep 3 _ _ _ _ (get_push_old g3)
    have k4:=keep H.next _ _ _ _ (get_push_eq rfl)
    rw [push_next] at hn'
    have hnb:n≤101:=by have:=List.length_filter_le (fun y=>decide (b.par L y=b.par L x) && b.key y x) met;omega
    have add1:(decide (b.par L s=b.par L x) && b.key s x)=true→n+1=1+((met++[s]).filter fun y=>decide (b.par L y=b.par L x) && b.key y x).length:=fun e=>by rw [hf,if_pos e,hn];omega
    have add0:¬ (decide (b.par L s=b.par L x) && b.key s x)=true→n=1+((met++[s]).filter fun y=>decide (b.par L y=b.par L x) && b.key y x).length:=fun e=>by rw [hf,if_neg e,hn];omega
    by_cases h3:(b.par L x).isSome=(b.par L s).isSome
    ·by_cases h4:parI (b.par L x)=parI (b.par L s)
     ·have e1:b.par L s=b.par L x:=par_eq.2 ⟨h3,h4⟩
      rw [e1] at ps add1 add0
      have bs:((b.par L x).isSome == (b.par L x).isSome)=true:=beq_self_eq_true _
      replace fx:=aI @k0 (aI @k1 (aI @k2 (aI @k3 (aI @k4 (aI @bs (aI @hs (aI @ps (aI @r1 (aI @r2 (aI @lv (aI @st (aI @idVL (aI @idL (aI @idA (aI @idT (aI @id_agg (aI @idS0 (aI @st_bk (aI @st_id (aI @enL (aI @enId (aI @enVL (aI @enA @idneq)))))))))))))))))))))))
      (first|refine go ?_|exact goC);repeat' (refine gI ?_ ?_<;>intro hyp<;>first|refine goF ?_|exact goFc|refine goT ?_|exact goTc|skip)
      ·exact lp_n ⟨_,by omega,k+1,n+1,met++[s],tm',_,_,_,_,_,_,_,rfl,by omega,hml2,hco,add1 (by simp [Bk.key,hyp]),gr_push hgr' _,by simp only [push_next];omega,get_push_old k0,get_push_old k1,get_push_old k2,get_push_old k3,by push_cast;rfl⟩
      ·rename_i h5 h6
       exact lp_n ⟨_,by omega,k+1,n+1,met++[s],tm',_,_,_,_,_,_,_,rfl,by omega,hml2,hco,add1 (by simp [Bk.key,h6,hyp]),gr_push hgr' _,by simp only [push_next];omega,get_push_old k0,get_push_old k1,get_push_old k2,get_push_old k3,by push_cast;rfl⟩
      ·rename_i h5 h6
       exact lp_n ⟨_,by omega,k+1,n,met++[s],tm',_,_,_,_,_,_,_,rfl,by omega,hml2,hco,add0 (by simp [Bk.key,h6,hyp]),gr_push hgr' _,by simp only [push_next];omega,get_push_old k0,get_push_old k1,get_push_old k2,get_push_old k3,by push_cast;rfl⟩
      ·rename_i h5
       exact lp_n ⟨_,by omega,k+1,n,met++[s],tm',_,_,_,_,_,_,_,rfl,by omega,hml2,hco,add0 (by simp [Bk.key,h5,hyp]),gr_push hgr' _,by simp only [push_next];omega,get_push_old k0,get_push_old k1,get_push_old k2,get_push_old k3,by push_cast;rfl⟩
     ·have e1:¬ b.par L s=b.par L x:=fun e=>h4 (by rw [e])
      have bs:((b.par L x).isSome == (b.par L s).isSome)=true:=by rw [h3];exact beq_self_eq_true _
      replace fx:=aI @k0 (aI @k1 (aI @k2 (aI @k3 (aI @k4 (aI @bs (aI (eq_false h4) (aI @hs (aI @ps (aI @idVL (aI @idL (aI @idA (aI @idT (aI @id_agg (aI @idS0 (aI @st (aI @st_bk (aI @st_id (aI @enL (aI @enId (aI @enVL (aI @enA @idneq)))))))))))))))))))))
      first|refine go ?_|exact goC
      exact lp_n ⟨_,by omega,k+1,n,met++[s],tm',_,_,_,_,_,_,_,rfl,by omega,hml2,hco,add0 (by simp [e1]),gr_push hgr' _,by simp only [push_next];omega,get_push_old k0,get_push_old k1,get_push_old k2,get_push_old k3,by push_cast;rfl⟩
    ·have e1:¬ b.par L s=b.par L x:=fun e=>h3 (by rw [e])
     have bs:((b.par L x).isSome == (b.par L s).isSome)=false:=by simpa using h3
     replace fx:=aI @k0 (aI @k1 (aI @k2 (aI @k3 (aI @k4 (aI @bs (aI @hs (aI @ps (aI @idVL (aI @idL (aI @idA (aI @idT (aI @id_agg (aI @idS0 (aI @st (aI @st_bk (aI @st_id (aI @enL (aI @enId (aI @enVL (aI @enA @idneq))))))))))))))))))))
     first|refine go ?_|exact goC
     exact lp_n ⟨_,by omega,k+1,n,met++[s],tm',_,_,_,_,_,_,_,rfl,by omega,hml2,hco,add0 (by simp [e1]),gr_push hgr' _,by simp only [push_next];omega,get_push_old k0,get_push_old k1,get_push_old k2,get_push_old k3,by push_cast;rfl⟩
 ·have e0:L.drop k=[]:=List.drop_eq_nil_of_le (by omega)
  rw [e0,coll] at hco
  replace fx:=aI @g0 (aI @g1 (aI @g2 @g3))
  (first|refine go ?_|exact goC);repeat' (first|refine gN ?_|exact gNc)
  rw [hn,hco]
end Go.Proofs.YthhdkkecolocdaaGreatDoor

namespace Go.Proofs.YthhdkkecolocdaaGreatDoor
open Go Go.Abs Go.Ly
def natV (k:Nat):AVal := .int .i64 (k:Int)
theorem ent_of_has {b:Bk} {e x:Ly.Id} (h:b.has e x=true):∃ s y,b.sense x=some s∧b.entry x=some y∧y.id=e:=by
 unfold Bk.has at h
 cases hs:b.sense x with
 | none=>rw [hs] at h;simp at h
 | some s =>
   rw [hs] at h
   cases hy:b.entry x with
   | none=>rw [hy] at h;simp at h
   | some y=>rw [hy] at h;exact ⟨s,y,rfl,rfl,by simpa using h⟩
theorem pathF_step {α:Type} [DecidableEq α] (lt:α→α→Bool) (T:Tr α) (n:Nat) (x:α):T.pathF lt (n+1) x=(match T.par x with
  | none=>[]
  | some p=>T.pathF lt n p)++[T.place lt x]:=by
 rw [Tr.pathF]
 cases T.par x<;>rfl
theorem M_len (b:Bk) (L:List Ly.Id) (e:Ly.Id):(b.tree L e).M.length≤L.length:=by
 have h1:(dedup L).length≤L.length:=by
  induction L with
  | nil=>simp [dedup]
  | cons x l ih =>
    rw [dedup]
    split
    ·simp only [List.length_cons];omega
    ·simp only [List.length_cons];omega
 exact Nat.le_trans (List.length_filter_le _ _) h1
theorem places_v (b:Bk) (fit:b.Fit) (L:List Ly.Id) (hL:L.length≤100) {t:Abs.Tok} (ht:Pt t) {e x:Ly.Id} (hx:x∈(b.tree L e).M) :
  PV F 50 [b.val,.sl (L.map Ly.Id.val) t,x.val]=some (.sl ((b.path L e x).map natV) .none):=by
 have ok:=fit.ok.tree_ok L e
 have hfu:b.path L e x=(b.tree L e).pathF b.key L.length x:=(ok.path_fuel (M_len b L e) hx).symm
 rw [hfu]
 obtain ⟨s0,y0,hs0,hy0,he0⟩:=ent_of_has (Bk.mem_tree.1 hx).2
 have pl:=place_v b fit L hL ht x hy0
 rw [he0] at pl
 have st:=strip_pt ht (xs:=L.map Ly.Id.val)
 refine PV_wp (fn:=c50) rfl ?_
 simp only [uT,c50,Bk.val,bkV]
 unfold Bk.val bkV at pl
 replace fx:=aI @idVL (aI @idL (aI @idA (aI @idT (aI @id_agg (aI @st (aI @st_id @pl))))))
 first|refine go ?_|exact goC
 refine w_loop (fun m vs H=>∃ (k:Nat) (z:Ly.Id) (r:List Nat) (tk:Abs.Tok) (x1 x2 x3 x4:AVal),m=L.length - k∧k≤L.length∧z∈(b.tree L e).M∧r.length≤k∧(b.tree L e).pathF b.key L.length x=(b.tree L e).pathF b.key (L.length - k) z++r∧(∀ (h:Heap) (xs:List AVal),purify h (.sl xs tk)=some (.sl xs .none))∧2≤H.next ∧
   H.get 0=some (.row true 0 true [.sl (b.es.map En.val) .none,.sl (b.ss.map Sn.val) .none,.sl [] .nil,.sl [] .nil,.sl [] .nil,.sl [] .nil,.sl [] .nil])∧H.get 1=some (.row true 0 true z.cells) ∧
   vs=[b.val,.sl (L.map Ly.Id.val) t,x.val,.ptr 0 0,.ptr 1 0,.sl [] .nil,.sl (((b.tree L e).place b.key z::r).map natV) tk,.int .i64 (k:Int),x1,x2,x3,x4]) L.length
  ⟨0,x,[],.none,_,_,_,_,rfl,by omega,hx,by simp,by simp,fun _ _=>rfl,by simp [push_next,empty_next],?_,?_,rfl⟩ ?_
 ·rw [get_push_ne (by simp [push_next,empty_next])];exact get_push_eq rfl
 ·exact get_push_eq (by simp [push_next,empty_next])
 rintro m vs H ⟨k,z,r,tk,x1,x2,x3,x4,rfl,hk,hz,hr,hpa,htk,hn,g0,g1,rfl⟩
 by_cases hk2:k<L.length
 ·have pv:=parent_v b fit L (by omega) ht z
  unfold parR Bk.val bkV at pv
  have e0:L.length - k=(L.length - (k+1))+1:=by omega
  rw [e0,pathF_step] at hpa
  cases hp:(b.tree L e).par z with
  | none =>
    have hp':b.par L z=none:=hp
    rw [hp'] at pv
    rw [hp] at hpa
    simp only [Option.isSome_none] at pv
    replace fx:=aI @g0 (aI @g1 (aI @pv (aI @idVL (aI @idL (aI @idA (aI @idT (aI @id_agg (aI @idS0 (aI @st (aI @st_bk @st_id))))))))))
    (first|refine go ?_|exact goC);repeat' (first|refine gP ?_|exact gPc)
    rw [show natV (Tr.place b.key (b.tree L e) z)::List.map natV r=((Tr.place b.key (b.tree L e) z)::r).map natV from rfl,htk,hpa];rfl
  | some p =>
    have hp':b.par L z=some p:=hp
    have hpin:=(ok.pin z hz p hp).1
    obtain ⟨s1,y1,hs1,hy1,he1⟩:=ent_of_has (Bk.mem_tree.1 hpin).2
    have pl2:=place_v b fit L hL ht p hy1
    rw [he1] at pl2
    unfold Bk.val bkV at pl2
    rw [hp'] at pv
    rw [hp] at hpa
    have ep:parI (some p)=p:=rfl
    rw [ep] at pv
    simp only [Option.isSome_some] at pv
    obtain ⟨q,hq⟩:∃ q,(b.tree L e).place b.key p=q:=⟨_,rfl⟩
    rw [hq] at pl2
    have lb:∀ H,litA 1 3 1 1 false [.int .i64 0] (some [.int .i64 (q:Int)]) H=some (.sl ([q].map natV) (.own H.next 1),H.push (.tok 3)):=fun H=>lit_own rfl rfl rfl rfl
    replace fx:=aI @g0 (aI @g1 (aI @pv (aI @pl2 (aI @lb (aI @idVL (aI @idL (aI @idA (aI @idT (aI @id_agg (aI @idS0 (aI @st (aI @st_bk @st_id))))))))))))
    (first|refine go ?_|exact goC);repeat' (first|refine gP ?_|exact gPc)
    refine append_U (f:=natV) [q] ((b.tree L e).place b.key z::r) (fun _=>rfl) (fun _=>rfl) (fun _=>rfl) (by simp [lenA]) (elems_sl (f:=natV) (l:=(b.tree L e).place b.key z::r) fun _=>rfl) (.inr ⟨_,rfl,get_push_eq rfl⟩) (by simp;omega) (by omega) (by omega) (by omega) fun H' tm' hgr' hn' keep=>?_
    have k0:=keep 0 _ _ _ _ (get_push_old (get_push_old g0))
    have k1:=keep 1 _ _ _ _ (get_push_old (get_push_old g1))
    have k4:=keep H.next _ _ _ _ (get_push_old (get_push_eq rfl))
    simp only [push_next] at hn'
    rcases hgr' with ⟨h0,_⟩|⟨j,rfl,_⟩
    ·simp at h0
    replace fx:=aI @k0 (aI @k1 (aI @k4 (aI @idVL (aI @idL (aI @idA (aI @idT (aI @id_agg @idS)))))))
    first|refine go ?_|exact goC
    refine lp_n ⟨_,by omega,k+1,p,(b.tree L e).place b.key z::r,.own j 1,_,_,_,_,rfl,by omega,hpin,by simp;omega,by rw [hpa];simp,fun _ _=>rfl,by simp only [put_next];omega,?_,?_,by rw [hq];push_cast;rfl⟩
    ·rw [get_put_ne (by omega)];exact k0
    ·exact get_put_old k1
 ·have e0:L.length - k=0:=by omega
  rw [e0,Tr.pathF] at hpa
  replace fx:=aI @g0 @g1
  (first|refine go ?_|exact goC);repeat' (first|refine gN ?_|exact gNc)
  rw [show natV (Tr.place b.key (b.tree L e) z)::List.map natV r=((Tr.place b.key (b.tree L e) z)::r).map natV from rfl,htk,hpa];rfl
end Go.Proofs.YthhdkkecolocdaaGreatDoor

namespace Go.Proofs.YthhdkkecolocdaaGreatDoor
open Go Go.Abs Go.Ly
theorem pathF_len {α:Type} [DecidableEq α] (lt:α→α→Bool) (T:Tr α):∀ (n:Nat) (x:α),(T.pathF lt n x).length≤n+1
 | 0,x=>by simp [Tr.pathF]
 | n+1,x=>by
   rw [pathF_step,List.length_append]
   cases hp:T.par x with
   | none=>simp
   | some p=>have:=pathF_len lt T n p;simp;omega
theorem tlenB:((List.range 100).all fun k=>decide ((digs k).length≤2) && decide ((lets k).length≤2))=true:=by kernel_rfl
theorem tlen {k:Nat} (h:k<100):(digs k).length≤2∧(lets k).length≤2:=by
 have:=all_lt tlenB h
 simpa using this
theorem entry_sense {b:Bk} {x:Ly.Id} {y:En} (h:b.entry x=some y):(b.sense x).isSome=true:=by
 unfold Bk.entry at h
 cases hn:b.ss.length with
 | zero=>rw [hn] at h;simp [Bk.entF] at h
 | succ n =>
   rw [hn,entF_step] at h
   cases hs:b.sense x with
   | none=>rw [hs] at h;simp at h
   | some s=>rfl
end Go.Proofs.YthhdkkecolocdaaGreatDoor

namespace Go.Proofs.YthhdkkecolocdaaGreatDoor
open Go Go.Abs Go.Ly
def bkC (b:Bk):List AVal:=[.sl (b.es.map En.val) .none,.sl (b.ss.map Sn.val) .none,.sl [] .nil,.sl [] .nil,.sl [] .nil,.sl [] .nil,.sl [] .nil]
theorem bkL (b:Bk):(bkC b).length=7:=rfl
theorem bkA (b:Bk):(bkC b).all AVal.one=true:=rfl
theorem bkT (b:Bk):List.take 7 (bkC b)=bkC b:=rfl
theorem bk_agg (b:Bk):AVal.agg (bkC b)=b.val:=rfl
def sibI (b:Bk) (x y:Ly.Id):Int:=orI [cmpI (b.rank x) (b.rank y),ordI x y]
theorem sibI_lt (b:Bk) (x y:Ly.Id):sibI b x y<0↔b.key x y=true:=by
 have h:=ordI_lt x y
 unfold sibI orI orI orI cmpI Bk.key
 simp only [Bool.or_eq_true,Bool.and_eq_true,decide_eq_true_eq,←h]
 repeat' split
 all_goals omega
theorem grow1_c (b:Bk) (fit:b.Fit) (x y:Ly.Id) {h:Heap} {c z:Nat} {mu:Bool} (hc:h.get c=some (.row mu z true (bkC b))) :
  CV F 107 [x.val,y.val,.ptr c 0] h (fun v h'=>v = .int .i64 (sibI b x y)∧Fr (fun _=>False) h h'):=by
 refine CV_wp (fn:=c107) rfl ?_
 simp only [uT,c107]
 have hlt:=get_lt hc
 have r1:=rank_v b fit x
 have r2:=rank_v b fit y
 have o:=order_v x y
 have c1:=compare_v (b.rank x) (b.rank y)
 have c2:PV F 31 [.sl [.int .i64 (cmpI (b.rank x) (b.rank y)),.int .i64 (ordI x y)] .none]=some (.int .i64 (sibI b x y)):=or_v [cmpI (b.rank x) (b.rank y),ordI x y] (by simp) .none
 replace fx:=aI @hc (aI @bkL (aI @bkA (aI @bkT (aI @bk_agg (aI @st_bk (aI @st_id (aI @idVL (aI @idL (aI @idA (aI @idT (aI @id_agg (aI @r1 (aI @r2 (aI @o (aI @c1 @c2)))))))))))))))
 first|refine go ?_|exact goC
 exact ((Fr.refl _ _).push _).push _
structure CmpOk (lt:Ly.Id→Ly.Id→Bool) (g:Nat) (cap:List AVal) (r:Nat) (I:Heap→Prop):Prop where
 cmp:∀ (h:Heap) (x y:Ly.Id),I h→CV F g ([x.val,y.val]++cap) h (fun v h'=>∃ n:Int,v = .int .i64 n∧(n<0↔lt x y=true)∧Fr (fun _=>False) h h')
 keep:∀ (h h':Heap),I h→Fr (fun j=>j=r) h h'→I h'
theorem frw {r:Nat} {h h':Heap} (f:Fr (fun _=>False) h h'):Fr (fun j=>j=r) h h':=⟨f.1,fun j hj _=>f.2 j hj (fun q=>q)⟩
theorem frp {r:Nat} {h h':Heap} (f:Fr (fun j=>j=r) h h') (o:Option Abs.Obj):Fr (fun j=>j=r) h (h'.put r o):=⟨by rw [put_next];exact f.1,fun j hj hn=>by rw [get_put_ne hn];exact f.2 j hj hn⟩
theorem ins_c {lt:Ly.Id→Ly.Id→Bool} {g:Nat} {cap:List AVal} {r:Nat} {I:Heap→Prop} (cm:CmpOk lt g cap r I) (l:List Ly.Id) (tot:Tot lt l) (nd:l.Nodup) (hl:l.length≤100) {h:Heap} (hI:I h)
  (hr:h.get r=some (.row true 3 true (flat (l.map Ly.Id.val)))) :
  CV F 93 [.ref r 0 l.length 3,.int .i64 0,.int .i64 (l.length:Int),.fn g cap] h (fun v h'=>h'.get r=some (.row true 3 true (flat ((isort lt l).map Ly.Id.val)))∧Fr (fun j=>j=r) h h'∧v = .tup []):=by
 refine CV_wp (fn:=c93) rfl ?_
 simp only [uT,c93]
 replace fx:=Dum_eq
 first|refine go ?_|exact goC
 refine w_loop (fun k vs H=>∃ (i:Nat) (m:List Ly.Id) (x1 x2 x3:AVal),k=l.length+1 - i∧1≤i∧(i≤l.length∨i=1)∧m.Perm l∧SrtTo lt m i∧H.get r=some (.row true 3 true (flat (m.map Ly.Id.val)))∧Fr (fun j=>j=r) h H ∧
   vs=[.ref r 0 l.length 3,.int .i64 0,.int .i64 (l.length:Int),.fn g cap,.int .i64 (i:Int),x1,x2,x3]) l.length
  ⟨1,l,_,_,_,by omega,by omega,.inr rfl,List.Perm.refl _,fun p q h1 h2=>by omega,hr,Fr.refl _ _,rfl⟩ ?_
 rintro k vs H ⟨i,m,x1,x2,x3,rfl,hi1,hi,pm,srt,g0,fr,rfl⟩
 have hlen:=pm.length_eq
 have hI':=cm.keep _ _ hI fr
 by_cases hk2:i<l.length
 ·replace fx:=Dum_eq
  (first|refine go ?_|exact goC);repeat' (first|refine gP ?_|exact gPc)
  refine w_loop (fun k vs H=>∃ (j:Nat) (m:List Ly.Id) (x1 x2:AVal),k=j+1∧j≤i∧Ins lt l m i j∧H.get r=some (.row true 3 true (flat (m.map Ly.Id.val)))∧Fr (fun j=>j=r) h H ∧
    vs=[.ref r 0 l.length 3,.int .i64 0,.int .i64 (l.length:Int),.fn g cap,.int .i64 (i:Int),.int .i64 (j:Int),x1,x2]) (i+1)
   ⟨i,m,_,_,rfl,by omega,Ins.start pm srt,g0,fr,rfl⟩ ?_
  clear srt pm hlen hI' fr g0
  rintro k vs H ⟨j,m,x4,x5,rfl,hj,ins,g0,fr,rfl⟩
  have hlen:=ins.perm.length_eq
  have hI':=cm.keep _ _ hI fr
  by_cases hj0:j=0
  ·subst hj0
   have st:=ins.stop tot nd (by omega) (by omega) (.inl rfl)
   replace fx:=Dum_eq
   (first|refine go ?_|exact goC);repeat' (first|refine gN ?_|exact gNc)
   exact lp_n ⟨_,by omega,i+1,m,_,_,_,rfl,by omega,.inl (by omega),ins.perm,st,g0,fr,by push_cast;rfl⟩
  ·have l1:=loadG_flat0 (f:=Ly.Id.val) (sz:=3) (fun _=>rfl) m (n:=j) (m:=3) true true 3 true (by omega) (by omega)
   have l2:=loadG_flat0 (f:=Ly.Id.val) (sz:=3) (fun _=>rfl) m (n:=j - 1) (m:=3) true true 3 true (by omega) (by omega)
   replace fx:=aI @g0 (aI @l1 (aI @l2 (aI @idVL (aI @idT @id_agg))))
   (first|refine go ?_|exact goC);repeat' (first|refine gP ?_|exact gPc)
   refine CV_mono (cm.cmp H (nth m j) (nth m (j - 1)) hI') ?_
   rintro v h1 ⟨n,rfl,hn,f1⟩
   have g1:=f1.get g0 (fun q=>q)
   have fr1:=fr.trans (frw f1)
   by_cases hn0:n<0
   ·have s1:=storeG_flatw (f:=Ly.Id.val) (sz:=3) (fun _=>rfl) m (n:=j) (id:=r) (h:=h1) 3 true (nth m (j - 1)) (by omega) rfl
    have s2:=storeG_flatw (f:=Ly.Id.val) (sz:=3) (fun _=>rfl) (m.set j (nth m (j - 1))) (n:=j - 1) (id:=r) (h:=h1.put r (some (.row true 3 true (flat ((m.set j (nth m (j - 1))).map Ly.Id.val))))) 3 true (nth m j) (by simp;omega) rfl
    have sw:(m.set j (nth m (j - 1))).set (j - 1) (nth m j)=swp m j:=by unfold swp;rw [List.set_comm _ _ (by omega)]
    rw [sw] at s2
    have hlt:=hn.1 hn0
    have ins2:=ins.step (by omega) (by omega) (by omega) hlt
    replace fx:=aI @g1 (aI @l1 (aI @l2 (aI @idVL (aI @idL (aI @idA (aI @idT (aI @id_agg (aI @s1 @s2))))))))
    (first|refine go ?_|exact goC);repeat' (first|refine gP ?_|exact gPc)
    exact lp_n ⟨_,by omega,j - 1,swp m j,_,_,rfl,by omega,ins2,get_put_old (get_put_old g1),frp (frp fr1 _) _,by rw [show ((j:Int) - 1)=((j - 1:Nat):Int) by omega]⟩
   ·have st:=ins.stop tot nd (by omega) (by omega) (.inr (by
     cases e:lt (nth m j) (nth m (j - 1))
     ·rfl
     ·exact absurd (hn.2 e) hn0))
    replace fx:=Dum_eq
    (first|refine go ?_|exact goC);repeat' (first|refine gP ?_|exact gPc|refine gN ?_|exact gNc)
    exact lp_n ⟨_,by omega,i+1,m,_,_,_,rfl,by omega,.inl (by omega),ins.perm,st,g1,fr1,by push_cast;rfl⟩
 ·replace fx:=Dum_eq
  (first|refine go ?_|exact goC);repeat' (first|refine gN ?_|exact gNc)
  have srt':SrtTo lt m m.length:=fun p q h1 h2=>by
   rcases hi with hi|hi
   ·exact srt p q h1 (by omega)
   ·omega
  rw [←ins_done tot nd pm srt']
  exact ⟨g0,fr⟩
end Go.Proofs.YthhdkkecolocdaaGreatDoor

namespace Go.Proofs.YthhdkkecolocdaaGreatDoor
open Go Go.Abs Go.Ly
theorem u8n {n:Nat} (h:n<256):IntKind.u8.wrap (n:Int)=n:=u8_in (by omega) (by omega)
def tabB:Bool:=(List.range 101).all fun n=>match sidxA (.str (0::1::2::2::3::3::3::3::(List.replicate 8 4++List.replicate 16 5++List.replicate 32 6++List.replicate 64 7++List.replicate 128 8))) (.int .u8 (n:Int)) with
 | some (.int .u8 b)=>decide (0≤b) && decide (b<256)
 | _=>false
theorem tabB_true:tabB=true:=by kernel_rfl
theorem tab_sx {n:Nat} (h:n<101):∃ b:Int,0≤b∧b<256∧sidxA (.str (0::1::2::2::3::3::3::3::(List.replicate 8 4++List.replicate 16 5++List.replicate 32 6++List.replicate 64 7++List.replicate 128 8))) (.int .u8 (n:Int))=some (.int .u8 b):=by
 have key:=all_lt tabB_true h
 split at key
 ·rename_i b hb
  simp only [Bool.and_eq_true,decide_eq_true_eq] at key
  exact ⟨b,key.1,key.2,hb⟩
 ·simp at key
theorem len64_c (n:Nat) (hn:n≤100) (h:Heap):CV F 102 [.int .u64 (n:Int)] h (fun v h'=>(∃ k:Int,v = .int .i64 k)∧h'=h):=by
 refine CV_wp (fn:=c102) rfl ?_
 simp only [uT,c102]
 have e:=u8n (n:=n) (by omega)
 obtain ⟨b,hb0,hb1,hb⟩:=tab_sx (n:=n) (by omega)
 replace fx:=aI @e @hb
 (first|refine go ?_|exact goC);repeat' (first|refine gN ?_|exact gNc)
 exact ⟨_,rfl⟩
theorem len_c (n:Nat) (hn:n≤100) (h:Heap):CV F 65 [.int .u64 (n:Int)] h (fun v h'=>(∃ k:Int,v = .int .i64 k)∧h'=h):=by
 refine CV_wp (fn:=c65) rfl ?_
 simp only [uT,c65]
 replace fx:=Dum_eq
 first|refine go ?_|exact goC
 refine CV_mono (len64_c n hn h) ?_
 rintro v h1 ⟨⟨k,rfl⟩,rfl⟩
 replace fx:=Dum_eq
 first|refine go ?_|exact goC
 exact ⟨_,rfl⟩
theorem pdq_c {lt:Ly.Id→Ly.Id→Bool} {g:Nat} {cap:List AVal} {r:Nat} {I:Heap→Prop} (cm:CmpOk lt g cap r I) (l:List Ly.Id) (tot:Tot lt l) (nd:l.Nodup) (hl:l.length≤12) {h:Heap} (hI:I h)
  (hr:h.get r=some (.row true 3 true (flat (l.map Ly.Id.val)))) (k:Int) :
  CV F 64 [.ref r 0 l.length 3,.int .i64 0,.int .i64 (l.length:Int),.int .i64 k,.fn g cap] h (fun v h'=>h'.get r=some (.row true 3 true (flat ((isort lt l).map Ly.Id.val)))∧Fr (fun j=>j=r) h h'∧v = .tup []):=by
 refine CV_wp (fn:=c64) rfl ?_
 simp only [uT,c64]
 replace fx:=Dum_eq
 first|refine go ?_|exact goC
 refine w_loop (fun m vs H=>∃ (x1 x2 x3 x4 x5 x6 x7 x8 x9 x10 x11 x12 x13 x14 x15 x16 x17:AVal),H=h∧m=0∧vs=[.ref r 0 l.length 3,.int .i64 0,.int .i64 (l.length:Int),.int .i64 k,.fn g cap,.bool true,.bool true,x1,x2,x3,x4,x5,x6,x7,x8,x9,x10,x11,x12,x13,x14,x15,x16,x17]) 0 ⟨_,_,_,_,_,_,_,_,_,_,_,_,_,_,_,_,_,rfl,rfl,rfl⟩ ?_
 rintro m vs H ⟨x1,x2,x3,x4,x5,x6,x7,x8,x9,x10,x11,x12,x13,x14,x15,x16,x17,rfl,rfl,rfl⟩
 replace fx:=Dum_eq
 (first|refine go ?_|exact goC);repeat' (first|refine gP ?_|exact gPc)
 refine CV_mono (ins_c cm l tot nd (by omega) hI hr) ?_
 rintro v h1 ⟨q1,q2,rfl⟩
 replace fx:=Dum_eq
 first|refine go ?_|exact goC
 exact ⟨q1,q2⟩
theorem sort_c {lt:Ly.Id→Ly.Id→Bool} {g:Nat} {cap:List AVal} {r:Nat} {I:Heap→Prop} (cm:CmpOk lt g cap r I) (l:List Ly.Id) (tot:Tot lt l) (nd:l.Nodup) (hl:l.length≤12) {h:Heap} (hI:I h)
  (hr:h.get r=some (.row true 3 true (flat (l.map Ly.Id.val)))) :
  CV F 29 [.ref r 0 l.length 3,.fn g cap] h (fun v h'=>h'.get r=some (.row true 3 true (flat ((isort lt l).map Ly.Id.val)))∧Fr (fun j=>j=r) h h'∧v = .tup []):=by
 refine CV_wp (fn:=c29) rfl ?_
 simp only [uT,c29]
 have e:IntKind.u64.wrap (l.length:Int)=l.length:=by
  simp [IntKind.wrap,IntKind.bits,IntKind.signed];omega
 replace fx:=@e
 first|refine go ?_|exact goC
 refine CV_mono (len_c l.length (by omega) h) ?_
 rintro v h1 ⟨⟨k,rfl⟩,rfl⟩
 replace fx:=Dum_eq
 first|refine go ?_|exact goC
 refine CV_mono (pdq_c cm l tot nd hl hI hr k) ?_
 rintro v h2 ⟨q1,q2,rfl⟩
 replace fx:=Dum_eq
 first|refine go ?_|exact goC
 exact ⟨q1,q2⟩
theorem ins0_c (t:Abs.Tok) (g:Nat) (cap:List AVal) (h:Heap):CV F 93 [.sl [] t,.int .i64 0,.int .i64 0,.fn g cap] h (fun v h'=>h'=h∧v = .tup []):=by
 refine CV_wp (fn:=c93) rfl ?_
 simp only [uT,c93]
 replace fx:=Dum_eq
 first|refine go ?_|exact goC
 refine w_loop (fun m vs H=>∃ (x1 x2 x3:AVal),H=h∧m=0∧vs=[.sl [] t,.int .i64 0,.int .i64 0,.fn g cap,.int .i64 1,x1,x2,x3]) 0 ⟨_,_,_,rfl,rfl,rfl⟩ ?_
 rintro m vs H ⟨x1,x2,x3,rfl,rfl,rfl⟩
 replace fx:=Dum_eq
 first|refine go ?_|exact goC
theorem pdq0_c (t:Abs.Tok) (g:Nat) (cap:List AVal) (h:Heap) (k:Int):CV F 64 [.sl [] t,.int .i64 0,.int .i64 0,.int .i64 k,.fn g cap] h (fun v h'=>h'=h∧v = .tup []):=by
 refine CV_wp (fn:=c64) rfl ?_
 simp only [uT,c64]
 replace fx:=Dum_eq
 first|refine go ?_|exact goC
 refine w_loop (fun m vs H=>∃ (x1 x2 x3 x4 x5 x6 x7 x8 x9 x10 x11 x12 x13 x14 x15 x16 x17:AVal),H=h∧m=0∧vs=[.sl [] t,.int .i64 0,.int .i64 0,.int .i64 k,.fn g cap,.bool true,.bool true,x1,x2,x3,x4,x5,x6,x7,x8,x9,x10,x11,x12,x13,x14,x15,x16,x17]) 0 ⟨_,_,_,_,_,_,_,_,_,_,_,_,_,_,_,_,_,rfl,rfl,rfl⟩ ?_
 rintro m vs H ⟨x1,x2,x3,x4,x5,x6,x7,x8,x9,x10,x11,x12,x13,x14,x15,x16,x17,rfl,rfl,rfl⟩
 replace fx:=Dum_eq
 first|refine go ?_|exact goC
 refine CV_mono (ins0_c t g cap _) ?_
 rintro v h1 ⟨rfl,rfl⟩
 replace fx:=Dum_eq
 first|refine go ?_|exact goC
theorem sort0_c (t:Abs.Tok) (g:Nat) (cap:List AVal) (h:Heap):CV F 29 [.sl [] t,.fn g cap] h (fun v h'=>h'=h∧v = .tup []):=by
 refine CV_wp (fn:=c29) rfl ?_
 simp only [uT,c29]
 have e:IntKind.u64.wrap 0=0:=by decide
 have q:=len_c 0 (by omega) h
 replace fx:=@e
 first|refine go ?_|exact goC
 refine CV_mono q ?_
 rintro v h1 ⟨⟨k,rfl⟩,rfl⟩
 replace fx:=Dum_eq
 first|refine go ?_|exact goC
 refine CV_mono (pdq0_c t g cap _ k) ?_
 rintro v h2 ⟨rfl,rfl⟩
 replace fx:=Dum_eq
 first|refine go ?_|exact goC
end Go.Proofs.YthhdkkecolocdaaGreatDoor

namespace Go.Proofs.YthhdkkecolocdaaGreatDoor
open Go Go.Abs Go.Ly
def idK:KD := .stk [.int .i64,.int .i64,.int .i64]
theorem id_key (x:Ly.Id):isKey idK x.val=true:=rfl
theorem id_keq (x y:Ly.Id):keyEq idK x.val y.val=decide (x=y):=by
 have:decide (x=y)=((x.o == y.o) && ((x.s == y.s) && (x.i == y.i))):=by
  rw [Bool.eq_iff_iff]
  simp only [decide_eq_true_eq,Bool.and_eq_true,beq_iff_eq]
  exact ⟨fun h=>by subst h;simp,fun ⟨h1,h2,h3⟩=>id_ext h1 h2 h3⟩
 rw [this]
 simp only [keyEq,idK,Id.val,Id.cells,sksEq,skEq]
 simp
def SV (h:Heap) (v:AVal) (l:List Ly.Id):Prop:=(v = .sl [] .nil∧l=[])∨∃ r,v = .ref r 0 l.length 3∧h.get r=some (.row true 3 true (flat (l.map Ly.Id.val)))
theorem SV.fr {h h':Heap} {v:AVal} {l:List Ly.Id} (s:SV h v l) (f:Fr (fun _=>False) h h'):SV h' v l:=by
 rcases s with s|⟨r,e,g⟩
 ·exact .inl s
 ·exact .inr ⟨r,e,f.get g (fun q=>q)⟩
def KOk (kids:Ly.Id→List Ly.Id) (h:Heap) (m:Nat):Prop:=∃ clock es,h.get m=some (.map idK clock es)∧∀ x,∃ v,SV h v (kids x)∧((findE idK x.val es 0=none∧v = .sl [] .nil)∨∃ i,findE idK x.val es 0=some (i,v))
theorem KOk.fr {kids:Ly.Id→List Ly.Id} {h h':Heap} {m:Nat} (k:KOk kids h m) (f:Fr (fun _=>False) h h'):KOk kids h' m:=by
 obtain ⟨c,es,g,q⟩:=k
 exact ⟨c,es,f.get g (fun q=>q),fun x=>by obtain ⟨v,s,r⟩:=q x;exact ⟨v,s.fr f,r⟩⟩
theorem KOk.look {kids:Ly.Id→List Ly.Id} {h:Heap} {m:Nat} (k:KOk kids h m) (x:Ly.Id):∃ v,SV h v (kids x)∧evalX (.mlook idK (.sl [] .nil) false) [.mp m,x.val] h=some (v,h):=by
 obtain ⟨c,es,g,q⟩:=k
 obtain ⟨v,s,r⟩:=q x
 refine ⟨v,s,?_⟩
 rcases r with ⟨e,rfl⟩|⟨i,e⟩
 ·simp only [evalX,id_key,if_true,g,e];rfl
 ·simp only [evalX,id_key,if_true,g,e];rfl
theorem idS4 (x:Ly.Id):setCells [.int .i64 0,.int .i64 0,.int .i64 0,.str []] 0 x.cells=[.int .i64 x.o,.int .i64 x.s,.int .i64 x.i,.str []]:=rfl
theorem nmL (x:Ly.Id×List Nat):(numdV x).cells.length=4:=rfl
theorem nm_mk (x:Ly.Id×List Nat):mk true (numdV x).cells=some (numdV x):=rfl
theorem nm_st (x:Ly.Id×List Nat):stripL (numdV x).cells=some (numdV x).cells:=rfl
theorem each_app {α β:Type} (g:α→Nat→List β):∀ (l m:List α) (k:Nat),each g (l++m) k=each g l k++each g m (k+l.length)
 | [],m,k=>by simp [each]
 | x::l,m,k=>by
   simp only [List.cons_append,each,each_app g l m (k+1),List.length_cons,List.append_assoc]
   congr 3
   omega
theorem take_prefix {α β:Type} (g:α→Nat→List β) (l:List α) (i:Nat):(each g (l.take i) 1).length≤(each g l 1).length:=by
 conv=>rhs;rw [←List.take_append_drop i l,each_app]
 simp
theorem walk_len {α:Type} [DecidableEq α] {lt:α→α→Bool} {T:Tr α} {d:α→Nat} (ok:T.Ok lt d) (f:Nat) (p:Option α):(T.walk lt f (T.sibs lt p) (T.pathO lt d p)).length≤T.M.length:=by
 have hs:=walk_sorted (lt:=lt) T f (T.sibs lt p) (T.pathO lt d p)
 have hm:∀ z∈T.walk lt f (T.sibs lt p) (T.pathO lt d p),z.1∈T.M∧z.2=T.path lt d z.1:=fun z hz=>ok.walk_mem f p (y:=z.1) (w:=z.2) hz
 have hn:((T.walk lt f (T.sibs lt p) (T.pathO lt d p)).map Prod.fst).Nodup:=by
  rw [List.nodup_iff_pairwise_ne,List.pairwise_map]
  refine hs.imp_of_mem fun {a b} ha hb h e=>?_
  rw [(hm a ha).2,(hm b hb).2,e,lex_irr] at h
  simp at h
 have:=hn.length_le_of_subset (l₂:=T.M) (fun x hx=>by obtain ⟨z,hz,rfl⟩:=List.mem_map.1 hx;exact (hm z hz).1)
 simpa using this
theorem walk0_c (m:Nat) (x0:AVal) (hx0:x0.one=true) (s:Tx) (dp:Int) {h:Heap} {sv:AVal} (hS:SV h sv []):CV F 70 [.agg [x0,.mp m],sv,.str s,.int .i64 dp] h (fun v h'=>v = .sl [] .nil∧Fr (fun _=>False) h h'):=by
 refine CV_wp (fn:=c70) rfl ?_
 simp only [uT,c70]
 have fr1:Fr (fun _=>False) h (h.push (.row true 0 true [x0,.mp m])):=(Fr.refl _ _).push _
 have ho:(AVal.mp m).one=true:=rfl
 rcases hS with ⟨rfl,_⟩|⟨r,rfl,g0⟩
 ·replace fx:=aI @hx0 @ho
  first|refine go ?_|exact goC
  refine w_loop (fun k vs H=>∃ (x1 x2 x3 x4 x5 x6 x7 x8:AVal),k=0∧Fr (fun _=>False) h H∧vs=[x1,x2,x3,x4,x5,x6,.sl [] .nil,x7,x8,.tup [],.sl [] .nil,.int .i64 0,.int .i64 0,.tup []]) 0 ⟨_,_,_,_,_,_,_,_,rfl,fr1,rfl⟩ ?_
  rintro k vs H ⟨x1,x2,x3,x4,x5,x6,x7,x8,rfl,fr,rfl⟩
  replace fx:=Dum_eq
  first|refine go ?_|exact goC
  exact fr
 ·replace fx:=aI @hx0 (aI @ho @g0)
  first|refine go ?_|exact goC
  refine w_loop (fun k vs H=>∃ (x1 x2 x3 x4 x5 x6 x7 x8:AVal),k=0∧Fr (fun _=>False) h H∧vs=[x1,x2,x3,x4,x5,x6,.sl [] .nil,x7,x8,.tup [],.ref r 0 0 3,.int .i64 0,.int .i64 0,.tup []]) 0 ⟨_,_,_,_,_,_,_,_,rfl,fr1,rfl⟩ ?_
  rintro k vs H ⟨x1,x2,x3,x4,x5,x6,x7,x8,rfl,fr,rfl⟩
  replace fx:=Dum_eq
  first|refine go ?_|exact goC
  exact fr
theorem before_snoc (w:List Nat) (k:Nat):Ly.before (w++[k])=text (w++[k])++[46]:=by
 unfold Ly.before
 rw [if_neg (by simp)]
 rfl
theorem walk_c (b:Bk) (fit:b.Fit) (L:List Ly.Id) (hL:L.length≤60) (e:Ly.Id) (m:Nat) (x0:AVal) (hx0:x0.one=true) :
  ∀ (f:Nat) (p:Option Ly.Id) (h:Heap) (sv:AVal),(∀ q,p=some q→q∈(b.tree L e).M)→(∀ x∈(b.tree L e).sibs b.key p,b.ss.length≤b.idx x+f)→((b.tree L e).pathO b.key b.idx p).length+f≤100 →
    (Ly.before ((b.tree L e).pathO b.key b.idx p)).length≤4*((b.tree L e).pathO b.key b.idx p).length →
    KOk (fun x=>(b.tree L e).sibs b.key (some x)) h m→SV h sv ((b.tree L e).sibs b.key p) →
    CV F 70 [.agg [x0,.mp m],sv,.str (Ly.before ((b.tree L e).pathO b.key b.idx p)),.int .i64 (((b.tree L e).pathO b.key b.idx p).length:Int)] h (fun v h'=>∃ tk,v = .sl (((b.tree L e).walk b.key f ((b.tree L e).sibs b.key p) ((b.tree L e).pathO b.key b.idx p)).map numdV) tk∧Gr h' 105 4 ((b.tree L e).walk b.key f ((b.tree L e).sibs b.key p) ((b.tree L e).pathO b.key b.idx p)) tk∧Fr (fun _=>False) h h'):=by
 intro f
 have ok:=fit.ok.tree_ok L e
 induction f with
 | zero =>
   intro p h sv hp hd hw hb hK hS
   have hnil:(b.tree L e).sibs b.key p=[]:=by
    rcases hq:(b.tree L e).sibs b.key p with _|⟨x,r⟩
    ·rfl
    ·exfalso
     have hx:x∈(b.tree L e).sibs b.key p:=by rw [hq];simp
     have h1:=hd x hx
     have h2:=Bk.tree_lt x ((Tr.Ok.mem_sibs _).1 hx).1
     omega
   rw [hnil] at hS ⊢
   refine CV_mono (walk0_c m x0 hx0 _ _ hS) ?_
   rintro v h1 ⟨rfl,fr⟩
   exact ⟨.nil,rfl,Gr.nil _ _ _,fr⟩
 | succ f ih =>
   intro p h sv hp hd hw hb hK hS
   have hle:(((b.tree L e).walk b.key (f+1) ((b.tree L e).sibs b.key p) ((b.tree L e).pathO b.key b.idx p))).length≤60:=by
    have h1:=walk_len ok (f+1) p
    have h2:=M_len b L e
    omega
   generalize hw0:(b.tree L e).pathO b.key b.idx p=w at hw hb hle ⊢
   have hms:∀ x∈(b.tree L e).sibs b.key p,x∈(b.tree L e).M∧(b.tree L e).par x=p:=fun x hx=>(Tr.Ok.mem_sibs _).1 hx
   have hpl:∀ (i:Nat) (hi:i<((b.tree L e).sibs b.key p).length),(b.tree L e).pathO b.key b.idx (some (nth ((b.tree L e).sibs b.key p) i))=w++[i+1]:=fun i hi=>by
    have h1:=hms _ (nth_mem hi)
    show (b.tree L e).path b.key b.idx _=_
    rw [ok.path_eq h1.1,h1.2,hw0,nth_eq hi,ok.place_sib p i hi]
   have hll:((b.tree L e).sibs b.key p).length≤60:=by
    have h1:((b.tree L e).sibs b.key p).length≤(b.tree L e).M.length:=by
     unfold Tr.sibs
     rw [(isort_perm _ _).length_eq]
     exact List.length_filter_le _ _
    have h2:=M_len b L e
    omega
   generalize hl0:(b.tree L e).sibs b.key p=l at hS hd hle hms hpl hll ⊢
   rw [Tr.walk] at hle ⊢
   generalize hg:(fun (x:Ly.Id) (k:Nat)=>(x,w++[k])::(b.tree L e).walk b.key f ((b.tree L e).sibs b.key (some x)) (w++[k]))=g at hle ⊢
   by_cases hl:l=[]
   ·subst hl
    refine CV_mono (walk0_c m x0 hx0 _ _ hS) ?_
    rintro v h1 ⟨rfl,fr⟩
    exact ⟨.nil,rfl,Gr.nil _ _ _,fr⟩
   ·rcases hS with ⟨_,q⟩|⟨r,rfl,gr⟩
    ·exact absurd q hl
    refine CV_wp (fn:=c70) rfl ?_
    simp only [uT,c70]
    have ho:(AVal.mp m).one=true:=rfl
    replace fx:=aI @hx0 @ho
    first|refine go ?_|exact goC
    refine w_loop (fun k vs H=>∃ (i:Nat) (tk:Abs.Tok) (x1 x2 x3 x4:AVal),k=l.length - i∧i≤l.length∧GrF (fun _=>False) h H 105 4 (each g (l.take i) 1) tk∧H.get h.next=some (.row true 0 true [x0,.mp m]) ∧
      vs=[.agg [x0,.mp m],.ref r 0 l.length 3,.str (Ly.before w),.int .i64 (w.length:Int),.ptr h.next 0,.sl [] .nil,.sl ((each g (l.take i) 1).map numdV) tk,x1,x2,x3,.ref r 0 l.length 3,.int .i64 (l.length:Int),.int .i64 (i:Int),x4]) l.length
     ⟨0,.nil,_,_,_,_,rfl,by omega,(GrF.nil _ _ _ _).step ((Fr.refl _ _).push _),get_push_eq rfl,rfl⟩ ?_
    rintro k vs H ⟨i,tk,x1,x2,x3,x4,rfl,hi,hgr,gt,rfl⟩
    by_cases hi2:i<l.length
    ·obtain ⟨x,hx⟩:∃ x,nth l i=x:=⟨_,rfl⟩
     have gr1:=hgr.fr.get gr (fun q=>q)
     have l1:=loadG_flat0 (f:=Ly.Id.val) (sz:=3) (fun _=>rfl) l (n:=i) (m:=3) true true 3 true hi2 (by omega)
     have lab:=label_v (k:=i+1) (d:=w.length) (by omega) (by omega) (by omega)
     rw [hx] at l1
     have tx:=(text_snoc w (i+1)).symm
     have tl:=tlen (k:=i+1) (by omega)
     have e1:((i+1:Nat):Int)=(i:Int)+1:=by push_cast;rfl
     rw [e1] at lab
     have lb:(Ly.label (i+1) w.length).length≤2:=by unfold Ly.label;split;exact tl.1;exact tl.2
     have tlx:(text (w++[i+1])).length≤4*w.length+2:=by rw [←tx,List.length_append];omega
     replace fx:=aI @gr1 (aI @gt (aI @l1 (aI @lab (aI @tx (aI @idVL (aI @idL (aI @idA (aI @idT (aI @id_agg (aI @idS0 @idS4))))))))))
     (first|refine go ?_|exact goC);repeat' (first|refine gP ?_|exact gPc)
     have hel:(each g (l.take i) 1).length≤60:=by have:=take_prefix g l i;omega
     refine append_F (f:=numdV) (S:=fun _=>False) (h0:=h) (each g (l.take i) 1) [(x,w++[i+1])] nmL nm_mk nm_st rfl rfl (hgr.step ((Fr.refl _ _).push _)) (by simp;omega) (by omega) (by omega) (by omega) fun H2 tk2 hgr2 hn2 keep2 oth2=>?_
     have gt2:=keep2 _ _ _ _ _ (get_push_old gt)
     have g4:=keep2 H.next _ _ _ _ (get_push_eq rfl)
     obtain ⟨kv,hkS,hkl⟩:=(hK.fr hgr2.fr).look x
     unfold idK at hkl
     have hxl:x∈l:=by rw [←hx];exact nth_mem hi2
     have hpx:=hpl i hi2
     rw [hx] at hpx
     have ihx:=ih (some x) H2 kv (fun q hq=>by simp only [Option.some.injEq] at hq;subst hq;exact (hms _ hxl).1) (fun y hy=>by
      have h1:=(Tr.Ok.mem_sibs _).1 hy
      have h2:=(ok.pin y h1.1 x h1.2).2
      have h3:=hd x hxl
      omega) (by rw [hpx];simp;omega) (by rw [hpx,before_snoc];simp;omega) (hK.fr hgr2.fr) hkS
     rw [hpx,before_snoc] at ihx
     have e2:(((w++[i+1]).length:Nat):Int)=(w.length:Int)+1:=by simp
     rw [e2] at ihx
     have tlx2:(text (w++[i+1])).length+1≤1000:=by omega
     replace fx:=aI @gt2 (aI @g4 (aI @hkl (aI @idVL (aI @idL (aI @idA (aI @idT @id_agg))))))
     first|refine go ?_|exact goC
     refine CV_mono ihx ?_
     rintro v H3 ⟨tk3,rfl,hg3,fr3⟩
     have gt3:=fr3.get gt2 (fun q=>q)
     have htk:each g (l.take (i+1)) 1=(each g (l.take i) 1++[(x,w++[i+1])])++(b.tree L e).walk b.key f ((b.tree L e).sibs b.key (some x)) (w++[i+1]):=by
      rw [List.take_succ_eq_append_getElem hi2,each_app,←nth_eq hi2,hx,List.length_take,Nat.min_eq_left (by omega),←hg]
      simp [each,Nat.add_comm 1 i]
     have hel2:((each g (l.take i) 1++[(x,w++[i+1])])++(b.tree L e).walk b.key f ((b.tree L e).sibs b.key (some x)) (w++[i+1])).length≤60:=by rw [←htk];have:=take_prefix g l (i+1);omega
     replace fx:=@gt3
     first|refine go ?_|exact goC
     refine append_F (f:=numdV) (S:=fun _=>False) (h0:=h) (each g (l.take i) 1++[(x,w++[i+1])]) ((b.tree L e).walk b.key f ((b.tree L e).sibs b.key (some x)) (w++[i+1])) nmL nm_mk nm_st lenA_sl (elems_sl nmL) (hgr2.step fr3) (by rw [List.length_append] at hel2;omega) (by omega) (by omega) (by omega) fun H4 tk4 hgr4 hn4 keep4 oth4=>?_
     have gt4:=keep4 _ _ _ _ _ gt3
     rw [←htk] at hgr4 ⊢
     replace fx:=@gt4
     first|refine go ?_|exact goC
     exact lp_n ⟨_,by omega,i+1,tk4,_,_,_,_,rfl,by omega,hgr4,gt4,by push_cast;rfl⟩
    ·have e1:l.take i=l:=List.take_of_length_le (by omega)
     rw [e1] at hgr ⊢
     replace fx:=Dum_eq
     (first|refine go ?_|exact goC);repeat' (first|refine gN ?_|exact gNc)
     exact ⟨tk,rfl,hgr.gr,hgr.fr⟩
end Go.Proofs.YthhdkkecolocdaaGreatDoor

namespace Go.Proofs.YthhdkkecolocdaaGreatDoor
open Go Go.Abs Go.Ly
abbrev Et:=Nat×Ly.Id×AVal
def enc (E:List Et):List (Nat×AVal×AVal):=E.map fun e=>(e.1,e.2.1.val,e.2.2)
structure EOk (c:Nat) (E:List Et):Prop where
 keys:(E.map fun e=>e.2.1).Nodup
 st:(E.map fun e=>e.1).Nodup
 lt:∀ e∈E,e.1<c
def up (E:List Et) (x:Ly.Id) (v:AVal):List Et:=E.map fun e=>if e.2.1=x then (e.1,e.2.1,v) else e
theorem findE_none {E:List Et} {x:Ly.Id}:∀ {i:Nat},(∀ e∈E,e.2.1≠x)→findE idK x.val (enc E) i=none:=by
 induction E with
 | nil=>intro i _;rfl
 | cons e E ih =>
   intro i h
   have h1:¬ x=e.2.1:=fun q=>h e (by simp) q.symm
   simp only [enc,List.map_cons,findE,id_keq,h1,decide_false,Bool.false_eq_true,if_false]
   exact ih fun e' he=>h e' (by simp [he])
theorem findE_some {E:List Et} {x:Ly.Id} (hn:(E.map fun e=>e.2.1).Nodup):∀ {i j:Nat} (hj:j<E.length),(E[j]).2.1=x→findE idK x.val (enc E) i=some (i+j,(E[j]).2.2):=by
 induction E with
 | nil=>intro i j hj;simp at hj
 | cons e E ih =>
   intro i j hj hx
   rw [List.map_cons,List.nodup_cons] at hn
   cases j with
   | zero =>
     simp only [List.getElem_cons_zero] at hx ⊢
     simp only [enc,List.map_cons,findE,id_keq,hx,decide_true,if_true,Nat.add_zero]
   | succ j =>
     have hj':j<E.length:=by simpa using hj
     simp only [List.getElem_cons_succ] at hx ⊢
     have h1:¬ x=e.2.1:=fun q=>hn.1 (by rw [←q,←hx];exact List.mem_map.2 ⟨E[j],List.getElem_mem hj',rfl⟩)
     simp only [enc,List.map_cons,findE,id_keq,h1,decide_false,Bool.false_eq_true,if_false]
     have:=ih hn.2 (i:=i+1) (j:=j) hj' hx
     rw [show i+(j+1)=i+1+j by omega]
     exact this
theorem key_cases (E:List Et) (x:Ly.Id):(∀ e∈E,e.2.1≠x)∨∃ (j:Nat) (hj:j<E.length),(E[j]).2.1=x:=by
 by_cases h:∃ e∈E,e.2.1=x
 ·obtain ⟨e,he,hx⟩:=h
  obtain ⟨j,hj,rfl⟩:=List.getElem_of_mem he
  exact .inr ⟨j,hj,hx⟩
 ·exact .inl fun e he hx=>h ⟨e,he,hx⟩
theorem up_modify {E:List Et} {x:Ly.Id} {v:AVal} (hn:(E.map fun e=>e.2.1).Nodup) {j:Nat} (hj:j<E.length) (hx:(E[j]).2.1=x):E.modify j (fun e=>(e.1,e.2.1,v))=up E x v:=by
 refine List.ext_getElem (by simp [up]) fun k h1 h2=>?_
 simp only [List.length_modify] at h1
 rw [List.getElem_modify]
 simp only [up,List.getElem_map]
 by_cases hk:j=k
 ·subst hk;simp [hx]
 ·rw [if_neg hk,if_neg]
  intro q
  have h3:(E.map fun e=>e.2.1)[k]'(by simpa using h1)=(E.map fun e=>e.2.1)[j]'(by simpa using hj):=by simp [q,hx]
  exact hk ((List.getElem_inj hn).1 h3).symm
theorem EOk.up {c:Nat} {E:List Et} (o:EOk c E) (x:Ly.Id) (v:AVal):EOk c (up E x v):=by
 have e1:(Proofs.YthhdkkecolocdaaGreatDoor.up E x v).map (fun e=>e.2.1)=E.map fun e=>e.2.1:=by
  rw [Proofs.YthhdkkecolocdaaGreatDoor.up,List.map_map];congr 1;funext e;simp only [Function.comp];split<;>rfl
 have e2:(Proofs.YthhdkkecolocdaaGreatDoor.up E x v).map (fun e=>e.1)=E.map fun e=>e.1:=by
  rw [Proofs.YthhdkkecolocdaaGreatDoor.up,List.map_map];congr 1;funext e;simp only [Function.comp];split<;>rfl
 refine ⟨e1 ▸ o.keys,e2 ▸ o.st,fun e he=>?_⟩
 obtain ⟨e',h1,rfl⟩:=List.mem_map.1 he
 have:=o.lt e' h1
 split<;>exact this
theorem EOk.push {c:Nat} {E:List Et} (o:EOk c E) {x:Ly.Id} (hx:∀ e∈E,e.2.1≠x) (v:AVal):EOk (c+1) (E++[(c,x,v)]):=by
 refine ⟨?_,?_,fun e he=>?_⟩
 ·rw [List.map_append,List.nodup_append]
  refine ⟨o.keys,by simp,fun a ha b hb=>?_⟩
  obtain ⟨e,h1,rfl⟩:=List.mem_map.1 ha
  simp at hb;subst hb
  exact hx e h1
 ·rw [List.map_append,List.nodup_append]
  refine ⟨o.st,by simp,fun a ha b hb=>?_⟩
  obtain ⟨e,h1,rfl⟩:=List.mem_map.1 ha
  simp at hb;subst hb
  have:=o.lt e h1;omega
 ·rcases List.mem_append.1 he with he|he
  ·have:=o.lt e he;omega
  ·simp at he;subst he;show c<c+1;omega
def look (E:List Et) (x:Ly.Id):Option AVal:=(E.find? fun e=>decide (e.2.1=x)).map fun e=>e.2.2
theorem look_none {E:List Et} {x:Ly.Id} (h:∀ e∈E,e.2.1≠x):look E x=none:=by
 have:E.find? (fun e=>decide (e.2.1=x))=none:=by
  rw [List.find?_eq_none]
  intro e he
  simpa using h e he
 simp [look,this]
theorem look_some {E:List Et} {x:Ly.Id} (hn:(E.map fun e=>e.2.1).Nodup) {j:Nat} (hj:j<E.length) (hx:(E[j]).2.1=x):look E x=some (E[j]).2.2:=by
 have:E.find? (fun e=>decide (e.2.1=x))=some E[j]:=by
  rw [List.find?_eq_some_iff_getElem]
  refine ⟨by simpa using hx,j,hj,rfl,fun k hk=>?_⟩
  simp only [Bool.not_eq_true',decide_eq_false_iff_not]
  intro q
  have h3:(E.map fun e=>e.2.1)[k]'(by simp;omega)=(E.map fun e=>e.2.1)[j]'(by simpa using hj):=by simp [q,hx]
  have:=(List.getElem_inj hn).1 h3
  omega
 simp [look,this]
theorem look_up {E:List Et} {x y:Ly.Id} {v:AVal}:look (up E x v) y=if y=x then (look E x).map (fun _=>v) else look E y:=by
 unfold look up
 induction E with
 | nil=>simp
 | cons e E ih =>
   simp only [List.map_cons,List.find?_cons]
   by_cases h1:e.2.1=x
   ·by_cases h2:y=x
    ·subst h2;simp [h1]
    ·have h3:¬ x=y:=fun q=>h2 q.symm
     simp only [h1,if_true,h3,decide_false,h2,if_false] at ih ⊢
     exact ih
   ·by_cases h2:y=x
    ·subst h2
     simp only [h1,if_false,decide_false,if_true] at ih ⊢
     exact ih
    ·by_cases h3:e.2.1=y
     ·subst h3;simp [h1]
     ·simp only [h1,if_false,h3,decide_false,h2] at ih ⊢
      exact ih
theorem look_push {E:List Et} {x y:Ly.Id} {c:Nat} {v:AVal} (hx:∀ e∈E,e.2.1≠x):look (E++[(c,x,v)]) y=if y=x then some v else look E y:=by
 have hn:=look_none hx
 unfold look at hn ⊢
 rw [List.find?_append]
 by_cases h:y=x
 ·subst h
  cases hq:E.find? (fun e=>decide (e.2.1=y)) with
  | none=>simp
  | some e=>rw [hq] at hn;simp at hn
 ·have h2:¬ x=y:=fun q=>h q.symm
  cases hq:E.find? (fun e=>decide (e.2.1=y))<;>simp [h,h2]
def MOk (h:Heap) (m c:Nat) (E:List Et):Prop:=h.get m=some (.map idK c (enc E))∧EOk c E
theorem MOk.mlook {h:Heap} {m c:Nat} {E:List Et} (o:MOk h m c E) (x:Ly.Id) (z:AVal):evalX (.mlook idK z false) [.mp m,x.val] h=some ((look E x).getD z,h):=by
 obtain ⟨g,o⟩:=o
 rcases key_cases E x with hx|⟨j,hj,hx⟩
 ·simp only [evalX,id_key,if_true,g,findE_none hx,look_none hx];rfl
 ·simp only [evalX,id_key,if_true,g,findE_some o.keys hj hx,look_some o.keys hj hx];rfl
theorem enc_modify {E:List Et} {x:Ly.Id} {v:AVal} {j:Nat} (hj:j<E.length) (hx:(E[j]).2.1=x):enc (E.modify j fun e=>(e.1,e.2.1,v))=(enc E).modify j fun e=>(e.1,x.val,v):=by
 refine List.ext_getElem (by simp [enc]) fun k h1 h2=>?_
 simp only [enc,List.getElem_modify,List.getElem_map]
 by_cases hk:j=k
 ·subst hk;simp [hx]
 ·simp [hk]
theorem MOk.mput {h:Heap} {m c:Nat} {E:List Et} (o:MOk h m c E) (x:Ly.Id) {v:AVal} (hv:plain v=true):∃ c' E',evalX (.mput idK) [.mp m,x.val,v] h=some (.tup [],h.put m (some (.map idK c' (enc E'))))∧EOk c' E'∧∀ y,look E' y=if y=x then some v else look E y:=by
 obtain ⟨g,o⟩:=o
 rcases key_cases E x with hx|⟨j,hj,hx⟩
 ·refine ⟨c+1,E++[(c,x,v)],?_,o.push hx v,fun y=>look_push hx⟩
  rw [show enc (E++[(c,x,v)])=enc E++[(c,x.val,v)] from by simp [enc]]
  simp only [evalX,id_key,if_true,g,hv,and_self,Abs.mput,findE_none hx]
 ·refine ⟨c,up E x v,?_,o.up x v,fun y=>?_⟩
  ·simp only [evalX,id_key,if_true,g,hv,and_self,Abs.mput,findE_some o.keys hj hx,Nat.zero_add]
   have:=up_modify (v:=v) o.keys hj hx
   rw [←this,enc_modify hj hx]
  ·rw [look_up,look_some o.keys hj hx];rfl
theorem enc_same {E:List Et} {x:Ly.Id} {j:Nat} (hj:j<E.length) (hx:(E[j]).2.1=x):(enc E).modify j (fun e=>(e.1,x.val,e.2.2))=enc E:=by
 refine List.ext_getElem (by simp [enc]) fun k h1 h2=>?_
 simp only [enc,List.getElem_modify,List.getElem_map]
 by_cases hk:j=k
 ·subst hk;simp [hx]
 ·simp [hk]
theorem stamp_at {c:Nat} {E:List Et} (o:EOk c E) {j:Nat} (hj:j<E.length):(enc E).findIdx? (fun e=>(e.1:Int) == ((E[j]).1:Int))=some j:=by
 rw [List.findIdx?_eq_some_iff_getElem]
 refine ⟨by simpa [enc] using hj,by simp [enc],fun k hk=>?_⟩
 simp only [enc,List.getElem_map,beq_iff_eq,Int.natCast_inj,Bool.not_eq_true',beq_eq_false_iff_ne,ne_eq]
 intro q
 have h3:(E.map fun e=>e.1)[k]'(by simp;omega)=(E.map fun e=>e.1)[j]'(by simpa using hj):=by simp [q]
 have:=(List.getElem_inj o.st).1 h3
 omega
theorem estore_at {c m:Nat} {E:List Et} (o:EOk c E) {x:Ly.Id} {j:Nat} (hj:j<E.length) (hx:(E[j]).2.1=x) {h:Heap} (g:h.get m=some (.map idK c (enc E))) {v:AVal} (hv:plain v=true) :
  evalX .mestore [.mp m,.int .i64 ((E[j]).1:Int),v] h=some (.tup [],h.put m (some (.map idK c (enc (up E x v))))):=by
 simp only [evalX,g,hv,if_true,stamp_at o hj]
 rw [←up_modify (v:=v) o.keys hj hx]
 congr 4
 rw [show enc (E.modify j fun e=>(e.1,e.2.1,v))=(enc E).modify j fun e=>(e.1,e.2.1,v) from ?_]
 refine List.ext_getElem (by simp [enc]) fun k h1 h2=>?_
 simp only [enc,List.getElem_modify,List.getElem_map]
 by_cases hk:j=k
 ·subst hk;simp
 ·simp [hk]
theorem MOk.entry {h:Heap} {m c:Nat} {E:List Et} (o:MOk h m c E) (x:Ly.Id) {z:AVal} (hz:plain z=true):∃ c' E' s,evalX (.mentry idK z) [.mp m,x.val] h=some (.tup [(look E x).getD z,.int .i64 s],h.put m (some (.map idK c' (enc E')))) ∧
  ∀ (h':Heap) (v:AVal),h'.get m=some (.map idK c' (enc E'))→plain v=true→∃ E'',evalX .mestore [.mp m,.int .i64 s,v] h'=some (.tup [],h'.put m (some (.map idK c' (enc E''))))∧EOk c' E''∧∀ y,look E'' y=if y=x then some v else look E y:=by
 obtain ⟨g,o⟩:=o
 rcases key_cases E x with hx|⟨j,hj,hx⟩
 ·have hlen:E.length<(E++[(c,x,z)]).length:=by simp
  have hel:(E++[(c,x,z)])[E.length]=(c,x,z):=by simp
  refine ⟨c+1,E++[(c,x,z)],c,?_,fun h' v g' hv=>⟨up (E++[(c,x,z)]) x v,?_,(o.push hx z).up x v,fun y=>?_⟩⟩
  ·rw [show enc (E++[(c,x,z)])=enc E++[(c,x.val,z)] from by simp [enc]]
   simp only [evalX,id_key,if_true,g,hz,and_self,findE_none hx,look_none hx];rfl
  ·have:=estore_at (o.push hx z) hlen (by rw [hel]) g' hv
   rw [hel] at this
   exact this
  ·rw [look_up,look_push hx,look_push hx]
   by_cases h:y=x<;>simp [h]
 ·refine ⟨c,E,(E[j]).1,?_,fun h' v g' hv=>⟨up E x v,estore_at o hj hx g' hv,o.up x v,fun y=>?_⟩⟩
  ·simp only [evalX,id_key,if_true,g,hz,and_self,findE_some o.keys hj hx,look_some o.keys hj hx,Nat.zero_add,enc_same hj hx]
   simp [enc,hj]
  ·rw [look_up,look_some o.keys hj hx];rfl
end Go.Proofs.YthhdkkecolocdaaGreatDoor

namespace Go.Abs
variable {P:Program} {Hh:Hints} {F:Nat→Option AEnt}
theorem fuel_all {ls:List (List AOper)} {vs:List AVal} {h:Heap} {Q:St→Prop} (hl:∀ l∈ls,∃ n s,foldA (cfOf F n) l 0 ⟨vs,List.replicate l.length .bad,h⟩=some s∧Q s) :
  ∃ n,∀ l∈ls,∃ s,foldA (cfOf F n) l 0 ⟨vs,List.replicate l.length .bad,h⟩=some s∧Q s:=by
 induction ls with
 | nil=>exact ⟨0,by simp⟩
 | cons l ls ih =>
   obtain ⟨n1,h1⟩:=ih fun x hx=>hl x (by simp [hx])
   obtain ⟨n2,s,h2,q⟩:=hl l (by simp)
   refine ⟨max n1 n2,fun x hx=>?_⟩
   rcases List.mem_cons.1 hx with rfl|hx
   ·exact ⟨s,foldA_mono (cfOf_le fun _ _ e=>run_mono (Nat.le_max_right n1 n2) e) h2,q⟩
   ·obtain ⟨s',e1,e2⟩:=h1 x hx
    exact ⟨s',foldA_mono (cfOf_le fun _ _ e=>run_mono (Nat.le_max_left n1 n2) e) e1,e2⟩
theorem WP_of_run {c:ACode} {vs vs':List AVal} {h h':Heap} {e:AExit} {n:Nat} {Q:AExit→List AVal→Heap→Prop} (hr:run F n (.code c vs h)=some (.code e vs' h')) (q:Q e vs' h'):WP F c vs h Q:=by
 unfold WP;exact ⟨n,e,vs',h',hr,q⟩
theorem SW.altp (hmix:P.follows .mixedOrders=true) (hT:Table P Hh F) {fid nt:Nat} {slots:List Nat} (hnd:slots.Nodup) {id:Nat} {ops:Array Oper} {draw top:Bool} {k:Nat} {rs:List (List Nat)} {ls:List (List AOper)} (hcc:compCode P Hh fid nt slots top k (.region id ops draw) = .altp rs ls)
  {vs:List AVal} {h:Heap} {Q:AExit→List AVal→Heap→Prop} (hl:∀ l∈ls,∃ n s,foldA (cfOf F n) l 0 ⟨vs,List.replicate l.length .bad,h⟩=some s∧Q .normal s.vs s.h):SW P Hh nt slots (.region id ops draw) vs h Q:=by
 intro m a w G Qm hE hC hQ
 obtain ⟨n,hn⟩:=fuel_all (Q:=fun s=>Q .normal s.vs s.h) hl
 refine alts_any hmix (cfOf_ok hmix hT n) hnd (.inr ⟨rs,hcc⟩) hE hC fun l hl=>?_
 obtain ⟨s,hs,q⟩:=hn l hl
 exact ⟨s,hs,fun a' w' G' hX S' hd=>hQ .normal _ _ a' w' G' q hX S' (.of_eq hd)⟩
end Go.Abs

namespace Go.Abs
def kX_mkmap (kd:KD) (xs:List AVal) (h:Heap):Option (AVal×Heap) :=
 match xs with
 | []=>some (.mp h.next,h.push (.map kd 0 []))
 | [n]=>match n with
   | .int _ _=>some (.mp h.next,h.push (.map kd 0 []))
   | _=>none
 | _=>none
def kX_mkown (ty:Nat) (bytes:Nat) (sz:Nat) (xs:List AVal) (h:Heap):Option (AVal×Heap) :=
 match xs with
 | [l,c]=>match l,c with
   | .int _ a,.int _ b=>if a=0∧0≤b∧b<9223372036854775808∧bytes*b≤281474976710656∧0<sz then some (.sl [] (.own h.next sz),h.push (.tok ty)) else none
   | _,_=>none
 | _=>none
def kX_mentry (kd:KD) (z:AVal) (xs:List AVal) (h:Heap):Option (AVal×Heap) :=
 match xs with
 | [m,k] =>
   if isKey kd k then (match m with
   | .mp id=>match h.get id with
     | some (.map kd' clock es)=>if kd'=kd∧plain z=true then (match findE kd k es 0 with
       | some (i,v)=>some (.tup [v,.int .i64 (((es[i]?).map fun e=>(e.1:Int)).getD 0)],h.put id (some (.map kd clock (es.modify i fun e=>(e.1,k,e.2.2)))))
       | none=>some (.tup [z,.int .i64 (clock:Int)],h.put id (some (.map kd (clock+1) (es++[(clock,k,z)]))))) else none
     | _=>none
   | _=>none) else none
 | _=>none
def kX_mestore (xs:List AVal) (h:Heap):Option (AVal×Heap) :=
 match xs with
 | [m,s,v]=>match m,s with
   | .mp id,.int _ b=>match h.get id with
     | some (.map kd clock es)=>if plain v=true then (match es.findIdx? (fun e=>(e.1:Int) == b) with
       | some i=>some (.tup [],h.put id (some (.map kd clock (es.modify i fun e=>(e.1,e.2.1,v)))))
       | none=>none) else none
     | _=>none
   | _,_=>none
 | _=>none
def kX_mlook (kd:KD) (z:AVal) (ok:Bool) (xs:List AVal) (h:Heap):Option (AVal×Heap) :=
 match xs with
 | [m,k] =>
   if isKey kd k then (match m with
   | .nilmp=>some (if ok then .tup [z,.bool false] else z,h)
   | .mp id=>match h.get id with
     | some (.map kd' _ es)=>if kd'=kd then (match findE kd k es 0 with
       | some (_,v)=>some (if ok then .tup [v,.bool true] else v,h)
       | none=>some (if ok then .tup [z,.bool false] else z,h)) else none
     | _=>none
   | _=>none) else none
 | _=>none
def kX_mput (kd:KD) (xs:List AVal) (h:Heap):Option (AVal×Heap) :=
 match xs with
 | [m,k,v] =>
   if isKey kd k then (match m with
   | .mp id=>match h.get id with
     | some (.map kd' clock es)=>if kd'=kd∧plain v=true then some (.tup [],h.put id (some (.map kd (mput kd k v clock es).1 (mput kd k v clock es).2))) else none
     | _=>none
   | _=>none) else none
 | _=>none
def kX_mdel (kd:KD) (xs:List AVal) (h:Heap):Option (AVal×Heap) :=
 match xs with
 | [m,k] =>
   if isKey kd k then (match m with
   | .nilmp=>some (.tup [],h)
   | .mp id=>match h.get id with
     | some (.map kd' clock es)=>if kd'=kd then (match findE kd k es 0 with
       | some (i,_)=>some (.tup [],h.put id (some (.map kd clock (es.eraseIdx i))))
       | none=>some (.tup [],h.put id (some (.map kd clock es)))) else none
     | _=>none
   | _=>none) else none
 | _=>none
def kX_mlen (xs:List AVal) (h:Heap):Option (AVal×Heap) :=
 match xs with
 | [m] =>
   match m with
   | .nilmp=>some (.int .i64 0,h)
   | .mp id=>match h.get id with
     | some (.map _ _ es)=>some (.int .i64 es.length,h)
     | _=>none
   | _=>none
 | _=>none
def kX_s2b (row:Bool) (xs:List AVal) (h:Heap):Option (AVal×Heap) :=
 match xs with
 | [x] =>
   match x with
   | .str s=>if s.length≤1000000 then
     (if row then some (.ref h.next 0 s.length 1,h.push (.row true 1 false (s.map fun b => .int .u8 b.toNat)))
     else some (.sl (s.map fun b => .int .u8 b.toNat) .none,h)) else none
   | _=>none
 | _=>none
def kX_b2s (xs:List AVal) (h:Heap):Option (AVal×Heap) :=
 match xs with
 | [x] =>
   match bytesA h x with
   | some cs=>if cs.all u8cell then (bytesL cs).map fun s=>(.str s,h) else none
   | none=>none
 | _=>none
def kX_aslice (n:Nat) (sz:Nat) (ag:Bool) (lo:Bool) (hi:Bool) (xs:List AVal) (h:Heap):Option (AVal×Heap) :=
 match xs with
 | x::bs =>
   match boundA (if hi then (if lo then bs.tail.head? else bs.head?) else none) n n with
   | some b=>match boundA (if lo then bs.head? else none) 0 b with
     | some a=>match x with
       | .ptr id off=>match h.get id with
         | some (.row _ _ _ cs)=>if off+n*sz≤cs.length∧0<sz then some (.ref id (off+a*sz) (b - a) sz,h) else none
         | _=>none
       | .rp cs=>if n*sz≤cs.length∧0<sz∧cs.all flatv then (chunk sz ag (b - a) (cs.drop (a*sz))).map fun xs=>(.sl xs .none,h) else none
       | _=>none
     | none=>none
   | none=>none
 | _=>none
def kX_s2ap (n:Nat) (sz:Nat) (xs:List AVal) (h:Heap):Option (AVal×Heap) :=
 match xs with
 | [x] =>
   match x with
   | .ref id off len s=>if s=sz∧n≤len∧0<n then some (.ptr id off,h) else none
   | .sl xs _=>if n≤xs.length∧0<n∧(∀ y,xs.head?=some y→y.cells.length=sz) then some (.rp ((flat xs).take (n*sz)),h) else none
   | _=>none
 | _=>none
def kX_elit (xs:List AVal) (h:Heap):Option (AVal×Heap) :=
 match xs with
 | []=>some (.sl [] .full,h)
 | _=>none
def kX_afresh (ty:Nat) (bytes:Nat) (sz:Nat) (ag:Bool) (xs:List AVal) (h:Heap):Option (AVal×Heap) :=
 match xs with
 | [x,y] =>
   match x with
   | .sl [] .nil=>appendA true ty bytes sz ag x y h
   | .sl [] .full=>appendA true ty bytes sz ag x y h
   | _=>none
 | _=>none
def kX_slice30 (sz:Nat) (xs:List AVal) (h:Heap):Option (AVal×Heap) :=
 match xs with
 | [x,a,b] =>
   match a,b with
   | .int _ 0,.int _ 0=>match x with
     | .sl _ t=>some (.sl [] (if t = .nil then .nil else .full),h)
     | .ref _ _ _ _=>some (.sl [] .full,h)
     | _=>none
   | _,_=>none
 | _=>none
def kX_mlook0 (n:Nat) (sk:SK) (z:AVal) (ok:Bool) (xs:List AVal) (h:Heap):Option (AVal×Heap) :=
 match xs with
 | [m,k] =>
   match k with
   | .agg xs=>if xs.length=n∧xs.all (isSK sk)=true then (match m with
     | .nilmp=>some (if ok then .tup [z,.bool false] else z,h)
     | .mp id=>match h.get id with
       | some (.map _ _ [])=>some (if ok then .tup [z,.bool false] else z,h)
       | _=>none
     | _=>none) else none
   | _=>none
 | _=>none
def kX_mrange (xs:List AVal) (h:Heap):Option (AVal×Heap) :=
 match xs with
 | [x] =>
   match x with
   | .nilmp=>some (.ptr h.next 0,h.push (.iter none 0 [] 0))
   | .mp id=>match h.get id with
     | some (.map _ clock _)=>some (.ptr h.next 0,h.push (.iter (some id) clock [] clock))
     | _=>none
   | _=>none
 | _=>none
def kX_mnext (xs:List AVal) (h:Heap):Option (AVal×Heap) :=
 match xs with
 | [x] =>
   match x with
   | .ptr r 0=>match h.get r with
     | some (.iter none _ _ _)=>some (.tup [.bool false],h)
     | some (.iter (some id) since seen last)=>match h.get id with
       | some (.map _ clock es)=>if oldE since last es then (match leftE seen es with
         | []=>some (.tup [.bool false],h)
         | [e]=>some (.tup [.bool true,e.2.1,e.2.2],h.put r (some (.iter (some id) since (seen++[e.1]) clock)))
         | _=>none) else none
       | _=>none
     | _=>none
   | _=>none
 | _=>none
def kX_mstep (xs:List AVal) (h:Heap):Option (AVal×Heap) :=
 match xs with
 | [x] =>
   match x with
   | .ptr r 0=>match h.get r with
     | some (.iter (some id) _ seen last)=>match h.get id with
       | some (.map _ clock es)=>if clock=last then (match seen.getLast? with
         | some b=>match es.find? (fun e=>e.1 == b) with
           | some e=>some (.tup [e.2.1,e.2.2],h)
           | none=>none
         | none=>none) else none
       | _=>none
     | _=>none
   | _=>none
 | _=>none
def evalXK (op:XOp) (xs:List AVal) (h:Heap):Option (AVal×Heap) :=
 match op with
 | .mkmap kd=>kX_mkmap kd xs h
 | .mlook kd z ok=>kX_mlook kd z ok xs h
 | .mput kd=>kX_mput kd xs h
 | .mentry kd z=>kX_mentry kd z xs h
 | .mestore=>kX_mestore xs h
 | .mkown ty bytes sz=>kX_mkown ty bytes sz xs h
 | .mdel kd=>kX_mdel kd xs h
 | .mlen=>kX_mlen xs h
 | .s2b row=>kX_s2b row xs h
 | .b2s=>kX_b2s xs h
 | .aslice n sz ag lo hi=>kX_aslice n sz ag lo hi xs h
 | .s2ap n sz=>kX_s2ap n sz xs h
 | .slice30 sz=>kX_slice30 sz xs h
 | .elit=>kX_elit xs h
 | .afresh ty bytes sz ag=>kX_afresh ty bytes sz ag xs h
 | .mrange=>kX_mrange xs h
 | .mnext=>kX_mnext xs h
 | .mstep=>kX_mstep xs h
 | .mlook0 n k z ok=>kX_mlook0 n k z ok xs h
theorem evalXK_eq (op:XOp) (xs:List AVal) (h:Heap):evalXK op xs h=evalX op xs h:=by
 cases op<;>rcases xs with _|⟨a,_|⟨b,_|⟨c,_|⟨d,l⟩⟩⟩⟩<;>rfl
def kA_x (ev:Opd→AVal) (h:Heap) (op:XOp) (args:List Opd):Option (AVal×Heap):=evalXK op (args.map ev) h
def kA_mov (ev:Opd→AVal) (h:Heap) (x:Opd):Option (AVal×Heap):=some (ev x,h)
def kA_pick (ev:Opd→AVal) (h:Heap) (c:Opd) (a:Opd) (b:Opd):Option (AVal×Heap):=match ev c with
    | .bool t=>some (if t then ev a else ev b,h)
    | _=>none
def kA_alloc (ev:Opd→AVal) (h:Heap) (ty:Nat) (sz:Nat) (ag:Bool) (z:List AVal):Option (AVal×Heap):=if z.length=sz∧z.all AVal.one then some (.ptr h.next 0,h.push (.row true (typed ty) ag z)) else none
def kA_box (ev:Opd→AVal) (h:Heap) (sz:Nat) (ag:Bool) (x:Opd):Option (AVal×Heap):=if (ev x).cells.length=sz∧(ev x).cells.all AVal.one then some (.ptr h.next 0,h.push (.row true 0 ag (ev x).cells)) else none
def kA_build (ev:Opd→AVal) (h:Heap) (z:List AVal) (ps:List (Nat×Nat×Opd)):Option (AVal×Heap):=(fillA z (ps.map fun p=>(p.1,p.2.1,ev p.2.2))).map fun cs=>(.agg cs,h)
def kA_lit (ev:Opd→AVal) (h:Heap) (mode:Nat) (ty:Nat) (n:Nat) (sz:Nat) (ag:Bool) (z:List AVal) (ps:List (Nat×Opd)):Option (AVal×Heap) :=
    match fillA (repl n z) (ps.map fun p=>(p.1*sz,sz,ev p.2)) with
    | some cs =>
      if !(decide (z.length=sz) && z.all AVal.one && decide (n*sz≤16777216) && small sz) then none else
      if mode=2 then some (.ref h.next 0 n sz,h.push (.row true sz ag cs))
      else if mode=3 then (match purifyL h cs,freeze h (refIdsL cs) with
       | some cs,some h=>match chunk sz ag n cs with
         | none=>none
         | some xs=>some (.sl xs .none,h)
       | _,_=>none)
      else match stripL cs with
       | none=>none
       | some cs=>match chunk sz ag n cs with
         | none=>none
         | some xs=>if mode=1 then some (.sl xs (.own h.next sz),h.push (.tok ty)) else some (.sl xs .none,h)
    | none=>none
def kA_load (ev:Opd→AVal) (h:Heap) (n:Nat) (ag:Bool) (x:Opd):Option (AVal×Heap):=(loadA n ag (ev x) h).map (·,h)
def kA_store (ev:Opd→AVal) (h:Heap) (n:Nat) (a:Opd) (x:Opd):Option (AVal×Heap):=(storeA n (ev a) (ev x) h).map (.tup [],·)
def kA_nilc (ev:Opd→AVal) (h:Heap) (x:Opd):Option (AVal×Heap):=match ev x with
    | .ptr i o=>some (.ptr i o,h)
    | .rp cs=>some (.rp cs,h)
    | .fn f c=>some (.fn f c,h)
    | _=>none
def kA_bin (ev:Opd→AVal) (h:Heap) (op:BinOp) (bk:BK) (x:Opd) (y:Opd):Option (AVal×Heap):=(binA op bk (ev x) (ev y)).map (·,h)
def kA_un (ev:Opd→AVal) (h:Heap) (op:UnOp) (x:Opd):Option (AVal×Heap):=(unA op (ev x)).map (·,h)
def kA_toInt (ev:Opd→AVal) (h:Heap) (k:IntKind) (x:Opd):Option (AVal×Heap):=match ev x with
    | .int _ n=>some (.int k (k.wrap n),h)
    | _=>none
def kA_idstr (ev:Opd→AVal) (h:Heap) (x:Opd):Option (AVal×Heap):=match ev x with
    | .str s=>some (.str s,h)
    | _=>none
def kA_clo (ev:Opd→AVal) (h:Heap) (f:Nat) (cap:List Opd):Option (AVal×Heap):=some (.fn f (cap.map ev),h)
def kA_mksl (ev:Opd→AVal) (h:Heap) (bytes:Nat) (sz:Nat) (ag:Bool) (z:List AVal) (l:Opd) (c:Opd):Option (AVal×Heap):=match ev l,ev c with
    | .int _ a,.int _ b=>if 0≤a∧a≤b∧b<9223372036854775808∧bytes*b≤281474976710656∧z.length=sz∧z.all AVal.one∧small sz then some (.ref h.next 0 a.toNat sz,h.push (.row true sz ag (repl a.toNat z))) else none
    | _,_=>none
def kA_slice (ev:Opd→AVal) (h:Heap) (sz:Nat) (x:Opd) (lo:Option Opd) (hi:Option Opd):Option (AVal×Heap):=(sliceA sz (ev x) (lo.map ev) (hi.map ev)).map (·,h)
def kA_sslice (ev:Opd→AVal) (h:Heap) (x:Opd) (lo:Option Opd) (hi:Option Opd):Option (AVal×Heap):=(ssliceA (ev x) (lo.map ev) (hi.map ev)).map (·,h)
def kA_faddr (ev:Opd→AVal) (h:Heap) (off:Nat) (x:Opd):Option (AVal×Heap):=match ev x with
    | .ptr i o=>some (.ptr i (o+off),h)
    | .rp cs=>some (.rp (cs.drop off),h)
    | _=>none
def kA_iaddr (ev:Opd→AVal) (h:Heap) (sz:Nat) (x:Opd) (i:Opd):Option (AVal×Heap):=match ev x,ev i with
    | .sl xs _,.int _ n=>if 0≤n∧n<xs.length then (match xs[n.toNat]? with
      | some y=>if y.cells.length=sz then some (.rp y.cells,h) else none
      | none=>none) else none
    | .ref id off len s,.int _ n=>if 0≤n∧n<len∧s=sz then some (.ptr id (off+n.toNat*sz),h) else none
    | _,_=>none
def kA_aaddr (ev:Opd→AVal) (h:Heap) (len:Nat) (sz:Nat) (x:Opd) (i:Opd):Option (AVal×Heap):=match ev x,ev i with
    | .ptr id off,.int _ n=>if 0≤n∧n<len then some (.ptr id (off+n.toNat*sz),h) else none
    | .rp cs,.int _ n=>if 0≤n∧n<len then some (.rp (cs.drop (n.toNat*sz)),h) else none
    | _,_=>none
def kA_field (ev:Opd→AVal) (h:Heap) (off:Nat) (n:Nat) (ag:Bool) (x:Opd):Option (AVal×Heap):=match ev x with
    | .agg cs=>if off+n≤cs.length then (mk ag ((cs.drop off).take n)).map (·,h) else none
    | _=>none
def kA_sidx (ev:Opd→AVal) (h:Heap) (x:Opd) (i:Opd):Option (AVal×Heap):=match ev x,ev i with
    | .str s,.int _ n=>if 0≤n then (match s[n.toNat]? with
      | some b=>some (.int .u8 b.toNat,h)
      | none=>none) else none
    | _,_=>none
def kA_aidx (ev:Opd→AVal) (h:Heap) (len:Nat) (n:Nat) (ag:Bool) (x:Opd) (i:Opd):Option (AVal×Heap):=match ev x,ev i with
    | .agg cs,.int _ j=>if 0≤j∧j<len∧j.toNat*n+n≤cs.length then (mk ag ((cs.drop (j.toNat*n)).take n)).map (·,h) else none
    | _,_=>none
def kA_len (ev:Opd→AVal) (h:Heap) (x:Opd):Option (AVal×Heap):=match ev x with
    | .sl xs _=>some (.int .i64 xs.length,h)
    | .ref _ _ n _=>some (.int .i64 n,h)
    | _=>none
def kA_slen (ev:Opd→AVal) (h:Heap) (x:Opd):Option (AVal×Heap):=match ev x with
    | .str s=>some (.int .i64 s.length,h)
    | _=>none
def kA_append (ev:Opd→AVal) (h:Heap) (arr:Bool) (ty:Nat) (bytes:Nat) (sz:Nat) (ag:Bool) (x:Opd) (y:Opd):Option (AVal×Heap):=appendA arr ty bytes sz ag (ev x) (ev y) h
def kA_copy (ev:Opd→AVal) (h:Heap) (sz:Nat) (x:Opd) (y:Opd):Option (AVal×Heap):=copyA sz (ev x) (ev y) h
def kA_mnx (ev:Opd→AVal) (h:Heap) (mx:Bool) (x:Opd) (y:Opd):Option (AVal×Heap):=match ev x,ev y with
    | .int k a,.int _ b=>some (.int k (if mx then (if a<b then b else a) else (if b<a then b else a)),h)
    | _,_=>none
def kA_ext (ev:Opd→AVal) (h:Heap) (x:Opd) (i:Nat):Option (AVal×Heap):=match ev x with
    | .tup vs=>(vs[i]?).map (·,h)
    | _=>none
def evalK (op:AOp) (ev:Opd→AVal) (h:Heap):Option (AVal×Heap) :=
 match op with
 | .x op args=>kA_x ev h op args
 | .mov x=>kA_mov ev h x
 | .pick c a b=>kA_pick ev h c a b
 | .alloc ty sz ag z=>kA_alloc ev h ty sz ag z
 | .box sz ag x=>kA_box ev h sz ag x
 | .build z ps=>kA_build ev h z ps
 | .lit mode ty n sz ag z ps=>kA_lit ev h mode ty n sz ag z ps
 | .load n ag x=>kA_load ev h n ag x
 | .store n a x=>kA_store ev h n a x
 | .nilc x=>kA_nilc ev h x
 | .bin op bk x y=>kA_bin ev h op bk x y
 | .un op x=>kA_un ev h op x
 | .toInt k x=>kA_toInt ev h k x
 | .idstr x=>kA_idstr ev h x
 | .clo f cap=>kA_clo ev h f cap
 | .mksl bytes sz ag z l c=>kA_mksl ev h bytes sz ag z l c
 | .slice sz x lo hi=>kA_slice ev h sz x lo hi
 | .sslice x lo hi=>kA_sslice ev h x lo hi
 | .faddr off x=>kA_faddr ev h off x
 | .iaddr sz x i=>kA_iaddr ev h sz x i
 | .aaddr n sz x i=>kA_aaddr ev h n sz x i
 | .field off n ag x=>kA_field ev h off n ag x
 | .sidx x i=>kA_sidx ev h x i
 | .aidx len n ag x i=>kA_aidx ev h len n ag x i
 | .len x=>kA_len ev h x
 | .slen x=>kA_slen ev h x
 | .append arr ty bytes sz ag x y=>kA_append ev h arr ty bytes sz ag x y
 | .copy sz x y=>kA_copy ev h sz x y
 | .mnx mx x y=>kA_mnx ev h mx x y
 | .ext x i=>kA_ext ev h x i
 | .call f args=>none
 | .pcall f args=>none
 | .gcall f args=>none
 | .vcall f args=>none
theorem evalK_eq (op:AOp) (ev:Opd→AVal) (h:Heap):evalK op ev h=evalA op ev h:=by
 cases op<;>try rfl
 rename_i op args
 exact evalXK_eq op _ h
def kCall (cf:CallF) (ev:Opd→AVal) (h:Heap) (f:Opd) (args:List Opd):Option (AVal×Heap):=match ev f with
 | .fn g cap=>cf false g (args.map ev++cap) h
 | .yld id=>cf true id (args.map ev) h
 | _=>none
def kGcall (cf:CallF) (ev:Opd→AVal) (h:Heap) (g:Nat) (args:List Opd):Option (AVal×Heap):=match cf false g (args.map ev) h with
 | some (r,h')=>if extB h h' then some (r,h') else none
 | none=>none
def kVcall (cf:CallF) (ev:Opd→AVal) (h:Heap) (f:Opd) (args:List Opd):Option (AVal×Heap):=match ev f with
 | .fn g cap=>match borrowL h (args.map ev++cap) with
   | some asx=>(match cf false g asx Heap.empty with
     | some (r,_)=>if scal r then some (r,h) else none
     | none=>none)
   | none=>none
 | _=>none
def kPcall (cf:CallF) (ev:Opd→AVal) (h:Heap) (f:Nat) (args:List Opd):Option (AVal×Heap):=match stripL (args.map ev) with
 | some asx=>(match cf false f asx Heap.empty with
   | some (r,h')=>(purify h' r).map (·,h)
   | none=>none)
 | none=>match purifyL h (args.map ev) with
   | some asx=>(match cf false f asx Heap.empty with
     | some (r,_)=>if scal r then some (r,h) else none
     | none=>none)
   | none=>none
def isCallK:AOp→Bool
 | .call _ _ | .pcall _ _ | .gcall _ _ | .vcall _ _=>true
 | _=>false
def callK2 (cf:CallF) (ev:Opd→AVal) (h:Heap):AOp→Option (AVal×Heap)
 | .call f args=>kCall cf ev h f args
 | .gcall g args=>kGcall cf ev h g args
 | .vcall f args=>kVcall cf ev h f args
 | .pcall f args=>kPcall cf ev h f args
 | _=>none
def execK (cf:CallF) (op:AOp) (ev:Opd→AVal) (h:Heap):Option (AVal×Heap):=if isCallK op then callK2 cf ev h op else evalK op ev h
theorem execK_eq (cf:CallF) (op:AOp) (ev:Opd→AVal) (h:Heap):execK cf op ev h=execA cf op ev h:=by
 unfold execK
 cases op<;>simp only [isCallK,Bool.false_eq_true,if_false,if_true,evalK_eq]<;>rfl
def kWant (cf:CallF) (o:AOper) (k:Nat) (s:St):Bool→Option St
 | false=>some (s.put k o.dst (.tup []) s.h)
 | true=>match execK cf o.op (evOpd s.vs s.ts) s.h with
   | some (r,h)=>some (s.put k o.dst r h)
   | none=>none
def stepK (cf:CallF) (o:AOper) (k:Nat) (s:St):Option St:=(wantA (evOpd s.vs s.ts) o.guard).bind (kWant cf o k s)
theorem stepK_eq (cf:CallF) (o:AOper) (k:Nat) (s:St):stepK cf o k s=stepA cf o k s:=by
 unfold stepK stepA
 cases wantA (evOpd s.vs s.ts) o.guard with
 | none=>rfl
 | some b=>cases b<;>simp only [Option.bind_some,kWant,execK_eq]<;>rfl
def foldK (cf:CallF):List AOper→Nat→St→Option St
 | [],_,s=>some s
 | o::l,k,s=>(stepK cf o k s).bind (foldK cf l (k+1))
theorem foldK_eq (cf:CallF):∀ (l:List AOper) (k:Nat) (s:St),foldK cf l k s=foldA cf l k s
 | [],_,_=>rfl
 | o::l,k,s=>by
   simp only [foldK,foldA,stepK_eq]
   cases stepA cf o k s with
   | none=>rfl
   | some s'=>simp only [Option.bind_some,foldK_eq cf l]
def foldNK (cf:CallF):List AOper→Nat→St→Option (St×List Nat)
 | [],_,s=>some (s,[])
 | o::l,k,s=>(stepK cf o k s).bind fun s1=>(foldNK cf l (k+1) s1).map fun p=>(p.1,s.h.next::p.2)
theorem foldNK_eq (cf:CallF):∀ (l:List AOper) (k:Nat) (s:St),foldNK cf l k s=foldN cf l k s
 | [],_,_=>rfl
 | o::l,k,s=>by
   simp only [foldNK,foldN,stepK_eq]
   cases stepA cf o k s with
   | none=>rfl
   | some s' =>
     simp only [Option.bind_some,foldNK_eq cf l]
     cases foldN cf l (k+1) s'<;>rfl
def altpCK (cf:CallF) (vs:List AVal) (h:Heap) (r0 n0:List Nat) (s0:St):List (List Nat)→List (List AOper)→Bool
 | [],[]=>true
 | r::rs,l::ls=>match foldNK cf l 0 ⟨vs,List.replicate l.length .bad,h⟩ with
   | none=>false
   | some p=>sameRen h.next (blks r0 n0 r p.2 s0.h.next) s0 p.1 && altpCK cf vs h r0 n0 s0 rs ls
 | _,_=>false
theorem altpCK_eq (cf:CallF) (vs:List AVal) (h:Heap) (r0 n0:List Nat) (s0:St):∀ (rs:List (List Nat)) (ls:List (List AOper)),altpCK cf vs h r0 n0 s0 rs ls=altpC cf vs h r0 n0 s0 rs ls
 | [],[]=>rfl
 | [],_::_=>rfl
 | _::_,[]=>rfl
 | r::rs,l::ls=>by
   simp only [altpCK,altpC,foldNK_eq]
   cases foldN cf l 0 ⟨vs,List.replicate l.length .bad,h⟩ with
   | none=>rfl
   | some p=>simp only [altpCK_eq cf vs h r0 n0 s0 rs ls]
def altpK (cf:CallF) (vs:List AVal) (h:Heap):List (List Nat)→List (List AOper)→Option (List AVal×Heap)
 | r0::rs,l0::ls=>match foldNK cf l0 0 ⟨vs,List.replicate l0.length .bad,h⟩ with
   | none=>none
   | some p=>if altpCK cf vs h r0 p.2 p.1 rs ls then some (p.1.vs,p.1.h) else none
 | _,_=>none
theorem altpK_eq (cf:CallF) (vs:List AVal) (h:Heap):∀ (rs:List (List Nat)) (ls:List (List AOper)),altpK cf vs h rs ls=altpA cf vs h rs ls
 | [],_=>rfl
 | _::_,[]=>rfl
 | r::rs,l::ls=>by
   simp only [altpK,altpA,foldNK_eq]
   cases foldN cf l 0 ⟨vs,List.replicate l.length .bad,h⟩ with
   | none=>rfl
   | some p=>simp only [altpCK_eq]
def cfK (rec:Task→Option Res):CallF:=fun b f args h=>(rec (if b then .yield f args h else .call f args h)).bind Res.asVal
def kRes (fn:AFunc):Option Res→Option Res
 | some (.code .normal vs h')=>(resultsA fn.results vs h').map (.val · h')
 | some (.code .ret vs h')=>(resultsA fn.results vs h').map (.val · h')
 | _=>none
def kEnt (rec:Task→Option Res) (args:List AVal) (h:Heap):Option AEnt→Option Res
 | none=>none
 | some (.hand s)=>(s args h).map fun p => .val p.1 p.2
 | some (.comp fn)=>kRes fn (rec (.code fn.body (fn.slots.map fun s=>(args[s]?).getD (.tup [])) h))
def kOps (rec:Task→Option Res) (l:List AOper) (vs:List AVal) (h:Heap):Option Res:=(foldK (cfK rec) l 0 ⟨vs,List.replicate l.length .bad,h⟩).map fun s => .code .normal s.vs s.h
def kThen (rec:Task→Option Res) (b:ACode):Option Res→Option Res
 | some (.code .normal vs h)=>rec (.code b vs h)
 | r=>r
def kCond (rec:Task→Option Res) (a b:ACode) (vs:List AVal) (h:Heap):AVal→Option Res
 | .bool true=>rec (.code a vs h)
 | .bool false=>rec (.code b vs h)
 | _=>none
def kBlk (id:Nat):Option Res→Option Res
 | some (.code (.exit i) vs h)=>if i=id then some (.code .normal vs h) else some (.code (.exit i) vs h)
 | r=>r
def kAltp (rec:Task→Option Res) (rs:List (List Nat)) (ls:List (List AOper)) (vs:List AVal) (h:Heap):Option Res:=(altpK (cfK rec) vs h rs ls).map fun r => .code .normal r.1 r.2
def kAlts (rec:Task→Option Res) (ls:List (List AOper)) (vs:List AVal) (h:Heap):Option Res:=(altsA (cfK rec) vs h ls).map fun r => .code .normal r.1 r.2
def kRf2 (n0:Nat) (vs:List AVal) (h2:Heap):Option Obj→Option Res
 | some (.lrec .ready _ _ _ _)=>some (.code .normal vs (h2.put n0 none))
 | some (.lrec (.done e) _ _ _ _)=>some (.code e vs (h2.put n0 none))
 | _=>none
def kRf1 (n0:Nat) (vs:List AVal):Option Res→Option Res
 | some (.val _ h2)=>kRf2 n0 vs h2 (h2.get n0)
 | _=>none
def kRf (rec:Task→Option Res) (fid k:Nat) (slots:List Nat) (vs:List AVal) (h:Heap):AVal→Option Res
 | .fn g cap=>kRf1 h.next vs (rec (.call g (.yld h.next::cap) (h.push (.lrec .ready fid k slots vs))))
 | _=>none
def kCode (rec:Task→Option Res) (vs:List AVal) (h:Heap):ACode→Option Res
 | .skip=>some (.code .normal vs h)
 | .ops l=>kOps rec l vs h
 | .seq a b=>kThen rec b (rec (.code a vs h))
 | .cond x a b=>kCond rec a b vs h (evOpd vs [] x)
 | .block id c=>kBlk id (rec (.code c vs h))
 | .loop c=>kThen rec (.loop c) (rec (.code c vs h))
 | .exit id=>some (.code (.exit id) vs h)
 | .ret=>some (.code .ret vs h)
 | .rfunc fid k slots f=>kRf rec fid k slots vs h (evOpd vs [] f)
 | .alts ls=>kAlts rec ls vs h
 | .altp rs ls=>kAltp rec rs ls vs h
 | .refuse=>none
def kY3 (id:Nat) (e:AExit) (h3:Heap):Option Obj→Option Res
 | some (.lrec .busy fid3 k3 slots3 vs4) =>
   match e with
   | .normal=>some (.val (.bool true) (h3.put id (some (.lrec .ready fid3 k3 slots3 vs4))))
   | e=>some (.val (.bool false) (h3.put id (some (.lrec (.done e) fid3 k3 slots3 vs4))))
 | _=>none
def kY2 (id:Nat):Option Res→Option Res
 | some (.code e _ h3)=>kY3 id e h3 (h3.get id)
 | _=>none
def kY1 (rec:Task→Option Res) (id:Nat) (body:ACode) (vs2:List AVal) (h2:Heap):Option Obj→Option Res
 | some (.lrec .ready fid2 k2 slots2 vs3)=>kY2 id (rec (.code body vs2 (h2.put id (some (.lrec .busy fid2 k2 slots2 vs3)))))
 | _=>none
def kY0 (rec:Task→Option Res) (id:Nat) (body:ACode):Option Res→Option Res
 | some (.code .normal vs2 h2)=>kY1 rec id body vs2 h2 (h2.get id)
 | _=>none
def kYl (rec:Task→Option Res) (id:Nat) (args:List AVal) (h:Heap) (slots:List Nat) (vs:List AVal) (fn:AFunc):Option ALoop→Option Res
 | some L=>if slots=fn.slots∧args.length=L.ps.length then kY0 rec id L.body (rec (.code L.assign (setPs L.ps args vs) h)) else none
 | none=>none
def kYe (rec:Task→Option Res) (id:Nat) (args:List AVal) (h:Heap) (k:Nat) (slots:List Nat) (vs:List AVal):Option AEnt→Option Res
 | some (.comp fn)=>kYl rec id args h slots vs fn fn.loops[k]?
 | _=>none
def kYo (F:Nat→Option AEnt) (rec:Task→Option Res) (id:Nat) (args:List AVal) (h:Heap):Option Obj→Option Res
 | some (.lrec .ready fid k slots vs)=>kYe rec id args h k slots vs (F fid)
 | _=>none
def stepT (F:Nat→Option AEnt) (rec:Task→Option Res):Task→Option Res
 | .call f args h=>kEnt rec args h (F f)
 | .yield id args h=>kYo F rec id args h (h.get id)
 | .code c vs h=>kCode rec vs h c
def runK (F:Nat→Option AEnt):Nat→Task→Option Res
 | 0,_=>none
 | n+1,t=>stepT F (runK F n) t
theorem stepT_run (F:Nat→Option AEnt) (n:Nat) (t:Task):stepT F (run F n) t=run F (n+1) t:=by
 cases t with
 | call f args h =>
   simp only [stepT,run]
   cases F f with
   | none=>rfl
   | some e=>cases e with
     | hand s=>rfl
     | comp fn=>rfl
 | yield id args h =>
   simp only [stepT,run]
   cases h.get id with
   | none=>rfl
   | some o =>
     cases o with
     | lrec st fid k slots vs =>
       cases st with
       | ready =>
         simp only [kYo]
         cases F fid with
         | none=>rfl
         | some e=>cases e with
           | hand s=>rfl
           | comp fn =>
             simp only [kYe]
             cases fn.loops[k]? with
             | none=>rfl
             | some L =>
               simp only [kYl]
               split
               ·cases run F n (.code L.assign (setPs L.ps args vs) h) with
                | none=>rfl
                | some r=>cases r with
                  | val=>rfl
                  | code e vs2 h2=>cases e with
                    | normal =>
                      simp only [kY0]
                      cases h2.get id with
                      | none=>rfl
                      | some o2=>cases o2 with
                        | lrec st2 fid2 k2 slots2 vs3=>cases st2 with
                          | ready =>
                            simp only [kY1]
                            cases run F n (.code L.body vs2 (h2.put id (some (.lrec .busy fid2 k2 slots2 vs3)))) with
                            | none=>rfl
                            | some r3=>cases r3 with
                              | val=>rfl
                              | code e3 v3 h3 =>
                                simp only [kY2]
                                cases h3.get id with
                                | none=>rfl
                                | some o4=>cases o4 with
                                  | lrec st4 fid4 k4 slots4 vs4=>cases st4<;>first|rfl|(cases e3<;>rfl)
                                  | _=>rfl
                          | _=>rfl
                        | _=>rfl
                    | _=>rfl
               ·rfl
       | _=>rfl
     | _=>rfl
 | code c vs h =>
   cases c with
   | ops l =>
     rw [run_ops]
     simp only [stepT,kCode,kOps,foldK_eq]
     rw [show cfK (run F n)=cfOf F n from rfl]
     cases foldA (cfOf F n) l 0 ⟨vs,List.replicate l.length .bad,h⟩<;>rfl
   | alts ls =>
     rw [run_alts]
     simp only [stepT,kCode,kAlts]
     rw [show cfK (run F n)=cfOf F n from rfl]
     cases altsA (cfOf F n) vs h ls<;>rfl
   | altp rs ls =>
     rw [run_altp]
     simp only [stepT,kCode,kAltp,altpK_eq]
     rw [show cfK (run F n)=cfOf F n from rfl]
     cases altpA (cfOf F n) vs h rs ls<;>rfl
   | seq a b =>
     simp only [stepT,kCode,run]
     cases run F n (.code a vs h) with
     | none=>rfl
     | some r=>cases r with
       | val=>rfl
       | code e v h=>cases e<;>rfl
   | loop c =>
     simp only [stepT,kCode,run]
     cases run F n (.code c vs h) with
     | none=>rfl
     | some r=>cases r with
       | val=>rfl
       | code e v h=>cases e<;>rfl
   | cond x a b =>
     simp only [stepT,kCode,run]
     cases evOpd vs [] x<;>first|rfl|(rename_i b;cases b<;>rfl)
   | block id c =>
     simp only [stepT,kCode,run]
     cases run F n (.code c vs h) with
     | none=>rfl
     | some r=>cases r with
       | val=>rfl
       | code e v h=>cases e<;>rfl
   | rfunc fid k slots f =>
     simp only [stepT,kCode,run]
     cases evOpd vs [] f<;>rfl
   | _=>rfl
theorem runK_eq (F:Nat→Option AEnt):∀ n,runK F n=run F n
 | 0=>rfl
 | n+1=>by
   funext t
   rw [runK,runK_eq F n,stepT_run]
end Go.Abs

namespace Go.Abs
def Ghost.renN (G:Ghost) (p:Nat→Nat) (n:Nat):Ghost:={ G with n:=n,loc:=fun i=>G.loc (p i),tip:=fun i=>G.tip (p i) }
theorem VRel.gc_to {w:World} {G:Ghost} {p:Nat→Nat} {n:Nat} (hp:∀ i,p i<G.n→i<n) {v:Value} {a':AVal} (r:VRel w G v a'):∀ a,a'=AVal.ren p a→VRel w (G.renN p n) v a:=by
 have hst:∀ b k,stab G b k→stab (G.renN p n) b k:=fun _ _ h=>h
 have hget:∀ {xs:List AVal} {k:Nat} {c:AVal},xs[k]?=some c→(AVal.renL p xs)[k]?=some (c.ren p):=fun h=>by rw [AVal.renL_map,List.getElem?_map,h];rfl
 have hlen:∀ xs:List AVal,(AVal.renL p xs).length=xs.length:=fun xs=>by rw [AVal.renL_map,List.length_map]
 induction r with
 | bool b=>intro a e;cases a<;>simp [AVal.ren] at e;subst e;exact .bool _
 | int k n=>intro a e;cases a<;>simp [AVal.ren] at e;obtain ⟨rfl,rfl⟩:=e;exact .int _ _
 | str s=>intro a e;cases a<;>simp [AVal.ren] at e;subst e;exact .str _
 | nilptr=>intro a e;cases a<;>simp [AVal.ren] at e;exact .nilptr
 | ptr id off hid =>
   intro a e;cases a<;>simp [AVal.ren] at e
   obtain ⟨rfl,rfl⟩:=e
   exact .ptr (G:=G.renN p n) _ _ (hp _ hid)
 | rp b off cs u h1 h2 h3 h4 ih =>
   intro a e;cases a<;>simp [AVal.ren] at e
   rename_i cs'
   subst e
   refine .rp b off cs' u (fun k c hk=>h1 k _ (hget hk)) (fun k c hk=>ih k _ (hget hk) c rfl) (fun k hk=>hst _ _ (h3 k (by rw [hlen];exact hk))) (fun c hc=>?_)
   obtain ⟨k,hk⟩:=mem_get hc
   rw [←AVal.ren_one p]
   exact h4 _ (List.mem_of_getElem? (hget hk))
 | nilsl t ht =>
   intro a e;cases a<;>simp [AVal.ren] at e
   rename_i xs t'
   obtain ⟨rfl,e⟩:=e
   refine .nilsl t' ?_
   cases t'<;>simp [Tok.ren] at e<;>subst e<;>simp at ht ⊢
 | emp ad t ht =>
   intro a e;cases a<;>simp [AVal.ren] at e
   rename_i xs t'
   obtain ⟨rfl,e⟩:=e
   refine .emp ad t' ?_
   cases t'<;>simp [Tok.ren] at e<;>subst e<;>simp at ht ⊢
 | sl b off cap sz xs t u h0 h1 h2 h3 h4 h5 hc hn ho ih =>
   intro a e;cases a<;>simp [AVal.ren] at e
   rename_i xs' t'
   obtain ⟨rfl,e⟩:=e
   refine .sl b off cap sz _ t' u h0 h1 (fun k c hk=>(h2 k c hk).strip_to hst (h5 c (List.mem_of_getElem? hk))) (fun k hk=>hst _ _ (h3 k hk)) h4 h5 hc ?_ (fun id s hs=>?_)
   ·cases t'<;>simp [Tok.ren] at e<;>subst e<;>first|exact hn|simp at hn ⊢
   ·subst hs
    obtain ⟨q1,q2,q3,q4,q5,q6⟩:=ho (p id) s e
    exact ⟨q1,q2,hp _ q3,q4,q5,q6⟩
 | ref id off len sz cap hid hc hs =>
   intro a e;cases a<;>simp [AVal.ren] at e
   obtain ⟨rfl,rfl,rfl,rfl⟩:=e
   exact .ref (G:=G.renN p n) _ _ _ _ cap (hp _ hid) hc hs
 | ref0 id off sz b bo hid =>
   intro a e;cases a<;>simp [AVal.ren] at e
   obtain ⟨rfl,rfl,rfl,rfl⟩:=e
   exact .ref0 (G:=G.renN p n) _ _ _ b bo (hp _ hid)
 | fn f cs asx hl _ ih =>
   intro a e;cases a<;>simp [AVal.ren] at e
   obtain ⟨rfl,rfl⟩:=e
   exact .fn _ cs _ (by rw [hl,hlen]) fun k c x hc hx=>ih k c _ hc (hget hx) x rfl
 | nilfn=>intro a e;cases a<;>simp [AVal.ren] at e;exact .nilfn
 | nilif=>intro a e;cases a<;>simp [AVal.ren] at e;exact .nilif
 | mp id hid =>
   intro a e;cases a<;>simp [AVal.ren] at e
   subst e
   exact .mp (G:=G.renN p n) _ (hp _ hid)
 | nilmp=>intro a e;cases a<;>simp [AVal.ren] at e;exact .nilmp
 | yld id hid =>
   intro a e;cases a<;>simp [AVal.ren] at e
   subst e
   exact .yld (G:=G.renN p n) _ (hp _ hid)
 | agg cs asx hl _ h4 ih =>
   intro a e;cases a<;>simp [AVal.ren] at e
   rename_i asx'
   subst e
   refine .agg cs _ (by rw [hl,hlen]) (fun k c x hc hx=>ih k c _ hc (hget hx) x rfl) (fun c hc=>?_)
   obtain ⟨k,hk⟩:=mem_get hc
   rw [←AVal.ren_one p]
   exact h4 _ (List.mem_of_getElem? (hget hk))
 | tup cs asx hl _ ih =>
   intro a e;cases a<;>simp [AVal.ren] at e
   subst e
   exact .tup cs _ (by rw [hl,hlen]) fun k c x hc hx=>ih k c _ hc (hget hx) x rfl
 | bad v=>intro a e;cases a<;>simp [AVal.ren] at e;exact .bad _
theorem OkObj.gc_to {w:World} {G:Ghost} {p:Nat→Nat} {n:Nat} (hp:∀ i,p i<G.n→i<n) {id:Nat} {o:Obj} (r:OkObj w G (p id) (o.ren p)):OkObj w (G.renN p n) id o:=by
 have hget:∀ {xs:List AVal} {k:Nat} {c:AVal},xs[k]?=some c→(AVal.renL p xs)[k]?=some (c.ren p):=fun h=>by rw [AVal.renL_map,List.getElem?_map,h];rfl
 cases o with
 | row mu sz ag cs =>
   obtain ⟨h1,h2,h3,h4,h5⟩:=r
   refine ⟨h1,fun k c hk=>?_,fun c hc=>?_,?_,h5⟩
   ·obtain ⟨u,hu,hv⟩:=h2 k _ (hget hk)
    exact ⟨u,hu,hv.gc_to hp c rfl⟩
   ·obtain ⟨k,hk⟩:=mem_get hc
    rw [←AVal.ren_one p]
    exact h3 _ (List.mem_of_getElem? (hget hk))
   ·rw [AVal.renL_map,List.length_map] at h4
    exact h4
 | tok ty=>exact r
 | map kd clock es =>
   obtain ⟨entries,h1,h2,h3,h4,h5⟩:=r
   refine ⟨entries,h1,by simpa using h2,fun k e x he hx=>?_,fun x hx=>?_,h5⟩
   ·obtain ⟨q1,q2,q3⟩:=h3 k e (x.1,x.2.1.ren p,x.2.2.ren p) he (by rw [List.getElem?_map,hx];rfl)
    exact ⟨q1,q2.gc_to hp _ rfl,q3.gc_to hp _ rfl⟩
   ·have:=h4 (x.1,x.2.1.ren p,x.2.2.ren p) (List.mem_map.2 ⟨x,hx,rfl⟩)
    rwa [isKey_ren,plain_ren] at this
 | lrec st fid k slots vs =>
   obtain ⟨lr,nt,h1,h3,h4,h5,h6,h7⟩:=r
   exact ⟨lr,nt,h1,h3,h4,by rw [AVal.renL_map,List.length_map] at h5;exact h5,fun i s x q1 q2=>(h6 i s _ q1 (hget q2)).gc_to hp x rfl,h7⟩
 | iter m since seen last =>
   obtain ⟨h1,h2⟩:=r
   refine ⟨?_,fun i hi=>?_⟩
   ·show w.heap[G.loc (p id)]?=some (.mapIter (m.map fun i=>G.loc (p i)) since seen.toArray last)
    rw [h1,Option.map_map];rfl
   ·subst hi
    exact hp _ (h2 (p i) rfl)
structure GcOk (p:Nat→Nat) (h0 h:Heap):Prop where
 back:∀ i,p i<h.next→i<h0.next
 inj:∀ i j,i<h0.next→j<h0.next→p i=p j→i=j
 get:∀ i o,h0.get i=some o→h.get (p i)=some (o.ren p)
theorem HRel.gc_to {w:World} {G:Ghost} {p:Nat→Nat} {h0 h:Heap} (H:HRel w G h) (R:GcOk p h0 h):HRel w (G.renN p h0.next) h0 where
 n_eq:=rfl
 lt:=fun id o ho=>H.lt (p id) _ (R.get id o ho)
 obj:=fun id o ho=>OkObj.gc_to (fun i hi=>by rw [H.n_eq] at hi;exact R.back i hi) (H.obj (p id) _ (R.get id o ho))
 inj:=fun i j oi oj hi hj e=>R.inj i j (Heap.get_lt hi) (Heap.get_lt hj) (H.inj (p i) (p j) _ _ (R.get i oi hi) (R.get j oj hj) e)
 glob:=fun g cs hg=>by
  obtain ⟨q1,q2⟩:=H.glob g cs hg
  refine ⟨?_,q2⟩
  cases q1 with
  | rp b off _ u h1 h2 h3 h4=>exact .rp g 0 cs u h1 (fun k c hk=>VRel.strip_to (G:=G) (G2:=G.renN p h0.next) (fun _ _ h=>h) (h2 k c hk) (q2 c (List.mem_of_getElem? hk))) h3 h4
theorem Ext.gc_to {w w':World} {G G':Ghost} {p:Nat→Nat} {h0 h:Heap} (hn:G.n=0) (R:GcOk p h0 h) (x:Ext w G Heap.empty w' G' h):Ext w G Heap.empty w' (G'.renN p h0.next) h0 where
 os:=x.os
 tape:=x.tape
 out:=x.out
 size:=x.size
 keep:=x.keep
 stable:=x.stable
 shape:=x.shape
 n_le:=by rw [hn];exact Nat.zero_le _
 ids:=fun id hid=>by omega
 fresh:=fun b hb ⟨id,o,ho,hl⟩=>x.fresh b hb ⟨p id,_,R.get id o ho,hl⟩
 env:=x.env
 loops:=x.loops
theorem Marks.gc_to {w0 w:World} {d0 d:List Deferred} {G:Ghost} {p:Nat→Nat} {h0 h:Heap} (R:GcOk p h0 h) (m:Marks w0 d0 w G h d):Marks w0 d0 w (G.renN p h0.next) h0 d:=by
 obtain ⟨bs,e,n,q⟩:=m
 refine ⟨bs,e,n,fun b hb=>?_⟩
 obtain ⟨q1,q2,q3,q4⟩:=q b hb
 exact ⟨q1,q2,q3,fun ⟨id,o,ho,hl⟩=>q4 ⟨p id,_,R.get id o ho,hl⟩⟩
variable {P:Program} {Hh:Hints} {F:Nat→Option AEnt}
def FW (P:Program) (Hh:Hints) (nt:Nat) (slots:List Nat) (w0:World) (G0:Ghost) (d0:List Deferred) (c:Code) (vs:List AVal) (h:Heap) (Q:AExit→List AVal→Heap→Prop):Prop :=
 ∀ (m:Nat) (a:Act) (w:World) (G:Ghost) (Qm:Exit→Act→World→Prop),G.env=envOf P Hh→CRel w G a nt slots vs h→Ext w0 G0 Heap.empty w G h→Marks w0 d0 w G h a.defers →
   (∀ e vs' h' a' w' G',Q e vs' h'→Ext w0 G0 Heap.empty w' G' h'→CRel w' G' a' nt slots vs' h'→Marks w0 d0 w' G' h' a'.defers→Qm (exitOf e) a' w')→c.wpIn (rF none) m P Qm a w
theorem SW.of_fw {nt:Nat} {slots:List Nat} {c:Code} {vs:List AVal} {Q:AExit→List AVal→Heap→Prop} (f:∀ w0 G0 d0,G0.n=0→FW P Hh nt slots w0 G0 d0 c vs Heap.empty Q):SW P Hh nt slots c vs Heap.empty Q:=by
 intro m a w G Qm hE hC hQ
 exact f w G a.defers hC.H.n_eq m a w G Qm hE hC (.refl _ _ _) .same hQ
theorem SW.fw {nt:Nat} {slots:List Nat} {w0:World} {G0:Ghost} {d0:List Deferred} {c:Code} {vs:List AVal} {h:Heap} {Q:AExit→List AVal→Heap→Prop} (s:SW P Hh nt slots c vs h Q):FW P Hh nt slots w0 G0 d0 c vs h Q:=by
 intro m a w G Qm hE hC hX hM hQ
 exact s m a w G Qm hE hC fun e vs' h' a' w' G' q x C m'=>hQ e vs' h' a' w' G' q (hX.trans x) C (hM.trans hX.size x m')
theorem FW.seq {nt:Nat} {slots:List Nat} {w0:World} {G0:Ghost} {d0:List Deferred} {x y:Code} {vs:List AVal} {h:Heap} {Q:AExit→List AVal→Heap→Prop}
  (a0:FW P Hh nt slots w0 G0 d0 x vs h (fun e vs' h'=>match e with
   | .normal=>FW P Hh nt slots w0 G0 d0 y vs' h' Q
   | e=>Q e vs' h')):FW P Hh nt slots w0 G0 d0 (.seq x y) vs h Q:=by
 intro m a w G Qm hE hC hX hM hQ
 have hE0:G0.env=envOf P Hh:=hX.env.symm.trans hE
 refine wpIn_seq (a0 m a w G _ hE hC hX hM fun e vs' h' a' w' G' hq hX' hC' hM'=>?_)
 cases e with
 | normal=>exact hq m a' w' G' Qm (hX'.env.trans hE0) hC' hX' hM' hQ
 | exit i=>exact hQ _ vs' h' a' w' G' hq hX' hC' hM'
 | ret=>exact hQ _ vs' h' a' w' G' hq hX' hC' hM'
def forgB (p:Nat→Nat):List AVal→List AVal→Bool
 | [],[]=>true
 | .bad::xs,_::ys=>forgB p xs ys
 | x::xs,y::ys=>AVal.beq (x.ren p) y && forgB p xs ys
 | _,_=>false
theorem forgB_one {p:Nat→Nat} {x y:AVal} {xs ys:List AVal} (h:forgB p (x::xs) (y::ys)=true):(x = .bad∨y=x.ren p)∧forgB p xs ys=true:=by
 cases x<;>first
  | exact ⟨.inl rfl,h⟩
  | (simp only [forgB,Bool.and_eq_true] at h;exact ⟨.inr (AVal.beq_eq _ _ h.1).symm,h.2⟩)
theorem forgB_len {p:Nat→Nat}:∀ {xs ys:List AVal},forgB p xs ys=true→ys.length=xs.length
 | [],[],_=>rfl
 | [],_::_,h=>by simp [forgB] at h
 | x::_,[],h=>by cases x<;>simp [forgB] at h
 | x::xs,y::ys,h=>by simp only [List.length_cons,forgB_len (forgB_one h).2]
theorem forgB_get {p:Nat→Nat}:∀ {xs ys:List AVal},forgB p xs ys=true→∀ (i:Nat) (x:AVal),xs[i]?=some x→∃ y:AVal,ys[i]?=some y∧(x = .bad∨y=x.ren p)
 | [],[],_,i,x,e=>by simp at e
 | [],_::_,h,_,_,_=>by simp [forgB] at h
 | x::_,[],h,_,_,_=>by cases x<;>simp [forgB] at h
 | x::xs,y::ys,h,i,z,e=>by
   obtain ⟨h1,h2⟩:=forgB_one h
   cases i with
   | zero=>simp only [List.getElem?_cons_zero,Option.some.injEq] at e;subst e;exact ⟨y,rfl,h1⟩
   | succ i=>simp only [List.getElem?_cons_succ] at e ⊢;exact forgB_get h2 i z e
theorem FW.gc {nt:Nat} {slots:List Nat} {w0:World} {G0:Ghost} (hn:G0.n=0) {d0:List Deferred} {c:Code} {vs vs0:List AVal} {h h0:Heap} {Q:AExit→List AVal→Heap→Prop} {p:Nat→Nat} (R:GcOk p h0 h) (hv:forgB p vs0 vs=true)
  (f:FW P Hh nt slots w0 G0 d0 c vs0 h0 Q):FW P Hh nt slots w0 G0 d0 c vs h Q:=by
 intro m a w G Qm hE hC hX hM hQ
 have hF:FRel w (G.renN p h0.next) a.tmps slots vs0:=⟨by have:=hC.F.len;rw [forgB_len hv] at this;exact this,fun i s x h1 h2=>by
  obtain ⟨y,hy,hxy⟩:=forgB_get hv i x h2
  have q:=hC.F.rel i s y h1 hy
  rcases hxy with rfl|rfl
  ·exact .bad _
  ·exact q.gc_to (fun i hi=>by rw [hC.H.n_eq] at hi;exact R.back i hi) x rfl⟩
 exact f m a w (G.renN p h0.next) Qm hE ⟨hC.H.gc_to R,hF,hC.size⟩ (Ext.gc_to hn R hX) (hM.gc_to R) hQ
def gcP (L:List Nat) (n:Nat) (i:Nat):Nat:=if i<L.length then L.getD i 0 else n+i
def gcB (L:List Nat) (vs0:List AVal) (h0:Heap) (vs:List AVal) (h:Heap):Bool :=
 L.length == h0.next && L.all (fun x=>decide (x<h.next)) && decide L.Nodup && forgB (gcP L h.next) vs0 vs &&
 (List.range h0.next).all fun i=>beqO (h.get (gcP L h.next i)) ((h0.get i).map (Obj.ren (gcP L h.next)))
theorem gcB_ok {L:List Nat} {vs0 vs:List AVal} {h0 h:Heap} (e:gcB L vs0 h0 vs h=true):∃ p,GcOk p h0 h∧forgB p vs0 vs=true:=by
 simp only [gcB,Bool.and_eq_true,beq_iff_eq,decide_eq_true_eq,List.all_eq_true,List.mem_range] at e
 obtain ⟨⟨⟨⟨e1,e2⟩,e3⟩,e4⟩,e5⟩:=e
 have hin:∀ i (hi:i<L.length),gcP L h.next i=L[i]:=fun i hi=>by rw [gcP,if_pos hi,List.getD_eq_getElem?_getD,List.getElem?_eq_getElem hi];rfl
 refine ⟨gcP L h.next,⟨fun i hi=>?_,fun i j hi hj h=>?_,fun i o ho=>?_⟩,e4⟩
 ·rw [gcP] at hi
  split at hi
  ·omega
  ·omega
 ·rw [hin i (by omega),hin j (by omega)] at h
  exact (List.getElem_inj e3).1 h
 ·have q:=beqO_eq (e5 i (Heap.get_lt ho))
  rw [q,ho];rfl
def pieceB (F:Nat→Option AEnt) (n:Nat) (c:ACode) (L:List Nat) (vs:List AVal) (h:Heap) (vs1:List AVal) (h1:Heap):Bool :=
 match runK F n (.code c vs h) with
 | some (.code .normal vs' h')=>gcB L vs1 h1 vs' h'
 | _=>false
theorem pieceB_ok {n:Nat} {c:ACode} {L:List Nat} {vs vs1:List AVal} {h h1:Heap} (e:pieceB F n c L vs h vs1 h1=true):∃ vs' h',run F n (.code c vs h)=some (.code .normal vs' h')∧∃ p,GcOk p h1 h'∧forgB p vs1 vs'=true:=by
 unfold pieceB at e
 rw [runK_eq] at e
 split at e
 ·rename_i vs' h' hr
  exact ⟨vs',h',hr,gcB_ok e⟩
 ·simp at e
theorem FW.piece (hmix:P.follows .mixedOrders=true) (hT:Table P Hh F) {fid nt:Nat} {slots:List Nat} (hnd:slots.Nodup) {k:Nat} {x y:Code} (hs:SitesOk P fid nt k x) {w0:World} {G0:Ghost} (hn:G0.n=0) {d0:List Deferred} {n:Nat} {L:List Nat} {vs vs1:List AVal} {h h1:Heap} {Q:AExit→List AVal→Heap→Prop}
  (e:pieceB F n (compCode P Hh fid nt slots true k x) L vs h vs1 h1=true) (f:FW P Hh nt slots w0 G0 d0 y vs1 h1 Q):FW P Hh nt slots w0 G0 d0 (.seq x y) vs h Q:=by
 obtain ⟨vs',h',hr,p,R,hv⟩:=pieceB_ok e
 exact FW.seq (SW.fw (SW.of_wp hmix hT hnd (top:=true) (fun _=>hs) (WP_of_run hr (FW.gc hn R hv f))))
theorem FW.altp (hmix:P.follows .mixedOrders=true) (hT:Table P Hh F) {fid nt:Nat} {slots:List Nat} (hnd:slots.Nodup) {id:Nat} {ops:Array Oper} {draw:Bool} {y:Code} {k:Nat} {rs:List (List Nat)} {ls:List (List AOper)} (hcc:compCode P Hh fid nt slots true k (.region id ops draw) = .altp rs ls)
  {w0:World} {G0:Ghost} (hn:G0.n=0) {d0:List Deferred} {n:Nat} {vs vs1:List AVal} {h h1:Heap} {Q:AExit→List AVal→Heap→Prop}
  (e:∀ l∈ls,∃ L,pieceB F n (.ops l) L vs h vs1 h1=true) (f:FW P Hh nt slots w0 G0 d0 y vs1 h1 Q):FW P Hh nt slots w0 G0 d0 (.seq (.region id ops draw) y) vs h Q:=by
 refine FW.seq (SW.fw ?_)
 cases n with
 | zero =>
   intro m a w G Qm hE hC hQ
   refine alts_any hmix (cfOf_ok hmix hT 0) hnd (.inr ⟨rs,hcc⟩) hE hC fun l hl=>?_
   obtain ⟨L,hL⟩:=e l hl
   obtain ⟨vs',h',hr,_⟩:=pieceB_ok hL
   simp [run] at hr
 | succ n =>
   intro m a w G Qm hE hC hQ
   refine alts_any hmix (cfOf_ok hmix hT n) hnd (.inr ⟨rs,hcc⟩) hE hC fun l hl=>?_
   obtain ⟨L,hL⟩:=e l hl
   obtain ⟨vs',h',hr,p,R,hv⟩:=pieceB_ok hL
   rw [run_ops] at hr
   split at hr
   ·rename_i s hs
    simp only [Option.some.injEq,Res.code.injEq,true_and] at hr
    obtain ⟨rfl,rfl⟩:=hr
    exact ⟨s,hs,fun a' w' G' hX S' hd=>hQ .normal _ _ a' w' G' (FW.gc hn R hv f) hX S' (.of_eq hd)⟩
   ·simp at hr
def hdA:ACode→ACode
 | .seq a _=>a
 | c=>c
def tlA:ACode→ACode
 | .seq _ b=>b
 | c=>c
def tlN:Nat→ACode→ACode
 | 0,c=>c
 | n+1,c=>tlN n (tlA c)
def altsOfA:ACode→List (List AOper)
 | .altp _ ls=>ls
 | _=>[]
def pcShape:List Bool→Code→Bool
 | [],_=>true
 | false::fs,.seq _ b=>pcShape fs b
 | true::fs,.seq (.region _ _ _) b=>pcShape fs b
 | _,_=>false
inductive Chain (F:Nat→Option AEnt) (Q:AExit→List AVal→Heap→Prop):List Bool→ACode→List AVal→Heap→Prop
 | last {c:ACode} {vs:List AVal} {h:Heap} {n:Nat} {e:AExit} {vs':List AVal} {h':Heap}:run F n (.code c vs h)=some (.code e vs' h')→Q e vs' h'→Chain F Q [] c vs h
 | step {fs:List Bool} {c:ACode} {vs vs1:List AVal} {h h1:Heap} {n:Nat} {L:List Nat}:pieceB F n (hdA c) L vs h vs1 h1=true→Chain F Q fs (tlA c) vs1 h1→Chain F Q (false::fs) c vs h
 | alt {fs:List Bool} {c:ACode} {vs vs1:List AVal} {h h1:Heap} {n:Nat}:(altsOfA (hdA c)≠[]∧∀ l∈altsOfA (hdA c),∃ L,pieceB F n (.ops l) L vs h vs1 h1=true)→Chain F Q fs (tlA c) vs1 h1→Chain F Q (true::fs) c vs h
theorem alts_of {F:Nat→Option AEnt} {n m:Nat} {ls:List (List AOper)} {vs vs1:List AVal} {h h1:Heap} {Ls:List (List Nat)} (hl:ls.length=m) (h0:0<m) (e:∀ k,k<m→pieceB F n (.ops (ls.getD k [])) (Ls.getD k []) vs h vs1 h1=true):ls≠[]∧∀ l∈ls,∃ L,pieceB F n (.ops l) L vs h vs1 h1=true:=by
 refine ⟨fun q=>?_,fun l hm=>?_⟩
 ·subst q;simp at hl;omega
 ·obtain ⟨k,hk,rfl⟩:=List.getElem_of_mem hm
  refine ⟨Ls.getD k [],?_⟩
  have:=e k (by omega)
  rw [List.getD_eq_getElem?_getD,List.getElem?_eq_getElem hk,Option.getD_some] at this
  exact this
theorem FW.of_chain (hmix:P.follows .mixedOrders=true) (hT:Table P Hh F) {fid nt:Nat} {slots:List Nat} (hnd:slots.Nodup) {w0:World} {G0:Ghost} (hn:G0.n=0) {d0:List Deferred} {Q:AExit→List AVal→Heap→Prop} :
  ∀ {fs:List Bool} {C:Code} {k:Nat} {vs:List AVal} {h:Heap},pcShape fs C=true→SitesOk P fid nt k C→Chain F Q fs (compCode P Hh fid nt slots true k C) vs h→FW P Hh nt slots w0 G0 d0 C vs h Q
 | [],C,k,vs,h,_,hs,ch=>by
   cases ch with
   | last hr q=>exact SW.fw (SW.of_wp hmix hT hnd (top:=true) (fun _=>hs) (WP_of_run hr q))
 | false::fs,C,k,vs,h,hq,hs,ch=>by
   cases C with
   | seq A B =>
     have hcs:compCode P Hh fid nt slots true k (.seq A B) = .seq (compCode P Hh fid nt slots true k A) (compCode P Hh fid nt slots true (k+nLoops A) B):=rfl
     rw [hcs] at ch
     cases ch with
     | step e c=>exact FW.piece hmix hT hnd (hs.left rfl) hn e (FW.of_chain hmix hT hnd hn hq (hs.right rfl) c)
   | _=>simp [pcShape] at hq
 | true::fs,C,k,vs,h,hq,hs,ch=>by
   cases C with
   | seq A B =>
     cases A with
     | region id ops draw =>
       have hcs:compCode P Hh fid nt slots true k (.seq (.region id ops draw) B) = .seq (compCode P Hh fid nt slots true k (.region id ops draw)) (compCode P Hh fid nt slots true (k+nLoops (.region id ops draw)) B):=rfl
       rw [hcs] at ch
       cases ch with
       | alt e c =>
         simp only [hdA,tlA] at e c
         cases hcc:compCode P Hh fid nt slots true k (.region id ops draw) with
         | altp rs ls =>
           rw [hcc] at e
           exact FW.altp hmix hT hnd hcc hn e.2 (FW.of_chain hmix hT hnd hn hq (hs.right rfl) c)
         | _=>rw [hcc] at e;simp [altsOfA] at e
     | _=>simp [pcShape] at hq
   | _=>simp [pcShape] at hq
theorem chain_call (hmix:P.follows .mixedOrders=true) (hT:Table P Hh F) {g:Nat} {cf:AFunc} (hc:compFunc P Hh g=some cf) {fs:List Bool} (hsh:pcShape fs (bodyOf P g)=true) {args:List AVal} {r:AVal}
  (ch:Chain F (fun e vs h'=>(e = .normal∨e = .ret)∧∃ r1,resultsA cf.results vs h'=some r1∧purify h' r1=some r) fs cf.body (cf.slots.map fun s=>(args[s]?).getD (.tup [])) Heap.empty):CallRelE P Hh g args Heap.empty r Heap.empty:=by
 unfold compFunc at hc
 split at hc
 ·simp at hc
 ·rename_i fn hf
  split at hc
  ·rename_i c hb
   dsimp only at hc
   split at hc
   ·rename_i ris hres
    split at hc
    ·rename_i hcond
     simp only [Option.some.injEq] at hc
     subst hc
     simp only [Bool.and_eq_true,decide_eq_true_eq] at hcond
     have hbo:bodyOf P g=c:=by simp [bodyOf,hf,hb]
     rw [hbo] at hsh
     exact told_call hf hb hres (SW.of_fw fun w0 G0 d0 hn=>FW.of_chain hmix hT hcond.1.2 hn hsh (fun j x hx=>by simp [siteOf,hf,hb,hx]) ch)
    ·simp at hc
   ·simp at hc
  ·simp at hc
def lastB (F:Nat→Option AEnt) (n:Nat) (c:ACode) (vs:List AVal) (h:Heap) (ris:List ResV) (r:AVal):Bool :=
 match runK F n (.code c vs h) with
 | some (.code (.exit _) _ _)=>false
 | some (.code _ vs' h')=>match resultsA ris vs' h' with
   | some r1=>match purify h' r1 with
     | some r'=>AVal.beq r' r
     | none=>false
   | none=>false
 | _=>false
theorem Chain.of_last {n:Nat} {c:ACode} {vs:List AVal} {h:Heap} {ris:List ResV} {r:AVal} (e:lastB F n c vs h ris r=true):Chain F (fun e vs h'=>(e = .normal∨e = .ret)∧∃ r1,resultsA ris vs h'=some r1∧purify h' r1=some r) [] c vs h:=by
 unfold lastB at e
 rw [runK_eq] at e
 split at e
 ·simp at e
 ·rename_i x vs' h' hne hr
  split at e
  ·rename_i r1 h1
   split at e
   ·rename_i r' h2
    have:=AVal.beq_eq _ _ e
    subst this
    refine .last hr ⟨?_,r1,h1,h2⟩
    cases x with
    | normal=>exact .inl rfl
    | ret=>exact .inr rfl
    | exit i=>exact (hne i rfl).elim
   ·simp at e
  ·simp at e
 ·simp at e
end Go.Abs

namespace Go.Abs
variable {P:Program} {Hh:Hints} {F:Nat→Option AEnt}
def thenSW (P:Program) (Hh:Hints) (nt:Nat) (slots:List Nat) (C:Code) (Q:AExit→List AVal→Heap→Prop):AExit→List AVal→Heap→Prop
 | .normal,vs,h=>SW P Hh nt slots C vs h Q
 | e,vs,h=>Q e vs h
theorem SW.wp_seq (hmix:P.follows .mixedOrders=true) (hT:Table P Hh F) {fid nt:Nat} {slots:List Nat} (hnd:slots.Nodup) {k:Nat} {A B:Code} (hs:SitesOk P fid nt k A) {a:ACode} (ha:compCode P Hh fid nt slots true k A=a) {vs:List AVal} {h:Heap} {Q:AExit→List AVal→Heap→Prop}
  (w:WP F a vs h (thenSW P Hh nt slots B Q)):SW P Hh nt slots (.seq A B) vs h Q:=by
 subst ha
 refine SW.seq (SW.mono (SW.of_wp hmix hT hnd (top:=true) (fun _=>hs) w) fun e vs' h' q=>?_)
 cases e<;>exact q
theorem calls_of {g:Nat} {cf:AFunc} (hc:compFunc P Hh g=some cf) {args:List AVal} {h:Heap} {K:AVal→Heap→Prop}
  (hw:∀ nt c,bodyOf P g=c→cf.slots.Nodup→SitesOk P g nt 0 c→compCode P Hh g nt cf.slots true 0 c=cf.body→SW P Hh nt cf.slots c (cf.slots.map fun s=>(args[s]?).getD (.tup [])) h (fun e vs h'=>(e = .normal∨e = .ret)∧∃ r,resultsA cf.results vs h'=some r∧K r h'))
  {w:World} {G:Ghost} {cargs:Array Value} (hE:G.env=envOf P Hh) (H:HRel w G h) (hp:Pts w G cargs args) :
  Calls P g cargs w (fun e w'=>∃ r h',K r h'∧∃ v G',e = .returned v∧Ext w G h w' G' h'∧HRel w' G' h'∧VRel w' G' v r):=by
 unfold compFunc at hc
 split at hc
 ·simp at hc
 ·rename_i fn hf
  split at hc
  ·rename_i c hb
   dsimp only at hc
   split at hc
   ·rename_i ris hres
    split at hc
    ·rename_i hcond
     simp only [Option.some.injEq] at hc
     subst hc
     simp only [Bool.and_eq_true,decide_eq_true_eq] at hcond
     exact calls_of_SW hf hb hres (hw fn.ntmps c (by simp [bodyOf,hf,hb]) hcond.1.2 (fun j x hx=>by simp [siteOf,hf,hb,hx]) rfl) hE H hp
    ·simp at hc
   ·simp at hc
  ·simp at hc
def CC (P:Program) (Hh:Hints) (fid nt:Nat) (slots:List Nat) (C:Code) (a:ACode):Prop:=∃ k,compCode P Hh fid nt slots true k C=a∧SitesOk P fid nt k C
def isSeqC:Code→Bool
 | .seq _ _=>true
 | _=>false
theorem CC.left {fid nt:Nat} {slots:List Nat} {C:Code} {a:ACode} (c:CC P Hh fid nt slots C a) (h:isSeqC C=true):CC P Hh fid nt slots (seqL C) (hdA a):=by
 obtain ⟨k,rfl,hs⟩:=c
 cases C with
 | seq A B=>exact ⟨k,rfl,hs.left rfl⟩
 | _=>simp [isSeqC] at h
theorem CC.right {fid nt:Nat} {slots:List Nat} {C:Code} {a:ACode} (c:CC P Hh fid nt slots C a) (h:isSeqC C=true):CC P Hh fid nt slots (seqR C) (tlA a):=by
 obtain ⟨k,rfl,hs⟩:=c
 cases C with
 | seq A B=>exact ⟨k+nLoops A,rfl,hs.right rfl⟩
 | _=>simp [isSeqC] at h
theorem CC.sw (hmix:P.follows .mixedOrders=true) (hT:Table P Hh F) {fid nt:Nat} {slots:List Nat} (hnd:slots.Nodup) {C:Code} {a:ACode} (c:CC P Hh fid nt slots C a) {vs:List AVal} {h:Heap} {Q:AExit→List AVal→Heap→Prop} (w:WP F a vs h Q):SW P Hh nt slots C vs h Q:=by
 obtain ⟨k,rfl,hs⟩:=c
 exact SW.of_wp hmix hT hnd (top:=true) (fun _=>hs) w
theorem CC.seq (hmix:P.follows .mixedOrders=true) (hT:Table P Hh F) {fid nt:Nat} {slots:List Nat} (hnd:slots.Nodup) {C:Code} {a:ACode} (c:CC P Hh fid nt slots C a) (h:isSeqC C=true) {vs:List AVal} {hp:Heap} {Q:AExit→List AVal→Heap→Prop}
  (w:WP F (hdA a) vs hp (thenSW P Hh nt slots (seqR C) Q)):SW P Hh nt slots C vs hp Q:=by
 obtain ⟨k,rfl,hs⟩:=c
 cases C with
 | seq A B=>exact SW.wp_seq hmix hT hnd (hs.left rfl) rfl w
 | _=>simp [isSeqC] at h
end Go.Abs

namespace Go.Proofs.YthhdkkecolocdaaGreatDoor
open Go Go.Abs Go.Ly
theorem mixed:Tryz.prog.follows .mixedOrders=true:=by kernel_rfl
theorem mpc (i:Nat):(AVal.mp i).cells=[.mp i]:=rfl
theorem mpo (i:Nat):(AVal.mp i).one=true:=rfl
theorem nmp1:AVal.nilmp.one=true:=rfl
def growK (b:Bk) (L:List Ly.Id) (e:Ly.Id) (h:Heap) (v:AVal) (h':Heap):Prop:=∃ rv m,v = .agg [rv,.mp m]∧SV h' rv ((b.tree L e).sibs b.key none)∧KOk (fun x=>(b.tree L e).sibs b.key (some x)) h' m∧Fr (fun _=>False) h h'
structure GS (b:Bk) (e:Ly.Id) (h0:Heap) (n:Nat) (H:Heap):Prop where
 fr:Fr (fun _=>False) h0 H
 nx:n+7≤H.next
 hb:H.get n=some (.row true 0 true (bkC b))
 he:H.get (n+1)=some (.row true 0 true e.cells)
 hr:H.get (n+2)=some (.row true (typed 167) true [.sl [] .nil,.nilmp])
theorem GS.push {b:Bk} {e:Ly.Id} {h0:Heap} {n:Nat} {H:Heap} (g:GS b e h0 n H) (o:Abs.Obj):GS b e h0 n (H.push o) :=
 ⟨g.fr.push o,by rw [push_next];have:=g.nx;omega,get_push_old g.hb,get_push_old g.he,get_push_old g.hr⟩
theorem GS.put {b:Bk} {e:Ly.Id} {n:Nat} {h0 H:Heap} (hn0:h0.next=n) (g:GS b e h0 n H) {j:Nat} (hj:n+3≤j) (o:Option Abs.Obj):GS b e h0 n (H.put j o) :=
 ⟨⟨by rw [put_next];exact g.fr.1,fun k hk q=>by rw [get_put_ne (by omega)];exact g.fr.2 k hk q⟩,by rw [put_next];exact g.nx,by rw [get_put_ne (by omega)];exact g.hb,by rw [get_put_ne (by omega)];exact g.he,by rw [get_put_ne (by omega)];exact g.hr⟩
theorem MOk.push {h:Heap} {m c:Nat} {E:List Et} (o:MOk h m c E) (x:Abs.Obj):MOk (h.push x) m c E:=⟨get_push_old o.1,o.2⟩
theorem MOk.put {h:Heap} {m c:Nat} {E:List Et} (o:MOk h m c E) {j:Nat} (hj:m≠j) (x:Option Abs.Obj):MOk (h.put j x) m c E:=⟨by rw [get_put_ne hj];exact o.1,o.2⟩
theorem gs_start (b:Bk) (e:Ly.Id) (h:Heap):∀ H,H=(((((((h.push (.row true 0 true (bkC b))).push (.row true 0 true e.cells)).push (.row true (typed 167) true [.sl [] .nil,.nilmp])).push (.map idK 0 [])).push (.row true (typed 167) true [.sl [] .nil,.mp (h.next+1+1+1)])).push (.map idK 0 [])).push (.map idK 0 [])) →
  GS b e h h.next H∧MOk H (h.next+3) 0 []∧H.get (h.next+4)=some (.row true (typed 167) true [.sl [] .nil,.mp (h.next+3)])∧MOk H (h.next+5) 0 []∧MOk H (h.next+6) 0 []:=by
 rintro H rfl
 have e0:EOk 0 []:=⟨by simp,by simp,by simp⟩
 have gp:∀ (K:Heap) (o:Abs.Obj) {j:Nat} {x:Option Abs.Obj},j<K.next→K.get j=x→(K.push o).get j=x:=fun K o j x hj hx=>by rw [get_push_ne (by omega)];exact hx
 refine ⟨⟨((((((((Fr.refl _ _).push _).push _).push _).push _).push _).push _).push _),by simp only [push_next];omega,?_,?_,?_⟩,⟨?_,e0⟩,?_,⟨?_,e0⟩,⟨?_,e0⟩⟩
 ·iterate 6 refine gp _ _ (by simp only [push_next];omega) ?_
  exact get_push_eq rfl
 ·iterate 5 refine gp _ _ (by simp only [push_next];omega) ?_
  exact get_push_eq (by simp only [push_next])
 ·iterate 4 refine gp _ _ (by simp only [push_next];omega) ?_
  exact get_push_eq (by simp only [push_next])
 ·iterate 3 refine gp _ _ (by simp only [push_next];omega) ?_
  exact get_push_eq (by simp only [push_next])
 ·iterate 2 refine gp _ _ (by simp only [push_next];omega) ?_
  exact get_push_eq (by simp only [push_next])
 ·iterate 1 refine gp _ _ (by simp only [push_next];omega) ?_
  exact get_push_eq (by simp only [push_next])
 ·exact get_push_eq (by simp only [push_next])
theorem gs_use (b:Bk) (e:Ly.Id) (h:Heap) {motive:Heap→Prop} (k:∀ H,GS b e h h.next H→MOk H (h.next+3) 0 []→H.get (h.next+4)=some (.row true (typed 167) true [.sl [] .nil,.mp (h.next+3)])→MOk H (h.next+5) 0 []→MOk H (h.next+6) 0 []→motive H) :
  motive (((((((h.push (.row true 0 true (bkC b))).push (.row true 0 true e.cells)).push (.row true (typed 167) true [.sl [] .nil,.nilmp])).push (.map idK 0 [])).push (.row true (typed 167) true [.sl [] .nil,.mp (h.next+1+1+1)])).push (.map idK 0 [])).push (.map idK 0 [])):=by
 obtain ⟨a1,a2,a3,a4,a5⟩:=gs_start b e h _ rfl
 exact k _ a1 a2 a3 a4 a5
def seqN:Nat→Code→Code
 | 0,c=>c
 | n+1,c=>seqR (seqN n c)
theorem grow_pieces:((List.range 9).all fun i=>isSeqC (seqN i (bodyOf Tryz.prog 69)))=true:=by
 kernel_rfl
theorem grow_piece {C:Code} (hC:bodyOf Tryz.prog 69=C) {i:Nat} (hi:i<9):isSeqC (seqN i C)=true:=by
 rw [←hC];exact all_lt grow_pieces hi
theorem tup36 (a b c:AVal):(c69.slots.map fun s=>(([a,b,c]:List AVal)[s]?).getD (.tup []))=[a,b,c,.tup [],.tup [],.tup [],.tup [],.tup [],.tup [],.tup [],.tup [],.tup [],.tup [],.tup [],.tup [],.tup [],.tup [],.tup [],.tup [],.tup [],.tup [],.tup [],.tup [],.tup [],.tup [],.tup [],.tup [],.tup [],.tup [],.tup [],.tup [],.tup [],.tup [],.tup [],.tup [],.tup []]:=rfl
theorem grow_sw1 (b:Bk) (fit:b.Fit) (L:List Ly.Id) (hL:L.length≤60) {t:Abs.Tok} (ht:Pt t) (e:Ly.Id) (h:Heap) {nt:Nat} {C:Code} (hC:bodyOf Tryz.prog 69=C) (hnd:c69.slots.Nodup) (cc:CC Tryz.prog hints 69 nt c69.slots C c69.body) (Q:AExit→List AVal→Heap→Prop)
  (cont:∀ (H:Heap) (c:Nat) (E:List Et) (x1 x2 x3 x4 x5 x6 x7 x8 x9 x10 x11 x12 x13 x14 x15 x16 x17 x18 x19 x20 x21 x22 x23 x24 x25 x26:AVal),GS b e h h.next H→MOk H (h.next+3) 0 []→H.get (h.next+4)=some (.row true (typed 167) true [.sl [] .nil,.mp (h.next+3)])→MOk H (h.next+5) 0 []→MOk H (h.next+6) c E→(∀ x,look E x=if x∈L∧b.has e x=true then some (.bool true) else none) →
   SW Tryz.prog hints nt c69.slots (seqN 5 C) [b.val,e.val,.sl (L.map Ly.Id.val) t,.ptr h.next 0,.ptr (h.next+1) 0,.ptr (h.next+2) 0,.ptr (h.next+4) 0,.mp (h.next+5),.mp (h.next+6),x1,x2,x3,x4,x5,x6,x7,x8,x9,.sl (L.map Ly.Id.val) t,x10,x11,x12,x13,x14,x15,x16,x17,x18,x19,x20,x21,x22,x23,x24,x25,x26] H Q) :
  SW Tryz.prog hints nt c69.slots C (c69.slots.map fun s=>(([b.val,e.val,.sl (L.map Ly.Id.val) t]:List AVal)[s]?).getD (.tup [])) h Q:=by
 rw [tup36]
 refine cc.seq mixed table hnd (grow_piece hC (i:=0) (by omega)) ?_
 simp only [uT,c69,hdA,Bk.val,bkV]
 replace fx:=aI @idVL (aI @idL (aI @idA @nmp1))
 first|refine go ?_|exact goC
 show SW _ _ _ _ _ _ _ _
 have cc:=cc.right (grow_piece hC (i:=0) (by omega))
 refine cc.seq mixed table hnd (grow_piece hC (i:=1) (by omega)) ?_
 simp only [uT,c69,hdA,tlA]
 replace fx:=aI @nmp1 (aI @mpc @mpo)
 first|refine go ?_|exact goC
 show SW _ _ _ _ _ _ _ _
 have cc:=cc.right (grow_piece hC (i:=1) (by omega))
 refine cc.seq mixed table hnd (grow_piece hC (i:=2) (by omega)) ?_
 simp only [uT,c69,hdA,tlA]
 replace fx:=Dum_eq
 first|refine go ?_|exact goC
 show SW _ _ _ _ _ _ _ _
 have cc:=cc.right (grow_piece hC (i:=2) (by omega))
 refine cc.seq mixed table hnd (grow_piece hC (i:=3) (by omega)) ?_
 simp only [uT,c69,hdA,tlA]
 replace fx:=Dum_eq
 first|refine go ?_|exact goC
 show SW _ _ _ _ _ _ _ _
 have cc:=cc.right (grow_piece hC (i:=3) (by omega))
 refine gs_use b e h (motive:=fun H=>SW _ _ _ _ _ _ H _) fun H0 gs k0 t0 m0 i0=>?_
 generalize hn:h.next=n at gs k0 t0 m0 i0 cont ⊢
 refine cc.seq mixed table hnd (grow_piece hC (i:=4) (by omega)) ?_
 simp only [uT,c69,hdA,tlA]
 replace fx:=Dum_eq
 first|refine go ?_|exact goC
 refine w_loop (fun k vs H=>∃ (i c:Nat) (E:List Et) (x1 x2 x3 x4 x5 x6 x7 x8 x9 x10 x11 x12 x13 x14 x15 x16 x17 x18 x19 x20 x21 x22 x23 x24:AVal),k=L.length - i∧i≤L.length∧GS b e h n H∧MOk H (n+3) 0 []∧H.get (n+4)=some (.row true (typed 167) true [.sl [] .nil,.mp (n+3)])∧MOk H (n+5) 0 []∧MOk H (n+6) c E∧(∀ x,look E x=if x∈L.take i∧b.has e x=true then some (.bool true) else none) ∧
   vs=[b.val,e.val,.sl (L.map Ly.Id.val) t,.ptr n 0,.ptr (n+1) 0,.ptr (n+2) 0,.ptr (n+4) 0,.mp (n+5),.mp (n+6),x1,x2,x3,x4,x5,x6,x7,x8,x9,.sl (L.map Ly.Id.val) t,.int .i64 (L.length:Int),.int .i64 (i:Int),x10,x11,x12,x13,x14,x15,x16,x17,x18,x19,x20,x21,x22,x23,x24]) L.length
  ⟨0,0,[],_,_,_,_,_,_,_,_,_,_,_,_,_,_,_,_,_,_,_,_,_,_,_,_,rfl,by omega,gs,k0,t0,m0,i0,fun x=>by simp [look],rfl⟩ ?_
 ·rintro k vs H ⟨i,c,E,x1,x2,x3,x4,x5,x6,x7,x8,x9,x10,x11,x12,x13,x14,x15,x16,x17,x18,x19,x20,x21,x22,x23,x24,rfl,hi,gs,k0,t0,m0,i0,hlk,rfl⟩
  by_cases hi2:i<L.length
  ·obtain ⟨x,hx⟩:∃ x,nth L i=x:=⟨_,rfl⟩
   have ev:=entry_v b fit x
   unfold entV at ev
   have nx:=gs.nx
   have hb:=gs.hb
   have he:=gs.he
   cases hy:b.entry x with
   | none =>
     rw [hy] at ev
     simp only [zeroEn,Option.isSome_none] at ev
     replace fx:=aI @hb (aI @he (aI @hx (aI @ev (aI @bkL (aI @bkA (aI @bkT (aI @bk_agg (aI @st_bk (aI @st_id (aI @idVL (aI @idL (aI @idA (aI @idT (aI @id_agg @idS0))))))))))))))
     (first|refine go ?_|exact goC);repeat' (first|refine gP ?_|exact gPc)
     have hh:b.has e x=false:=by simp [Bk.has,hy]
     have hlk':∀ z,look E z=if z∈L.take (i+1)∧b.has e z=true then some (.bool true) else none:=fun z=>by
      rw [hlk z,List.take_succ_eq_append_getElem hi2,←nth_eq hi2,hx]
      by_cases hz:z=x
      ·subst hz;simp [hh]
      ·simp [hz]
     exact lp_n ⟨_,by omega,i+1,c,E,_,_,_,_,_,_,_,_,_,_,_,_,_,_,_,_,_,_,_,_,_,_,_,_,rfl,by omega,(gs.push _).push _,(k0.push _).push _,get_push_old (get_push_old t0),(m0.push _).push _,(i0.push _).push _,hlk',by push_cast;rfl⟩
   | some y =>
     rw [hy] at ev
     simp only [Option.isSome_some] at ev
     by_cases hq:y.id=e
     ·have hh:b.has e x=true:=by simp [Bk.has,hy,hq,entry_sense hy]
      obtain ⟨c',E',ex,eo,el⟩:=((i0.push (.row true (typed 62) true x.cells)).push (.row true (typed 70) true y.cells)).mput x (v := .bool true) rfl
      unfold idK at ex
      replace fx:=aI @hb (aI @he (aI @hx (aI @ev (aI @bkL (aI @bkA (aI @bkT (aI @bk_agg (aI @st_bk (aI @st_id (aI @idVL (aI @idL (aI @idA (aI @idT (aI @id_agg (aI @idS0 (aI @enL (aI @enVL (aI @enA (aI @enS0 (aI @enId (aI @ideq (aI @hq @ex))))))))))))))))))))))
      (first|refine go ?_|exact goC);repeat' (first|refine gP ?_|exact gPc)
      have hlk':∀ z,look E' z=if z∈L.take (i+1)∧b.has e z=true then some (.bool true) else none:=fun z=>by
       rw [el z,hlk z,List.take_succ_eq_append_getElem hi2,←nth_eq hi2,hx]
       by_cases hz:z=x
       ·subst hz;simp [hh]
       ·simp [hz]
      exact lp_n ⟨_,by omega,i+1,c',E',_,_,_,_,_,_,_,_,_,_,_,_,_,_,_,_,_,_,_,_,_,_,_,_,rfl,by omega,((gs.put hn (by omega) _).push _).push _,((k0.put (by omega) _).push _).push _,get_push_old (get_push_old (by rw [get_put_ne (by omega)];exact t0)),((m0.put (by omega) _).push _).push _,⟨get_push_old (get_push_old (get_put_old i0.1)),eo⟩,hlk',by push_cast;rfl⟩
     ·have hh:b.has e x=false:=by simp [Bk.has,hy,hq]
      have hlk':∀ z,look E z=if z∈L.take (i+1)∧b.has e z=true then some (.bool true) else none:=fun z=>by
       rw [hlk z,List.take_succ_eq_append_getElem hi2,←nth_eq hi2,hx]
       by_cases hz:z=x
       ·subst hz;simp [hh]
       ·simp [hz]
      replace fx:=aI @hb (aI @he (aI @hx (aI @ev (aI @bkL (aI @bkA (aI @bkT (aI @bk_agg (aI @st_bk (aI @st_id (aI @idVL (aI @idL (aI @idA (aI @idT (aI @id_agg (aI @idS0 (aI @enL (aI @enVL (aI @enA (aI @enS0 (aI @enId (aI @ideq (eq_false hq))))))))))))))))))))))
      (first|refine go ?_|exact goC);repeat' (first|refine gP ?_|exact gPc)
      exact lp_n ⟨_,by omega,i+1,c,E,_,_,_,_,_,_,_,_,_,_,_,_,_,_,_,_,_,_,_,_,_,_,_,_,rfl,by omega,(gs.push _).push _,(k0.push _).push _,get_push_old (get_push_old t0),(m0.push _).push _,(i0.push _).push _,hlk',by push_cast;rfl⟩
  ·have et:L.take i=L:=List.take_of_length_le (by omega)
   rw [et] at hlk
   replace fx:=Dum_eq
   (first|refine go ?_|exact goC);repeat' (first|refine gN ?_|exact gNc)
   show SW _ _ _ _ _ _ _ _
   exact cont H c E _ _ _ _ _ _ _ _ _ _ _ _ _ _ _ _ _ _ _ _ _ _ _ _ _ _ gs k0 t0 m0 i0 hlk
end Go.Proofs.YthhdkkecolocdaaGreatDoor

namespace Go.Proofs.YthhdkkecolocdaaGreatDoor
open Go Go.Abs Go.Ly
theorem append_SV {H:Heap} {v:AVal} {l:List Ly.Id} (s:SV H v l) (x:Ly.Id) {ty bytes:Nat} (hl:l.length≤100) (hb:bytes≤10000):∃ H',appendA true ty bytes 3 true v (.sl [x.val] .none) H=some (.ref H.next 0 (l++[x]).length 3,H')∧H'.next=H.next+1∧H'.get H.next=some (.row true 3 true (flat ((l++[x]).map Ly.Id.val)))∧∀ j,j<H.next→(∀ r a,v = .ref r 0 a 3→j≠r)→H'.get j=H.get j:=by
 have e1:lenA (.sl [x.val] .none)=some 1:=rfl
 have e2:elemsA H 3 (.sl [x.val] .none)=some (flat ([x].map Ly.Id.val)):=elems_sl (f:=Ly.Id.val) (l:=[x]) fun _=>rfl
 have hsm:small 3=true:=rfl
 rcases s with ⟨rfl,rfl⟩|⟨r,rfl,g⟩
 ·have hr:=roomOk_of (n:=0+1) (bytes:=bytes) (by omega) hb
  refine ⟨H.push (.row true 3 true (flat ([x].map Ly.Id.val))),?_,push_next ..,get_push_eq rfl,fun j hj _=>get_push_ne (by omega)⟩
  simp only [appendA,e1,e2,List.length_nil,hr,hsm]
  rfl
 ·have hr:=roomOk_of (n:=l.length+1) (bytes:=bytes) (by omega) hb
  have hlen:(flat (l.map Ly.Id.val)).length=l.length*3:=flatm_len (f:=Ly.Id.val) (fun _=>rfl) l
  refine ⟨(H.put r none).push (.row true 3 true (flat (l.map Ly.Id.val)++flat ([x].map Ly.Id.val))),?_,by rw [push_next,put_next],?_,fun j hj hne=>?_⟩
  ·simp only [appendA,e1,e2,g,hr,hsm,hlen]
   simp
  ·rw [get_push_eq (by rw [put_next]),List.map_append,flat_appendF]
  ·rw [get_push_ne (by rw [put_next];omega),get_put_ne (hne r _ rfl)]
structure KR (n:Nat) (H:Heap) (kid:Ly.Id→List Ly.Id) (rt:List Ly.Id) (ck:Nat) (Ek:List Et) (rv:AVal):Prop where
 mo:MOk H (n+3) ck Ek
 tr:H.get (n+4)=some (.row true (typed 167) true [rv,.mp (n+3)])
 rs:SV H rv rt
 ks:∀ x,(look Ek x=none∧kid x=[])∨∃ r,look Ek x=some (.ref r 0 (kid x).length 3)∧H.get r=some (.row true 3 true (flat ((kid x).map Ly.Id.val)))
 lo:∀ x r a,look Ek x=some (.ref r 0 a 3)→n+7≤r
 inj:∀ x y r a a',look Ek x=some (.ref r 0 a 3)→look Ek y=some (.ref r 0 a' 3)→x=y
 ro:∀ r a,rv = .ref r 0 a 3→n+7≤r∧∀ x a',look Ek x≠some (.ref r 0 a' 3)
theorem KR.mono {n:Nat} {H H':Heap} {kid:Ly.Id→List Ly.Id} {rt:List Ly.Id} {ck:Nat} {Ek:List Et} {rv:AVal} (k:KR n H kid rt ck Ek rv) (hm:∀ j o,(j=n+3∨j=n+4∨n+7≤j)→H.get j=some o→H'.get j=some o):KR n H' kid rt ck Ek rv:=by
 refine ⟨⟨hm _ _ (.inl rfl) k.mo.1,k.mo.2⟩,hm _ _ (.inr (.inl rfl)) k.tr,?_,fun x=>?_,k.lo,k.inj,k.ro⟩
 ·rcases k.rs with q|⟨r,q,g⟩
  ·exact .inl q
  ·exact .inr ⟨r,q,hm _ _ (.inr (.inr (k.ro _ _ q).1)) g⟩
 ·rcases k.ks x with q|⟨r,q,g⟩
  ·exact .inl q
  ·exact .inr ⟨r,q,hm _ _ (.inr (.inr (k.lo _ _ _ q))) g⟩
theorem ref_ne {r r' a a':Nat} (h:AVal.ref r 0 a 3 = .ref r' 0 a' 3):r=r':=by simp at h;exact h.1
theorem KR.kid {n:Nat} {H:Heap} {kid:Ly.Id→List Ly.Id} {rt:List Ly.Id} {ck:Nat} {Ek:List Et} {rv:AVal} (k:KR n H kid rt ck Ek rv) (hnx:n+7≤H.next) (p x:Ly.Id) (hl:(kid p).length≤100) {ty:Nat} :
  ∃ v s w H1 H2 H3 ck' Ek',evalX (.mentry idK (.sl [] .nil)) [.mp (n+3),p.val] H=some (.tup [v,.int .i64 s],H1)∧appendA true ty 24 3 true v (.sl [x.val] .none) H1=some (w,H2)∧evalX .mestore [.mp (n+3),.int .i64 s,w] H2=some (.tup [],H3) ∧
    KR n H3 (fun y=>if y=p then kid p++[x] else kid y) rt ck' Ek' rv∧H.next≤H3.next∧∀ j,j<n+7→j≠n+3→H3.get j=H.get j:=by
 obtain ⟨c',E',s,e1,st⟩:=k.mo.entry p (z := .sl [] .nil) rfl
 generalize hv:(look Ek p).getD (.sl [] .nil)=v at e1
 generalize hH1:H.put (n+3) (some (.map idK c' (enc E')))=H1 at e1
 have hn1:H1.next=H.next:=by rw [←hH1,put_next]
 have g1:∀ j,j≠n+3→H1.get j=H.get j:=fun j hj=>by rw [←hH1,get_put_ne hj]
 have m1:H1.get (n+3)=some (.map idK c' (enc E')):=by rw [←hH1];exact get_put_old k.mo.1
 -- the list so far
 have sv:SV H1 v (kid p):=by
  rcases k.ks p with ⟨q1,q2⟩|⟨r,q1,q2⟩
  ·rw [q1] at hv;exact .inl ⟨hv.symm,q2⟩
  ·rw [q1] at hv
   have:=k.lo _ _ _ q1
   exact .inr ⟨r,hv.symm,by rw [g1 r (by omega)];exact q2⟩
 have vr:∀ r a,v = .ref r 0 a 3→look Ek p=some (.ref r 0 a 3):=fun r a q=>by
  rcases k.ks p with ⟨q1,q2⟩|⟨r',q1,q2⟩
  ·rw [q1] at hv;rw [←hv] at q;simp at q
  ·rw [q1] at hv
   simp only [Option.getD_some] at hv
   rw [q1,←q,←hv]
 obtain ⟨H2,e2,hn2,w2,oth⟩:=append_SV sv x (ty:=ty) (bytes:=24) hl (by omega)
 have g2:∀ j,j<H1.next→(∀ a,look Ek p≠some (.ref j 0 a 3))→H2.get j=H1.get j:=fun j hj hne=>oth j hj fun r a q=>by rintro rfl;exact hne a (vr _ _ q)
 have m2:H2.get (n+3)=some (.map idK c' (enc E')):=by
  rw [g2 (n+3) (by omega) (fun a q=>by have:=k.lo _ _ _ q;omega)];exact m1
 obtain ⟨E'',e3,eo,el⟩:=st H2 (.ref H1.next 0 (kid p++[x]).length 3) m2 rfl
 generalize hH3:H2.put (n+3) (some (.map idK c' (enc E'')))=H3 at e3
 have g3:∀ j,j≠n+3→H3.get j=H2.get j:=fun j hj=>by rw [←hH3,get_put_ne hj]
 have m3:H3.get (n+3)=some (.map idK c' (enc E'')):=by rw [←hH3];exact get_put_old m2
 have low:∀ j,j<n+7→j≠n+3→H3.get j=H.get j:=fun j hj hj3=>by
  rw [g3 j hj3,g2 j (by omega) (fun a q=>by have:=k.lo _ _ _ q;omega),g1 j hj3]
 have row:∀ r,n+7≤r→r<H.next→(∀ a,look Ek p≠some (.ref r 0 a 3))→H3.get r=H.get r:=fun r h1 h2 h3=>by
  rw [g3 r (by omega),g2 r (by omega) h3,g1 r (by omega)]
 refine ⟨v,s,_,H1,H2,H3,c',E'',e1,e2,e3,⟨⟨m3,eo⟩,?_,?_,fun y=>?_,fun y r a q=>?_,fun y z r a a' q1 q2=>?_,fun r a q=>?_⟩,by rw [←hH3,put_next,hn2];omega,low⟩
 ·rw [low (n+4) (by omega) (by omega)];exact k.tr
 ·rcases k.rs with q|⟨r,q,g⟩
  ·exact .inl q
  ·obtain ⟨q1,q2⟩:=k.ro _ _ q
   exact .inr ⟨r,q,by rw [row r q1 (get_lt g) (q2 p)];exact g⟩
 ·rw [el y]
  by_cases hy:y=p
  ·subst hy
   simp only [if_true]
   exact .inr ⟨H1.next,rfl,by rw [g3 H1.next (by omega)];exact w2⟩
  ·simp only [hy,if_false]
   rcases k.ks y with q|⟨r,q,g⟩
   ·exact .inl q
   ·exact .inr ⟨r,q,by rw [row r (k.lo _ _ _ q) (get_lt g) (fun a q'=>hy (k.inj _ _ _ _ _ q q'))];exact g⟩
 ·rw [el y] at q
  by_cases hy:y=p
  ·simp only [hy,if_true,Option.some.injEq] at q
   have:=ref_ne q;omega
  ·simp only [hy,if_false] at q
   exact k.lo _ _ _ q
 ·rw [el y] at q1
  rw [el z] at q2
  have lt:∀ u a,look Ek u=some (.ref r 0 a 3)→r<H.next:=fun u a q=>by
   rcases k.ks u with ⟨q',_⟩|⟨r',q',g⟩
   ·rw [q'] at q;simp at q
   ·rw [q'] at q
    simp only [Option.some.injEq] at q
    have:=ref_ne q;subst this
    exact get_lt g
  by_cases hy:y=p<;>by_cases hz:z=p
  ·rw [hy,hz]
  ·simp only [hy,if_true,Option.some.injEq,hz,if_false] at q1 q2
   have h1:=ref_ne q1
   have h2:=lt _ _ q2
   omega
  ·simp only [hy,if_false,hz,if_true,Option.some.injEq] at q1 q2
   have h1:=ref_ne q2
   have h2:=lt _ _ q1
   omega
  ·simp only [hy,hz,if_false] at q1 q2
   exact k.inj _ _ _ _ _ q1 q2
 ·obtain ⟨q1,q2⟩:=k.ro _ _ q
  refine ⟨q1,fun y a' q'=>?_⟩
  rw [el y] at q'
  by_cases hy:y=p
  ·simp only [hy,if_true,Option.some.injEq] at q'
   have h1:=ref_ne q'
   rcases k.rs with ⟨q3,_⟩|⟨r',q3,g⟩
   ·rw [q3] at q;simp at q
   ·rw [q3] at q
    have:=ref_ne q;subst this
    have:=get_lt g;omega
  ·simp only [hy,if_false] at q'
   exact q2 _ _ q'
theorem KR.root {n:Nat} {H:Heap} {kid:Ly.Id→List Ly.Id} {rt:List Ly.Id} {ck:Nat} {Ek:List Et} {rv:AVal} (k:KR n H kid rt ck Ek rv) (hnx:n+7≤H.next) (x:Ly.Id) (hl:rt.length≤100) {ty:Nat} :
  ∃ w H1,appendA true ty 24 3 true rv (.sl [x.val] .none) H=some (w,H1)∧w.one=true∧H1.get (n+4)=some (.row true (typed 167) true [rv,.mp (n+3)]) ∧
    KR n (H1.put (n+4) (some (.row true (typed 167) true [w,.mp (n+3)]))) kid (rt++[x]) ck Ek w∧H.next≤H1.next∧∀ j,j<n+7→H1.get j=H.get j:=by
 obtain ⟨H1,e,hn1,w1,oth⟩:=append_SV k.rs x (ty:=ty) (bytes:=24) hl (by omega)
 have low:∀ j,j<n+7→H1.get j=H.get j:=fun j hj=>oth j (by omega) fun r a q=>by
  have:=(k.ro _ _ q).1
  omega
 have row:∀ r,n+7≤r→r<H.next→(∀ a,rv ≠ .ref r 0 a 3)→H1.get r=H.get r:=fun r h1 h2 h3=>oth r h2 fun r' a q=>by rintro rfl;exact h3 a q
 have g4:H1.get (n+4)=some (.row true (typed 167) true [rv,.mp (n+3)]):=by rw [low (n+4) (by omega)];exact k.tr
 refine ⟨_,H1,e,rfl,g4,⟨⟨?_,k.mo.2⟩,get_put_old g4,.inr ⟨H.next,rfl,?_⟩,fun y=>?_,k.lo,k.inj,fun r a q=>?_⟩,by omega,low⟩
 ·rw [get_put_ne (by omega),low (n+3) (by omega)];exact k.mo.1
 ·rw [get_put_ne (by omega)];exact w1
 ·rcases k.ks y with q|⟨r,q,g⟩
  ·exact .inl q
  ·have hr:=k.lo _ _ _ q
   exact .inr ⟨r,q,by rw [get_put_ne (by omega),row r hr (get_lt g) (fun a q'=>(k.ro _ _ q').2 y _ q)];exact g⟩
 ·have h1:=ref_ne q
  refine ⟨by omega,fun y a' q'=>?_⟩
  rcases k.ks y with ⟨q3,_⟩|⟨r',q3,g⟩
  ·rw [q3] at q';simp at q'
  ·rw [q3] at q'
   simp only [Option.some.injEq] at q'
   have:=ref_ne q'
   have:=get_lt g
   omega
theorem kr_start {n:Nat} {H:Heap} (m:MOk H (n+3) 0 []) (t:H.get (n+4)=some (.row true (typed 167) true [.sl [] .nil,.mp (n+3)])):KR n H (fun _=>[]) [] 0 [] (.sl [] .nil) :=
 ⟨m,t,.inl ⟨rfl,rfl⟩,fun x => .inl ⟨rfl,rfl⟩,fun x r a q=>by simp [look] at q,fun x y r a a' q=>by simp [look] at q,fun r a q=>by simp at q⟩
end Go.Proofs.YthhdkkecolocdaaGreatDoor

namespace Go.Proofs.YthhdkkecolocdaaGreatDoor
open Go Go.Abs Go.Ly
theorem coll_snoc {p:Ly.Id→Bool} {x:Ly.Id}:∀ {l met:List Ly.Id},coll p met (l++[x])=if x∈coll p met l∨p x=false then coll p met l else coll p met l++[x]
 | [],met=>by
   rw [List.nil_append,coll]
   simp only [coll]
 | y::l,met=>by
   by_cases h:y∈met∨p y=false
   ·have e1:coll p met (y::(l++[x]))=coll p met (l++[x]):=by rw [coll,if_pos h]
    have e2:coll p met (y::l)=coll p met l:=by rw [coll,if_pos h]
    rw [List.cons_append,e1,e2]
    exact coll_snoc
   ·have e1:coll p met (y::(l++[x]))=coll p (met++[y]) (l++[x]):=by rw [coll,if_neg h]
    have e2:coll p met (y::l)=coll p (met++[y]) l:=by rw [coll,if_neg h]
    rw [List.cons_append,e1,e2]
    exact coll_snoc
def kidsN (b:Bk) (L M:List Ly.Id) (o:Option Ly.Id):List Ly.Id:=M.filter fun y=>decide (b.par L y=o)
theorem kidsN_snoc (b:Bk) (L M:List Ly.Id) (x:Ly.Id) (o:Option Ly.Id):kidsN b L (M++[x]) o=if b.par L x=o then kidsN b L M o++[x] else kidsN b L M o:=by
 unfold kidsN
 rw [List.filter_append,List.filter_cons]
 by_cases h:b.par L x=o<;>simp [h]
theorem kidsN_kid {b:Bk} {L M:List Ly.Id} {x p:Ly.Id} (h:b.par L x=some p):(fun y=>if y=p then kidsN b L M (some p)++[x] else kidsN b L M (some y))=(fun y=>kidsN b L (M++[x]) (some y))∧kidsN b L (M++[x]) none=kidsN b L M none:=by
 refine ⟨?_,by rw [kidsN_snoc,h];simp⟩
 funext y
 rw [kidsN_snoc,h]
 by_cases e:y=p
 ·subst e;simp
 ·have:¬ p=y:=fun q=>e q.symm
  simp [e,this]
theorem kidsN_root {b:Bk} {L M:List Ly.Id} {x:Ly.Id} (h:b.par L x=none):(fun y=>kidsN b L M (some y))=(fun y=>kidsN b L (M++[x]) (some y))∧kidsN b L (M++[x]) none=kidsN b L M none++[x]:=by
 refine ⟨?_,by rw [kidsN_snoc,h];simp⟩
 funext y
 rw [kidsN_snoc,h]
 simp
theorem kidsN_len (b:Bk) (L M:List Ly.Id) (o:Option Ly.Id):(kidsN b L M o).length≤M.length:=List.length_filter_le _ _
theorem GS.low {b:Bk} {e:Ly.Id} {n:Nat} {h0 H H':Heap} (g:GS b e h0 n H) (hn:h0.next=n) (h1:H.next≤H'.next) (h2:∀ j,j<n+3→H'.get j=H.get j):GS b e h0 n H' :=
 ⟨⟨by have:=g.fr.1;omega,fun k hk q=>by rw [h2 k (by omega)];exact g.fr.2 k hk q⟩,by have:=g.nx;omega,by rw [h2 _ (by omega)];exact g.hb,by rw [h2 _ (by omega)];exact g.he,by rw [h2 _ (by omega)];exact g.hr⟩
theorem MOk.low {h h':Heap} {m c:Nat} {E:List Et} (o:MOk h m c E) (q:h'.get m=h.get m):MOk h' m c E:=⟨by rw [q];exact o.1,o.2⟩
theorem KR.push {n:Nat} {H:Heap} {kid:Ly.Id→List Ly.Id} {rt:List Ly.Id} {ck:Nat} {Ek:List Et} {rv:AVal} (k:KR n H kid rt ck Ek rv) (o:Abs.Obj):KR n (H.push o) kid rt ck Ek rv:=k.mono fun j x _ g=>get_push_old g
theorem KR.put {n:Nat} {H:Heap} {kid:Ly.Id→List Ly.Id} {rt:List Ly.Id} {ck:Nat} {Ek:List Et} {rv:AVal} (k:KR n H kid rt ck Ek rv) (o:Option Abs.Obj):KR n (H.put (n+5) o) kid rt ck Ek rv:=k.mono fun j x q g=>by rw [get_put_ne (by omega)];exact g
theorem has_some {b:Bk} {e x:Ly.Id} (h:b.has e x=true):∃ s,b.sense x=some s:=by
 simp only [Bk.has,Bool.and_eq_true] at h
 exact Option.isSome_iff_exists.1 h.1
structure GT (b:Bk) (e:Ly.Id) (L Mt M:List Ly.Id) (h0:Heap) (n:Nat) (H:Heap) (rv:AVal):Prop where
 gs:GS b e h0 n H
 mt:∃ c E,MOk H (n+5) c E∧∀ x,look E x=if x∈Mt then some (.bool true) else none
 mi:∃ c E,MOk H (n+6) c E∧∀ x,look E x=if x∈L∧b.has e x=true then some (.bool true) else none
 kr:∃ c E,KR n H (fun y=>kidsN b L M (some y)) (kidsN b L M none) c E rv
section
variable {b:Bk} {e:Ly.Id} {L Mt M:List Ly.Id} {h0:Heap} {n:Nat} {H:Heap} {rv:AVal}
theorem GT.push (g:GT b e L Mt M h0 n H rv) (o:Abs.Obj):GT b e L Mt M h0 n (H.push o) rv:=by
 obtain ⟨g1,⟨c1,E1,g2,g3⟩,⟨c2,E2,g4,g5⟩,⟨c3,E3,g6⟩⟩:=g
 exact ⟨g1.push o,⟨c1,E1,g2.push o,g3⟩,⟨c2,E2,g4.push o,g5⟩,⟨c3,E3,g6.push o⟩⟩
theorem GT.put (hn:h0.next=n) (g:GT b e L Mt M h0 n H rv) {j:Nat} {mu:Bool} {cs:List AVal} {tz:Nat} (hj:n+7≤j) (hg:H.get j=some (.row mu tz true cs)) (ht:tz≠3) (o:Option Abs.Obj):GT b e L Mt M h0 n (H.put j o) rv:=by
 obtain ⟨g1,⟨c1,E1,g2,g3⟩,⟨c2,E2,g4,g5⟩,⟨c3,E3,g6⟩⟩:=g
 refine ⟨g1.put hn (by omega) o,⟨c1,E1,g2.put (by omega) o,g3⟩,⟨c2,E2,g4.put (by omega) o,g5⟩,⟨c3,E3,⟨?_,g6.mo.2⟩,?_,?_,fun x=>?_,g6.lo,g6.inj,g6.ro⟩⟩
 ·rw [get_put_ne (by omega)];exact g6.mo.1
 ·rw [get_put_ne (by omega)];exact g6.tr
 ·rcases g6.rs with q|⟨r,q,g⟩
  ·exact .inl q
  ·exact .inr ⟨r,q,by rw [get_put_ne (by rintro rfl;rw [hg] at g;simp at g;omega)];exact g⟩
 ·rcases g6.ks x with q|⟨r,q,g⟩
  ·exact .inl q
  ·exact .inr ⟨r,q,by rw [get_put_ne (by rintro rfl;rw [hg] at g;simp at g;omega)];exact g⟩
theorem GT.isIn (g:GT b e L Mt M h0 n H rv) {x:Ly.Id} (hx:x∈L):evalX (.mlook idK (.bool false) false) [.mp (n+6),x.val] H=some (.bool (b.has e x),H):=by
 obtain ⟨c,E,g1,g2⟩:=g.mi
 rw [g1.mlook x (.bool false),g2 x]
 cases hq:b.has e x<;>simp [hx]
theorem GT.isMet (g:GT b e L Mt M h0 n H rv) (x:Ly.Id):evalX (.mlook idK (.bool false) false) [.mp (n+5),x.val] H=some (.bool (decide (x∈Mt)),H):=by
 obtain ⟨c,E,g1,g2⟩:=g.mt
 rw [g1.mlook x (.bool false),g2 x]
 by_cases hq:x∈Mt<;>simp [hq]
theorem GT.meet (hn:h0.next=n) (g:GT b e L Mt M h0 n H rv) (x:Ly.Id):∃ H',evalX (.mput idK) [.mp (n+5),x.val,.bool true] H=some (.tup [],H')∧GT b e L (Mt++[x]) M h0 n H' rv∧H'.next=H.next∧∀ j,j≠n+5→H'.get j=H.get j:=by
 obtain ⟨g1,⟨c1,E1,g2,g3⟩,⟨c2,E2,g4,g5⟩,⟨c3,E3,g6⟩⟩:=g
 obtain ⟨c',E',ex,eo,el⟩:=g2.mput x (v := .bool true) rfl
 refine ⟨_,ex,⟨g1.put hn (by omega) _,⟨c',E',⟨get_put_old g2.1,eo⟩,fun y=>?_⟩,⟨c2,E2,g4.put (by omega) _,g5⟩,⟨c3,E3,g6.put _⟩⟩,put_next ..,fun j hj=>get_put_ne hj⟩
 rw [el y,g3 y]
 by_cases h1:y=x
 ·subst h1;simp
 ·simp [h1]
theorem GT.kid (hn:h0.next=n) (g:GT b e L Mt M h0 n H rv) (p x:Ly.Id) (hp:b.par L x=some p) (hl:M.length≤100) :
  ∃ v s w H1 H2 H3,evalX (.mentry idK (.sl [] .nil)) [.mp (n+3),p.val] H=some (.tup [v,.int .i64 s],H1)∧appendA true 62 24 3 true v (.sl [x.val] .none) H1=some (w,H2)∧evalX .mestore [.mp (n+3),.int .i64 s,w] H2=some (.tup [],H3) ∧
    GT b e L Mt (M++[x]) h0 n H3 rv:=by
 obtain ⟨g1,⟨c1,E1,g2,g3⟩,⟨c2,E2,g4,g5⟩,⟨c3,E3,g6⟩⟩:=g
 obtain ⟨v,s,w,H1,H2,H3,ck,Ek,e1,e2,e3,k,hnx,low⟩:=g6.kid g1.nx p x (by have:=kidsN_len b L M (some p);omega) (ty:=62)
 obtain ⟨q1,q2⟩:=kidsN_kid (M:=M) hp
 refine ⟨v,s,w,H1,H2,H3,e1,e2,e3,⟨g1.low hn hnx fun j hj=>low j (by omega) (by omega),⟨c1,E1,g2.low (low _ (by omega) (by omega)),g3⟩,⟨c2,E2,g4.low (low _ (by omega) (by omega)),g5⟩,⟨ck,Ek,?_⟩⟩⟩
 rw [←q1,q2];exact k
theorem GT.root (hn:h0.next=n) (g:GT b e L Mt M h0 n H rv) (x:Ly.Id) (hp:b.par L x=none) (hl:M.length≤100) :
  ∃ w H1,appendA true 62 24 3 true rv (.sl [x.val] .none) H=some (w,H1)∧w.one=true∧H1.get (n+4)=some (.row true (typed 167) true [rv,.mp (n+3)]) ∧
    GT b e L Mt (M++[x]) h0 n (H1.put (n+4) (some (.row true (typed 167) true [w,.mp (n+3)]))) w:=by
 obtain ⟨g1,⟨c1,E1,g2,g3⟩,⟨c2,E2,g4,g5⟩,⟨c3,E3,g6⟩⟩:=g
 obtain ⟨w,H1,e1,e2,e3,k,hnx,low⟩:=g6.root g1.nx x (by have:=kidsN_len b L M none;omega) (ty:=62)
 obtain ⟨q1,q2⟩:=kidsN_root (M:=M) hp
 have hw:∀ j,j<n+7→j≠n+4→(H1.put (n+4) (some (.row true (typed 167) true [w,.mp (n+3)]))).get j=H.get j:=fun j h1 h2=>by rw [get_put_ne h2];exact low j h1
 refine ⟨w,H1,e1,e2,e3,⟨g1.low hn (by rw [put_next];exact hnx) fun j hj=>hw j (by omega) (by omega),⟨c1,E1,g2.low (hw _ (by omega) (by omega)),g3⟩,⟨c2,E2,g4.low (hw _ (by omega) (by omega)),g5⟩,⟨c3,E3,?_⟩⟩⟩
 rw [←q1,q2];exact k
theorem GT.tr (g:GT b e L Mt M h0 n H rv):H.get (n+4)=some (.row true (typed 167) true [rv,.mp (n+3)]):=by
 obtain ⟨_,_,k⟩:=g.kr;exact k.tr
theorem GT.cell (g:GT b e L Mt M h0 n H rv):rv.cells=[rv]:=by
 obtain ⟨_,_,k⟩:=g.kr
 rcases k.rs with ⟨rfl,_⟩|⟨r,rfl,_⟩<;>rfl
theorem GT.one (g:GT b e L Mt M h0 n H rv):rv.one=true:=by
 obtain ⟨_,_,k⟩:=g.kr
 rcases k.rs with ⟨rfl,_⟩|⟨r,rfl,_⟩<;>rfl
end
theorem bk1 (b:Bk):List.take 1 (List.drop 1 (bkC b))=[.sl (b.ss.map Sn.val) .none]:=rfl
theorem gt_start {b:Bk} {e:Ly.Id} {L:List Ly.Id} {h0:Heap} {n c:Nat} {H:Heap} {E:List Et} (gs:GS b e h0 n H) (k0:MOk H (n+3) 0 []) (t0:H.get (n+4)=some (.row true (typed 167) true [.sl [] .nil,.mp (n+3)])) (m0:MOk H (n+5) 0 []) (i0:MOk H (n+6) c E)
  (hlk:∀ x,look E x=if x∈L∧b.has e x=true then some (.bool true) else none):GT b e L [] [] h0 n H (.sl [] .nil) :=
 ⟨gs,⟨0,[],m0,fun x=>by simp [look]⟩,⟨c,E,i0,hlk⟩,⟨0,[],kr_start k0 t0⟩⟩
theorem grow_sw2 (b:Bk) (fit:b.Fit) (L:List Ly.Id) (hL:L.length≤60) {t:Abs.Tok} (ht:Pt t) (e:Ly.Id) (h:Heap) {nt:Nat} {C:Code} (hC:bodyOf Tryz.prog 69=C) (hnd:c69.slots.Nodup) (cc:CC Tryz.prog hints 69 nt c69.slots C c69.body) (Q:AExit→List AVal→Heap→Prop)
  (cont:∀ (H:Heap) (rv:AVal) (x1 x2 x3 x4 x5 x6 x7 x8 x9 x10 x11 x12 x13 x14 x15 x16 x17 x18 x19 x20 x21 x22 x23 x24 x25 x26 x27:AVal),GT b e L (coll (b.has e) [] L) (coll (b.has e) [] L) h h.next H rv →
   SW Tryz.prog hints nt c69.slots (seqN 6 C) [b.val,e.val,.sl (L.map Ly.Id.val) t,.ptr h.next 0,.ptr (h.next+1) 0,.ptr (h.next+2) 0,.ptr (h.next+4) 0,.mp (h.next+5),.mp (h.next+6),x1,x2,x3,x4,x5,x6,x7,x8,x9,x10,x11,x12,x13,x14,x15,x16,x17,x18,x19,x20,x21,x22,x23,x24,x25,x26,x27] H Q) :
  SW Tryz.prog hints nt c69.slots C (c69.slots.map fun s=>(([b.val,e.val,.sl (L.map Ly.Id.val) t]:List AVal)[s]?).getD (.tup [])) h Q:=by
 refine grow_sw1 b fit L hL ht e h hC hnd cc Q fun H0 c E (x1 x2 x3 x4 x5 x6 x7 x8 x9 x10 x11 x12 x13 x14 x15 x16 x17 x18 x19 x20 x21 x22 x23 x24 x25 x26:AVal) gs k0 t0 m0 i0 hlk=>?_
 have hss:=fit.ss
 have st:=strip_pt ht (xs:=L.map Ly.Id.val)
 have gt0:=gt_start gs k0 t0 m0 i0 hlk
 clear gs k0 t0 m0 i0 hlk
 generalize hn:h.next=n at gt0 cont ⊢
 have cc:=((((cc.right (grow_piece hC (i:=0) (by omega))).right (grow_piece hC (i:=1) (by omega))).right (grow_piece hC (i:=2) (by omega))).right (grow_piece hC (i:=3) (by omega))).right (grow_piece hC (i:=4) (by omega))
 refine cc.seq mixed table hnd (grow_piece hC (i:=5) (by omega)) ?_
 simp only [uT,c69,hdA,tlA]
 replace fx:=Dum_eq
 first|refine go ?_|exact goC
 refine w_loop (fun k vs H=>∃ (i:Nat) (rv:AVal) (x1 x2 x3 x4 x5 x6 x7 x8 x9 x10 x11 x12 x13 x14 x15 x16 x17 x18 x19 x20 x21 x22 x23 x24:AVal),k=L.length - i∧i≤L.length∧GT b e L (coll (b.has e) [] (L.take i)) (coll (b.has e) [] (L.take i)) h n H rv ∧
   vs=[b.val,e.val,.sl (L.map Ly.Id.val) t,.ptr n 0,.ptr (n+1) 0,.ptr (n+2) 0,.ptr (n+4) 0,.mp (n+5),.mp (n+6),x1,x2,x3,x4,x5,x6,x7,x8,x9,x10,x11,x12,x13,x14,.sl (L.map Ly.Id.val) t,.int .i64 (L.length:Int),.int .i64 (i:Int),x15,x16,x17,x18,x19,x20,x21,x22,x23,x24]) L.length
  ⟨0,_,_,_,_,_,_,_,_,_,_,_,_,_,_,_,_,_,_,_,_,_,_,_,_,_,rfl,by omega,gt0,rfl⟩ ?_
 clear gt0
 rintro k vs H ⟨i,rv,x1,x2,x3,x4,x5,x6,x7,x8,x9,x10,x11,x12,x13,x14,x15,x16,x17,x18,x19,x20,x21,x22,x23,x24,rfl,hi,gt,rfl⟩
 by_cases hi2:i<L.length
 ·obtain ⟨x,hx⟩:∃ x,nth L i=x:=⟨_,rfl⟩
  have hxL:x∈L:=by rw [←hx];exact nth_mem hi2
  have htk:L.take (i+1)=L.take i++[x]:=by rw [List.take_succ_eq_append_getElem hi2,←nth_eq hi2,hx]
  have hMl:(coll (b.has e) [] (L.take i)).length≤i:=by have:=coll_len (p:=b.has e) (l:=L.take i) (met:=[]);simp at this;omega
  have cs:=coll_snoc (p:=b.has e) (x:=x) (l:=L.take i) (met:=[])
  rw [←htk] at cs
  generalize hM:coll (b.has e) [] (L.take i)=M at gt hMl cs
  have gt1:=gt.push (.row true (typed 62) true x.cells)
  have l1:=gt1.isIn hxL
  have l2:=gt1.isMet x
  unfold idK at l1 l2
  have nx:=gt.gs.nx
  have hb:=gt.gs.hb
  by_cases hh:b.has e x=false
  ·rw [if_pos (.inr hh)] at cs
   rw [hh] at l1
   replace fx:=aI @hx (aI @l1 (aI @idVL (aI @idL (aI @idA (aI @idT (aI @id_agg @idS0))))))
   (first|refine go ?_|exact goC);repeat' (first|refine gP ?_|exact gPc)
   exact lp_n ⟨_,by omega,i+1,rv,_,_,_,_,_,_,_,_,_,_,_,_,_,_,_,_,_,_,_,_,_,_,_,_,rfl,by omega,by rw [cs];exact gt1,by push_cast;rfl⟩
  ·simp only [Bool.not_eq_false] at hh
   rw [hh] at l1
   by_cases hm:x∈M
   ·rw [if_pos (.inl hm)] at cs
    simp only [hm,decide_true] at l2
    replace fx:=aI @hx (aI @l1 (aI @l2 (aI @idVL (aI @idL (aI @idA (aI @idT (aI @id_agg @idS0)))))))
    (first|refine go ?_|exact goC);repeat' (first|refine gP ?_|exact gPc)
    exact lp_n ⟨_,by omega,i+1,rv,_,_,_,_,_,_,_,_,_,_,_,_,_,_,_,_,_,_,_,_,_,_,_,_,rfl,by omega,by rw [cs];exact gt1,by push_cast;rfl⟩
   ·rw [if_neg (by simp only [not_or];exact ⟨hm,by simp [hh]⟩)] at cs
    simp only [hm,decide_false] at l2
    obtain ⟨H2,e2,gt2,hn2,keep2⟩:=gt1.meet hn x
    rw [push_next] at hn2
    unfold idK at e2
    have g12:H2.get H.next=some (.row true (typed 62) true x.cells):=by rw [keep2 _ (by omega)];exact get_push_eq rfl
    have hb2:=gt2.gs.hb
    obtain ⟨s,hs⟩:=has_some hh
    have sv:=sense_v b fit x
    unfold senseR at sv
    rw [hs] at sv
    simp only [Option.getD_some,Option.isSome_some] at sv
    replace fx:=aI @hx (aI @l1 (aI @l2 (aI @e2 (aI @g12 (aI @hb2 (aI @sv (aI @bk1 (aI @bkL (aI @bkA (aI @bkT (aI @bk_agg (aI @st_bk (aI @st_id (aI @idVL (aI @idL (aI @idA (aI @idT (aI @id_agg (aI @idS0 (aI @snL (aI @snVL (aI @snA @snS0))))))))))))))))))))))
    (first|refine go ?_|exact goC);repeat' (first|refine gP ?_|exact gPc)
    refine w_loop (fun k vs H'=>∃ (j:Nat) (S:Sn) (x1 x2 x3 x4 x5 x6 x7 x8 x9 x10 x11 x12 x13 x14 x15 x16 x17 x18 x19:AVal),k=b.ss.length - j∧j≤b.ss.length∧b.par L x=b.upF L (b.ss.length - j) S.par∧GT b e L (M++[x]) M h n H' rv∧H'.get H.next=some (.row true (typed 62) true x.cells)∧H'.get H2.next=some (.row true (typed 67) true S.cells) ∧
      vs=[b.val,e.val,.sl (L.map Ly.Id.val) t,.ptr n 0,.ptr (n+1) 0,.ptr (n+2) 0,.ptr (n+4) 0,.mp (n+5),.mp (n+6),x1,x2,x3,.ptr H.next 0,.bool false,.ptr H2.next 0,x4,x5,x6,x7,x8,x9,x10,x11,.sl (L.map Ly.Id.val) t,.int .i64 (L.length:Int),.int .i64 (i:Int),x12,x13,.int .i64 (b.ss.length:Int),.int .i64 (j:Int),x14,x15,x16,x17,x18,x19]) b.ss.length
     ⟨0,s,_,_,_,_,_,_,_,_,_,_,_,_,_,_,_,_,_,_,_,rfl,by omega,by have:=par_start b fit L x;rw [hs] at this;simpa using this,gt2.push _,get_push_old g12,get_push_eq rfl,rfl⟩ ?_
    rintro k vs H' ⟨j,S,x1,x2,x3,x4,x5,x6,x7,x8,x9,x10,x11,x12,x13,x14,x15,x16,x17,x18,x19,rfl,hj,hp,gt3,g12,g14,rfl⟩
    have hb3:=gt3.gs.hb
    have ht3:=gt3.tr
    have ho3:=gt3.one
    by_cases hj2:j<b.ss.length
    ·have sv:=sense_v b fit S.par
     have e0:b.ss.length - j=(b.ss.length - (j+1))+1:=by omega
     rw [e0,upF_step] at hp
     unfold senseR at sv
     cases hs2:b.sense S.par with
     | none =>
       rw [hs2] at sv hp
       simp only [Option.getD_none,Option.isSome_none] at sv hp
       have gt4:=gt3.put hn (j:=H2.next) (by omega) g14 (by decide) (some (.row true (typed 67) true zeroSn.cells))
       obtain ⟨w,H5,a1,a2,a3,gt5⟩:=gt4.root hn x hp (by omega)
       have a4:=gt5.cell
       replace fx:=aI @hb3 (aI @g12 (aI @g14 (aI @ht3 (aI @ho3 (aI @sv (aI @a1 (aI @a2 (aI @a3 (aI @a4 (aI @bkL (aI @bkA (aI @bkT (aI @bk_agg (aI @st_bk (aI @st_id (aI @idVL (aI @idL (aI @idA (aI @idT (aI @id_agg (aI @idS0 (aI @snL (aI @snVL (aI @snA (aI @snS0 (aI @snS (aI @snPar @idChk)))))))))))))))))))))))))))
       (first|refine go ?_|exact goC);repeat' (first|refine gP ?_|exact gPc)
       exact lp_n ⟨_,by omega,i+1,w,_,_,_,_,_,_,_,_,_,_,_,_,_,_,_,_,_,_,_,_,_,_,_,_,rfl,by omega,by rw [cs];exact gt5,by push_cast;rfl⟩
     | some s2 =>
       rw [hs2] at sv hp
       simp only [Option.getD_some,Option.isSome_some] at sv hp
       have gt4:=gt3.put hn (j:=H2.next) (by omega) g14 (by decide) (some (.row true (typed 67) true s2.cells))
       have hv:=contains_v L s2.id (t:=t) (by omega)
       by_cases hm2:s2.id∈L
       ·rw [if_pos hm2] at hp
        obtain ⟨v,z,w,H5,H6,H7,a1,a2,a3,gt5⟩:=gt4.kid hn s2.id x hp (by omega)
        unfold idK at a1
        replace fx:=aI @hb3 (aI @g12 (aI @g14 (aI @ht3 (aI @ho3 (aI @sv (aI @hv (aI (eq_true hm2) (aI @st (aI @a1 (aI @a2 (aI @a3 (aI @bkL (aI @bkA (aI @bkT (aI @bk_agg (aI @st_bk (aI @st_id (aI @idVL (aI @idL (aI @idA (aI @idT (aI @id_agg (aI @idS0 (aI @snL (aI @snVL (aI @snA (aI @snS0 (aI @snS (aI @snPar (aI @snId @idChk))))))))))))))))))))))))))))))
        (first|refine go ?_|exact goC);repeat' (first|refine gP ?_|exact gPc)
        exact lp_n ⟨_,by omega,i+1,rv,_,_,_,_,_,_,_,_,_,_,_,_,_,_,_,_,_,_,_,_,_,_,_,_,rfl,by omega,by rw [cs];exact gt5,by push_cast;rfl⟩
       ·rw [if_neg hm2] at hp
        replace fx:=aI @hb3 (aI @g12 (aI @g14 (aI @sv (aI @hv (aI (eq_false hm2) (aI @st (aI @bkL (aI @bkA (aI @bkT (aI @bk_agg (aI @st_bk (aI @st_id (aI @idVL (aI @idL (aI @idA (aI @idT (aI @id_agg (aI @idS0 (aI @snL (aI @snVL (aI @snA (aI @snS0 (aI @snS (aI @snPar (aI @snId @idChk)))))))))))))))))))))))))
        (first|refine go ?_|exact goC);repeat' (first|refine gP ?_|exact gPc)
        exact lp_n ⟨_,by omega,j+1,s2,_,_,_,_,_,_,_,_,_,_,_,_,_,_,_,_,_,_,_,rfl,by omega,hp,gt4,by rw [get_put_ne (by omega)];exact g12,get_put_old g14,by push_cast;rfl⟩
    ·have e0:b.ss.length - j=0:=by omega
     rw [e0] at hp
     have hp:b.par L x=none:=hp
     obtain ⟨w,H5,a1,a2,a3,gt5⟩:=gt3.root hn x hp (by omega)
     have a4:=gt5.cell
     replace fx:=aI @hb3 (aI @g12 (aI @g14 (aI @ht3 (aI @ho3 (aI @a1 (aI @a2 (aI @a3 (aI @a4 (aI @st_id (aI @idVL (aI @idL (aI @idA (aI @idT (aI @id_agg (aI @idS0 @idChk)))))))))))))))
     (first|refine go ?_|exact goC);repeat' (first|refine gN ?_|exact gNc)
     exact lp_n ⟨_,by omega,i+1,w,_,_,_,_,_,_,_,_,_,_,_,_,_,_,_,_,_,_,_,_,_,_,_,_,rfl,by omega,by rw [cs];exact gt5,by push_cast;rfl⟩
 ·have et:L.take i=L:=List.take_of_length_le (by omega)
  rw [et] at gt
  replace fx:=Dum_eq
  (first|refine go ?_|exact goC);repeat' (first|refine gN ?_|exact gNc)
  show SW _ _ _ _ _ _ _ _
  exact cont H rv _ _ _ _ _ _ _ _ _ _ _ _ _ _ _ _ _ _ _ _ _ _ _ _ _ _ _ gt
end Go.Proofs.YthhdkkecolocdaaGreatDoor

namespace Go.Abs
variable {P:Program} {Hh:Hints} {F:Nat→Option AEnt}
def isBlkC:Code→Bool
 | .block _ _=>true
 | _=>false
def isLoopC:Code→Bool
 | .loop _=>true
 | _=>false
def isRegF:Code→Bool
 | .region _ _ false=>true
 | _=>false
def blkA:ACode→ACode
 | .block _ c=>c
 | c=>c
def blkI:ACode→Nat
 | .block i _=>i
 | _=>0
def loopA:ACode→ACode
 | .loop c=>c
 | c=>c
theorem SW.both {nt:Nat} {slots:List Nat} {C:Code} (h:isSeqC C=true) {vs:List AVal} {hp:Heap} {Q:AExit→List AVal→Heap→Prop} (w:SW P Hh nt slots (seqL C) vs hp (thenSW P Hh nt slots (seqR C) Q)):SW P Hh nt slots C vs hp Q:=by
 cases C with
 | seq A B =>
   refine SW.seq (SW.mono w fun e vs' h' q=>?_)
   cases e<;>exact q
 | _=>simp [isSeqC] at h
theorem CC.blk {fid nt:Nat} {slots:List Nat} {C:Code} {a:ACode} (c:CC P Hh fid nt slots C a) (h:isBlkC C=true):CC P Hh fid nt slots (blockC C) (blkA a)∧blockI C=blkI a:=by
 obtain ⟨k,rfl,hs⟩:=c
 cases C with
 | block i A=>exact ⟨⟨k,rfl,hs⟩,rfl⟩
 | _=>simp [isBlkC] at h
theorem CC.inBlock {fid nt:Nat} {slots:List Nat} {C:Code} {a:ACode} (c:CC P Hh fid nt slots C a) (h:isBlkC C=true) {vs:List AVal} {hp:Heap} {Q:AExit→List AVal→Heap→Prop} (w:SW P Hh nt slots (blockC C) vs hp (inBlk (blkI a) Q)):SW P Hh nt slots C vs hp Q:=by
 have e:=(c.blk h).2
 cases C with
 | block i A =>
   have e':i=blkI a:=e
   rw [←e'] at w
   exact SW.block w
 | _=>simp [isBlkC] at h
theorem CC.lp {fid nt:Nat} {slots:List Nat} {C:Code} {a:ACode} (c:CC P Hh fid nt slots C a) (h:isLoopC C=true):CC P Hh fid nt slots (loopC C) (loopA a):=by
 obtain ⟨k,rfl,hs⟩:=c
 cases C with
 | loop A=>exact ⟨k,rfl,hs⟩
 | _=>simp [isLoopC] at h
theorem SW.inLoop {nt:Nat} {slots:List Nat} {C:Code} (h:isLoopC C=true) {vs:List AVal} {hp:Heap} {Q:AExit→List AVal→Heap→Prop} (J:Nat→List AVal→Heap→Prop) (n:Nat) (h0:J n vs hp)
  (round:∀ m vs h,J m vs h→SW P Hh nt slots (loopC C) vs h (inLp J m Q)):SW P Hh nt slots C vs hp Q:=by
 cases C with
 | loop A=>exact SW.loop J n h0 round
 | _=>simp [isLoopC] at h
theorem CC.reg {fid nt:Nat} {slots:List Nat} {C:Code} {l:List AOper} (c:CC P Hh fid nt slots C (.ops l)) (h:isRegF C=true):∃ id,C = .region id (regOps C) false∧compOpers P Hh fid slots (regOps C).toList (regOps C).toList 0=some l∧dstsOk nt slots (regOps C).toList=true:=by
 obtain ⟨k,e,hs⟩:=c
 cases C with
 | region id ops draw =>
   cases draw with
   | true=>simp [isRegF] at h
   | false =>
     refine ⟨id,rfl,?_⟩
     simp only [compCode,regOps] at e ⊢
     split at e
     ·rename_i l' hl
      split at e
      ·rename_i hd
       simp only [Bool.not_false,Bool.true_or,if_true,ACode.ops.injEq] at e
       subst e
       exact ⟨hl,hd⟩
      ·simp at e
     ·simp at e
 | _=>simp [isRegF] at h
def isNextO (o:Oper):Bool:=match o.op,o.guard with
 | .next _ false,none=>true
 | _,_=>false
def isNextAt (C:Code) (k:Nat):Bool:=match (regOps C).toList[k]? with
 | some o=>isNextO o
 | none=>false
theorem SR.nextC {fid nt:Nat} {slots:List Nat} (hnd:slots.Nodup) {C:Code} {asx:List AOper} (hc:compOpers P Hh fid slots (regOps C).toList (regOps C).toList 0=some asx) (hd:dstsOk nt slots (regOps C).toList=true)
  {k:Nat} (hn:isNextAt C k=true) {d:ADst} {x:Opd} {g:Option (Opd×Bool)} (ha:asx[k]?=some ⟨d,.x .mnext [x],g⟩) {vs ts:List AVal} {h:Heap} {Q:List AVal→Heap→Prop} (hk:ts.length=k)
  {rr mid since last clock:Nat} {seen:List Nat} {kd:KD} {es:List (Nat×AVal×AVal)}
  (hx:evOpd vs ts x = .ptr rr 0) (hg:h.get rr=some (.iter (some mid) since seen last)) (hm:h.get mid=some (.map kd clock es)) (hold:oldE since last es=true)
  (h0:leftE seen es=[]→SR P Hh nt slots (regOps C) (k+1) (putV d vs (.tup [.bool false])) (ts++[putT d (.tup [.bool false])]) h Q)
  (h1:∀ y∈leftE seen es,SR P Hh nt slots (regOps C) (k+1) (putV d vs (.tup [.bool true,y.2.1,y.2.2])) (ts++[putT d (.tup [.bool true,y.2.1,y.2.2])]) (h.put rr (some (.iter (some mid) since (seen++[y.1]) clock))) Q) :
  SR P Hh nt slots (regOps C) k vs ts h Q:=by
 unfold isNextAt at hn
 split at hn
 rotate_left
 ·simp at hn
 rename_i o ho
 obtain ⟨a,q1,q2⟩:=(compOpers_get hc).2 k o ho
 rw [ha] at q1
 obtain rfl:=Option.some.inj q1
 rw [Nat.zero_add] at q2
 unfold isNextO at hn
 split at hn
 rotate_left
 ·simp at hn
 rename_i it hop hgd
 simp only [compOper,hop,compOp,hgd] at q2
 split at q2
 rotate_left
 ·simp at q2
 rename_i op g' e1 e2
 simp only [Option.some.injEq,AOper.mk.injEq] at q2
 obtain ⟨rfl,rfl,rfl⟩:=q2
 simp only [Bool.false_eq_true,if_false,Option.map_eq_some_iff,AOp.x.injEq,List.cons.injEq,and_true,true_and] at e1
 obtain ⟨x',e3,rfl⟩:=e1
 exact SR.next hnd hd hk ho hgd hop e3 hx hg hm hold h0 h1
theorem RW_RV1 {l:List AOper} {vs:List AVal} {r:AVal} {h:Heap} {K:List AVal→Heap→Prop} (w:RV F l 1 vs [r] h K):RW F l vs [r] h K:=by
 unfold RV at w
 exact w
end Go.Abs
namespace Go.Proofs.YthhdkkecolocdaaGreatDoor
open Go Go.Abs Go.Ly
theorem left_lt {seen:List Nat} {es:List (Nat×AVal×AVal)} {y:Nat×AVal×AVal} (hy:y∈leftE seen es):(leftE (seen++[y.1]) es).length<(leftE seen es).length:=by
 have e:leftE (seen++[y.1]) es=(leftE seen es).filter fun e=>!(e.1 == y.1):=by
  unfold leftE
  rw [List.filter_filter]
  congr 1
  funext e
  rw [show (e.1 == y.1)=decide (e.1=y.1) from by by_cases h:e.1=y.1<;>simp [h]]
  simp [Bool.not_or,Bool.and_comm]
 rw [e]
 have h1:=List.length_filter_le (fun e=>!(e.1 == y.1)) (leftE seen es)
 rcases Nat.lt_or_eq_of_le h1 with h2|h2
 ·exact h2
 ·have:=List.length_filter_eq_length_iff.1 h2 y hy
  simp at this
theorem mem_enc {E:List Et} {seen:List Nat} {y:Nat×AVal×AVal} (hy:y∈leftE seen (enc E)):∃ en∈E,y=(en.1,en.2.1.val,en.2.2)∧en.1∉seen:=by
 unfold leftE at hy
 obtain ⟨h1,h2⟩:=List.mem_filter.1 hy
 obtain ⟨en,h3,rfl⟩:=List.mem_map.1 h1
 exact ⟨en,h3,rfl,by simpa using h2⟩
theorem left_nil {E:List Et} {seen:List Nat} (h:leftE seen (enc E)=[]):∀ en∈E,en.1∈seen:=by
 intro en he
 unfold leftE at h
 rw [List.filter_eq_nil_iff] at h
 have:=h _ (List.mem_map.2 ⟨en,he,rfl⟩)
 simpa using this
theorem old_enc {c:Nat} {E:List Et} (o:EOk c E):oldE c c (enc E)=true:=by
 unfold oldE
 simp only [Bool.and_eq_true,List.all_eq_true,decide_eq_true_eq,Nat.le_refl,and_true]
 intro e he
 obtain ⟨en,h3,rfl⟩:=List.mem_map.1 he
 exact o.lt en h3
theorem find_stamp {c:Nat} {E:List Et} (o:EOk c E) {en:Et} (h:en∈E):(enc E).find? (fun e=>e.1 == en.1)=some (en.1,en.2.1.val,en.2.2):=by
 have hst:=o.st
 clear o
 induction E with
 | nil=>simp at h
 | cons a E ih =>
   rw [List.map_cons,List.nodup_cons] at hst
   simp only [enc,List.map_cons,List.find?_cons]
   rcases List.mem_cons.1 h with rfl|h
   ·simp
   ·have:(a.1 == en.1)=false:=by
     simp only [beq_eq_false_iff_ne,ne_eq]
     intro q
     exact hst.1 (by rw [q];exact List.mem_map.2 ⟨en,h,rfl⟩)
    rw [this]
    exact ih h hst.2
theorem mstep_at {c:Nat} {E:List Et} (o:EOk c E) {en:Et} (he:en∈E) {h:Heap} {it m since:Nat} {seen:List Nat} (g1:h.get it=some (.iter (some m) since (seen++[en.1]) c)) (g2:h.get m=some (.map idK c (enc E))) :
  evalX .mstep [.ptr it 0] h=some (.tup [en.2.1.val,en.2.2],h):=by
 simp only [evalX,g1,g2,if_true,List.getLast?_append,List.getLast?_singleton,Option.some_or,find_stamp o he]
def SortOk (lt:Ly.Id→Ly.Id→Bool) (l:List Ly.Id):Prop:=∀ (g:Nat) (cap:List AVal) (r:Nat) (I:Heap→Prop),CmpOk lt g cap r I→∀ h,I h→h.get r=some (.row true 3 true (flat (l.map Ly.Id.val))) →
 CV F 29 [.ref r 0 l.length 3,.fn g cap] h (fun v h'=>h'.get r=some (.row true 3 true (flat ((isort lt l).map Ly.Id.val)))∧Fr (fun j=>j=r) h h'∧v = .tup [])
theorem sib_cmp (b:Bk) (fit:b.Fit) {n r:Nat} (hr:n≠r):CmpOk b.key 107 [.ptr n 0] r (fun h=>h.get n=some (.row true 0 true (bkC b))):=by
 refine ⟨fun h x y hI=>?_,fun h h' hI f=>by rw [f.2 n (get_lt hI) hr];exact hI⟩
 refine CV_mono (grow1_c b fit x y hI) ?_
 rintro v h' ⟨rfl,fr⟩
 exact ⟨_,rfl,sibI_lt b x y,fr⟩
structure GV (b:Bk) (L M:List Ly.Id) (h0:Heap) (n:Nat) (H:Heap) (rv:AVal) (rl:List Ly.Id) (ck:Nat) (Ek:List Et) (seen:List Nat):Prop where
 fr:Fr (fun _=>False) h0 H
 nx:n+7≤H.next
 hb:H.get n=some (.row true 0 true (bkC b))
 hr:H.get (n+2)=some (.row true (typed 167) true [.sl [] .nil,.nilmp])
 mo:MOk H (n+3) ck Ek
 tr:H.get (n+4)=some (.row true (typed 167) true [rv,.mp (n+3)])
 rs:SV H rv rl
 ks:∀ x,look Ek x=none→kidsN b L M (some x)=[]
 en:∀ en∈Ek,∃ r,en.2.2 = .ref r 0 (kidsN b L M (some en.2.1)).length 3∧n+7≤r∧H.get r=some (.row true 3 true (flat ((if en.1∈seen then isort b.key (kidsN b L M (some en.2.1)) else kidsN b L M (some en.2.1)).map Ly.Id.val)))
 inj:∀ en∈Ek,∀ en'∈Ek,∀ r a a',en.2.2 = .ref r 0 a 3→en'.2.2 = .ref r 0 a' 3→en=en'
 ro:∀ r a,rv = .ref r 0 a 3→n+7≤r∧∀ en∈Ek,∀ a',en.2.2 ≠ .ref r 0 a' 3
theorem look_mem {c:Nat} {E:List Et} (o:EOk c E) {en:Et} (h:en∈E):look E en.2.1=some en.2.2:=by
 obtain ⟨j,hj,rfl⟩:=List.getElem_of_mem h
 exact look_some o.keys hj rfl
theorem key_inj {c:Nat} {E:List Et} (o:EOk c E) {en en':Et} (h:en∈E) (h':en'∈E) (e:en.2.1=en'.2.1):en=en':=by
 obtain ⟨j,hj,rfl⟩:=List.getElem_of_mem h
 obtain ⟨k,hk,rfl⟩:=List.getElem_of_mem h'
 have h3:(E.map fun e=>e.2.1)[j]'(by simpa using hj)=(E.map fun e=>e.2.1)[k]'(by simpa using hk):=by simpa using e
 have:=(List.getElem_inj o.keys).1 h3
 subst this
 rfl
theorem st_inj {c:Nat} {E:List Et} (o:EOk c E) {en en':Et} (h:en∈E) (h':en'∈E) (e:en.1=en'.1):en=en':=by
 obtain ⟨j,hj,rfl⟩:=List.getElem_of_mem h
 obtain ⟨k,hk,rfl⟩:=List.getElem_of_mem h'
 have h3:(E.map fun e=>e.1)[j]'(by simpa using hj)=(E.map fun e=>e.1)[k]'(by simpa using hk):=by simpa using e
 have:=(List.getElem_inj o.st).1 h3
 subst this
 rfl
section
variable {b:Bk} {e:Ly.Id} {L Mt M:List Ly.Id} {h0:Heap} {n:Nat} {H H':Heap} {rv:AVal} {rl:List Ly.Id} {ck:Nat} {Ek:List Et} {seen:List Nat}
theorem gv_start (g:GT b e L Mt M h0 n H rv):∃ ck Ek,GV b L M h0 n H rv (kidsN b L M none) ck Ek []:=by
 obtain ⟨ck,Ek,k⟩:=g.kr
 refine ⟨ck,Ek,g.gs.fr,g.gs.nx,g.gs.hb,g.gs.hr,k.mo,k.tr,k.rs,fun x hx=>?_,fun en he=>?_,fun en he en' he' r a a' q1 q2=>?_,fun r a q=>⟨(k.ro r a q).1,fun en he a' q'=>?_⟩⟩
 ·rcases k.ks x with q|⟨r,q,_⟩
  ·exact q.2
  ·rw [hx] at q;simp at q
 ·have hl:=look_mem k.mo.2 he
  rcases k.ks en.2.1 with q|⟨r,q,g⟩
  ·rw [hl] at q;simp at q
  ·refine ⟨r,?_,k.lo _ _ _ q,by simpa using g⟩
   rw [hl] at q
   exact Option.some.inj q
 ·have h1:=look_mem k.mo.2 he
  have h2:=look_mem k.mo.2 he'
  rw [q1] at h1
  rw [q2] at h2
  exact key_inj k.mo.2 he he' (k.inj _ _ _ _ _ h1 h2)
 ·have h1:=look_mem k.mo.2 he
  rw [q'] at h1
  exact (k.ro r a q).2 _ _ h1
theorem GV.keep (hn:h0.next=n) (g:GV b L M h0 n H rv rl ck Ek seen) (h1:H.next≤H'.next) (h2:∀ j,j<n→H'.get j=H.get j) (h3:∀ j mu z a cs,H.get j=some (.row mu z a cs)→H'.get j=some (.row mu z a cs)) (h4:∀ j c es,H.get j=some (.map idK c es)→H'.get j=some (.map idK c es)):GV b L M h0 n H' rv rl ck Ek seen:=by
 refine ⟨⟨by have:=g.fr.1;omega,fun k hk q=>by rw [h2 k (by omega)];exact g.fr.2 k hk q⟩,by have:=g.nx;omega,h3 _ _ _ _ _ g.hb,h3 _ _ _ _ _ g.hr,⟨h4 _ _ _ g.mo.1,g.mo.2⟩,h3 _ _ _ _ _ g.tr,?_,g.ks,fun en he=>?_,g.inj,g.ro⟩
 ·rcases g.rs with q|⟨r,q,g⟩
  ·exact .inl q
  ·exact .inr ⟨r,q,h3 _ _ _ _ _ g⟩
 ·obtain ⟨r,q1,q2,q3⟩:=g.en en he
  exact ⟨r,q1,q2,h3 _ _ _ _ _ q3⟩
theorem GV.push (hn:h0.next=n) (g:GV b L M h0 n H rv rl ck Ek seen) (o:Abs.Obj):GV b L M h0 n (H.push o) rv rl ck Ek seen :=
 g.keep hn (by rw [push_next];omega) (fun j hj=>by have:=g.nx;rw [get_push_ne (by omega)]) (fun _ _ _ _ _ q=>get_push_old q) (fun _ _ _ q=>get_push_old q)
theorem GV.iter (hn:h0.next=n) (g:GV b L M h0 n H rv rl ck Ek seen) {j:Nat} {a b':Option Nat} {c d:Nat} {s:List Nat} (hj:n≤j) (hg:H.get j=some (.iter a c s d)) (o:Option Abs.Obj):GV b L M h0 n (H.put j o) rv rl ck Ek seen :=
 g.keep hn (by rw [put_next];omega) (fun k hk=>by rw [get_put_ne (by omega)]) (fun k mu z a cs q=>by rw [get_put_ne (by rintro rfl;rw [hg] at q;simp at q)];exact q) (fun k c es q=>by rw [get_put_ne (by rintro rfl;rw [hg] at q;simp at q)];exact q)
theorem GV.roots (hn:h0.next=n) {r:Nat} (hrv:rv = .ref r 0 rl.length 3) (g:GV b L M h0 n H rv rl ck Ek seen) (f:Fr (fun j=>j=r) H H') (hg:H'.get r=some (.row true 3 true (flat ((isort b.key rl).map Ly.Id.val)))):GV b L M h0 n H' rv (isort b.key rl) ck Ek seen:=by
 obtain ⟨q1,q2⟩:=g.ro r _ hrv
 have nx:=g.nx
 have low:∀ j o,j≠r→H.get j=some o→H'.get j=some o:=fun j o hj q=>by rw [f.2 j (get_lt q) hj];exact q
 have lw:∀ j,j<n+7→H'.get j=H.get j:=fun j hj=>f.2 j (by omega) (by omega)
 refine ⟨⟨by have:=g.fr.1;have:=f.1;omega,fun k hk q=>by rw [lw k (by omega)];exact g.fr.2 k hk q⟩,by have:=f.1;omega,by rw [lw _ (by omega)];exact g.hb,by rw [lw _ (by omega)];exact g.hr,⟨by rw [lw _ (by omega)];exact g.mo.1,g.mo.2⟩,by rw [lw _ (by omega)];exact g.tr,.inr ⟨r,by rw [(isort_perm _ _).length_eq];exact hrv,hg⟩,g.ks,fun en he=>?_,g.inj,g.ro⟩
 obtain ⟨r',p1,p2,p3⟩:=g.en en he
 exact ⟨r',p1,p2,low _ _ (by rintro rfl;exact q2 en he _ p1) p3⟩
theorem GV.kid (hn:h0.next=n) {r:Nat} {en:Et} (he:en∈Ek) (hv:en.2.2 = .ref r 0 (kidsN b L M (some en.2.1)).length 3) (g:GV b L M h0 n H rv rl ck Ek seen) (f:Fr (fun j=>j=r) H H') (hg:H'.get r=some (.row true 3 true (flat ((isort b.key (kidsN b L M (some en.2.1))).map Ly.Id.val)))):GV b L M h0 n H' rv rl ck Ek (seen++[en.1]):=by
 obtain ⟨r',q1,q2,q3⟩:=g.en en he
 rw [hv] at q1
 obtain rfl:=ref_ne q1
 have nx:=g.nx
 have low:∀ j o,j≠r→H.get j=some o→H'.get j=some o:=fun j o hj q=>by rw [f.2 j (get_lt q) hj];exact q
 have lw:∀ j,j<n+7→H'.get j=H.get j:=fun j hj=>f.2 j (by omega) (by omega)
 refine ⟨⟨by have:=g.fr.1;have:=f.1;omega,fun k hk q=>by rw [lw k (by omega)];exact g.fr.2 k hk q⟩,by have:=f.1;omega,by rw [lw _ (by omega)];exact g.hb,by rw [lw _ (by omega)];exact g.hr,⟨by rw [lw _ (by omega)];exact g.mo.1,g.mo.2⟩,by rw [lw _ (by omega)];exact g.tr,?_,g.ks,fun en' he'=>?_,g.inj,g.ro⟩
 ·rcases g.rs with q|⟨r1,q,g1⟩
  ·exact .inl q
  ·exact .inr ⟨r1,q,low _ _ (by rintro rfl;exact (g.ro _ _ q).2 en he _ hv) g1⟩
 ·obtain ⟨r1,p1,p2,p3⟩:=g.en en' he'
  by_cases hq:en'=en
  ·subst hq
   rw [hv] at p1
   obtain rfl:=ref_ne p1
   exact ⟨r,hv,p2,by rw [if_pos (by simp)];exact hg⟩
  ·have hs:¬ en'.1=en.1:=fun q=>hq (st_inj g.mo.2 he' he q)
   refine ⟨r1,p1,p2,low _ _ (by rintro rfl;exact hq (g.inj _ he' _ he _ _ _ p1 hv)) ?_⟩
   simpa [hs] using p3
theorem GV.done (g:GV b L M h0 n H rv rl ck Ek seen) (hs:∀ en∈Ek,en.1∈seen):KOk (fun x=>isort b.key (kidsN b L M (some x))) H (n+3):=by
 refine ⟨ck,enc Ek,g.mo.1,fun x=>?_⟩
 rcases key_cases Ek x with hx|⟨j,hj,hx⟩
 ·refine ⟨.sl [] .nil,.inl ⟨rfl,?_⟩,.inl ⟨findE_none hx,rfl⟩⟩
  show isort b.key (kidsN b L M (some x))=[]
  rw [g.ks x (look_none hx)]
  rfl
 ·have he:Ek[j]∈Ek:=List.getElem_mem hj
  obtain ⟨r,p1,p2,p3⟩:=g.en _ he
  rw [if_pos (hs _ he)] at p3
  rw [hx] at p1 p3
  refine ⟨(Ek[j]).2.2,.inr ⟨r,?_,p3⟩,.inr ⟨_,findE_some g.mo.2.keys hj hx⟩⟩
  rw [p1,(isort_perm _ _).length_eq]
end
theorem sib_isort (b:Bk) (fit:b.Fit) (L:List Ly.Id) (e:Ly.Id) (o:Option Ly.Id):isort b.key (kidsN b L (coll (b.has e) [] L) o)=(b.tree L e).sibs b.key o:=by
 have ok:=fit.ok.tree_ok L e
 exact isort_congr (ok.totF o) (ok.ndF o) ((coll_perm (b.has e) L).filter _)
end Go.Proofs.YthhdkkecolocdaaGreatDoor

namespace Go.Proofs.YthhdkkecolocdaaGreatDoor
open Go Go.Abs Go.Ly
theorem range_shape:(let c:=seqL (seqN 8 (bodyOf Tryz.prog 69));isSeqC c && isBlkC (seqR c) && isLoopC (blockC (seqR c)) && isSeqC (loopC (blockC (seqR c))) && isRegF (seqL (loopC (blockC (seqR c)))) && isNextAt (seqL (loopC (blockC (seqR c)))) 0)=true:=by
 kernel_rfl
def growPost (b:Bk) (L:List Ly.Id) (e:Ly.Id) (h:Heap):AExit→List AVal→Heap→Prop:=fun x vs h'=>(x = .normal∨x = .ret)∧∃ r,resultsA c69.results vs h'=some r∧growK b L e h r h'
theorem grow_c (b:Bk) (fit:b.Fit) (L:List Ly.Id) (hL:L.length≤60) {t:Abs.Tok} (ht:Pt t) (e:Ly.Id) (h:Heap) (hS:∀ o,SortOk b.key (kidsN b L (coll (b.has e) [] L) o))
  {w:World} {G:Ghost} {cargs:Array Value} (hE:G.env=envOf Tryz.prog hints) (HR:HRel w G h) (hp:Pts w G cargs [b.val,e.val,.sl (L.map Ly.Id.val) t]) :
  Calls Tryz.prog 69 cargs w (fun x w'=>∃ r h',growK b L e h r h'∧∃ v G',x = .returned v∧Ext w G h w' G' h'∧HRel w' G' h'∧VRel w' G' v r):=by
 refine calls_of c69_ok (fun nt C hC hnd hs hcc=>?_) hE HR hp
 have cc:CC Tryz.prog hints 69 nt c69.slots C c69.body:=⟨0,hcc,hs⟩
 have shp:=range_shape
 rw [hC] at shp
 simp only [Bool.and_eq_true] at shp
 obtain ⟨⟨⟨⟨⟨s1,s2⟩,s3⟩,s4⟩,s5⟩,s6⟩:=shp
 show SW _ _ _ _ _ _ _ (growPost b L e h)
 refine grow_sw2 b fit L hL ht e h hC hnd cc _ fun H0 rv (x1 x2 x3 x4 x5 x6 x7 x8 x9 x10 x11 x12 x13 x14 x15 x16 x17 x18 x19 x20 x21 x22 x23 x24 x25 x26 x27:AVal) gt=>?_
 have sibs:=fun o=>sib_isort b fit L e o
 generalize hM:coll (b.has e) [] L=M at gt hS sibs
 generalize hn:h.next=n at gt ⊢
 obtain ⟨ck,Ek,gv⟩:=gv_start gt
 clear gt
 have cc:=(((((cc.right (grow_piece hC (i:=0) (by omega))).right (grow_piece hC (i:=1) (by omega))).right (grow_piece hC (i:=2) (by omega))).right (grow_piece hC (i:=3) (by omega))).right (grow_piece hC (i:=4) (by omega))).right (grow_piece hC (i:=5) (by omega))
 -- the closure
 refine cc.seq mixed table hnd (grow_piece hC (i:=6) (by omega)) ?_
 simp only [uT,c69,hdA,tlA]
 replace fx:=Dum_eq
 first|refine go ?_|exact goC
 show SW _ _ _ _ _ _ _ _
 have cc:=cc.right (grow_piece hC (i:=6) (by omega))
 -- the roots
 have nx:=gv.nx
 have tr:=gv.tr
 have hone:rv.one=true:=by rcases gv.rs with ⟨rfl,_⟩|⟨r,rfl,_⟩<;>rfl
 have key:∀ (H1:Heap) (rl:List Ly.Id) (x1 x2 x3 x4 x5 x6 x7 x8 x9 x10 x11 x12 x13 x14 x15 x16 x17 x18 x19 x20 x21 x22 x23 x24 x25 x26:AVal),GV b L M h n H1 rv rl ck Ek []→rl=isort b.key (kidsN b L M none) →
   SW Tryz.prog hints nt c69.slots (seqN 8 C) [b.val,e.val,.sl (L.map Ly.Id.val) t,.ptr n 0,.ptr (n+1) 0,.ptr (n+2) 0,.ptr (n+4) 0,.mp (n+5),.mp (n+6),x1,x2,x3,x4,x5,x6,x7,.fn 107 [.ptr n 0],x8,x9,x10,x11,x12,x13,x14,x15,x16,x17,x18,x19,x20,x21,x22,x23,x24,x25,x26] H1 (growPost b L e h):=by
  have cc8:CC Tryz.prog hints 69 nt c69.slots (seqN 8 C) _:=cc.right (grow_piece hC (i:=7) (by omega))
  clear hone tr nx gv cc
  intro H1 rl x1 x2 x3 x4 x5 x6 x7 x8 x9 x10 x11 x12 x13 x14 x15 x16 x17 x18 x19 x20 x21 x22 x23 x24 x25 x26 gv hrl
  refine SW.both (grow_piece hC (i:=8) (by omega)) ?_
  have cl:=cc8.left (grow_piece hC (i:=8) (by omega))
  have cr9:=cc8.right (grow_piece hC (i:=8) (by omega))
  refine cl.seq mixed table hnd s1 ?_
  simp only [uT,c69,hdA,tlA]
  have nx:=gv.nx
  have tr:=gv.tr
  have er:evalX .mrange [.mp (n+3)] H1=some (.ptr H1.next 0,H1.push (.iter (some (n+3)) ck [] ck)):=by simp only [evalX,gv.mo.1]
  replace fx:=aI @tr (aI @mpc (aI @mpo @er))
  first|refine go ?_|exact goC
  show SW _ _ _ _ _ _ _ _
  have cb:=cl.right s1
  refine cb.inBlock s2 ?_
  have cL:=(cb.blk s2).1
  refine SW.inLoop s3 (fun k vs H=>∃ (seen:List Nat) (x1 x2 x3 x4 x5 x6 x7 x8 x9 x10 x11 x12 x13 x14 x15 x16 x17 x18 x19 x20 x21 x22 x23 x24 x25:AVal),k=(leftE seen (enc Ek)).length∧GV b L M h n H rv rl ck Ek seen∧H.get H1.next=some (.iter (some (n+3)) ck seen ck) ∧
    vs=[b.val,e.val,.sl (L.map Ly.Id.val) t,.ptr n 0,.ptr (n+1) 0,.ptr (n+2) 0,.ptr (n+4) 0,.mp (n+5),.mp (n+6),x1,x2,x3,x4,x5,x6,x7,.fn 107 [.ptr n 0],x8,x9,x10,x11,x12,x13,x14,x15,x16,x17,x18,x19,x20,x21,x22,x23,x24,.ptr H1.next 0,x25]) _
   ⟨[],_,_,_,_,_,_,_,_,_,_,_,_,_,_,_,_,_,_,_,_,_,_,_,_,x26,rfl,gv.push hn _,get_push_eq rfl,rfl⟩ ?_
  rintro k vs H ⟨seen,x1,x2,x3,x4,x5,x6,x7,x8,x9,x10,x11,x12,x13,x14,x15,x16,x17,x18,x19,x20,x21,x22,x23,x24,x25,rfl,gv,gi,rfl⟩
  have cr:=cL.lp s3
  refine SW.both s4 ?_
  obtain ⟨id,e1,e2,e3⟩:=(cr.left s4).reg s5
  have c2:=cr.right s4
  rw [e1]
  refine SW.of_SR ?_
  have nxt:nx=nx:=rfl
  refine SR.nextC hnd e2 e3 s6 rfl rfl rfl gi gv.mo.1 (old_enc gv.mo.2) (fun hnil=>?_) (fun y hy=>?_)
  ·refine SR.of_rw mixed table hnd e2 e3 rfl (by decide) (RW_RV1 ?_)
   show RV F [⟨(.var 35),.ext (.t 0) 0,.none⟩] 1 _ [_] _ _
   replace fx:=Dum_eq
   first|refine go ?_|exact goC
   show SW _ _ _ _ _ _ _ _
   refine c2.sw mixed table hnd ?_
   simp only [uT,c69,hdA,tlA,loopA,blkA]
   replace fx:=Dum_eq
   first|refine go ?_|exact goC
   show SW _ _ _ _ _ _ _ _
   refine cr9.sw mixed table hnd ?_
   simp only [uT,c69,hdA,tlA]
   have hr:=gv.hr
   have tr:=gv.tr
   have hone:rv.one=true:=by rcases gv.rs with ⟨rfl,_⟩|⟨r,rfl,_⟩<;>rfl
   have tr2:∀ o,(H.put (n+2) o).get (n+4)=some (.row true (typed 167) true [rv,.mp (n+3)]):=fun o=>by rw [get_put_ne (by omega)];exact tr
   replace fx:=aI @hr (aI @tr (aI @mpc (aI @mpo @hone)))
   first|refine go ?_|exact goC
   refine ⟨.inr rfl,?_⟩
   show resK [.c 5 2 true] _ _ _
   replace fx:=aI @hr (aI @mpc (aI @mpo @hone))
   first|refine go ?_|exact goC
   have fr2:Fr (fun j=>j=n+2) H (H.put (n+2) (some (.row true (typed 167) true [rv,.mp (n+3)]))):=frp (Fr.refl _ _) _
   refine ⟨rv,n+3,rfl,?_,?_,?_⟩
   ·rw [←sibs none,←hrl]
    rcases gv.rs with q|⟨r,q,g⟩
    ·exact .inl q
    ·exact .inr ⟨r,q,by rw [get_put_ne (by have:=(gv.ro r _ q).1;omega)];exact g⟩
   ·have kd:=gv.done (left_nil hnil)
    simp only [sibs] at kd
    obtain ⟨c1,es,q1,q2⟩:=kd
    refine ⟨c1,es,by rw [get_put_ne (by omega)];exact q1,fun x=>?_⟩
    obtain ⟨v,p1,p2⟩:=q2 x
    refine ⟨v,?_,p2⟩
    rcases p1 with q|⟨r,q,g⟩
    ·exact .inl q
    ·exact .inr ⟨r,q,by rw [get_put_ne (by rintro rfl;rw [hr] at g;simp [typed] at g)];exact g⟩
   ·exact ⟨by rw [put_next];exact gv.fr.1,fun j hj q=>by rw [get_put_ne (by omega)];exact gv.fr.2 j hj q⟩
  ·obtain ⟨en,he,rfl,hns⟩:=mem_enc hy
   refine SR.of_rw mixed table hnd e2 e3 rfl (by decide) (RW_RV1 ?_)
   show RV F [⟨(.var 35),.ext (.t 0) 0,.none⟩] 1 _ [_] _ _
   replace fx:=Dum_eq
   first|refine go ?_|exact goC
   show SW _ _ _ _ _ _ _ _
   refine c2.sw mixed table hnd ?_
   simp only [uT,c69,hdA,tlA,loopA,blkA]
   obtain ⟨r,p1,p2,p3⟩:=gv.en en he
   have gv2:=gv.iter (b':=none) hn (j:=H1.next) (by omega) gi (some (.iter (some (n+3)) ck (seen++[en.1]) ck))
   have gi2:(H.put H1.next (some (.iter (some (n+3)) ck (seen++[en.1]) ck))).get H1.next=some (.iter (some (n+3)) ck (seen++[en.1]) ck):=get_put_old gi
   have ms:=mstep_at gv.mo.2 he gi2 gv2.mo.1
   rw [p1] at ms
   replace fx:=@ms
   first|refine go ?_|exact goC
   rw [if_neg hns] at p3
   have p3':(H.put H1.next (some (.iter (some (n+3)) ck (seen++[en.1]) ck))).get r=some (.row true 3 true (flat ((kidsN b L M (some en.2.1)).map Ly.Id.val))):=by rw [get_put_ne (by rintro rfl;rw [gi] at p3;simp at p3)];exact p3
   refine CV_mono (hS (some en.2.1) _ _ _ _ (sib_cmp b fit (by omega)) _ gv2.hb p3') ?_
   rintro v h1 ⟨q1,q2,rfl⟩
   replace fx:=Dum_eq
   first|refine go ?_|exact goC
   exact ⟨_,left_lt hy,seen++[en.1],_,_,_,_,_,_,_,_,_,_,_,_,_,_,_,_,_,_,_,_,_,_,_,_,_,rfl,gv2.kid hn he p1 q2 q1,by rw [q2.2 _ (get_lt gi2) (by rintro rfl;rw [gi] at p3;simp at p3)];exact gi2,rfl⟩
 refine cc.seq mixed table hnd (grow_piece hC (i:=7) (by omega)) ?_
 simp only [uT,c69,hdA,tlA]
 rcases gv.rs with ⟨rfl,q0⟩|⟨r,rfl,g0⟩
 ·replace fx:=@tr
  first|refine go ?_|exact goC
  refine CV_mono (sort0_c _ _ _ _) ?_
  rintro v h1 ⟨rfl,rfl⟩
  replace fx:=Dum_eq
  first|refine go ?_|exact goC
  show SW _ _ _ _ _ _ _ _
  exact key _ _ _ _ _ _ _ _ _ _ _ _ _ _ _ _ _ _ _ _ _ _ _ _ _ _ _ _ gv (by rw [q0];rfl)
 ·replace fx:=@tr
  first|refine go ?_|exact goC
  refine CV_mono (hS none _ _ _ _ (sib_cmp b fit (by have:=(gv.ro r _ rfl).1;omega)) _ gv.hb g0) ?_
  rintro v h1 ⟨q1,q2,rfl⟩
  replace fx:=Dum_eq
  first|refine go ?_|exact goC
  show SW _ _ _ _ _ _ _ _
  exact key _ _ _ _ _ _ _ _ _ _ _ _ _ _ _ _ _ _ _ _ _ _ _ _ _ _ _ _ (gv.roots hn rfl q2 q1) rfl
end Go.Proofs.YthhdkkecolocdaaGreatDoor

namespace Go.Proofs.YthhdkkecolocdaaGreatDoor
open Go Go.Abs Go.Ly
section
variable {lt:Ly.Id→Ly.Id→Bool} {g:Nat} {cap:List AVal} {r:Nat} {I:Heap→Prop}
structure SI (lt:Ly.Id→Ly.Id→Bool) (g:Nat) (cap:List AVal) (r:Nat) (I:Heap→Prop) (l:List Ly.Id) (h:Heap):Prop where
 cm:CmpOk lt g cap r I
 hI:I h
 row:h.get r=some (.row true 3 true (flat (l.map Ly.Id.val)))
 srt:∀ i j,i<j→j<l.length→lt (nth l j) (nth l i)=false
theorem SI.fr {l:List Ly.Id} {h h':Heap} (s:SI lt g cap r I l h) (f:Fr (fun _=>False) h h'):SI lt g cap r I l h':=⟨s.cm,s.cm.keep _ _ s.hI (frw f),f.get s.row (fun q=>q),s.srt⟩
theorem SI.cmp {l:List Ly.Id} {h:Heap} (s:SI lt g cap r I l h) {i j:Nat} (hi:i<j) (hj:j<l.length):CV F g ([(nth l j).val,(nth l i).val]++cap) h (fun v h'=>∃ n:Int,v = .int .i64 n∧0≤n∧Fr (fun _=>False) h h'):=by
 refine CV_mono (s.cm.cmp h _ _ s.hI) ?_
 rintro v h' ⟨n,rfl,hn,f⟩
 refine ⟨n,rfl,?_,f⟩
 have:=s.srt i j hi hj
 rw [this] at hn
 by_cases q:n<0
 ·exact absurd (hn.1 q) (by simp)
 ·omega
end
section
variable {lt:Ly.Id→Ly.Id→Bool} {g:Nat} {cap:List AVal} {r:Nat} {I:Heap→Prop}
end
end Go.Proofs.YthhdkkecolocdaaGreatDoor

namespace Go.Abs
variable {P:Program} {Hh:Hints} {F:Nat→Option AEnt}
theorem told_of {g:Nat} {cf:AFunc} (hc:compFunc P Hh g=some cf) {args:List AVal} {r:AVal}
  (hw:∀ nt c,bodyOf P g=c→cf.slots.Nodup→SitesOk P g nt 0 c→compCode P Hh g nt cf.slots true 0 c=cf.body→SW P Hh nt cf.slots c (cf.slots.map fun s=>(args[s]?).getD (.tup [])) Heap.empty (fun e vs h'=>(e = .normal∨e = .ret)∧∃ r1,resultsA cf.results vs h'=some r1∧purify h' r1=some r)):CallRelE P Hh g args Heap.empty r Heap.empty:=by
 unfold compFunc at hc
 split at hc
 ·simp at hc
 ·rename_i fn hf
  split at hc
  ·rename_i c hb
   dsimp only at hc
   split at hc
   ·rename_i ris hres
    split at hc
    ·rename_i hcond
     simp only [Option.some.injEq] at hc
     subst hc
     simp only [Bool.and_eq_true,decide_eq_true_eq] at hcond
     exact told_call hf hb hres (hw fn.ntmps c (by simp [bodyOf,hf,hb]) hcond.1.2 (fun j x hx=>by simp [siteOf,hf,hb,hx]) rfl)
    ·simp at hc
   ·simp at hc
  ·simp at hc
def isCallO (o:Oper) (g:Nat):Bool:=match o.op,o.guard with
 | .call c,none=>match c.callee with
   | .value (.func g')=>g' == g
   | _=>false
 | _,_=>false
def isCallAt (C:Code) (k g:Nat):Bool:=match (regOps C).toList[k]? with
 | some o=>isCallO o g
 | none=>false
theorem SR.callC {fid nt:Nat} {slots:List Nat} (hnd:slots.Nodup) {C:Code} {asx:List AOper} (hc:compOpers P Hh fid slots (regOps C).toList (regOps C).toList 0=some asx) (hd:dstsOk nt slots (regOps C).toList=true)
  {k g:Nat} (hn:isCallAt C k g=true) (hiso:Hh.iso g=false) (hchk:Hh.chk g=false) (henter:∀ (cargs:Array Value) (w:World),(callFunc g cargs).run P w = .ok (.enter g cargs) w) {d:ADst} {x:Opd} {xs:List Opd} {gd:Option (Opd×Bool)} (ha:asx[k]?=some ⟨d,.call x xs,gd⟩) {vs ts:List AVal} {h:Heap} {Q:List AVal→Heap→Prop} (hk:ts.length=k) {K:AVal→Heap→Prop}
  (hcall:∀ (w:World) (G:Ghost) (cargs:Array Value),G.env=envOf P Hh→HRel w G h→Pts w G cargs (xs.map (evOpd vs ts))→Calls P g cargs w (fun e w'=>∃ r h',K r h'∧∃ v G',e = .returned v∧Ext w G h w' G' h'∧HRel w' G' h'∧VRel w' G' v r))
  (h1:∀ r h',K r h'→SR P Hh nt slots (regOps C) (k+1) (putV d vs r) (ts++[putT d r]) h' Q) :
  SR P Hh nt slots (regOps C) k vs ts h Q:=by
 unfold isCallAt at hn
 split at hn
 rotate_left
 ·simp at hn
 rename_i o ho
 obtain ⟨a,q1,q2⟩:=(compOpers_get hc).2 k o ho
 rw [ha] at q1
 obtain rfl:=Option.some.inj q1
 rw [Nat.zero_add] at q2
 unfold isCallO at hn
 split at hn
 rotate_left
 ·simp at hn
 rename_i c hop hgd
 obtain ⟨cal,args,tys⟩:=c
 dsimp only at hn
 split at hn
 rotate_left
 ·simp at hn
 rename_i g'
 have hg:g'=g:=by simpa using hn
 subst hg
 simp only [compOper,hop,compOp,hgd,compCall] at q2
 split at q2
 rotate_left
 ·simp at q2
 rename_i op g2 e1 e2
 simp only [Option.some.injEq,AOper.mk.injEq] at q2
 obtain ⟨rfl,rfl,rfl⟩:=q2
 have e3:optL (compOpd Hh.glob slots (regOps C).toList k) args.toList=some xs:=by
  cases hq:optL (compOpd Hh.glob slots (regOps C).toList k) args.toList with
  | none=>rw [hq] at e1;simp at e1
  | some ys =>
    rw [hq] at e1
    simp only [hiso,hchk,Bool.false_eq_true,if_false,Option.some.injEq,AOp.call.injEq] at e1
    rw [e1.2]
 exact SR.call hnd hd hk ho hgd hop e3 henter hcall h1
theorem RW_RV4 {l:List AOper} {vs:List AVal} {a b c d:AVal} {h:Heap} {K:List AVal→Heap→Prop} (w:RV F l 4 vs [d,c,b,a] h K):RW F l vs [a,b,c,d] h K:=by
 unfold RV at w
 exact w
end Go.Abs
namespace Go.Proofs.YthhdkkecolocdaaGreatDoor
open Go Go.Abs Go.Ly
def cList:AFunc:=⟨[0,1,2,3,4,6,7],
 (.seq (.ops [⟨(.var 3),.box 7 true (.v 0),.none⟩,
  ⟨(.var 4),.box 3 true (.v 1),.none⟩,
  ⟨(.var 5),.mov (.c (.sl [] .nil)),.none⟩])
 (.seq (.ops [⟨.tmp,.load 7 true (.v 3),.none⟩,
  ⟨.tmp,.load 3 true (.v 4),.none⟩,
  ⟨.tmp,.mov (.v 2),.none⟩,
  ⟨.tmp,.call (.c (.fn 69 [])) [(.t 0),(.t 1),(.t 2)],.none⟩,
  ⟨(.var 6),.alloc 167 2 true [(.sl [] .nil),.nilmp],.none⟩,
  ⟨.no,.store 2 (.v 6) (.t 3),.none⟩])
 (.seq (.ops [⟨.tmp,.load 2 true (.v 6),.none⟩,
  ⟨.tmp,.faddr 0 (.v 6),.none⟩,
  ⟨.tmp,.load 1 false (.t 1),.none⟩,
  ⟨.tmp,.call (.c (.fn 70 [])) [(.t 0),(.t 2),(.c (.str [])),(.c (.int .i64 0))],.none⟩,
  ⟨(.var 5),.mov (.t 3),.none⟩])
 .ret))),
 [.v 5],[]⟩
theorem bkVL (b:Bk):b.val.cells=bkC b:=rfl
theorem cList_ok:compFunc Tryz.prog hints 34=some cList:=by kernel_rfl
theorem list_shape:(let c:=bodyOf Tryz.prog 34;isSeqC c && isSeqC (seqR c) && isRegF (seqL (seqR c)) && isCallAt (seqL (seqR c)) 3 69)=true:=by kernel_rfl
theorem grow_flags:(hints.iso 69 || hints.chk 69)=false:=by kernel_rfl
def listPost (b:Bk) (L:List Ly.Id) (e:Ly.Id):AExit→List AVal→Heap→Prop:=fun x vs h'=>(x = .normal∨x = .ret)∧resK cList.results vs h' (fun r1 h'=>purify h' r1=some (.sl ((b.list L e).map numdV) (tk (b.list L e))))
theorem list_call (b:Bk) (fit:b.Fit) (L:List Ly.Id) (hL:L.length≤60) {t:Abs.Tok} (ht:Pt t) (e:Ly.Id) (hS:∀ o,SortOk b.key (kidsN b L (coll (b.has e) [] L) o)) :
  CallRelE Tryz.prog hints 34 [b.val,e.val,.sl (L.map Ly.Id.val) t] Heap.empty (.sl ((b.list L e).map numdV) (tk (b.list L e))) Heap.empty:=by
 refine told_of cList_ok fun nt C hC hnd hs hcc=>?_
 have cc:CC Tryz.prog hints 34 nt cList.slots C cList.body:=⟨0,hcc,hs⟩
 have shp:=list_shape
 rw [hC] at shp
 simp only [Bool.and_eq_true] at shp
 obtain ⟨⟨⟨s1,s2⟩,s3⟩,s4⟩:=shp
 have fl:=grow_flags
 simp only [Bool.or_eq_false_iff] at fl
 show SW _ _ _ _ _ _ _ (listPost b L e)
 refine cc.seq mixed table hnd s1 ?_
 dsimp only [cList,hdA,List.map]
 replace fx:=aI @idVL (aI @idL (aI @idA (aI @bkVL (aI @bkL @bkA))))
 first|refine go ?_|exact goC
 show SW _ _ _ _ _ _ _ _
 have c2:=cc.right s1
 refine SW.both s2 ?_
 have c3:=c2.right s2
 obtain ⟨id,e1,e2,e3⟩:=(c2.left s2).reg s3
 rw [e1]
 refine SW.of_SR ?_
 have g0:((Heap.empty.push (.row true 0 true (bkC b))).push (.row true 0 true e.cells)).get 0=some (.row true 0 true (bkC b)):=by rw [get_push_ne (by simp [push_next,empty_next])];exact get_push_eq rfl
 have g1:((Heap.empty.push (.row true 0 true (bkC b))).push (.row true 0 true e.cells)).get 1=some (.row true 0 true e.cells):=get_push_eq (by simp [push_next,empty_next])
 generalize (Heap.empty.push (.row true 0 true (bkC b))).push (.row true 0 true e.cells)=H at g0 g1 ⊢
 refine SR.exec mixed table hnd e2 e3 rfl rfl ?_
 replace fx:=aI @g0 (aI @bkL (aI @bkA (aI @bkT @bk_agg)))
 first|refine go ?_|exact goC
 refine SR.exec mixed table hnd e2 e3 rfl rfl ?_
 replace fx:=aI @g1 (aI @idL (aI @idA (aI @idT @id_agg)))
 first|refine go ?_|exact goC
 refine SR.exec mixed table hnd e2 e3 rfl rfl ?_
 replace fx:=Dum_eq
 first|refine go ?_|exact goC
 refine SR.callC (K:=growK b L e H) hnd e2 e3 s4 fl.1 fl.2 (enters_of Tryz.func69 (by kernel_rfl) rfl) rfl rfl (fun w G cargs hE HR hp=>grow_c b fit L hL ht e H hS hE HR hp) ?_
 rintro r h' ⟨rv,m,rfl,sv,ko,fr⟩
 refine SR.of_rw mixed table hnd e2 e3 rfl (by decide) (RW_RV4 ?_)
 show RV F [⟨(.var 6),.alloc 167 2 true [(.sl [] .nil),.nilmp],.none⟩,⟨.no,.store 2 (.v 6) (.t 3),.none⟩] 4 _ [_,_,_,_] _ _
 have hone:rv.one=true:=by rcases sv with ⟨rfl,_⟩|⟨r,rfl,_⟩<;>rfl
 replace fx:=aI @nmp1 (aI @mpo (aI @mpc @hone))
 first|refine go ?_|exact goC
 show SW _ _ _ _ _ _ _ _
 refine c3.sw mixed table hnd ?_
 dsimp only [cList,tlA]
 have e1:rv.cells=[rv]:=by rcases sv with ⟨rfl,_⟩|⟨r,rfl,_⟩<;>rfl
 replace fx:=aI @nmp1 (aI @mpo (aI @mpc (aI @hone @e1)))
 first|refine go ?_|exact goC
 have f1:Fr (fun _=>False) h' (h'.push (.row true (typed 167) true [rv,.mp m])):=(Fr.refl _ _).push _
 by_cases hz:(b.tree L e).sibs b.key none=[]
 ·have hl:b.list L e=[]:=by
   show (b.tree L e).walk b.key b.ss.length _ []=[]
   rw [hz]
   cases b.ss.length<;>rfl
  rw [hz] at sv
  refine CV_mono (walk0_c m rv hone [] 0 (sv.fr f1)) ?_
  rintro v h1 ⟨rfl,fr⟩
  replace fx:=Dum_eq
  first|refine go ?_|exact goC
  refine ⟨.inr rfl,?_⟩
  show resK [.v 5] _ _ _
  replace fx:=Dum_eq
  first|refine go ?_|exact goC
  rw [hl]
  rfl
 ·have w1:=walk_c b fit L hL e m rv hone b.ss.length none (h'.push (.row true (typed 167) true [rv,.mp m])) rv (by simp) (fun x _=>by omega) (by have:=fit.ss;show 0+_≤_;omega) (by show 0≤0;omega) (ko.fr f1) (sv.fr f1)
  refine CV_mono w1 ?_
  rintro v h1 ⟨tk1,rfl,gr,fr⟩
  replace fx:=Dum_eq
  first|refine go ?_|exact goC
  refine ⟨.inr rfl,?_⟩
  show resK [.v 5] _ _ _
  replace fx:=Dum_eq
  first|refine go ?_|exact goC
  show purify h1 (.sl ((b.list L e).map numdV) tk1)=_
  have hne:b.list L e≠[]:=by
   show (b.tree L e).walk b.key b.ss.length _ []≠[]
   have:=fit.ss1
   obtain ⟨n,hn⟩:∃ n,b.ss.length=n+1:=⟨b.ss.length - 1,by omega⟩
   rw [hn,Tr.walk]
   obtain ⟨x,l,hxl⟩:=List.exists_cons_of_ne_nil hz
   rw [hxl]
   simp [each]
  rcases gr with ⟨q,_⟩|⟨i,rfl,_⟩
  ·exact absurd q hne
  ·have:tk (b.list L e) = .none:=by unfold tk;rw [if_neg (by simpa using hne)]
   rw [this]
   rfl
end Go.Proofs.YthhdkkecolocdaaGreatDoor

namespace Go.Proofs.YthhdkkecolocdaaGreatDoor
open Go Go.Abs Go.Ly
theorem id_inj {x y:Ly.Id} (h:x.val=y.val):x=y:=by
 simp only [Id.val,Id.cells,AVal.agg.injEq,List.cons.injEq,AVal.int.injEq,true_and,and_true] at h
 exact id_ext h.1 h.2.1 h.2.2
theorem numV_inj {a b:Int} (h:numV a=numV b):a=b:=by
 simp only [numV,AVal.agg.injEq,List.cons.injEq,AVal.int.injEq,true_and,and_true] at h
 exact h
theorem glV_inj {a b:Bool} (h:glV a=glV b):a=b:=by
 cases a<;>cases b<;>simp [glV] at h ⊢
theorem sn_inj {a b:Sn} (h:a.val=b.val):a=b:=by
 simp only [Sn.val,Sn.cells,AVal.agg.injEq,List.cons.injEq,AVal.int.injEq,AVal.sl.injEq,true_and,and_true] at h
 obtain ⟨h1,h2,h3,h4,h5,h6,h7,h8,_⟩:=h
 have e1:a.id=b.id:=id_ext h1 h2 h3
 have e2:a.par=b.par:=id_ext h4 h5 h6
 have e3:=glV_inj h7
 have e4:a.ord=b.ord:=List.map_inj_right (fun _ _ q=>numV_inj q) |>.1 h8
 cases a;cases b;simp_all
theorem en_inj {a b:En} (h:a.val=b.val):a=b:=by
 simp only [En.val,En.cells,txtV,AVal.agg.injEq,List.cons.injEq,AVal.int.injEq,AVal.sl.injEq,AVal.str.injEq,true_and,and_true] at h
 obtain ⟨h1,h2,h3,h4⟩:=h
 have e1:a.id=b.id:=id_ext h1 h2 h3
 cases a;cases b;simp_all
theorem bk_inj {a b:Bk} (h:a.val=b.val):a=b:=by
 simp only [Bk.val,bkV,AVal.agg.injEq,List.cons.injEq,AVal.sl.injEq,true_and,and_true] at h
 have e1:a.es=b.es:=List.map_inj_right (fun _ _ q=>en_inj q) |>.1 h.1
 have e2:a.ss=b.ss:=List.map_inj_right (fun _ _ q=>sn_inj q) |>.1 h.2
 cases a;cases b;simp_all
def Small (b:Bk) (L:List Ly.Id):Prop:=∀ e o,SortOk b.key (kidsN b L (coll (b.has e) [] L) o)
theorem list_v (b:Bk) (fit:b.Fit) (L:List Ly.Id) (hL:L.length≤60) (sm:Small b L) {t:Abs.Tok} (ht:Pt t) (e:Ly.Id):PV F 34 [b.val,e.val,.sl (L.map Ly.Id.val) t]=some (.sl ((b.list L e).map numdV) (tk (b.list L e))):=by
 obtain ⟨r',h1,b',L',e',t',h2,h3,h4,h5⟩:=told_is (P:=Tryz.prog) (Hh:=hints) (g:=34) (Spec:=Ly.listSp) (args:=[b.val,e.val,.sl (L.map Ly.Id.val) t]) ⟨b,L,e,t,rfl,ht,fit,rfl⟩ (list_call b fit L hL ht e (sm e))
 simp only [List.cons.injEq,AVal.sl.injEq,and_true] at h2
 obtain ⟨q1,q2,q3,_⟩:=h2
 obtain rfl:=bk_inj q1
 obtain rfl:=id_inj q2
 have q4:L=L':=List.map_inj_right (fun _ _ q=>id_inj q) |>.1 q3
 subst q4
 subst h5
 exact PV_of (gives_hand rfl h1) (purify_pt (tk_pt _))
theorem small_of {b:Bk} (fit:b.Fit) (h:b.ss.length≤12) (L:List Ly.Id):Small b L:=by
 intro e o g cap r I cm H hI hr
 have nd:(coll (b.has e) [] L).Nodup:=nodup_coll List.nodup_nil
 have nk:(kidsN b L (coll (b.has e) [] L) o).Nodup:=nd.filter _
 refine sort_c cm _ (b.key_tot _) nk ?_ hI hr
 have h1:=kidsN_len b L (coll (b.has e) [] L) o
 have h2:=nd.length_le_of_subset (l₂:=b.ss.map Sn.id) fun x hx=>by
  rw [mem_coll] at hx
  rcases hx with hx|⟨_,hx⟩
  ·simp at hx
  ·obtain ⟨s,hs⟩:=has_some hx
   obtain ⟨q1,q2⟩:=sense_id hs
   exact List.mem_map.2 ⟨s,q2,q1⟩
 rw [List.length_map] at h2
 omega
theorem nmId (x:Ly.Id×List Nat):List.take 3 (numdV x).cells=x.1.cells:=rfl
theorem nmA (x:Ly.Id×List Nat):(numdV x).cells.all AVal.one=true:=rfl
theorem nmS0 (x:Ly.Id×List Nat):setCells [.int .i64 0,.int .i64 0,.int .i64 0,.str []] 0 (numdV x).cells=(numdV x).cells:=rfl
theorem nmT (x:Ly.Id×List Nat):List.take 4 (numdV x).cells=(numdV x).cells:=rfl
end Go.Proofs.YthhdkkecolocdaaGreatDoor
