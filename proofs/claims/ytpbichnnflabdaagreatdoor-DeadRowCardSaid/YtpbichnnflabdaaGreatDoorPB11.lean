/- The card of DeadRow: whatever comes in, DeadRow answers true, and what came in reads as it did. -/
import Derived.Test.YtpbichnnflabdaaGreatDoorPB10
set_option linter.all false
section
namespace Go.aa
open Go
theorem pP{a b:List Int}:∀(i:Nat),i≤a.length→i≤b.length→a.take i=b.take i→cmpL a b=cmpL (a.drop i) (b.drop i):=by
 intro i ha hb h;conv=>lhs;rw[←List.take_append_drop i a,←List.take_append_drop i b,h]
 exact nX _ _ _
theorem Ik{a b:List Int}{i:Nat}(ha:i<a.length)(hb:i<b.length)(h:a.take i=b.take i):cmpL a b=if a[i]<b[i] then -1 else if b[i]<a[i] then 1 else cmpL (a.drop (i+1)) (b.drop (i+1)):=by
 rw[pP i (by omega) (by omega) h,List.drop_eq_getElem_cons ha,List.drop_eq_getElem_cons hb];rfl
theorem Iz{a b:List Int}{i:Nat}(ha:i<a.length)(hb:i<b.length)(h:a.take i=b.take i)(hc:jR a[i] b[i]≠0):jR a[i] b[i]=cmpL a b:=by
 rw[Ik ha hb h];unfold jR at hc ⊢
 split
 ·rfl
 split
 ·rfl
 ·rw[if_neg (by assumption),if_neg (by assumption)] at hc;exact absurd rfl hc
theorem D4{a b:List Int}{i:Nat}(ha:i<a.length)(hb:i<b.length)(h:a.take i=b.take i)(hc:jR a[i] b[i]=0):a.take (i+1)=b.take (i+1):=by
 rw[List.take_succ_eq_append_getElem ha,List.take_succ_eq_append_getElem hb,h,lH.1 hc]
theorem Dv{a b:List Int}(h:a.take b.length=b)(hl:b.length<a.length):1=cmpL a b:=by
 rw[pP b.length (by omega) (Nat.le_refl _) (by rw[h,List.take_length]),List.drop_length,List.drop_eq_getElem_cons hl];rfl
theorem E7{a b:List Int}(h:a=b.take a.length)(hl:a.length≤b.length):cmpL a b=if a.length<b.length then -1 else 0:=by
 rw[pP a.length (Nat.le_refl _) hl (by rw[List.take_length];exact h),List.drop_length]
 by_cases q:a.length<b.length
 ·rw[if_pos q,List.drop_eq_getElem_cons q];rfl
 ·rw[if_neg q,List.drop_eq_nil_of_le (by omega)];rfl
end Go.aa
namespace Go.Km
open Go Go.Vc Go.Proofs Go.aa Go.Proofs.YtpbichnnflabdaaGreatDoor
set_option maxRecDepth 100000
set_option maxHeartbeats 0
abbrev qQ(s:Sto):List F:=[byF s.pass,byF s.way,inF s.r,isF s.p,inF s.at_]
instance(a:Int):C 128 [inF a] (boF false) true True:=⟨fun _=>by
 refine kf rfl rfl ?_;repeat' first|exact k9|refine k2 ?_|apply kA|apply kI;intro hc|refine k8 ?_|apply kL;intro hl
 exact ao.b (by rw[cC];simp) rfl⟩
instance(a b:Int):C 99 [inF a,inF b] (inF (jR a b)) true True:=⟨fun _=>by
 refine kf rfl rfl ?_;repeat' first|exact k9|refine k2 ?_|apply kA|apply kI;intro hc|refine k8 ?_|apply kL;intro hl
 all_goals exact ao.n (by unfold jR;repeat (first|rw[if_pos (by omega)]|rw[if_neg (by omega)])) rfl⟩
instance(a b:List Int):C 100 [isF a,isF b] (inF (cmpL a b)) true (a.length≤1000000∧b.length≤1000000):=⟨fun ⟨ha,hb⟩=>by
 refine kf rfl rfl ?_;repeat' first|exact k9|refine k2 ?_|apply kA|apply kI;intro hc|refine k8 ?_|apply kL;intro hl
 apply kCt [0,1,9,10,11] [];conv=>whnf
 refine Lp.ind (fun x:Nat=>a.length - x) (fun x=>x≤a.length∧x≤b.length∧a.take x=b.take x) (fun x=>[(11,InD x)]) (fun _=>[]) (fun _=>_) 0 ⟨Nat.zero_le _,Nat.zero_le _,by simp⟩ rfl rfl rfl ?_
 rintro G x ih ⟨hx,hxb,he⟩
 by_cases h:x<a.length
 ·by_cases h2:x<b.length
  ·repeat' first|exact k9|refine k2 ?_|apply kA|apply kI;intro hc|refine k8 ?_|apply kL;intro hl
   ·apply kCt [0,1,9,10,11] [];conv=>whnf
    exact ih (x+1) _ _ _ (by omega) ⟨by omega,by omega,D4 h h2 he (by assumption)⟩ rfl rfl rfl
   ·exact ao.n (Iz h h2 he (by assumption)) rfl
  ·obtain rfl:x=b.length:=by omega
   repeat' first|exact k9|refine k2 ?_|apply kA|apply kI;intro hc|refine k8 ?_|apply kL;intro hl
   exact ao.n (Dv (by rw[he,List.take_length]) h) rfl
 ·obtain rfl:x=a.length:=by omega
  have hz:=E7 (a:=a) (b:=b) (by rw[←he,List.take_length]) hxb
  repeat' first|exact k9|refine k2 ?_|apply kA|apply kI;intro hc|refine k8 ?_|apply kL;intro hl
  ·exact ao.n (by rw[hz,if_pos (by omega)]) rfl
  ·exact ao.n (by rw[hz,if_neg (by omega)]) rfl⟩
instance(r r':Int)(p p':List Int):C 52 [.ag [inF r,isF p],.ag [inF r',isF p']] (inF (mb r p r' p')) true (p.length≤1000000∧p'.length≤1000000):=⟨fun ⟨hp,hp'⟩=>by
 have hpp:p.length≤1000000∧p'.length≤1000000:=⟨hp,hp'⟩
 refine kf rfl rfl ?_;repeat' first|exact k9|refine k2 ?_|apply kA|apply kI;intro hc|refine k8 ?_|apply kL;intro hl
 ·exact ao.n (by unfold mb;rw[if_neg (by omega)]) rfl
 ·exact ao.n (by unfold mb;rw[if_pos (by assumption)]) rfl⟩
end Go.Km
end
section
namespace Go.aa
open Go Go.Km
theorem gZ{α β:Type}{f:α→List β}(c:Nat):∀(l:List α),(∀a∈l,(f a).length≤c)→(l.flatMap f).length≤l.length * c
 | [],_=>by simp
 | a :: l,h=>by
  have h1:=gZ c l (fun b hb=>h b (by simp[hb]));have h2:=h a (by simp);rw[List.flatMap_cons,List.length_append,List.length_cons,Nat.add_mul];omega
theorem rj{g:List Dfn}(h:cS g=0){x:Int×List Int}(hx:x∈jv g):(aB g x.1 x.2).2=true∧x.2.length≤2000:=by
 refine⟨(s9 h x.1 x.2).1 hx,?_⟩;rw[jv,if_pos h,List.mem_flatMap] at hx;obtain⟨⟨d,i⟩,hd,hp⟩:=hx;obtain⟨q,hq,rfl⟩:=List.mem_map.1 hp;have:=qn _ _ _ _ hq;have hd':d∈g:=List.fst_mem_of_mem_zipIdx hd;have:=(fa h).small hd';simp only[List.length_nil,Nat.zero_add] at *;omega
end Go.aa
namespace Go.Km
open Go Go.Vc Go.Proofs Go.aa Go.Proofs.YtpbichnnflabdaaGreatDoor
set_option maxRecDepth 100000
set_option maxHeartbeats 0
end Go.Km
end
section
namespace Go.aa
open Go Go.Km
def dL(g:List Dfn)(x:Int×List Int)(k:Nat):List Sto:=if k=0 then [] else ((List.range (gB g x)).filter fun (a:Nat)=>okD k g x.1 x.2 (a:Int)).map fun (a:Nat)=>⟨2,(k:Int),x.1,x.2,(a:Int)⟩
theorem s7(g:List Dfn)(x:Int×List Int):gI g x=(List.range 4).flatMap (dL g x):=rfl
def fL(g:List Dfn)(x:Int×List Int)(k a:Nat):List Sto:=((List.range a).filter fun (a:Nat)=>okD k g x.1 x.2 (a:Int)).map fun (a:Nat)=>⟨2,(k:Int),x.1,x.2,(a:Int)⟩
theorem tq(g:List Dfn)(x:Int×List Int)(k:Nat):fL g x k 0=[]:=rfl
theorem jZ(g:List Dfn)(x:Int×List Int)(k a:Nat):fL g x k (a+1)=fL g x k a++(if okD k g x.1 x.2 (a:Int)=true then [⟨2,(k:Int),x.1,x.2,(a:Int)⟩] else []):=by
 unfold fL;rw[List.range_succ,List.filter_append,List.map_append]
 congr 1
 cases h:okD k g x.1 x.2 (a:Int)<;>simp[h]
theorem gu(g:List Dfn)(x:Int×List Int)(k a:Nat):(fL g x k a).length≤a:=by
 unfold fL;rw[List.length_map];have:=List.length_filter_le (fun (a:Nat)=>okD k g x.1 x.2 (a:Int)) (List.range a)
 rwa [List.length_range] at this
structure AtD(g:List Dfn)(x:Int×List Int)(q:Nat):Prop where
 lt:q<g.length
 r:x.1=(q:Int)
 num:(iB (gS g x.1).nodes (gS g x.1).root x.2).2=true
 rng:0≤(jl g x.1 x.2).1∧(jl g x.1 x.2).1<(gS g x.1).nodes.length
 kids:(aQ (aB g x.1 x.2).1).length=gB g x
theorem je{g:List Dfn}{q:Nat}(h:q<g.length):gS g (q:Int)=g[q].body:=by
 rw[gS,Int.toNat_natCast,List.getD_eq_getElem?_getD,List.getElem?_eq_getElem h,Option.getD_some]
theorem KP{g:List Dfn}(hm:cS g=0){x:Int×List Int}(h:(aB g x.1 x.2).2=true):∃q,AtD g x q:=by
 obtain⟨q,hq,e1,e2⟩:=uy h;have hR:=(fa hm).right (List.getElem_mem hq);rw[e2] at h;obtain⟨k1,k2,k3,k4,k5⟩:=IZ hR h;refine⟨q,hq,e1,?_,?_,?_⟩
 ·rw[e1,je hq];exact k2
 ·rw[jl,e1,je hq];exact k3
 ·rw[e2,k5,gB,jl,e1,je hq]
theorem ph{g:List Dfn}(hw:∀d∈g,d.wf∧d.body.nodes.length≤20000){x:Int×List Int}{q:Nat}(h:AtD g x q):gB g x≤20000:=by
 have:=(iK (aB g x.1 x.2).1).2;have:=(iQ (r:=x.1) (p:=x.2) hw).2;rw[←h.kids];omega
end Go.aa
namespace Go.Km
open Go Go.Vc Go.Proofs Go.aa Go.Proofs.YtpbichnnflabdaaGreatDoor
set_option maxRecDepth 100000
set_option maxHeartbeats 0
instance(g:List Dfn):C 46 [cg g] (.cl 89 [.pt 1 [[.sl (g.map ti)]] 0 0]) false True:=⟨fun _=>by
 refine kf rfl rfl ?_;repeat' first|exact k9|refine k2 ?_|apply kA|apply kI;intro hc|(apply Sn.go hX;conv=>whnf)|refine k8 ?_|apply kL;intro hl
 exact ao.i rfl⟩
instance(g:List Dfn):C 22 [cg g] (.sl ((aN g).map qQ)) false (g.length≤1000∧∀d∈g,d.wf):=⟨fun ⟨hn,hw⟩=>by
 have hX:=qs [51,98] [];have hp:g.length≤1000∧∀d∈g,d.wf:=⟨hn,hw⟩
 by_cases hc0:bC g=0
 ·have ok:=fa (en hc0);have hm:=en hc0;have hpm:(g.length≤1000∧∀d∈g,d.wf)∧cS g=0:=⟨hp,hm⟩
  have hall:g.length≤1000∧(∀d∈g,d.wf)∧(cS g=0→∀d∈g,ay d.body∧d.body.nodes.length≤2000):=⟨hn,hw,fun _ d hd=>⟨ok.right hd,by have:=ok.small hd;omega⟩⟩
  have hsm:∀d∈g,d.wf∧d.body.nodes.length≤20000:=fun d hd=>⟨hw d hd,by have:=ok.small hd;omega⟩
  rw[show aN g=(jv g).flatMap (gI g) from by rw[aN,if_pos hc0]];obtain⟨al,hal⟩:=exEq (jv g);have hAt:∀y∈al,∃q,AtD g y q:=fun y hy=>KP hm (rj hm (by rw[←hal];exact hy)).1
  have hWl:∀y∈al,∀k,(dL g y k).length≤20000:=fun y hy k=>by
   obtain⟨q,hq⟩:=hAt y hy;unfold dL
   split
   ·exact Nat.zero_le _
   ·exact Nat.le_trans (gu g y k (gB g y)) (ph hsm hq)
  have hAl:∀y∈al,(gI g y).length≤80000:=fun y hy=>by
   have:=gZ (f:=dL g y) 20000 (List.range 4) (fun k _=>hWl y hy k);rw[List.length_range] at this;rw[s7];omega
  have hll:al.length≤2000000:=by
   rw[hal,pQ g hm];exact Nat.le_trans (ln g.length (Nat.le_refl _) fun d hd=>Nat.le_trans (oP (ok.right hd)) (by have:=ok.small hd;omega)) (by omega)
  refine fC hX rfl rfl ?_;repeat' first|exact k9|refine k2 ?_|apply kA|apply kI;intro hc|(apply Sn.go hX;conv=>whnf)|refine k8 ?_|apply kL;intro hl
  refine Stp.AK 9 47 32 5 rfl rfl ?_;apply kCt [0,1,3,5,25,26,27] [2,3,7];conv=>whnf
  rw[←hal];refine Lp.ind (fun x:Nat=>al.length - x) (fun x=>x≤al.length) (fun x=>[(27,InD x)]) (fun x=>[(3,.ro 0 32 5 (((al.take x).flatMap (gI g)).map qQ))]) (fun _=>_) 0 (Nat.zero_le _) rfl rfl rfl ?_
  rintro G x ih hx
  by_cases hxl:x<al.length
  ·obtain⟨q,hq⟩:=hAt _ (List.getElem_mem hxl);obtain⟨P,hP⟩:=exEq (al[x].2);have hxe:al[x]=((q:Int),P):=by rw[hP,←hq.r]
   have hxi:∀h:x<al.length,al[x]'h=((q:Int),P):=fun _=>hxe
   have hmem:((q:Int),P)∈jv g:=by rw[←hxe,←hal];exact List.getElem_mem hxl
   obtain⟨hpf,hpn⟩:=rj hm hmem;dsimp only at hpf hpn;rw[hxe] at hq;have hql:=hq.lt;obtain⟨d,hd⟩:=exEq (g[q]);have hgi:∀h:((q:Nat):Int).toNat<g.length,g[((q:Nat):Int).toNat]'h=d:=fun _=>hd.symm
   have hbd:gS g (q:Int)=d.body:=by rw[je hql,hd]
   have hnum:jl g (q:Int) P=iB d.body.nodes d.body.root P:=by rw[jl,hbd]
   have hdm:d∈g:=by rw[hd];exact List.getElem_mem hql
   have hdw:=(hw _ hdm).body;have hdR:=ok.right hdm;have hpn1:d.body.wf∧ay d.body∧P.length≤1000000:=⟨hdw,hdR,by omega⟩
   apply Sn.go hX;repeat' first|exact k9|refine k2 ?_|apply kA|apply kI;intro hc|apply kL;intro hl|(apply Sn.go hX;conv=>whnf)|((simp only[hxi])<;>conv=>whnf)|((simp only[hgi])<;>conv=>whnf)|refine k8 ?_|fail
   obtain⟨N,hN⟩:=exEq (iB d.body.nodes d.body.root P);rw[←hN];obtain⟨nq,hnq⟩:∃nq:Nat,N.1=nq:=⟨N.1.toNat,by have:=hq.rng.1;rw[hnum,←hN] at this;omega⟩
   apply kCt [0,1,3,5,7,8,9,11,25,26,27] [2,3,7];conv=>whnf
   obtain⟨acc,hacc⟩:=exEq ((al.take x).flatMap (gI g));rw[←hacc,hnq];have hacl:acc.length≤160000000000:=by
    have:=gZ 80000 (al.take x) (fun y hy=>hAl y (List.mem_of_mem_take hy));rw[←hacc,List.length_take] at this;have:min x al.length * 80000≤2000000 * 80000:=Nat.mul_le_mul_right _ (by omega);omega
   have hnl:nq<d.body.nodes.length:=by have:=hq.rng.2;rw[hnum,hbd,←hN,hnq] at this;omega
   have hseat:gB g ((q:Int),P)=d.body.nodes[nq].kids.length:=by
    show(ae (gS g (q:Int)).nodes (jl g (q:Int) P).1).length=_
    rw[hbd,hnum,←hN,hnq,←aH (List.getElem?_eq_getElem hnl)]
   have hsl0:=ph hsm hq;rw[hseat] at hsl0;obtain⟨fl,hfl⟩:=exEq (aI g (cG g) d.body.nodes);have hfll:fl.length=d.body.nodes.length:=by rw[hfl,bI]
   have hfi:∀h:((q:Nat):Int).toNat<(bf g).length,(bf g)[((q:Nat):Int).toNat]'h=fl:=fun h=>by
    simp only[Int.toNat_natCast,bf,List.getElem_map,hfl,hd]
   have hfi2:∀h:q<(bf g).length,(bf g)[q]'h=fl:=fun h=>by
    simp only[bf,List.getElem_map,hfl,hd]
   have hfal:(bf g).length=g.length:=by simp[bf]
   have hokD:∀k a:Nat,Go.aa.okD k g (q:Int) P (a:Int)=(bu k d.body.nodes fl (nq:Int) (a:Int)&&(cW k g (q:Int) P (a:Int)).2):=fun k a=>by
    unfold Go.aa.okD;rw[hbd,hnum,←hN,hnq,List.getD_eq_getElem?_getD,List.getElem?_eq_getElem (by rw[hfal];exact hql),hfi];rfl
   have hhp:d.body.wf∧ay d.body∧fl.length=d.body.nodes.length∧0≤(nq:Int)∧(nq:Int)<d.body.nodes.length:=⟨hdw,hdR,hfll,by omega,by omega⟩
   have hgp:∀d∈g,d.wf∧0<d.body.nodes.length∧d.body.nodes.length≤20000:=fun d hd=>⟨hw d hd,by have:=(ok.right hd).root;omega,by have:=ok.small hd;omega⟩
   have hmal:((q:Int),P)∈al:=by rw[←hxe];exact List.getElem_mem hxl
   have hplen:P.length≤1000000:=by omega
   refine Lp.ind (fun w:Nat=>4 - w) (fun w=>1≤w∧w≤4) (fun w=>[(11,InD w)]) (fun w=>[(3,.ro 0 32 5 ((acc++(List.range w).flatMap (dL g ((q:Int),P))).map qQ))]) (fun _=>_) 1 (by omega) rfl rfl (by rw[show(List.range 1).flatMap (dL g ((q:Int),P))=[] from rfl,List.append_nil];rfl) ?_
   rintro G2 w ih2 hw7
   by_cases hwl:w<4
   ·have hwc:w=1∨w=2∨w=3:=by omega
    rcases hwc with rfl|rfl|rfl
    ·have hrl:=gZ (f:=dL g ((q:Int),P)) 20000 (List.range 1) (fun k _=>hWl _ hmal k);rw[List.length_range] at hrl;have hnext:acc++(List.range (1+1)).flatMap (dL g ((q:Int),P))=acc++(List.range 1).flatMap (dL g ((q:Int),P))++fL g ((q:Int),P) 1 d.body.nodes[nq].kids.length:=by
      rw[List.range_succ,List.flatMap_append,List.flatMap_singleton,List.append_assoc,←hseat];rfl
     apply Sn.go hX;repeat' first|exact k9|refine k2 ?_|apply kA|apply kI;intro hc|(apply Sn.go hX;conv=>whnf)|refine k8 ?_|apply kL;intro hl
     apply kCt [0,1,3,5,7,8,9,11,25,26,27,55,56] [2,3,7];conv=>whnf
     refine Lp.ind (fun a:Nat=>d.body.nodes[nq].kids.length - a) (fun a=>a≤d.body.nodes[nq].kids.length) (fun a=>[(56,InD a)]) (fun a=>[(3,.ro 0 32 5 ((acc++(List.range 1).flatMap (dL g ((q:Int),P))++fL g ((q:Int),P) 1 a).map qQ))]) (fun _=>_) 0 (Nat.zero_le _) rfl rfl (by rw[tq,List.append_nil];rfl) ?_
     rintro G3 a ih3 ha
     by_cases hal3:a<d.body.nodes[nq].kids.length
     ·have hsucc:=jZ g ((q:Int),P) 1 a;have hsl:=gu g ((q:Int),P) 1 a;have hok:Go.aa.okD 1 g (q:Int) P (a:Int)=(bu 1 d.body.nodes fl (nq:Int) (a:Int)&&(cW 1 g (q:Int) P (a:Int)).2):=hokD 1 a;rw[hok] at hsucc;have hpp:jr g (q:Int) P (a:Int):=⟨⟨hn,hgp,by omega⟩,hpf,by omega,by rw[hq.kids,hseat];omega⟩
      cases hh:bu 1 d.body.nodes fl (nq:Int) (a:Int) with
      | true=>
       cases hpu:(cW 1 g (q:Int) P (a:Int)).2 with
       | true=>
        rw[hh,hpu,Bool.and_self,if_pos rfl] at hsucc;apply Sn.go hX;repeat' first|exact k9|refine k2 ?_|apply kA|apply kI;intro hc|apply kL;intro hl|(apply Sn.go hX;conv=>whnf)|((simp only[hfi2])<;>conv=>whnf)|refine k8 ?_|fail
        apply kCt [0,1,3,5,7,8,9,11,25,26,27,55,56] [2,3,7];conv=>whnf
        exact ih3 (a+1) _ _ _ (by omega) (by omega) rfl rfl (by rw[hsucc,←List.append_assoc,List.map_append (l₂:=[_])];rfl)
       | false=>
        rw[hh,hpu,Bool.and_false,if_neg (by decide),List.append_nil] at hsucc;apply Sn.go hX;repeat' first|exact k9|refine k2 ?_|apply kA|apply kI;intro hc|apply kL;intro hl|(apply Sn.go hX;conv=>whnf)|((simp only[hfi2])<;>conv=>whnf)|refine k8 ?_|fail
        apply kCt [0,1,3,5,7,8,9,11,25,26,27,55,56] [2,3,7];conv=>whnf
        exact ih3 (a+1) _ _ _ (by omega) (by omega) rfl rfl (by rw[hsucc];rfl)
      | false=>
       rw[hh,Bool.false_and,if_neg (by decide),List.append_nil] at hsucc;apply Sn.go hX;repeat' first|exact k9|refine k2 ?_|apply kA|apply kI;intro hc|apply kL;intro hl|(apply Sn.go hX;conv=>whnf)|((simp only[hfi2])<;>conv=>whnf)|refine k8 ?_|fail
       apply kCt [0,1,3,5,7,8,9,11,25,26,27,55,56] [2,3,7];conv=>whnf
       exact ih3 (a+1) _ _ _ (by omega) (by omega) rfl rfl (by rw[hsucc];rfl)
     ·obtain rfl:a=d.body.nodes[nq].kids.length:=by omega
      apply Sn.go hX;repeat' first|exact k9|refine k2 ?_|apply kA|apply kI;intro hc|(apply Sn.go hX;conv=>whnf)|refine k8 ?_|apply kL;intro hl
      apply kCt [0,1,3,5,7,8,9,11,25,26,27] [2,3,7];conv=>whnf
      exact ih2 (1+1) _ _ _ (by omega) (by omega) rfl rfl (by rw[hnext];rfl)
    ·have hrl:=gZ (f:=dL g ((q:Int),P)) 20000 (List.range 2) (fun k _=>hWl _ hmal k);rw[List.length_range] at hrl;have hnext:acc++(List.range (2+1)).flatMap (dL g ((q:Int),P))=acc++(List.range 2).flatMap (dL g ((q:Int),P))++fL g ((q:Int),P) 2 d.body.nodes[nq].kids.length:=by
      rw[List.range_succ,List.flatMap_append,List.flatMap_singleton,List.append_assoc,←hseat];rfl
     apply Sn.go hX;repeat' first|exact k9|refine k2 ?_|apply kA|apply kI;intro hc|(apply Sn.go hX;conv=>whnf)|refine k8 ?_|apply kL;intro hl
     apply kCt [0,1,3,5,7,8,9,11,25,26,27,55,56] [2,3,7];conv=>whnf
     refine Lp.ind (fun a:Nat=>d.body.nodes[nq].kids.length - a) (fun a=>a≤d.body.nodes[nq].kids.length) (fun a=>[(56,InD a)]) (fun a=>[(3,.ro 0 32 5 ((acc++(List.range 2).flatMap (dL g ((q:Int),P))++fL g ((q:Int),P) 2 a).map qQ))]) (fun _=>_) 0 (Nat.zero_le _) rfl rfl (by rw[tq,List.append_nil];rfl) ?_
     rintro G3 a ih3 ha
     by_cases hal3:a<d.body.nodes[nq].kids.length
     ·have hsucc:=jZ g ((q:Int),P) 2 a;have hsl:=gu g ((q:Int),P) 2 a;have hok:Go.aa.okD 2 g (q:Int) P (a:Int)=(bu 2 d.body.nodes fl (nq:Int) (a:Int)&&(cW 2 g (q:Int) P (a:Int)).2):=hokD 2 a;rw[hok] at hsucc;have hpp:jr g (q:Int) P (a:Int):=⟨⟨hn,hgp,by omega⟩,hpf,by omega,by rw[hq.kids,hseat];omega⟩
      cases hh:bu 2 d.body.nodes fl (nq:Int) (a:Int) with
      | true=>
       cases hpu:(cW 2 g (q:Int) P (a:Int)).2 with
       | true=>
        rw[hh,hpu,Bool.and_self,if_pos rfl] at hsucc;apply Sn.go hX;repeat' first|exact k9|refine k2 ?_|apply kA|apply kI;intro hc|apply kL;intro hl|(apply Sn.go hX;conv=>whnf)|((simp only[hfi2])<;>conv=>whnf)|refine k8 ?_|fail
        apply kCt [0,1,3,5,7,8,9,11,25,26,27,55,56] [2,3,7];conv=>whnf
        exact ih3 (a+1) _ _ _ (by omega) (by omega) rfl rfl (by rw[hsucc,←List.append_assoc,List.map_append (l₂:=[_])];rfl)
       | false=>
        rw[hh,hpu,Bool.and_false,if_neg (by decide),List.append_nil] at hsucc;apply Sn.go hX;repeat' first|exact k9|refine k2 ?_|apply kA|apply kI;intro hc|apply kL;intro hl|(apply Sn.go hX;conv=>whnf)|((simp only[hfi2])<;>conv=>whnf)|refine k8 ?_|fail
        apply kCt [0,1,3,5,7,8,9,11,25,26,27,55,56] [2,3,7];conv=>whnf
        exact ih3 (a+1) _ _ _ (by omega) (by omega) rfl rfl (by rw[hsucc];rfl)
      | false=>
       rw[hh,Bool.false_and,if_neg (by decide),List.append_nil] at hsucc;apply Sn.go hX;repeat' first|exact k9|refine k2 ?_|apply kA|apply kI;intro hc|apply kL;intro hl|(apply Sn.go hX;conv=>whnf)|((simp only[hfi2])<;>conv=>whnf)|refine k8 ?_|fail
       apply kCt [0,1,3,5,7,8,9,11,25,26,27,55,56] [2,3,7];conv=>whnf
       exact ih3 (a+1) _ _ _ (by omega) (by omega) rfl rfl (by rw[hsucc];rfl)
     ·obtain rfl:a=d.body.nodes[nq].kids.length:=by omega
      apply Sn.go hX;repeat' first|exact k9|refine k2 ?_|apply kA|apply kI;intro hc|(apply Sn.go hX;conv=>whnf)|refine k8 ?_|apply kL;intro hl
      apply kCt [0,1,3,5,7,8,9,11,25,26,27] [2,3,7];conv=>whnf
      exact ih2 (2+1) _ _ _ (by omega) (by omega) rfl rfl (by rw[hnext];rfl)
    ·have hrl:=gZ (f:=dL g ((q:Int),P)) 20000 (List.range 3) (fun k _=>hWl _ hmal k);rw[List.length_range] at hrl;have hnext:acc++(List.range (3+1)).flatMap (dL g ((q:Int),P))=acc++(List.range 3).flatMap (dL g ((q:Int),P))++fL g ((q:Int),P) 3 d.body.nodes[nq].kids.length:=by
      rw[List.range_succ,List.flatMap_append,List.flatMap_singleton,List.append_assoc,←hseat];rfl
     apply Sn.go hX;repeat' first|exact k9|refine k2 ?_|apply kA|apply kI;intro hc|(apply Sn.go hX;conv=>whnf)|refine k8 ?_|apply kL;intro hl
     apply kCt [0,1,3,5,7,8,9,11,25,26,27,55,56] [2,3,7];conv=>whnf
     refine Lp.ind (fun a:Nat=>d.body.nodes[nq].kids.length - a) (fun a=>a≤d.body.nodes[nq].kids.length) (fun a=>[(56,InD a)]) (fun a=>[(3,.ro 0 32 5 ((acc++(List.range 3).flatMap (dL g ((q:Int),P))++fL g ((q:Int),P) 3 a).map qQ))]) (fun _=>_) 0 (Nat.zero_le _) rfl rfl (by rw[tq,List.append_nil];rfl) ?_
     rintro G3 a ih3 ha
     by_cases hal3:a<d.body.nodes[nq].kids.length
     ·have hsucc:=jZ g ((q:Int),P) 3 a;have hsl:=gu g ((q:Int),P) 3 a;have hok:Go.aa.okD 3 g (q:Int) P (a:Int)=(bu 3 d.body.nodes fl (nq:Int) (a:Int)&&(cW 3 g (q:Int) P (a:Int)).2):=hokD 3 a;rw[hok] at hsucc;have hpp:jr g (q:Int) P (a:Int):=⟨⟨hn,hgp,by omega⟩,hpf,by omega,by rw[hq.kids,hseat];omega⟩
      cases hh:bu 3 d.body.nodes fl (nq:Int) (a:Int) with
      | true=>
       cases hpu:(cW 3 g (q:Int) P (a:Int)).2 with
       | true=>
        rw[hh,hpu,Bool.and_self,if_pos rfl] at hsucc;apply Sn.go hX;repeat' first|exact k9|refine k2 ?_|apply kA|apply kI;intro hc|apply kL;intro hl|(apply Sn.go hX;conv=>whnf)|((simp only[hfi2])<;>conv=>whnf)|refine k8 ?_|fail
        apply kCt [0,1,3,5,7,8,9,11,25,26,27,55,56] [2,3,7];conv=>whnf
        exact ih3 (a+1) _ _ _ (by omega) (by omega) rfl rfl (by rw[hsucc,←List.append_assoc,List.map_append (l₂:=[_])];rfl)
       | false=>
        rw[hh,hpu,Bool.and_false,if_neg (by decide),List.append_nil] at hsucc;apply Sn.go hX;repeat' first|exact k9|refine k2 ?_|apply kA|apply kI;intro hc|apply kL;intro hl|(apply Sn.go hX;conv=>whnf)|((simp only[hfi2])<;>conv=>whnf)|refine k8 ?_|fail
        apply kCt [0,1,3,5,7,8,9,11,25,26,27,55,56] [2,3,7];conv=>whnf
        exact ih3 (a+1) _ _ _ (by omega) (by omega) rfl rfl (by rw[hsucc];rfl)
      | false=>
       rw[hh,Bool.false_and,if_neg (by decide),List.append_nil] at hsucc;apply Sn.go hX;repeat' first|exact k9|refine k2 ?_|apply kA|apply kI;intro hc|apply kL;intro hl|(apply Sn.go hX;conv=>whnf)|((simp only[hfi2])<;>conv=>whnf)|refine k8 ?_|fail
       apply kCt [0,1,3,5,7,8,9,11,25,26,27,55,56] [2,3,7];conv=>whnf
       exact ih3 (a+1) _ _ _ (by omega) (by omega) rfl rfl (by rw[hsucc];rfl)
     ·obtain rfl:a=d.body.nodes[nq].kids.length:=by omega
      apply Sn.go hX;repeat' first|exact k9|refine k2 ?_|apply kA|apply kI;intro hc|(apply Sn.go hX;conv=>whnf)|refine k8 ?_|apply kL;intro hl
      apply kCt [0,1,3,5,7,8,9,11,25,26,27] [2,3,7];conv=>whnf
      exact ih2 (3+1) _ _ _ (by omega) (by omega) rfl rfl (by rw[hnext];rfl)
   ·obtain rfl:w=4:=by omega
    have htk:(al.take (x+1)).flatMap (gI g)=acc++(List.range 4).flatMap (dL g ((q:Int),P)):=by
     rw[List.take_succ_eq_append_getElem hxl,List.flatMap_append,List.flatMap_singleton,←hacc,s7,hxe]
    apply Sn.go hX;repeat' first|exact k9|refine k2 ?_|apply kA|apply kI;intro hc|(apply Sn.go hX;conv=>whnf)|refine k8 ?_|apply kL;intro hl
    apply kCt [0,1,3,5,25,26,27] [2,3,7];conv=>whnf
    exact ih (x+1) _ _ _ (by omega) (by omega) rfl rfl (by rw[htk];rfl)
  ·obtain rfl:x=al.length:=by omega
   rw[List.take_length] at *;apply Sn.go hX;repeat' first|exact k9|refine k2 ?_|apply kA|apply kI;intro hc|(apply Sn.go hX;conv=>whnf)|refine k8 ?_|apply kL;intro hl
 ·rw[show aN g=[] from by rw[aN,if_neg hc0]];refine kf rfl rfl ?_;repeat' first|exact k9|refine k2 ?_|apply kA|apply kI;intro hc|(apply Sn.go hX;conv=>whnf)|refine k8 ?_|apply kL;intro hl
  exact ao.i rfl⟩
end Go.Km
end
section
namespace Go.aa
open Go Go.Km
theorem E1{g:List Dfn}(hm:cS g=0){q:Nat}(hq:q<g.length){p:List Int}(h:(jl g (q:Int) p).2=true):(aB g (q:Int) p).2=true:=by
 have hR:=(fa hm).right (List.getElem_mem hq);rw[jl,je hq,(lZ _ _ _).1] at h;unfold aB;rw[dif_pos ⟨by omega,by omega⟩];simp only[Int.toNat_natCast];unfold eN;rw[if_pos hR.right]
 split
 ·rfl
 ·rename_i hd;rw[hd] at h;cases h
theorem my{k:Nat}{ns:List Nod}{l:List Fl}{n at_:Int}(h:bu k ns l n at_=true):0≤at_∧at_<(ae ns n).length:=by
 unfold bu at h;simp only[Bool.and_eq_true,decide_eq_true_eq] at h;exact h.1.2
theorem ef{g:List Dfn}{pass way r:Int}{p:List Int}{at_:Int}(hc:bC g=0)(h:pass≠2∨way<1∨4≤way∨r<0∨(g.length:Int)≤r∨(jl g r p).2=false∨Go.aa.okD way.toNat g r p at_=false):a7 g pass way r p at_=([],47):=by
 rw[a7,if_neg (by simpa using hc),if_pos h]
end Go.aa
namespace Go.Km
open Go Go.Vc Go.Proofs Go.aa Go.Proofs.YtpbichnnflabdaaGreatDoor
set_option maxRecDepth 100000
set_option maxHeartbeats 0
instance(g:List Dfn)(pass way r:Int)(p:List Int)(at_:Int):C 21 [cg g,.ag [byF pass,byF way,inF r,isF p,inF at_]] (.tp [cg (a7 g pass way r p at_).1,inF (a7 g pass way r p at_).2]) false (g.length≤1000∧(∀d∈g,d.wf)∧p.length≤1000000∧0≤way∧way≤255):=⟨fun ⟨hn,hw,hp,hw0,hw1⟩=>by
 have hpre:g.length≤1000∧∀d∈g,d.wf:=⟨hn,hw⟩
 by_cases hc0:bC g=0
 ·have hm:=en hc0;have ok:=fa hm;have hpm:(g.length≤1000∧∀d∈g,d.wf)∧cS g=0:=⟨hpre,hm⟩
  by_cases hs:pass≠2∨way<1∨4≤way∨r<0∨(g.length:Int)≤r
  ·rw[ef hc0 (by rcases hs with h|h|h|h|h;exact .inl h;exact .inr (.inl h);exact .inr (.inr (.inl h));exact .inr (.inr (.inr (.inl h)));exact .inr (.inr (.inr (.inr (.inl h)))))];refine kf rfl rfl ?_;repeat' first|exact k9|refine k2 ?_|apply kA|apply kI;intro hc|refine k8 ?_|apply kL;intro hl
   all_goals first|exact ao.i rfl|(exfalso;omega)|exact⟨by exfalso;omega⟩
  ·simp only[not_or,Decidable.not_not] at hs;obtain⟨s1,s2,s3,s4,s5⟩:=hs;obtain⟨q,rfl⟩:∃q:Nat,r=q:=⟨r.toNat,by omega⟩
   have hql:q<g.length:=by omega
   obtain⟨d,hd⟩:=exEq (g[q]);have hgi:∀h:((q:Nat):Int).toNat<g.length,g[((q:Nat):Int).toNat]'h=d:=fun _=>hd.symm
   have hgi2:∀h:q<g.length,g[q]'h=d:=fun _=>hd.symm
   have hbd:gS g (q:Int)=d.body:=by rw[je hql,hd]
   have hnum:jl g (q:Int) p=iB d.body.nodes d.body.root p:=by rw[jl,hbd]
   have hdm:d∈g:=by rw[hd];exact List.getElem_mem hql
   have hdw:=(hw _ hdm).body;have hdR:=ok.right hdm;have hpn1:d.body.wf∧ay d.body∧p.length≤1000000:=⟨hdw,hdR,hp⟩
   have hway:way=1∨way=2∨way=3:=by omega
   cases hnn:(jl g (q:Int) p).2 with
   | false=>
    rw[ef hc0 (.inr (.inr (.inr (.inr (.inr (.inl hnn))))))];rw[hnum] at hnn;rcases hway with rfl|rfl|rfl
    all_goals
     refine kf rfl rfl ?_;repeat' first|exact k9|refine k2 ?_|apply kA|apply kI;intro hc|apply kL;intro hl|((simp only[hgi])<;>conv=>whnf)|((simp only[hgi2])<;>conv=>whnf)|refine k8 ?_|fail
     all_goals first|exact ao.i rfl|(exfalso;omega)
   | true=>
    have hpf:=E1 hm hql hnn;obtain⟨q',hq⟩:=KP hm (x:=((q:Int),p)) hpf;have hnn2:=hnn;rw[hnum] at hnn2;obtain⟨fl,hfl⟩:=exEq (aI g (cG g) d.body.nodes);have hfll:fl.length=d.body.nodes.length:=by rw[hfl,bI]
    have hfi2:∀h:q<(bf g).length,(bf g)[q]'h=fl:=fun h=>by
     simp only[bf,List.getElem_map,hfl,hd]
    have hfal:(bf g).length=g.length:=by simp[bf]
    obtain⟨N,hN⟩:=exEq ((iB d.body.nodes d.body.root p).1);have hrng:=hq.rng;have hsd:gB g ((q:Int),p)=(ae d.body.nodes N).length:=by
     show(ae (gS g (q:Int)).nodes (jl g (q:Int) p).1).length=_
     rw[hbd,hnum,←hN]
    rw[hnum,hbd,←hN] at hrng;have hokD:∀k:Nat,Go.aa.okD k g (q:Int) p at_=(bu k d.body.nodes fl N at_&&(cW k g (q:Int) p at_).2):=fun k=>by
     unfold Go.aa.okD;rw[hbd,hnum,←hN,List.getD_eq_getElem?_getD,Int.toNat_natCast,List.getElem?_eq_getElem (by rw[hfal];exact hql),hfi2];rfl
    have hhp:d.body.wf∧ay d.body∧fl.length=d.body.nodes.length∧0≤N∧N<d.body.nodes.length:=⟨hdw,hdR,hfll,hrng.1,hrng.2⟩
    have hgp:∀d∈g,d.wf∧0<d.body.nodes.length∧d.body.nodes.length≤20000:=fun d hd=>⟨hw d hd,by have:=(ok.right hd).root;omega,by have:=ok.small hd;omega⟩
    rcases hway with rfl|rfl|rfl
    ·have hk:Go.aa.okD ((1:Int).toNat) g (q:Int) p at_=(bu 1 d.body.nodes fl N at_&&(cW 1 g (q:Int) p at_).2):=hokD 1
     cases hh:bu 1 d.body.nodes fl N at_ with
     | false=>
      rw[hh,Bool.false_and] at hk;rw[ef hc0 (.inr (.inr (.inr (.inr (.inr (.inr hk))))))];refine kf rfl rfl ?_;repeat' first|exact k9|refine k2 ?_|apply kA|apply kI;intro hc|apply kL;intro hl|((simp only[hgi])<;>conv=>whnf)|((simp only[hgi2])<;>conv=>whnf)|((simp only[←hN])<;>conv=>whnf)|((simp only[hfi2])<;>conv=>whnf)|refine k8 ?_|fail
      all_goals first|exact ao.i rfl|(exfalso;omega)
     | true=>
      have hr2:=my hh;have hpp:jr g (q:Int) p at_:=⟨⟨hn,hgp,hp⟩,hpf,hr2.1,by have:=hq.kids;dsimp only at this;rw[this,hsd];exact hr2.2⟩
      rw[hh,Bool.true_and] at hk;have hr:a7 g pass 1 (q:Int) p at_=if (cW 1 g (q:Int) p at_).2=false then ([],47) else ((cW 1 g (q:Int) p at_).1,0):=by
       by_cases h:(cW 1 g (q:Int) p at_).2=false
       ·rw[if_pos h,ef hc0 (.inr (.inr (.inr (.inr (.inr (.inr (by rw[hk];exact h)))))))]
       ·rw[if_neg h,a7,if_neg (by simpa using hc0),if_neg]
        ·rfl
        ·rintro(a|a|a|a|a|a|a)
         ·exact a s1
         ·omega
         ·omega
         ·omega
         ·omega
         ·rw[hnn] at a;cases a
         ·rw[hk] at a;exact h a
      rw[hr];refine kf rfl rfl ?_;repeat' first|exact k9|refine k2 ?_|apply kA|apply kI;intro hc|apply kL;intro hl|((simp only[hgi])<;>conv=>whnf)|((simp only[hgi2])<;>conv=>whnf)|((simp only[←hN])<;>conv=>whnf)|((simp only[hfi2])<;>conv=>whnf)|refine k8 ?_|fail
      all_goals first|(exfalso;omega)|(refine ao.i ?_;rw[if_neg (fun q=>bfF hc q)];done)|(refine ao.i ?_;rw[if_pos hc];rfl)
    ·have hk:Go.aa.okD ((2:Int).toNat) g (q:Int) p at_=(bu 2 d.body.nodes fl N at_&&(cW 2 g (q:Int) p at_).2):=hokD 2
     cases hh:bu 2 d.body.nodes fl N at_ with
     | false=>
      rw[hh,Bool.false_and] at hk;rw[ef hc0 (.inr (.inr (.inr (.inr (.inr (.inr hk))))))];refine kf rfl rfl ?_;repeat' first|exact k9|refine k2 ?_|apply kA|apply kI;intro hc|apply kL;intro hl|((simp only[hgi])<;>conv=>whnf)|((simp only[hgi2])<;>conv=>whnf)|((simp only[←hN])<;>conv=>whnf)|((simp only[hfi2])<;>conv=>whnf)|refine k8 ?_|fail
      all_goals first|exact ao.i rfl|(exfalso;omega)
     | true=>
      have hr2:=my hh;have hpp:jr g (q:Int) p at_:=⟨⟨hn,hgp,hp⟩,hpf,hr2.1,by have:=hq.kids;dsimp only at this;rw[this,hsd];exact hr2.2⟩
      rw[hh,Bool.true_and] at hk;have hr:a7 g pass 2 (q:Int) p at_=if (cW 2 g (q:Int) p at_).2=false then ([],47) else ((cW 2 g (q:Int) p at_).1,0):=by
       by_cases h:(cW 2 g (q:Int) p at_).2=false
       ·rw[if_pos h,ef hc0 (.inr (.inr (.inr (.inr (.inr (.inr (by rw[hk];exact h)))))))]
       ·rw[if_neg h,a7,if_neg (by simpa using hc0),if_neg]
        ·rfl
        ·rintro(a|a|a|a|a|a|a)
         ·exact a s1
         ·omega
         ·omega
         ·omega
         ·omega
         ·rw[hnn] at a;cases a
         ·rw[hk] at a;exact h a
      rw[hr];refine kf rfl rfl ?_;repeat' first|exact k9|refine k2 ?_|apply kA|apply kI;intro hc|apply kL;intro hl|((simp only[hgi])<;>conv=>whnf)|((simp only[hgi2])<;>conv=>whnf)|((simp only[←hN])<;>conv=>whnf)|((simp only[hfi2])<;>conv=>whnf)|refine k8 ?_|fail
      all_goals first|(exfalso;omega)|(refine ao.i ?_;rw[if_neg (fun q=>bfF hc q)];done)|(refine ao.i ?_;rw[if_pos hc];rfl)
    ·have hk:Go.aa.okD ((3:Int).toNat) g (q:Int) p at_=(bu 3 d.body.nodes fl N at_&&(cW 3 g (q:Int) p at_).2):=hokD 3
     cases hh:bu 3 d.body.nodes fl N at_ with
     | false=>
      rw[hh,Bool.false_and] at hk;rw[ef hc0 (.inr (.inr (.inr (.inr (.inr (.inr hk))))))];refine kf rfl rfl ?_;repeat' first|exact k9|refine k2 ?_|apply kA|apply kI;intro hc|apply kL;intro hl|((simp only[hgi])<;>conv=>whnf)|((simp only[hgi2])<;>conv=>whnf)|((simp only[←hN])<;>conv=>whnf)|((simp only[hfi2])<;>conv=>whnf)|refine k8 ?_|fail
      all_goals first|exact ao.i rfl|(exfalso;omega)
     | true=>
      have hr2:=my hh;have hpp:jr g (q:Int) p at_:=⟨⟨hn,hgp,hp⟩,hpf,hr2.1,by have:=hq.kids;dsimp only at this;rw[this,hsd];exact hr2.2⟩
      rw[hh,Bool.true_and] at hk;have hr:a7 g pass 3 (q:Int) p at_=if (cW 3 g (q:Int) p at_).2=false then ([],47) else ((cW 3 g (q:Int) p at_).1,0):=by
       by_cases h:(cW 3 g (q:Int) p at_).2=false
       ·rw[if_pos h,ef hc0 (.inr (.inr (.inr (.inr (.inr (.inr (by rw[hk];exact h)))))))]
       ·rw[if_neg h,a7,if_neg (by simpa using hc0),if_neg]
        ·rfl
        ·rintro(a|a|a|a|a|a|a)
         ·exact a s1
         ·omega
         ·omega
         ·omega
         ·omega
         ·rw[hnn] at a;cases a
         ·rw[hk] at a;exact h a
      rw[hr];refine kf rfl rfl ?_;repeat' first|exact k9|refine k2 ?_|apply kA|apply kI;intro hc|apply kL;intro hl|((simp only[hgi])<;>conv=>whnf)|((simp only[hgi2])<;>conv=>whnf)|((simp only[←hN])<;>conv=>whnf)|((simp only[hfi2])<;>conv=>whnf)|refine k8 ?_|fail
      all_goals first|(exfalso;omega)|(refine ao.i ?_;rw[if_neg (fun q=>bfF hc q)];done)|(refine ao.i ?_;rw[if_pos hc];rfl)
 ·rw[show a7 g pass way r p at_=([],bC g) from by rw[a7,if_pos hc0]];refine kf rfl rfl ?_;repeat' first|exact k9|refine k2 ?_|apply kA|apply kI;intro hc|refine k8 ?_|apply kL;intro hl
  all_goals exact ao.i rfl⟩
end Go.Km
end
section
namespace Go.aa
open Go Go.Km
def CM(t:Tre)(way at_:Int):Tre×Bool:=if (a7 [⟨⟨#[97]⟩,t⟩] 2 way 0 [] at_).2≠0∨(a7 [⟨⟨#[97]⟩,t⟩] 2 way 0 [] at_).1.length≠1 then (.zero,false) else (((a7 [⟨⟨#[97]⟩,t⟩] 2 way 0 [] at_).1.headD ⟨⟨#[]⟩,.zero⟩).body,true)
theorem vh{g:List Dfn}{pass way r:Int}{p:List Int}{at_:Int}(hn:g.length≤1000)(hw:∀d∈g,d.wf)(hp:p.length≤1000000):(a7 g pass way r p at_).1.length≤1000∧∀d∈(a7 g pass way r p at_).1,d.wf:=by
 have hnil:([]:List Dfn).length≤1000∧∀d∈([]:List Dfn),d.wf:=⟨Nat.zero_le _,fun d hd=>by cases hd⟩
 unfold a7
 split
 ·exact hnil
 ·rename_i hc;have hc0:bC g=0:=by omega
  have ok:=fa (en hc0);have hsm:∀d∈g,d.wf∧d.body.nodes.length≤20000:=fun d hd=>⟨hw d hd,by have:=ok.small hd;omega⟩
  have hgp:∀d∈g,d.wf∧0<d.body.nodes.length∧d.body.nodes.length≤100000:=fun d hd=>⟨hw d hd,by have:=(ok.right hd).root;omega,by have:=ok.small hd;omega⟩
  split
  ·exact hnil
  ·unfold cW
   split
   ·exact hnil
   ·obtain⟨hxw,hxl⟩:=iQ (r:=r) (p:=p) hsm;obtain⟨_,h3,h4⟩:=nO (k:=way.toNat) (at_:=at_) hxw hxl;exact lL hn hgp hp h3 h4
end Go.aa
namespace Go.Km
open Go Go.Vc Go.Proofs Go.aa Go.Proofs.YtpbichnnflabdaaGreatDoor
set_option maxRecDepth 100000
set_option maxHeartbeats 0
instance(g:List Dfn):C 18 [cg g] (boF (qt g)) true (g.length≤dd∧∀d∈g,d.wf):=⟨fun ⟨hn,hw⟩=>by
 simp only[dd] at hn;refine kf rfl rfl ?_;repeat' first|exact k9|refine k2 ?_|apply kA|apply kI;intro hc|refine k8 ?_|apply kL;intro hl
 apply kCt [1,3,4] [];conv=>whnf
 refine Lp.ind (fun x:Nat×Nat=>g.length - x.1) (fun x=>x.1≤g.length∧x.2≤1000∧oK 0 g=oK x.2 (g.drop x.1)) (fun x=>[(4,InD x.1),(3,InD x.2)]) (fun x=>[]) (fun _=>(boF (qt g),true)) (0,0) ⟨by simp,by simp,rfl⟩ rfl rfl rfl ?_
 rintro G ⟨i,a⟩ ih ⟨hi,ha,hW⟩
 dsimp only at hi ha hW ih ⊢
 by_cases hx:i<g.length
 ·obtain⟨d,hd⟩:=exEq (g[i]);have hdi:∀h,g[i]'h=d:=fun _=>hd.symm
  have hgl:g[i].body.nodes.length=d.body.nodes.length:=by rw[hd]
  have hwd:=hw d (by rw[hd];exact List.getElem_mem hx);have hnl:=hwd.body.len;have hnm:=hwd.name;simp only[bT] at hnl;rw[List.drop_eq_getElem_cons hx,←hd,oK] at hW;have hmn:(bif leI 220 (szS d.name:Int) then (220:Int) else (szS d.name:Int))=((min 220 d.name.size:Nat):Int):=vQ 220 (szS d.name)
  by_cases h2:a<220
  ·rw[if_pos h2] at hW
   repeat' first|exact k9|refine k2 ?_|apply kA|apply kI;intro hc|apply kL;intro hl|((simp only[hdi])<;>conv=>whnf)|((rw[hmn])<;>conv=>whnf)|(((apply SdA.m;exact Nd.i (by omega)))<;>conv=>whnf)|refine k8 ?_|fail
   apply kCt [1,3,4,5] [];conv=>whnf
   refine Lp.ind (fun x:Nat×Nat=>d.body.nodes.length - x.1) (fun x=>x.1≤d.body.nodes.length∧x.2≤1000∧oK 0 g=oK (qN x.2 (d.body.nodes.drop x.1)) (g.drop (i+1))) (fun x=>[(5,InD x.1),(3,InD x.2)]) (fun x=>[]) (fun _=>(boF (qt g),true)) (0,a+5+min 220 d.name.size) ⟨by simp,by dsimp only;omega,hW⟩ rfl rfl rfl ?_
   rintro G' ⟨k,b⟩ ih' ⟨hk,hb,hV⟩
   dsimp only at hk hb hV ih' ⊢
   by_cases hkx:k<d.body.nodes.length
   ·obtain⟨n,hnn⟩:=exEq (d.body.nodes[k]);have hni:∀h,d.body.nodes[k]'h=n:=fun _=>hnn.symm
    have hwn:=hwd.body.nodes n (by rw[hnn];exact List.getElem_mem hkx);have hnk:=hwn.kids.1;have hnt:=hwn.text;simp only[dd] at hnk;have hm1:(bif leI 220 ((List.map ikF n.kids).length:Int) then (220:Int) else ((List.map ikF n.kids).length:Int))=((min 220 n.kids.length:Nat):Int):=by rw[List.length_map];exact vQ 220 n.kids.length
    have hm2:IntKind.i64.wrap ((bif leI 220 (szS n.text:Int) then (220:Int) else (szS n.text:Int)).tdiv 20)=((min 220 n.text.size / 20:Nat):Int):=by
     rw[show(bif leI 220 (szS n.text:Int) then (220:Int) else (szS n.text:Int))=((min 220 n.text.size:Nat):Int) from vQ 220 (szS n.text)];rw[show(((min 220 n.text.size:Nat):Int).tdiv 20)=((min 220 n.text.size / 20:Nat):Int) from (Int.ofNat_tdiv _ 20).symm];exact wrap_i64 (by unfold Go.Sl.I64;omega)
    rw[List.drop_eq_getElem_cons hkx,←hnn,qN] at hV
    by_cases h3:b<220
    ·rw[if_pos h3] at hV;have hnw:oh n=1+min 220 n.kids.length+min 220 n.text.size / 20:=rfl
     repeat' first|exact k9|refine k2 ?_|apply kA|apply kI;intro hc|apply kL;intro hl|((simp only[hdi,hni])<;>conv=>whnf)|((simp only[hm1,hm2])<;>conv=>whnf)|(((apply SdA.m;exact Nd.i (by omega)))<;>conv=>whnf)|refine k8 ?_|fail
     apply kCt [1,3,4,5] [];conv=>whnf
     refine ih' (k+1,b+oh n) _ _ _ (by dsimp only;omega) ⟨by dsimp only;omega,by dsimp only;omega,hV⟩ rfl ?_ rfl;have e:((b+oh n:Nat):Int)=(b:Int)+1+((min 220 n.kids.length:Nat):Int)+((min 220 n.text.size / 20:Nat):Int):=by rw[hnw];omega
     dsimp only;show _=iO [(5,InD ((k+1:Nat):Int)),(3,InD ((b+oh n:Nat):Int))] _
     rw[e];rfl
    ·rw[if_neg h3] at hV
     repeat' first|exact k9|refine k2 ?_|apply kA|apply kI;intro hc|apply kL;intro hl|((simp only[hdi,hni])<;>conv=>whnf)|refine k8 ?_|fail
     apply kCt [1,3,4] [];conv=>whnf
     refine ih (i+1,b) _ _ _ (by dsimp only;omega) ⟨by dsimp only;omega,hb,hV⟩ rfl rfl rfl
   ·rw[List.drop_of_length_le (by omega),qN] at hV
    repeat' first|exact k9|refine k2 ?_|apply kA|apply kI;intro hc|apply kL;intro hl|((simp only[hdi])<;>conv=>whnf)|refine k8 ?_|fail
    apply kCt [1,3,4] [];conv=>whnf
    refine ih (i+1,b) _ _ _ (by dsimp only;omega) ⟨by dsimp only;omega,hb,hV⟩ rfl rfl rfl
  ·rw[if_neg h2] at hW
   repeat' first|exact k9|refine k2 ?_|apply kA|apply kI;intro hc|apply kL;intro hl|((simp only[hdi])<;>conv=>whnf)|refine k8 ?_|fail
   exact ao.b (by rw[qt,hW,dw];exact decide_eq_decide.2 (by omega)) rfl
 ·rw[List.drop_of_length_le (by omega),oK] at hW
  repeat' first|exact k9|refine k2 ?_|apply kA|apply kI;intro hc|refine k8 ?_|apply kL;intro hl
  exact ao.b (by rw[qt,hW,dw];exact decide_eq_decide.2 (by omega)) rfl⟩
instance(kind sa sb sc sd:Int)(text:ByteArray)(lo hi:Int)(K:List (List F))(l:List Tre):C 85 [.ag [byF kind,.vl (.int .u64 sa),.vl (.int .u64 sb),.vl (.int .u64 sc),.vl (.int .u64 sd),stF text,inF lo,inF hi,.sl K],j6 l]
  (aD (ofP ⟨kind,⟨sa,sb,sc,sd⟩,text,lo,hi,[]⟩ l).1) false ((⟨kind,⟨sa,sb,sc,sd⟩,text,lo,hi,[]⟩:Nod).wf∧l.length≤1466015503701∧(∀t∈l,Sm t)∧tot l+1≤1466015503701):=⟨fun h=>by
 refine kf rfl rfl ?_;repeat' first|exact k9|refine k2 ?_|apply kA|apply kI;intro hc|refine k8 ?_|apply kL;intro hl
 all_goals exact ao.i rfl⟩
instance(t:Tre)(lo hi:Int):C 40 [inF lo,inF hi,aD t] (aD (ofP ⟨6,.zero,⟨#[]⟩,lo,hi,[]⟩ [t]).1) false (Sm t∧(-1000000≤lo∧lo≤1000000)∧(-1000000≤hi∧hi≤1000000)):=⟨fun ⟨hs,h1,h2⟩=>by
 have hpre:(⟨6,⟨0,0,0,0⟩,⟨#[]⟩,lo,hi,[]⟩:Nod).wf∧[t].length≤1466015503701∧(∀x∈[t],Sm x)∧tot [t]+1≤1466015503701:=⟨BD h1 h2,by simp,by simpa using hs,by have:=hs.le;simp[tot];omega⟩
 have inst:C 85 [.ag [byF 6,.vl (.int .u64 0),.vl (.int .u64 0),.vl (.int .u64 0),.vl (.int .u64 0),stF ⟨#[]⟩,inF lo,inF hi,.sl []],.sl [dg t]] (aD (ofP ⟨6,.zero,⟨#[]⟩,lo,hi,[]⟩ [t]).1) false True:=⟨fun _=>KC.h (P:=Tryz.prog) (Γ:=X1.Γ) (f:=85) (l:=[.ag [byF 6,.vl (.int .u64 0),.vl (.int .u64 0),.vl (.int .u64 0),.vl (.int .u64 0),stF ⟨#[]⟩,inF lo,inF hi,.sl []],j6 [t]]) hpre⟩
 refine kf rfl rfl ?_;repeat' first|exact k9|refine k2 ?_|apply kA|apply kI;intro hc|refine k8 ?_|apply kL;intro hl
 all_goals exact ao.i rfl⟩
instance(l:List Tre):C 42 [j6 l] (aD (ofP ep l).1) false (l.length≤100000∧(∀t∈l,Sm t)∧tot l≤100000):=⟨fun ⟨h1,h2,h3⟩=>by
 have hpre:(⟨4,⟨0,0,0,0⟩,⟨#[]⟩,0,0,[]⟩:Nod).wf∧l.length≤1466015503701∧(∀x∈l,Sm x)∧tot l+1≤1466015503701:=⟨kQ,by omega,h2,by omega⟩
 refine kf rfl rfl ?_;repeat' first|exact k9|refine k2 ?_|apply kA|apply kI;intro hc|refine k8 ?_|apply kL;intro hl
 all_goals exact ao.i rfl⟩
instance(t:Tre):C 43 [aD t] (cg [⟨⟨#[97]⟩,t⟩]) false True:=⟨fun _=>by
 refine kf rfl rfl ?_;repeat' first|exact k9|refine k2 ?_|apply kA|apply kI;intro hc|refine k8 ?_|apply kL;intro hl
 all_goals exact ao.i rfl⟩
instance(l:List Tre):C 39 [j6 l] (aD (ofP du l).1) false (l.length≤100000∧(∀t∈l,Sm t)∧tot l≤100000):=⟨fun ⟨h1,h2,h3⟩=>by
 have hpre:(⟨5,⟨0,0,0,0⟩,⟨#[]⟩,0,0,[]⟩:Nod).wf∧l.length≤1466015503701∧(∀x∈l,Sm x)∧tot l+1≤1466015503701:=⟨iD,by omega,h2,by omega⟩
 refine kf rfl rfl ?_;repeat' first|exact k9|refine k2 ?_|apply kA|apply kI;intro hc|refine k8 ?_|apply kL;intro hl
 all_goals exact ao.i rfl⟩
instance(t:Tre)(way at_:Int):C 41 [aD t,byF way,inF at_] (t2F (CM t way at_)) false (t.wf∧0≤way∧way≤255):=⟨fun ⟨ht,h0,h1⟩=>by
 rw[CM];have hpre:([⟨⟨#[97]⟩,t⟩]:List Dfn).length≤1000∧(∀d∈([⟨⟨#[97]⟩,t⟩]:List Dfn),d.wf)∧([]:List Int).length≤1000000∧0≤way∧way≤255:=⟨by simp,by intro d hd;simp only[List.mem_singleton] at hd;subst hd;exact⟨by show(1:Nat)≤_;decide,ht⟩,by simp,h0,h1⟩
 obtain⟨g,hg⟩:∃g:List Dfn,g=[⟨⟨#[97]⟩,t⟩]:=⟨_,rfl⟩
 rw[←hg] at hpre ⊢;have i1:C 43 [aD t] (cg g) false True:=⟨fun _=>by rw[hg];exact KC.h trivial⟩
 obtain⟨r,hr⟩:=exEq (a7 g 2 way 0 [] at_);have i2:C 21 [cg g,.ag [byF 2,byF way,inF 0,.sl [],inF at_]] (.tp [cg r.1,inF r.2]) false True:=⟨fun _=>by rw[hr];exact KC.h (l:=[cg g,.ag [byF 2,byF way,inF 0,isF [],inF at_]]) hpre⟩
 rw[←hr];have hrl:r.1.length≤1000:=by rw[hr];exact(vh hpre.1 hpre.2.1 hpre.2.2.1).1
 refine kf rfl rfl ?_;repeat' first|exact k9|refine k2 ?_|apply kA|apply kI;intro hc|refine k8 ?_|apply kL;intro hl
 ·rw[if_neg (by omega)];rw[show r.1.headD ⟨⟨#[]⟩,.zero⟩=r.1[0] from by rw[List.headD_eq_head?_getD,List.head?_eq_getElem?,List.getElem?_eq_getElem (by omega)];rfl];exact ao.i rfl
 ·rw[if_pos (by omega)];exact ao.i rfl
 ·rw[if_pos (by omega)];exact ao.i rfl⟩
end Go.Km
end
section
namespace Go.aa
open Go Go.Km
set_option maxRecDepth 100000
def cI(l:List UInt8):Tre:=qf ⟨2,.zero,⟨l.toArray⟩,0,0,[]⟩
def Ay(lo hi:Int)(t:Tre):Tre:=(ofP ⟨6,.zero,⟨#[]⟩,lo,hi,[]⟩ [t]).1
end Go.aa
namespace Go.Km
open Go Go.Vc Go.Proofs Go.aa Go.Proofs.YtpbichnnflabdaaGreatDoor
set_option maxRecDepth 100000
set_option maxHeartbeats 0
theorem Mg{t:Tre}(h:t.wf∧t.nodes.length≤500000):Sm t:=⟨h.1,h.2⟩
theorem KD(l:List UInt8)(h:l.length≤1000):Sm (cI l):=Mg ⟨x8 ⟨by dsimp only;omega,by unfold Bts.wf Bts.zero;dsimp only;omega,by show l.toArray.size≤_;simp;omega,by unfold Go.Sl.I64;dsimp only;omega,by unfold Go.Sl.I64;dsimp only;omega,⟨Nat.zero_le _,fun x hx=>by cases hx⟩⟩,by show 1≤_;omega⟩
theorem K4{lo hi:Int}{t:Tre}(h1:-1000000≤lo∧lo≤1000000)(h2:-1000000≤hi∧hi≤1000000)(ht:t.wf∧t.nodes.length≤1000):(Ay lo hi t).wf∧(Ay lo hi t).nodes.length≤t.nodes.length+1:=by
 have e:tot [t]=t.nodes.length:=by simp[tot]
 exact⟨zE (BD h1 h2) (by simpa using ht.1) (by rw[e];unfold bT;omega),by have:=IE (n:=⟨6,.zero,⟨#[]⟩,lo,hi,[]⟩) (l:=[t]);rw[e] at this;exact this⟩
theorem zX{t:Tre}(ht:t.wf∧t.nodes.length≤1000)(h:CC t t=true):C 29 [aD t,aD t] (boF true) true True:=⟨fun _=>by
 have:=KC.h (P:=Tryz.prog) (Γ:=X1.Γ) (f:=29) (l:=[aD t,aD t]) ⟨ht.1,ht.1⟩;rw[h] at this;exact this⟩
theorem txw(l:List UInt8)(h:l.length≤1000):(cI l).wf∧(cI l).nodes.length≤1000:=⟨(KD l h).wf,by show 1≤_;omega⟩
end Go.Km
end
section
namespace Go.aa
open Go Go.Sl Go.Km
def kR(k:Int):List Fl→Int
 | []=>0
 | f :: r=>if (k=5∧f.fail=false)∨(k=4∧f.succ=false) then (r.length:Int) else (if k=5∧f.succ=false then 1 else 0)+kR k r
def fU(l:List Fl)(ns:List Nod):Int:=(ns.map fun n=>kR n.kind (bq l n.kids)).sum
def vd(g:List Dfn):Int:=if bC g=0 then (g.map fun d=>fU (aI g (cG g) d.body.nodes) d.body.nodes).sum else 0
theorem wz(k:Int):∀l:List Fl,0≤kR k l∧kR k l≤l.length
 | []=>⟨Int.le_refl _,Int.le_refl _⟩
 | f :: r=>by
  have:=wz k r;unfold kR;simp only[List.length_cons]
  split
  ·omega
  ·split<;>omega
end Go.aa
end
section
namespace Go.aa
open Go Go.Km
theorem AZ(l:List Fl)(ns:List Nod){i:Nat}(h:i<ns.length):fU l (ns.take (i+1))=fU l (ns.take i)+kR ns[i].kind (bq l ns[i].kids):=by
 rw[List.take_succ_eq_append_getElem h,fU,List.map_append,List.sum_append];simp[fU]
theorem B5(l:List Fl):∀(ns:List Nod),(∀n∈ns,n.kids.length≤1000000)→0≤fU l ns∧fU l ns≤1000000 * ns.length
 | [],_=>by simp[fU]
 | n :: ns,h=>by
  have h1:=B5 l ns fun x hx=>h x (by simp[hx])
  have h2:=wz n.kind (bq l n.kids);have h3:(bq l n.kids).length=n.kids.length:=by simp[bq]
  have h4:=h n (by simp);simp only[fU,List.map_cons,List.sum_cons,List.length_cons] at h1 ⊢;omega
theorem Fp{t:Tre}(hR:ay t){k:Nat}(hk:k<t.nodes.length):t.nodes[k].kids.length≤t.nodes.length:=by
 have hr:=xb hR;have h1:=(hr.kids k _ (List.getElem?_eq_getElem hk)).length_le;rw[List.length_cons,hr.len] at h1;omega
end Go.aa
namespace Go.Km
open Go Go.Vc Go.Proofs Go.aa Go.Proofs.YtpbichnnflabdaaGreatDoor
set_option maxRecDepth 100000
set_option maxHeartbeats 0
instance(k a b c d:Int)(tx:ByteArray)(lo hi:Int)(ks:List Int)(l:List Fl):C 45 [.ag (iC k a b c d tx lo hi (ks.map ikF)),iy l] (inF (kR k (bq l ks))) true (ks.length≤1000000∧∀x∈ks,0≤x∧x<l.length):=⟨fun ⟨hkl,hk⟩=>by
 refine kf rfl rfl ?_;repeat' first|exact k9|refine k2 ?_|apply kA|apply kI;intro hc|refine k8 ?_|apply kL;intro hl
 apply kCt [1,2,5,10,11,12] [];conv=>whnf
 obtain⟨R,hR⟩:=exEq (kR k (bq l ks));rw[←hR];refine Lp.ind (fun x:Nat×Int=>ks.length - x.1) (fun x=>x.1≤ks.length∧(0≤x.2∧x.2≤x.1)∧R=x.2+kR k (bq l (ks.drop x.1))) (fun x=>[(12,InD x.1),(5,InD x.2)]) (fun _=>[]) (fun _=>_) (0,0) ⟨Nat.zero_le _,by dsimp only;omega,by rw[hR];simp⟩ rfl rfl rfl ?_
 rintro G ⟨i,z⟩ ih ⟨hi,hz,hT⟩
 dsimp only at hi hz hT ih ⊢
 by_cases hx:i<ks.length
 ·have hyl:=hk _ (List.getElem_mem hx);have hyn:ks[i].toNat<l.length:=by omega
  have hll:(bq l (ks.drop (i+1))).length=ks.length - (i+1):=by simp[bq]
  rw[List.drop_eq_getElem_cons hx,show bq l (ks[i] :: ks.drop (i+1))=l.getD ks[i].toNat .bot :: bq l (ks.drop (i+1)) from rfl,List.getD_eq_getElem?_getD,List.getElem?_eq_getElem hyn,Option.getD_some,kR,hll] at hT;have hks:k=5∨k=4∨(k≠5∧k≠4):=by omega
  rcases hks with rfl|rfl|⟨h5,h4⟩
  all_goals
   repeat' first|exact k9|refine k2 ?_|apply kA|apply kI;intro hc|refine k8 ?_|apply kL;intro hl
   all_goals first
    | (refine ao.n ?_ rfl;simp_all [Fl.succ];omega)
    | ((apply kCt [1,2,5,10,11,12] [];conv=>whnf);refine ih (i+1,z) _ _ _ (by dsimp only;omega) ⟨by dsimp only;omega,by dsimp only;omega,?_⟩ rfl rfl rfl;clear ih;simp_all [Fl.succ];done)
    | ((apply kCt [1,2,5,10,11,12] [];conv=>whnf);refine ih (i+1,z+1) _ _ _ (by dsimp only;omega) ⟨by dsimp only;omega,by dsimp only;omega,?_⟩ rfl rfl rfl;clear ih;simp_all [Fl.succ];omega)
 ·obtain rfl:i=ks.length:=by omega
  rw[List.drop_length] at hT
  repeat' first|exact k9|refine k2 ?_|apply kA|apply kI;intro hc|refine k8 ?_|apply kL;intro hl
  exact ao.n (by rw[hT];simp[bq,kR]) rfl⟩
instance(g:List Dfn):C 19 [cg g] (inF (vd g)) true (g.length≤1000∧∀d∈g,d.wf):=⟨fun hp=>by
 by_cases hc0:bC g=0
 ·have hm:=en hc0;have ok:=fa hm;have hpm:(g.length≤1000∧∀d∈g,d.wf)∧cS g=0:=⟨hp,hm⟩
  have hn:=hp.1;obtain⟨R,hR⟩:=exEq (vd g);have hR1:R=(g.map fun d=>fU (aI g (cG g) d.body.nodes) d.body.nodes).sum:=by rw[hR,vd,if_pos hc0]
  rw[←hR];have hfal:(bf g).length=g.length:=by simp[bf]
  refine kf rfl rfl ?_;repeat' first|exact k9|refine k2 ?_|apply kA|apply kI;intro hc|refine k8 ?_|apply kL;intro hl
  apply kCt [3,5,21,22,23] [];conv=>whnf
  obtain⟨f,hf⟩:∃f:Dfn→Int,f=fun d=>fU (aI g (cG g) d.body.nodes) d.body.nodes:=⟨_,rfl⟩
  rw[←hf] at hR1;refine Lp.ind (fun x:Nat×Int=>g.length - x.1) (fun x=>x.1≤g.length∧(0≤x.2∧x.2≤20000000000 * (x.1:Int))∧x.2=((g.take x.1).map f).sum) (fun x=>[(23,InD x.1),(5,InD x.2)]) (fun _=>[]) (fun _=>_) (0,0) ⟨Nat.zero_le _,by dsimp only;omega,rfl⟩ rfl rfl rfl ?_
  rintro G ⟨i,z⟩ ih ⟨hi,hz,hT⟩
  dsimp only at hi hz hT ih ⊢
  by_cases hx:i<g.length
  ·obtain⟨d,hd⟩:=exEq (g[i]);have hgi:∀h:i<g.length,g[i]'h=d:=fun _=>hd.symm
   have hdm:d∈g:=by rw[hd];exact List.getElem_mem hx
   have hdw:=(hp.2 _ hdm).body;have hdR:=ok.right hdm;have hds:=ok.small hdm;obtain⟨fl,hfl⟩:=exEq (aI g (cG g) d.body.nodes);have hfll:fl.length=d.body.nodes.length:=by rw[hfl,bI]
   have hfi2:∀h:i<(bf g).length,(bf g)[i]'h=fl:=fun h=>by
    simp only[bf,List.getElem_map,hfl,hd]
   have hfd:f d=fU fl d.body.nodes:=by rw[hf,hfl]
   have hkn:∀n∈d.body.nodes,n.kids.length≤1000000:=fun n hn=>by
    obtain⟨k,hk,rfl⟩:=List.getElem_of_mem hn;have:=Fp hdR hk;omega
   have hbb:=fun j=>B5 fl (d.body.nodes.take j) (fun n hn=>hkn n (List.mem_of_mem_take hn))
   repeat' first|exact k9|refine k2 ?_|apply kA|apply kI;intro hc|apply kL;intro hl|((simp only[hgi])<;>conv=>whnf)|refine k8 ?_|fail
   apply kCt [3,5,6,21,22,23,30,31,32] [];conv=>whnf
   refine Lp.ind (fun j:Nat=>d.body.nodes.length - j) (fun j=>j≤d.body.nodes.length) (fun j=>[(32,InD j),(5,InD (z+fU fl (d.body.nodes.take j)))]) (fun _=>[]) (fun _=>_) 0 (Nat.zero_le _) rfl (by rw[show fU fl (d.body.nodes.take 0)=0 from rfl,Int.add_zero];rfl) rfl ?_
   rintro G2 j ih2 hj
   by_cases hy:j<d.body.nodes.length
   ·have hst:=AZ fl d.body.nodes hy;have hb1:=hbb j;have hb2:=wz d.body.nodes[j].kind (bq fl d.body.nodes[j].kids);have hkl:=hkn _ (List.getElem_mem hy);rw[List.length_take] at hb1;have hb3:(bq fl d.body.nodes[j].kids).length=d.body.nodes[j].kids.length:=by simp[bq]
    have hpk:d.body.nodes[j].kids.length≤1000000∧∀x∈d.body.nodes[j].kids,0≤x∧x<fl.length:=⟨hkl,fun x hx=>by have:=hdR.kok j _ (List.getElem?_eq_getElem hy) x hx;omega⟩
    repeat' first|exact k9|refine k2 ?_|apply kA|apply kI;intro hc|apply kL;intro hl|((simp only[hfi2])<;>conv=>whnf)|refine k8 ?_|fail
    apply kCt [3,5,6,21,22,23,30,31,32] [];conv=>whnf
    exact ih2 (j+1) _ _ _ (by omega) (by omega) rfl (by rw[hst,←Int.add_assoc];rfl) rfl
   ·obtain rfl:j=d.body.nodes.length:=by omega
    have hb1:=hbb d.body.nodes.length;rw[List.take_length] at hb1 ⊢;clear ih2;have hst:((g.take (i+1)).map f).sum=z+fU fl d.body.nodes:=by
     rw[List.take_succ_eq_append_getElem hx,List.map_append,List.sum_append,←hT,←hd,List.map_cons,List.map_nil,List.sum_cons,hfd,List.sum_nil,Int.add_zero]
    repeat' first|exact k9|refine k2 ?_|apply kA|apply kI;intro hc|refine k8 ?_|apply kL;intro hl
    apply kCt [3,5,21,22,23] [];conv=>whnf
    exact ih (i+1,z+fU fl d.body.nodes) _ _ _ (by dsimp only;omega) ⟨by dsimp only;omega,by dsimp only;omega,by rw[hst]⟩ rfl rfl rfl
  ·obtain rfl:i=g.length:=by omega
   rw[List.take_length] at hT
   repeat' first|exact k9|refine k2 ?_|apply kA|apply kI;intro hc|refine k8 ?_|apply kL;intro hl
   exact ao.n (by rw[hR1,hT]) rfl
 ·rw[show vd g=0 from by rw[vd,if_neg hc0]];refine kf rfl rfl ?_;repeat' first|exact k9|refine k2 ?_|apply kA|apply kI;intro hc|refine k8 ?_|apply kL;intro hl
  all_goals exact ao.n rfl rfl⟩
end Go.Km
end
section
namespace Go.aa
open Go Go.Km
set_option maxRecDepth 100000
def mS:Tre:=qf ⟨1,⟨0,0,0,0⟩,⟨#[]⟩,0,0,[]⟩
def tt(l:List Tre):Tre:=(ofP du l).1
def sqT(l:List Tre):Tre:=(ofP ep l).1
def Bi:Tre:=tt [Ay 0 (-1) (cI [120]),cI [121],cI [122]]
theorem v1:CM Bi 1 0=(Ay 0 (-1) (cI [120]),true):=by decide +kernel
theorem v2:CM (tt [mS,cI [121]]) 2 0=(cI [121],true):=by decide +kernel
theorem v3:CM (sqT [cI [120],mS,cI [121]]) 3 1=(sqT [cI [120],mS],true):=by decide +kernel
theorem v4:aN [⟨⟨#[97]⟩,tt [cI [120],cI [121]]⟩]=[]:=by decide +kernel
theorem v5:vd [⟨⟨#[97]⟩,Bi⟩]=2:=by decide +kernel
end Go.aa
namespace Go.Km
open Go Go.Vc Go.Proofs Go.aa Go.Proofs.YtpbichnnflabdaaGreatDoor
set_option maxRecDepth 100000
set_option maxHeartbeats 0
theorem Bd (X Y Z N R F1 C1 S1 S2 C2:Tre) (G1 G2:List Dfn) (hYs:CC Y Y=true)
  [i1:C 24 [stF ⟨#[120]⟩] (aD X) false True]
  [i2:C 24 [stF ⟨#[121]⟩] (aD Y) false True]
  [i3:C 24 [stF ⟨#[122]⟩] (aD Z) false True]
  [i4:C 38 [.ag [.vl (.int .u64 0),.vl (.int .u64 0),.vl (.int .u64 0),.vl (.int .u64 0)]] (aD N) false True]
  [i5:C 40 [inF 0,inF (-1),aD X] (aD R) false True]
  [i6:C 39 [.sl [dg R,dg Y,dg Z]] (aD F1) false True]
  [i7:C 39 [.sl [dg N,dg Y]] (aD C1) false True]
  [i8:C 42 [.sl [dg X,dg N,dg Y]] (aD S1) false True]
  [i9:C 42 [.sl [dg X,dg N]] (aD S2) false True]
  [i10:C 39 [.sl [dg X,dg Y]] (aD C2) false True]
  [i11:C 43 [aD C2] (cg G1) false True]
  [i12:C 43 [aD F1] (cg G2) false True]
  [i20:C 41 [aD F1,byF 1,inF 0] (.tp [aD R,boF true]) false True]
  [i21:C 41 [aD C1,byF 2,inF 0] (.tp [aD Y,boF true]) false True]
  [i22:C 41 [aD S1,byF 3,inF 1] (.tp [aD S2,boF true]) false True]
  [i23:C 22 [cg G1] (.sl []) false True]
  [i24:C 19 [cg G2] (inF 2) true True]
  [i27:C 29 [aD R,aD R] (boF true) true True]
  [i28:C 29 [aD Y,aD Y] (boF true) true True]
  [i29:C 29 [aD S2,aD S2] (boF true) true True]:Pure Tryz.prog X1.Γ 17 [] (boF true) true:=by
 have hX:=qs [] [42,39];refine fC hX rfl rfl ?_;repeat' first|exact k9|refine k2 ?_|apply kA|apply kI;intro hc|(apply Sn.go hX;conv=>whnf)|((first|(refine lP i6 rfl rfl trivial ?_)|(refine lP i7 rfl rfl trivial ?_)|(refine lP i8 rfl rfl trivial ?_)|(refine lP i9 rfl rfl trivial ?_)|(refine lP i10 rfl rfl trivial ?_))<;>conv=>whnf)|refine k8 ?_|apply kL;intro hl
 exact ao.b rfl rfl
theorem JC{l:List Tre}(h:∀t∈l,t.nodes.length≤1000):tot l≤1000 * l.length:=by
 induction l with
 | nil=>simp[tot]
 | cons a l ih=>
  have h1:=h a (by simp);have h2:=ih fun t ht=>h t (by simp[ht])
  simp only[tot,List.map_cons,List.sum_cons,List.length_cons] at h2 ⊢;omega
theorem rT{n:Nod}(hn:n.wf){l:List Tre}(hl:∀t∈l,t.wf∧t.nodes.length≤1000)(hc:l.length≤10):(ofP n l).1.wf:=by
 have:=JC fun t ht=>(hl t ht).2
 exact zE hn (fun t ht=>(hl t ht).1) (by unfold bT;omega)
theorem zr{f:Nat}{n:Nod}{l:List Tre}[h:C f [j6 l] (aD (ofP n l).1) false (l.length≤100000∧(∀t∈l,Sm t)∧tot l≤100000)](hl:∀t∈l,t.wf∧t.nodes.length≤1000)(hc:l.length≤10):C f [.sl (l.map dg)] (aD (ofP n l).1) false True:=⟨fun _=>h.h ⟨by omega,fun t ht=>⟨(hl t ht).1,by have:=(hl t ht).2;omega⟩,by have:=JC fun t ht=>(hl t ht).2;omega⟩⟩
theorem Lo{p:Tre→Prop}{a b:Tre}(ha:p a)(hb:p b):∀t∈[a,b],p t:=fun t ht=>by
 simp only[List.mem_cons,List.not_mem_nil,or_false] at ht;rcases ht with rfl|rfl
 ·exact ha
 ·exact hb
theorem L6{p:Tre→Prop}{a b c:Tre}(ha:p a)(hb:p b)(hc:p c):∀t∈[a,b,c],p t:=fun t ht=>by
 simp only[List.mem_cons,List.not_mem_nil,or_false] at ht;rcases ht with rfl|rfl|rfl
 ·exact ha
 ·exact hb
 ·exact hc
theorem vJ{t x:Tre}{w a:Int}{b:Bool}(ht:t.wf∧t.nodes.length≤1000)(hw:0≤w∧w≤255)(h:CM t w a=(x,b)):C 41 [aD t,byF w,inF a] (.tp [aD x,boF b]) false True:=⟨fun _=>by
 have:=KC.h (P:=Tryz.prog) (Γ:=X1.Γ) (f:=41) (l:=[aD t,byF w,inF a]) ⟨ht.1,hw⟩;rw[h] at this;exact this⟩
theorem EK{t:Tre}(ht:t.wf):([⟨⟨#[97]⟩,t⟩]:List Dfn).length≤1000∧∀d∈([⟨⟨#[97]⟩,t⟩]:List Dfn),d.wf:=⟨by simp,fun d hd=>by
 simp only[List.mem_singleton] at hd;subst hd;exact⟨by show(1:Nat)≤_;omega,ht⟩⟩
instance:C 17 [] (boF true) true True:=⟨fun _=>by
 have hX:=txw [120] (by simp);have hY:=txw [121] (by simp);have hZ:=txw [122] (by simp);have hN:mS.wf∧mS.nodes.length≤1000:=⟨x8 ⟨by dsimp only;omega,by unfold Bts.wf;dsimp only;omega,Nat.zero_le _,by unfold Go.Sl.I64;dsimp only;omega,by unfold Go.Sl.I64;dsimp only;omega,⟨Nat.zero_le _,fun x hx=>by cases hx⟩⟩,by show 1≤_;omega⟩
 have hR:(Ay 0 (-1) (cI [120])).wf∧(Ay 0 (-1) (cI [120])).nodes.length≤1000:=⟨(K4 (by omega) (by omega) hX).1,by decide +kernel⟩
 let W:=fun t:Tre=>t.wf∧t.nodes.length≤1000
 have f1:=L6 (p:=W) hR hY hZ;have c1:=Lo (p:=W) hN hY;have s1:=L6 (p:=W) hX hN hY;have s2:=Lo (p:=W) hX hN;have c2:=Lo (p:=W) hX hY;have hF1:Bi.wf∧Bi.nodes.length≤1000:=⟨rT iD f1 (by simp),by decide +kernel⟩
 have hC1:(tt [mS,cI [121]]).wf∧(tt [mS,cI [121]]).nodes.length≤1000:=⟨rT iD c1 (by simp),by decide +kernel⟩
 have hS1:(sqT [cI [120],mS,cI [121]]).wf∧(sqT [cI [120],mS,cI [121]]).nodes.length≤1000:=⟨rT kQ s1 (by simp),by decide +kernel⟩
 have hS2:(sqT [cI [120],mS]).wf∧(sqT [cI [120],mS]).nodes.length≤1000:=⟨rT kQ s2 (by simp),by decide +kernel⟩
 have hC2:(tt [cI [120],cI [121]]).wf∧(tt [cI [120],cI [121]]).nodes.length≤1000:=⟨rT iD c2 (by simp),by decide +kernel⟩
 exact Bd (cI [120]) (cI [121]) (cI [122]) mS (Ay 0 (-1) (cI [120])) Bi (tt [mS,cI [121]]) (sqT [cI [120],mS,cI [121]]) (sqT [cI [120],mS]) (tt [cI [120],cI [121]]) [⟨⟨#[97]⟩,tt [cI [120],cI [121]]⟩] [⟨⟨#[97]⟩,Bi⟩] (by decide +kernel)
  (i1:=⟨fun _=>KC.h trivial⟩) (i2:=⟨fun _=>KC.h trivial⟩) (i3:=⟨fun _=>KC.h trivial⟩) (i4:=⟨fun _=>KC.h trivial⟩)
  (i5:=⟨fun _=>KC.h ⟨⟨hX.1,by have:=hX.2;omega⟩,by omega,by omega⟩⟩)
  (i6:=zr f1 (by simp)) (i7:=zr c1 (by simp)) (i8:=zr s1 (by simp)) (i9:=zr s2 (by simp)) (i10:=zr c2 (by simp))
  (i11:=⟨fun _=>KC.h trivial⟩) (i12:=⟨fun _=>KC.h trivial⟩)
  (i20:=vJ hF1 (by omega) v1) (i21:=vJ hC1 (by omega) v2) (i22:=vJ hS1 (by omega) v3)
  (i23:=⟨fun _=>by
   have:=KC.h (P:=Tryz.prog) (Γ:=X1.Γ) (f:=22) (l:=[cg [⟨⟨#[97]⟩,tt [cI [120],cI [121]]⟩]]) (EK hC2.1);rw[v4] at this;exact this⟩)
  (i24:=⟨fun _=>by
   have:=KC.h (P:=Tryz.prog) (Γ:=X1.Γ) (f:=19) (l:=[cg [⟨⟨#[97]⟩,Bi⟩]]) (EK hF1.1);rw[v5] at this;exact this⟩)
  (i27:=zX hR (by decide +kernel)) (i28:=zX hY (by decide +kernel)) (i29:=zX hS2 (by decide +kernel))⟩
end Go.Km
end
section
namespace Go.aa
open Go Go.Km
theorem tz{g:List Dfn}{s:Sto}(h:s∈aN g):s.p.length≤2000:=by
 unfold aN at h
 split at h
 ·rename_i hc;obtain⟨x,hx,h⟩:=List.mem_flatMap.1 h;obtain⟨_,_,e,_⟩:=fj.1 h;rw[e];exact(rj (en hc) hx).2
 ·cases h
theorem tY{g:List Dfn}(hn:g.length≤1000)(hw:∀d∈g,d.wf):(aN g).length≤160000000000:=by
 unfold aN
 split
 ·rename_i hc;have hm:=en hc;have ok:=fa hm;have hsm:∀d∈g,d.wf∧d.body.nodes.length≤20000:=fun d hd=>⟨hw d hd,by have:=ok.small hd;omega⟩
  have hAl:∀y∈jv g,(gI g y).length≤80000:=fun y hy=>by
   obtain⟨q,hq⟩:=KP hm (rj hm hy).1;have:=gZ (f:=dL g y) 20000 (List.range 4) (fun k _=>by
    unfold dL
    split
    ·exact Nat.zero_le _
    ·exact Nat.le_trans (gu g y k (gB g y)) (ph hsm hq))
   rw[List.length_range] at this;rw[s7];omega
  have hll:(jv g).length≤2000000:=by
   rw[pQ g hm];exact Nat.le_trans (ln g.length (Nat.le_refl _) fun d hd=>Nat.le_trans (oP (ok.right hd)) (by have:=ok.small hd;omega)) (by omega)
  have:=gZ 80000 (jv g) hAl;have:(jv g).length * 80000≤2000000 * 80000:=Nat.mul_le_mul_right _ hll;omega
 ·exact Nat.zero_le _
def gw(l:List Sto)(s:Sto):Bool:=l.any fun x=>decide (s.pass=2) && !cE s x && !cE x s
theorem yX{l:List Sto}{s:Sto}{i:Nat}(h:i<l.length):gw (l.take (i+1)) s=(gw (l.take i) s||(decide (s.pass=2) && !cE s l[i] && !cE l[i] s)):=by
 rw[gw,List.take_succ_eq_append_getElem h,List.any_append,gw];simp
theorem Ap{g:List Dfn}{l:List Sto}(e:l=aN g){i:Nat}(h:i+1<l.length):cE l[i] l[i+1]=true:=by
 subst e;exact List.pairwise_iff_getElem.1 (pW g) i (i+1) (by omega) h (by omega)
theorem tB{g:List Dfn}{s:Sto}:gw (aN g) s=true↔s∈aN g:=by
 rw[gw,List.any_eq_true]
 constructor
 ·rintro⟨x,hx,h⟩
  simp only[Bool.and_eq_true,decide_eq_true_eq,Bool.not_eq_true'] at h;obtain⟨⟨h1,h2⟩,h3⟩:=h;obtain⟨e1,e2,e3,e4⟩:=Ee h2 h3;have e5:=gr hx;have:s=x:=by
   cases s;cases x;simp only at *;subst e1;subst e2;subst e3;subst e4;subst h1;subst e5;rfl
  rw[this];exact hx
 ·intro h;refine⟨s,h,?_⟩;rw[zT,gr h];rfl
theorem Fh{g:List Dfn}{pass way r:Int}{p:List Int}{at_:Int}(hc:bC g=0)(h:gw (aN g) ⟨pass,way,r,p,at_⟩=true):(a7 g pass way r p at_).2=0∧bC (a7 g pass way r p at_).1=0:=by
 have h2:=(mq hc (s:=⟨pass,way,r,p,at_⟩)).1 (tB.1 h);rcases qg g pass way r p at_ hc with h3|h3
 ·exact h3
 ·rw[show(a7 g pass way r p at_).2=47 from by rw[h3]] at h2;cases h2
theorem I2{g:List Dfn}{pass way r:Int}{p:List Int}{at_:Int}(hc:bC g=0)(h:gw (aN g) ⟨pass,way,r,p,at_⟩=false):a7 g pass way r p at_=([],47):=by
 rcases qg g pass way r p at_ hc with h3|h3
 ·have:=tB.2 ((mq hc (s:=⟨pass,way,r,p,at_⟩)).2 h3.1);rw[h] at this
  cases this
 ·exact h3
theorem Gg{g:List Dfn}{pass way r:Int}{p:List Int}{at_:Int}(hc:bC g≠0):a7 g pass way r p at_=([],bC g)∧aN g=[]:=⟨by rw[a7,if_pos hc],by rw[aN,if_neg hc]⟩
end Go.aa
namespace Go.Km
open Go Go.Vc Go.Proofs Go.aa Go.Proofs.YtpbichnnflabdaaGreatDoor
set_option maxRecDepth 100000
set_option maxHeartbeats 0
instance(a b:Sto):C 23 [.ag (qQ a),.ag (qQ b)] (boF (cE a b)) true (a.p.length≤1000000∧b.p.length≤1000000):=⟨fun ⟨hp,hp'⟩=>by
 have hpp:a.p.length≤1000000∧b.p.length≤1000000:=⟨hp,hp'⟩
 refine kf rfl rfl ?_;repeat' first|exact k9|refine k2 ?_|apply kA|apply kI;intro hc|refine k8 ?_|apply kL;intro hl
 all_goals
  refine ao.b ?_ rfl;rw[Bool.eq_iff_iff];simp only[cE,lb,Bool.or_eq_true,Bool.and_eq_true,decide_eq_true_eq,true_iff,Bool.false_eq_true,false_iff];omega⟩
theorem uI(a b:Sto):KC Tryz.prog X1.Γ 23 [.ag (qQ a),.ag (qQ b)] (boF (cE a b)) true (a.p.length≤1000000∧b.p.length≤1000000):=inferInstance
theorem My{a b c d:D}{v w:Bool}(h:v=w):([(2,a),(3,b),(5,c),(6,.fr (.vl (.bool v))),(7,d)]:List (Nat×D))=[(2,a),(3,b),(5,c),(6,.fr (.vl (.bool w))),(7,d)]:=by rw[h]
theorem CK(g:List Dfn)(pass way r:Int)(p:List Int)(at_:Int)(hn:g.length≤dd)(hw:∀d∈g,d.wf)(hw0:0≤way)(hw1:way≤255)(hp:p.length≤dd) :
  Pure Tryz.prog X1.Γ 7 [cg g,.ag [byF pass,byF way,inF r,isF p,inF at_]] (boF true) true:=by
 simp only[dd] at hn hp;have hlo:g.length≤dd∧∀d∈g,d.wf:=⟨by unfold dd;omega,hw⟩
 cases hl:qt g with
 | true=>
  refine kf rfl rfl ?_;repeat' first|exact k9|refine k2 ?_|apply kA|apply kI;intro hc|refine k8 ?_|apply kL;intro hl
 | false=>
  by_cases hpl:p.length≤500
  ·obtain⟨h1,h2⟩:=Iw hl;have hd1:g.length≤1000∧(∀d∈g,d.wf)∧p.length≤1000000∧0≤way∧way≤255:=⟨by omega,hw,by omega,hw0,hw1⟩
   have hwe:g.length≤1000∧∀d∈g,d.wf:=⟨by omega,hw⟩
   have hres:=vh (pass:=pass) (way:=way) (r:=r) (at_:=at_) hwe.1 hw hd1.2.2.1;obtain⟨l,hfl⟩:=exEq (aN g);obtain⟨S,hS⟩:∃S:Sto,S=⟨pass,way,r,p,at_⟩:=⟨_,rfl⟩
   have hSp:S.pass=pass:=by rw[hS]
   have hll:l.length≤160000000000:=by rw[hfl];exact tY hwe.1 hw
   refine kf rfl rfl ?_;repeat' first|exact k9|refine k2 ?_|apply kA|apply kI;intro hc|refine k8 ?_|apply kL;intro hl
   apply kCt [2,3,5,6,7] [];conv=>whnf
   rw[←hfl];refine Lp.ind (fun x:Nat=>l.length - x) (fun x=>x≤l.length) (fun x=>[(6,BoD (gw (l.take x) S)),(7,InD x)]) (fun _=>[]) (fun _=>_) 0 (Nat.zero_le _) rfl rfl rfl ?_
   rintro G x ih hx
   by_cases hxl:x<l.length
   ·have hps:l[x].pass=2:=gr (g:=g) (by rw[←hfl];exact List.getElem_mem hxl);have hpa:∀(i:Nat) (hi:i<l.length),l[i].p.length≤1000000:=fun i hi=>by have:=tz (g:=g) (s:=l[i]) (by rw[←hfl];exact List.getElem_mem hi);omega
    have hat:=yX (s:=S) hxl;rw[hSp] at hat;have hC1:KC Tryz.prog X1.Γ 23 [.ag [byF pass,byF way,inF r,isF p,inF at_],.ag (qQ l[x])] (boF (cE S l[x])) true (p.length≤1000000∧l[x].p.length≤1000000):=by rw[hS];exact uI ⟨pass,way,r,p,at_⟩ l[x]
    have hC2:KC Tryz.prog X1.Γ 23 [.ag (qQ l[x]),.ag [byF pass,byF way,inF r,isF p,inF at_]] (boF (cE l[x] S)) true (l[x].p.length≤1000000∧p.length≤1000000):=by rw[hS];exact uI l[x] ⟨pass,way,r,p,at_⟩
    have ha1:p.length≤1000000∧l[x].p.length≤1000000:=⟨by omega,hpa x hxl⟩
    have ha2:l[x].p.length≤1000000∧p.length≤1000000:=⟨hpa x hxl,by omega⟩
    cases x with
    | zero=>
     repeat' first|exact k9|refine k2 ?_|apply kA|apply kI;intro hc|(((refine jJ.e hC1 ha1 ?_))<;>conv=>whnf)|(((refine jJ.e hC2 ha2 ?_))<;>conv=>whnf)|refine k8 ?_|apply kL;intro hl
     all_goals
      apply kCt [2,3,5,6,7] [];conv=>whnf
      refine ih 1 _ _ _ (by omega) (by omega) rfl (My ?_) rfl;rw[hat,show gw (l.take 0) _=false from rfl];clear ih hfl hat hS hSp;simp[*]
    | succ y=>
     have hay:=Ap hfl hxl;have hyi:(((y+1:Nat):Int) - 1).toNat=y:=by omega
     have hay2:cE (l[(((y+1:Nat):Int) - 1).toNat]'(by omega)) l[y+1]=true:=by
      simp only[hyi];exact hay
     have ha3:(l[(((y+1:Nat):Int) - 1).toNat]'(by omega)).p.length≤1000000∧l[y+1].p.length≤1000000:=⟨hpa _ (by omega),hpa (y+1) hxl⟩
     repeat' first|exact k9|refine k2 ?_|apply kA|apply kI;intro hc|(((refine jJ.e hC1 ha1 ?_))<;>conv=>whnf)|(((refine jJ.e hC2 ha2 ?_))<;>conv=>whnf)|refine k8 ?_|apply kL;intro hl
     all_goals
      apply kCt [2,3,5,6,7] [];conv=>whnf
      refine ih (y+1+1) _ _ _ (by omega) (by omega) rfl (My ?_) rfl;rw[hat];clear ih hfl hat hS hSp;simp[*]
   ·obtain rfl:x=l.length:=by omega
    rw[List.take_length] at *
    by_cases hcg:bC g=0
    ·cases ham:gw l S with
     | true=>
      have hy:=Fh hcg (by rw[←hfl,←hS];exact ham)
      repeat' first|exact k9|refine k2 ?_|apply kA|apply kI;intro hc|refine k8 ?_|apply kL;intro hl
      exact ao.b (by rw[cC,hy.2];rfl) rfl
     | false=>
      have hy:=I2 hcg (by rw[←hfl,←hS];exact ham);have hy2:(a7 g pass way r p at_).2=47:=by rw[hy]
      repeat' first|exact k9|refine k2 ?_|apply kA|apply kI;intro hc|refine k8 ?_|apply kL;intro hl
      exact ao.b (by rw[cC,hy];rfl) rfl
    ·obtain⟨hy,hz⟩:=Gg (pass:=pass) (way:=way) (r:=r) (p:=p) (at_:=at_) hcg;have hy2:(a7 g pass way r p at_).2=bC g:=by rw[hy]
     have hz2:l.length=0:=by rw[hfl,hz];rfl
     repeat' first|exact k9|refine k2 ?_|apply kA|apply kI;intro hc|refine k8 ?_|apply kL;intro hl
     exact ao.b (by rw[cC,hy];rfl) rfl
  ·refine kf rfl rfl ?_;repeat' first|exact k9|refine k2 ?_|apply kA|apply kI;intro hc|refine k8 ?_|apply kL;intro hl
end Go.Km
end
section
namespace Go.Km
open Go Go.Sl Go.RowKit Go.Vc Go.aa
section
variable {H:Type} {enc:TypeId×Value→H} {P:Program} {w:World}
def ey(P:Program)(t:TypeId)(d:DataW H):Prop:=∀k∈d.weights P t,k≤reachBytes
theorem vk{e:TypeId}:∀{l:List (DataW H)},(∀k∈DataW.weightsAll P e l,k≤reachBytes)→∀d∈l,ey P e d
 | [],_,d,hd=>by cases hd
 | x :: l,h,d,hd=>by
  simp only[DataW.weightsAll,List.mem_append] at h;rcases List.mem_cons.1 hd with rfl|hd
  ·exact fun k hk=>h k (.inl hk)
  ·exact vk (fun k hk=>h k (.inr hk)) d hd
theorem ed:∀{ts:List TypeId} {l:List (DataW H)},(∀k∈DataW.weightsEach P ts l,k≤reachBytes)→∀(i:Nat) t d,ts[i]?=some t→l[i]?=some d→ey P t d
 | [],_,_,i,t,d,ht,_=>by simp at ht
 | _ :: _,[],_,i,t,d,_,hd=>by simp at hd
 | t0 :: ts,x :: l,h,0,t,d,ht,hd=>by
  simp only[DataW.weightsEach,List.mem_append] at h;simp at ht hd;subst ht;subst hd;exact fun k hk=>h k (.inl hk)
 | t0 :: ts,x :: l,h,i+1,t,d,ht,hd=>by
  simp only[DataW.weightsEach,List.mem_append] at h;exact ed (fun k hk=>h k (.inr hk)) i t d (by simpa using ht) (by simpa using hd)
theorem ke:reachBytes=140737488351232:=by decide
theorem lO{n:Int}(h:(Lit.int .i64 n).wf=true):I64 n:=by
 simp only[Lit.wf,Bool.and_eq_true,decide_eq_true_eq] at h;exact h
theorem Bj{n:Int}(h:(Lit.int .u8 n).wf=true):0≤n∧n≤255:=by
 simp only[Lit.wf,Bool.and_eq_true,decide_eq_true_eq] at h;exact h
theorem rn{n:Int}(h:(Lit.int .u64 n).wf=true):0≤n∧n<18446744073709551616:=by
 simp only[Lit.wf,Bool.and_eq_true,decide_eq_true_eq] at h;have h1:(0:Int)≤n:=h.1;have h2:n≤(18446744073709551615:Int):=h.2;omega
theorem w7 {α:Type} [Inhabited α] {t e sz:Nat} {R:List Value→α→Prop} {F:α→Prop} (ht:P.underlying t=some (.slice e)) (hc:P.cellsOf e=sz) (hsz:0<sz)
  (hE:∀(n:Nat) cs (y:DataW H×List MemPlace),DataW.trod enc P w 0 (fun _=>true) true n e cs=some y→ey P e y.1→∃a,R cs a∧F a)
  {fuel:Nat} {cs:List Value} {x:DataW H×List MemPlace} (h:DataW.trod enc P w 0 (fun _=>true) true fuel t cs=some x) (hs:ey P t x.1) :
  ∃(xs:List α) (A:Option Addr) (c:Nat) (rows:List (List Value)),cs=[.slice A xs.length c]∧Arr sz (fun b=>b<w.heap.size) w A xs.length rows∧(rows.length=xs.length∧∀(i:Nat) a b,rows[i]?=some a→xs[i]?=some b→R a b)∧xs.length≤c∧xs.length * P.bytesOf e≤reachBytes∧∀a∈xs,F a:=by
 rcases DataW.trod_slice ht h with ⟨rfl,rfl⟩|⟨a,len,cap,elems,rest,n,rfl,rfl,rfl,_,hlc,hcm,hel,hg,_,_⟩
 ·exact⟨[],none,0,[],rfl,Arr.nil,⟨rfl,fun i a b h=>by simp at h⟩,Nat.le_refl _,by simp,by simp⟩
 ·unfold ey at hs;simp only[DataW.weights,ht,List.mem_cons,List.mem_append,List.length_map] at hs;have hb:=hs _ (.inl rfl);have hse:=vk (P:=P) (e:=e) (fun k hk=>hs k (.inr (.inl hk)));have key:∀i:Nat,∃p:List Value×α,i<len→w.cells? 0 (a.add (i * sz)) sz=some p.1∧R p.1 p.2∧F p.2:=by
   intro i
   by_cases hi:i<len
   ·have h1:=hg i hi;rw[List.getElem?_eq_getElem (by omega),hc] at h1;obtain⟨ci,h2,h3⟩:=Option.bind_eq_some_iff.1 h1;obtain⟨ai,h4,h5⟩:=hE n ci _ h3 (hse _ (List.mem_map.2 ⟨elems[i],List.getElem_mem _,rfl⟩));exact⟨(ci,ai),fun _=>⟨h2,h4,h5⟩⟩
   ·exact⟨([],default),fun h=>absurd h hi⟩
  obtain⟨f,hf⟩:=Classical.axiomOfChoice key;have hlr:((List.range len).map fun i=>(f i).1).length=len:=by simp
  have hlx:((List.range len).map fun i=>(f i).2).length=len:=by simp
  have hgr:∀i,i<len→((List.range len).map fun i=>(f i).1)[i]?=some (f i).1:=fun i hi=>by simp[hi]
  have hgx:∀i,i<len→((List.range len).map fun i=>(f i).2)[i]?=some (f i).2:=fun i hi=>by simp[hi]
  have hrs:∀r∈(List.range len).map (fun i=>(f i).1),r.length=sz:=by
   intro r hr;obtain⟨i,hi,rfl⟩:=List.mem_map.1 hr;exact(World.cells?_some (hf i (List.mem_range.1 hi)).1).2.1
  refine⟨(List.range len).map fun i=>(f i).2,some a,cap,(List.range len).map fun i=>(f i).1,by rw[hlx],?_,⟨by rw[hlr,hlx],fun i x y hx hy=>?_⟩,by rw[hlx];exact hlc,?_,fun y hy=>?_⟩
  ·rw[hlx];refine⟨hlr,hrs,fun h0=>⟨a,rfl,?_,fun j v hj=>?_⟩⟩
   ·have:=World.cells?_block (hf 0 h0).1 hsz;simpa [pn] using this
   ·have hjl:j<len * sz:=by
     have:=(List.getElem?_eq_some_iff.1 hj).1
     rwa [length_flatten hrs,hlr] at this
    have hi:j / sz<len:=Nat.div_lt_of_lt_mul (by rw[Nat.mul_comm];exact hjl);have ho:j % sz<sz:=Nat.mod_lt _ hsz;have hdm:j / sz * sz+j % sz=j:=by rw[Nat.mul_comm];exact Nat.div_add_mod j sz
    have h1:=mU hrs (hgr _ hi) ho;rw[hdm,hj] at h1;have h2:=(World.cells?_some (hf _ hi).1).2.2 _ ho;rw[Sl.add_add,hdm,←h1] at h2;exact h2
  ·have hi:i<len:=by have:=(List.getElem?_eq_some_iff.1 hx).1;simpa using this
   rw[hgr i hi] at hx;rw[hgx i hi] at hy
   injection hx with hx
   injection hy with hy
   subst hx;subst hy;exact(hf i hi).2.1
  ·rw[hlx];refine Nat.le_trans (Nat.mul_le_mul_right _ ?_) hb;omega
  ·obtain⟨i,hi,rfl⟩:=List.mem_map.1 hy;exact(hf i (List.mem_range.1 hi)).2.2
theorem aL{Z:Nat→Prop}{w:World}{x:F}{u:Value}{l:List F}{us:List Value}(h:F.rep Z w x u)(k:F.ah Z w l us):F.ah Z w (x :: l) (u :: us):=by
 unfold F.ah;exact⟨u,us,rfl,h,k⟩
theorem eW{Z:Nat→Prop}{w:World}:F.ah Z w [] []:=by unfold F.ah;rfl
theorem cL{Z:Nat→Prop}{w:World}(v:Value):F.rep Z w (.vl v) v:=by unfold F.rep;rfl
theorem BY{Z:Nat→Prop}{w:World}{l:List F}{vs:List Value}(h:F.ah Z w l vs):F.rep Z w (.ag l) (.agg vs.toArray):=by unfold F.rep;exact⟨vs,rfl,h⟩
theorem BM{Z:Nat→Prop}{w:World}{α:Type}{c:α→List F}:∀{xs:List α} {rows:List (List Value)},rows.length=xs.length→(∀(i:Nat) a b,rows[i]?=some a→xs[i]?=some b→F.ah Z w (c b) a)→F.aG Z w (xs.map c) rows
 | [],[],_,_=>by unfold F.aG;rfl
 | [],_ :: _,h,_=>by simp at h
 | _ :: _,[],h,_=>by simp at h
 | x :: xs,r :: rows,h,k=>by
  rw[List.map_cons];unfold F.aG;exact⟨r,rows,rfl,k 0 r x rfl rfl,BM (by simpa using h) fun i a b ha hb=>k (i+1) a b (by simpa using ha) (by simpa using hb)⟩
theorem p9{Z:Nat→Prop}{w:World}{α:Type}{c:α→List F}{xs:List α}{A:Option Addr}{k sz:Nat}{rows:List (List Value)}(hk:xs.length≤k)(hA:Arr sz Z w A xs.length rows)(hR:rows.length=xs.length∧∀(i:Nat) a b,rows[i]?=some a→xs[i]?=some b→F.ah Z w (c b) a)(h1:∀x,(c x).all F.one=true):F.rep Z w (.sl (xs.map c)) (.slice A xs.length k):=by
 unfold F.rep;refine⟨A,k,rows,sz,by rw[List.length_map],by rw[List.length_map];exact hk,by rw[List.length_map];exact hA,fun r hr=>?_,BM hR.1 hR.2⟩;obtain⟨i,hi,rfl⟩:=List.getElem_of_mem hr;exact F.eC (hR.2 i _ (xs[i]'(by rw[←hR.1];exact hi)) (List.getElem?_eq_getElem hi) (List.getElem?_eq_getElem _)) (h1 _)
instance:Inhabited Nod:=⟨.zero⟩
instance:Inhabited Dfn:=⟨⟨⟨#[]⟩,.zero⟩⟩
end
end Go.Km
namespace Go.Proofs.YtpbichnnflabdaaGreatDoor
open Go Go.Sl Go.RowKit Go.Vc Go.Km Go.aa
variable {H:Type} {enc:TypeId×Value→H} {w:World}
abbrev jS(w:World):Nat→Prop:=fun b=>b<w.heap.size
theorem IG:Tryz.prog.cellsOf 3=1:=by kernel_rfl
theorem Md:Tryz.prog.cellsOf 46=9:=by kernel_rfl
theorem MH:Tryz.prog.cellsOf 39=2:=by kernel_rfl
theorem Ny:Tryz.prog.cellsOf 44=4:=by kernel_rfl
theorem Ng:Tryz.prog.cellsOf 42=1:=by kernel_rfl
theorem Nl:Tryz.prog.cellsOf 5=1:=by kernel_rfl
theorem M3:Tryz.prog.cellsOf 9=1:=by kernel_rfl
theorem M1:Tryz.prog.cellsOf 30=1:=by kernel_rfl
theorem Nx:Tryz.prog.cellsOf 37=1:=by kernel_rfl
theorem Na:Tryz.prog.bytesOf 3=8:=by kernel_rfl
theorem Nh:Tryz.prog.bytesOf 46=96:=by kernel_rfl
theorem Mm:Tryz.prog.cellsOf 41=3:=by kernel_rfl
theorem Nv:Tryz.prog.cellsOf 22=1:=by kernel_rfl
theorem M8:Tryz.prog.cellsOf 24=1:=by kernel_rfl
theorem Np:Tryz.prog.bytesOf 41=48:=by kernel_rfl
theorem Fs{fuel:Nat}{cs:List Value}{x:DataW H×List MemPlace}(h:DataW.trod enc Tryz.prog w 0 (fun _=>true) true fuel 30 cs=some x)(hs:ey Tryz.prog 30 x.1):∃xs:List Int,∃u,cs=[u]∧F.rep (jS w) w (isF xs) u∧Az xs:=by
 obtain⟨xs,A,c,rows,h1,h2,h3,h4,h5,h6⟩:=w7 (R:=fun cs (a:Int)=>F.ah (jS w) w (ikF a) cs) (F:=fun a=>I64 a) Tryz.underlying30 IG (by decide) (fun n cs y hy _=>by
  obtain⟨k,e1,e2,e3⟩:=DataW.trod_int Tryz.underlying3 hy;subst e1;exact⟨k,aL (cL _) eW,lO e3⟩) h hs
 rw[Na] at h5;refine⟨xs,_,h1,p9 h4 h2 h3 (fun _=>rfl),?_,h6⟩;rw[ke] at h5;unfold dd;omega
set_option maxRecDepth 100000 in
theorem KU{fuel:Nat}{cs:List Value}{x:DataW H×List MemPlace}(h:DataW.trod enc Tryz.prog w 0 (fun _=>true) true fuel 46 cs=some x)(hs:ey Tryz.prog 46 x.1):∃n:Nod,F.ah (jS w) w (aX n) cs∧n.wf:=by
 obtain⟨xs,m,_,rfl,hl,hlen,hf⟩:=DataW.trod_struct Tryz.underlying46 h;have hl:=hl.trans Md
 match cs,hl with
 | [c0,c1,c2,c3,c4,c5,c6,c7,c8],_=>
  match xs,hlen with
  | [y0,y1,y2,y3,y4,y5],_=>
   unfold ey at hs;simp only[DataW.weights,Tryz.underlying46] at hs;have hse:=ed hs;have f0:=hf 0 _ rfl;have f1:=hf 1 _ rfl;have f2:=hf 2 _ rfl;have f3:=hf 3 _ rfl;have f4:=hf 4 _ rfl;have f5:=hf 5 _ rfl;simp only[Nl,Ny,M3,IG,M1,List.drop_succ_cons,List.drop_zero,List.take_succ_cons,List.take_zero,List.getElem?_cons_zero,List.getElem?_cons_succ] at f0 f1 f2 f3 f4 f5;obtain⟨k0,e0,_,w0⟩:=DataW.trod_int Tryz.underlying5 f0;obtain⟨zs,m1,_,_,_,hzl,hz⟩:=DataW.trod_array Tryz.underlying44 f1;obtain⟨s,e2,rfl',_⟩:=DataW.trod_string Tryz.underlying9 f2;obtain⟨k3,e3,_,w3⟩:=DataW.trod_int Tryz.underlying3 f3;obtain⟨k4,e4,_,w4⟩:=DataW.trod_int Tryz.underlying3 f4;obtain⟨ks,u5,e5,hr5,hw5⟩:=Fs f5 (hse 5 _ _ rfl rfl)
   match zs,hzl with
   | [z0,z1,z2,z3],_=>
    have g0:=hz 0 (by decide);have g1:=hz 1 (by decide);have g2:=hz 2 (by decide);have g3:=hz 3 (by decide);simp only[Ng,Nat.zero_mul,Nat.one_mul,Nat.mul_one,List.drop_succ_cons,List.drop_zero,List.take_succ_cons,List.take_zero,List.getElem?_cons_zero,List.getElem?_cons_succ] at g0 g1 g2 g3;obtain⟨b0,q0,_,u0⟩:=DataW.trod_int Tryz.underlying42 g0;obtain⟨b1,q1,_,u1⟩:=DataW.trod_int Tryz.underlying42 g1;obtain⟨b2,q2,_,u2⟩:=DataW.trod_int Tryz.underlying42 g2;obtain⟨b3,q3,_,u3⟩:=DataW.trod_int Tryz.underlying42 g3;have hst:=hse 2 _ _ rfl rfl;have htx:s.size≤reachBytes:=by
     have e:y2.1=.lit (.string s.data.toList):=by rw[rfl']
     simp only[List.map_cons,List.getElem?_cons_zero,List.getElem?_cons_succ] at hst;rw[e] at hst;have:=hst s.data.toList.length (by simp[DataW.weights]);simpa using this
    obtain⟨rfl,_⟩:=List.cons.inj e0;obtain⟨rfl,_⟩:=List.cons.inj e2;obtain⟨rfl,_⟩:=List.cons.inj e3;obtain⟨rfl,_⟩:=List.cons.inj e4;obtain⟨rfl,_⟩:=List.cons.inj e5;obtain⟨rfl,_⟩:=List.cons.inj q0;obtain⟨rfl,_⟩:=List.cons.inj q1;obtain⟨rfl,_⟩:=List.cons.inj q2;obtain⟨rfl,_⟩:=List.cons.inj q3;refine⟨⟨k0,⟨b0,b1,b2,b3⟩,s,k3,k4,ks⟩,aL (cL _) (aL (cL _) (aL (cL _) (aL (cL _) (aL (cL _) (aL (cL _) (aL (cL _) (aL (cL _) (aL hr5 eW)))))))),Bj w0,⟨rn u0,rn u1,rn u2,rn u3⟩,?_,lO w3,lO w4,hw5⟩;show s.size≤140737488355328
    rw[ke] at htx;omega
theorem Il{fuel:Nat}{cs:List Value}{x:DataW H×List MemPlace}(h:DataW.trod enc Tryz.prog w 0 (fun _=>true) true fuel 37 cs=some x)(hs:ey Tryz.prog 37 x.1):∃ns:List Nod,∃u,cs=[u]∧F.rep (jS w) w (.sl (ns.map aX)) u∧ns.length≤bT∧∀n∈ns,n.wf:=by
 obtain⟨ns,A,c,rows,h1,h2,h3,h4,h5,h6⟩:=w7 (R:=fun cs (n:Nod)=>F.ah (jS w) w (aX n) cs) (F:=Nod.wf) Tryz.underlying37 Md (by decide) (fun n cs y hy hys=>KU hy hys) h hs;rw[Nh] at h5;refine⟨ns,_,h1,p9 h4 h2 h3 (fun _=>rfl),?_,h6⟩;rw[ke] at h5;unfold bT;omega
set_option maxRecDepth 100000 in
theorem Kl{fuel:Nat}{cs:List Value}{x:DataW H×List MemPlace}(h:DataW.trod enc Tryz.prog w 0 (fun _=>true) true fuel 39 cs=some x)(hs:ey Tryz.prog 39 x.1):∃t:Tre,F.ah (jS w) w (dg t) cs∧t.wf:=by
 obtain⟨xs,m,_,rfl,hl,hlen,hf⟩:=DataW.trod_struct Tryz.underlying39 h;have hl:=hl.trans MH
 match cs,hl with
 | [c0,c1],_=>
  match xs,hlen with
  | [y0,y1],_=>
   unfold ey at hs;simp only[DataW.weights,Tryz.underlying39] at hs;have hse:=ed hs;have f0:=hf 0 _ rfl;have f1:=hf 1 _ rfl;simp only[Nx,IG,List.drop_succ_cons,List.drop_zero,List.take_succ_cons,List.take_zero,List.getElem?_cons_zero,List.getElem?_cons_succ] at f0 f1;obtain⟨ns,u0,e0,hr,hnl,hw⟩:=Il f0 (hse 0 _ _ rfl rfl);obtain⟨k1,e1,_,w1⟩:=DataW.trod_int Tryz.underlying3 f1;obtain⟨rfl,_⟩:=List.cons.inj e0;obtain⟨rfl,_⟩:=List.cons.inj e1;exact⟨⟨ns,k1⟩,aL hr (aL (cL _) eW),hnl,hw,lO w1⟩
set_option maxRecDepth 100000 in
theorem MJ{fuel:Nat}{cs:List Value}{x:DataW H×List MemPlace}(h:DataW.trod enc Tryz.prog w 0 (fun _=>true) true fuel 41 cs=some x)(hs:ey Tryz.prog 41 x.1):∃d:Dfn,F.ah (jS w) w (ti d) cs∧d.wf:=by
 obtain⟨xs,m,_,rfl,hl,hlen,hf⟩:=DataW.trod_struct Tryz.underlying41 h;have hl:=hl.trans Mm
 match cs,hl with
 | [c0,c1,c2],_=>
  match xs,hlen with
  | [y0,y1],_=>
   unfold ey at hs;simp only[DataW.weights,Tryz.underlying41] at hs;have hse:=ed hs;have f0:=hf 0 _ rfl;have f1:=hf 1 _ rfl;simp only[M3,MH,List.drop_succ_cons,List.drop_zero,List.take_succ_cons,List.take_zero,List.getElem?_cons_zero,List.getElem?_cons_succ] at f0 f1;obtain⟨s,e0,rfl',_⟩:=DataW.trod_string Tryz.underlying9 f0;obtain⟨t,ht,hw⟩:=Kl f1 (hse 1 _ _ rfl rfl);have hst:=hse 0 _ _ rfl rfl;have htx:s.size≤reachBytes:=by
    have e:y0.1=.lit (.string s.data.toList):=by rw[rfl']
    simp only[List.map_cons,List.getElem?_cons_zero,List.getElem?_cons_succ] at hst;rw[e] at hst;have:=hst s.data.toList.length (by simp[DataW.weights]);simpa using this
   obtain⟨rfl,_⟩:=List.cons.inj e0;refine⟨⟨s,t⟩,aL (cL _) ht,?_,hw⟩;show s.size≤_
   rw[ke] at htx;omega
theorem K7{fuel:Nat}{cs:List Value}{x:DataW H×List MemPlace}(h:DataW.trod enc Tryz.prog w 0 (fun _=>true) true fuel 22 cs=some x)(hs:ey Tryz.prog 22 x.1):∃l:List Dfn,∃u,cs=[u]∧F.rep (jS w) w (.sl (l.map ti)) u∧l.length≤dd∧∀d∈l,d.wf:=by
 obtain⟨l,A,c,rows,h1,h2,h3,h4,h5,h6⟩:=w7 (R:=fun cs (d:Dfn)=>F.ah (jS w) w (ti d) cs) (F:=Dfn.wf) Tryz.underlying22 Mm (by decide) (fun n cs y hy hys=>MJ hy hys) h hs;rw[Np] at h5;refine⟨l,_,h1,p9 h4 h2 h3 (fun _=>rfl),?_,h6⟩;rw[ke] at h5;unfold dd;omega
set_option maxRecDepth 100000 in
theorem Dl{fuel:Nat}{cs:List Value}{x:DataW H×List MemPlace}(h:DataW.trod enc Tryz.prog w 0 (fun _=>true) true fuel 24 cs=some x)(hs:ey Tryz.prog 24 x.1):∃g:List Dfn,F.rep (jS w) w (cg g) (.agg cs.toArray)∧g.length≤dd∧∀d∈g,d.wf:=by
 obtain⟨xs,m,_,rfl,hl,hlen,hf⟩:=DataW.trod_struct Tryz.underlying24 h;have hl:=hl.trans M8
 match cs,hl with
 | [c0],_=>
  match xs,hlen with
  | [y0],_=>
   unfold ey at hs;simp only[DataW.weights,Tryz.underlying24] at hs;have hse:=ed hs;have f0:=hf 0 _ rfl;simp only[Nv,List.drop_succ_cons,List.drop_zero,List.take_succ_cons,List.take_zero,List.getElem?_cons_zero,List.getElem?_cons_succ] at f0;obtain⟨l,u0,e0,hr,hnl,hw⟩:=K7 f0 (hse 0 _ _ rfl rfl);obtain⟨rfl,_⟩:=List.cons.inj e0;exact⟨l,BY (aL hr eW),hnl,hw⟩
set_option maxRecDepth 100000 in
theorem JT{fuel:Nat}{cs:List Value}{x:DataW H×List MemPlace}(h:DataW.trod enc Tryz.prog w 0 (fun _=>true) true fuel 32 cs=some x)(hs:ey Tryz.prog 32 x.1):∃(pass way r:Int) (p:List Int) (at_:Int),F.rep (jS w) w (.ag [byF pass,byF way,inF r,isF p,inF at_]) (.agg cs.toArray)∧(0≤pass∧pass≤255)∧(0≤way∧way≤255)∧I64 r∧Az p∧I64 at_:=by
 obtain⟨xs,m,_,rfl,hl,hlen,hf⟩:=DataW.trod_struct Tryz.underlying32 h;have hl:=hl.trans (show Tryz.prog.cellsOf 32=5 by kernel_rfl)
 match cs,hl with
 | [c0,c1,c2,c3,c4],_=>
  match xs,hlen with
  | [y0,y1,y2,y3,y4],_=>
   unfold ey at hs;simp only[DataW.weights,Tryz.underlying32] at hs;have hse:=ed hs;have f0:=hf 0 _ rfl;have f1:=hf 1 _ rfl;have f2:=hf 2 _ rfl;have f3:=hf 3 _ rfl;have f4:=hf 4 _ rfl;simp only[Nl,IG,M1,List.drop_succ_cons,List.drop_zero,List.take_succ_cons,List.take_zero,List.getElem?_cons_zero,List.getElem?_cons_succ] at f0 f1 f2 f3 f4;obtain⟨k0,e0,_,w0⟩:=DataW.trod_int Tryz.underlying5 f0;obtain⟨k1,e1,_,w1⟩:=DataW.trod_int Tryz.underlying5 f1;obtain⟨k2,e2,_,w2⟩:=DataW.trod_int Tryz.underlying3 f2;obtain⟨ks,u3,e3,hr3,hw3⟩:=Fs f3 (hse 3 _ _ rfl rfl);obtain⟨k4,e4,_,w4⟩:=DataW.trod_int Tryz.underlying3 f4;obtain⟨rfl,_⟩:=List.cons.inj e0;obtain⟨rfl,_⟩:=List.cons.inj e1;obtain⟨rfl,_⟩:=List.cons.inj e2;obtain⟨rfl,_⟩:=List.cons.inj e3;obtain⟨rfl,_⟩:=List.cons.inj e4;exact⟨k0,k1,k2,ks,k4,BY (aL (cL _) (aL (cL _) (aL (cL _) (aL hr3 (aL (cL _) eW))))),Bj w0,Bj w1,lO w2,hw3,lO w4⟩
end Go.Proofs.YtpbichnnflabdaaGreatDoor
end
section
namespace Go.Km
open Go Go.Sl Go.RowKit Go.Vc
mutual
def flD{H:Type}:DataW H→Option (List Value)
 | .lit (.int k n)=>some [.int k n]
 | .lit (.string b)=>some [.string ⟨b.toArray⟩]
 | .agg ds=>G7 ds
 | _=>none
def G7{H:Type}:List (DataW H)→Option (List Value)
 | []=>some []
 | d :: ds=>match flD d,G7 ds with
  | some a,some b=>some (a++b)
  | _,_=>none
end
def FlT(H:Type)(P:Program)(w:World)(t:TypeId):Prop:=∀(enc:TypeId×Value→H) (base:Nat) (spare:Nat→Bool) (held:Bool) (m:Nat) (cs:List Value) (y:DataW H×List MemPlace),DataW.trod enc P w base spare held m t cs=some y→∀vs,flD y.1=some vs→cs=vs
section
variable {H:Type} {P:Program} {w:World} {t:TypeId}
theorem AV{k:IntKind}(ht:P.underlying t=some (.int k)):FlT H P w t:=fun enc base spare held m cs y h vs hv=>by
 obtain⟨n,rfl,rfl,_⟩:=DataW.trod_int ht h;rw[flD] at hv;exact Option.some.inj hv
theorem JH(ht:P.underlying t=some .string):FlT H P w t:=fun enc base spare held m cs y h vs hv=>by
 obtain⟨s,rfl,rfl,_⟩:=DataW.trod_string ht h;rw[flD] at hv;have:=Option.some.inj hv;rw[←this]
theorem chunks{sz:Nat}:∀(l:List (List Value)) (cs:List Value),cs.length=l.length * sz→(∀(i:Nat) (h:i<l.length),(cs.drop (i * sz)).take sz=l[i])→cs=l.flatten
 | [],cs,h,_=>by
  simp at h;rw[h];rfl
 | x :: l,cs,h,k=>by
  have h0:=k 0 (by simp);simp only[Nat.zero_mul,List.drop_zero,List.getElem_cons_zero] at h0;have ih:=chunks (sz:=sz) l (cs.drop sz) (by rw[List.length_drop,h,List.length_cons,Nat.add_mul];omega) fun i hi=>by
   have:=k (i+1) (by simpa using hi);rw[List.getElem_cons_succ] at this;rw[←this,List.drop_drop,Nat.add_mul,Nat.one_mul,Nat.add_comm]
  rw[List.flatten_cons,←ih,←h0,List.take_append_drop]
theorem wV:∀(ds:List (DataW H)) (vs:List Value),G7 ds=some vs→∃l:List (List Value),vs=l.flatten∧l.length=ds.length∧∀(i:Nat) (d:DataW H) (r:List Value),ds[i]?=some d→l[i]?=some r→flD d=some r
 | [],vs,h=>⟨[],by rw[G7] at h;rw[←Option.some.inj h];rfl,rfl,fun i d r h=>by simp at h⟩
 | d :: ds,vs,h=>by
  rw[G7] at h
  split at h
  ·rename_i a b ha hb;obtain⟨l,h1,h2,h3⟩:=wV ds b hb;refine⟨a :: l,by rw[←Option.some.inj h,h1];rfl,by simp[h2],fun i d' r hd hr=>?_⟩
   cases i with
   | zero=>
    simp only[List.getElem?_cons_zero,Option.some.injEq] at hd hr;rw[←hd,←hr];exact ha
   | succ i=>exact h3 i d' r (by simpa using hd) (by simpa using hr)
  ·cases h
theorem mW{n e sz:Nat}(ht:P.underlying t=some (.array n e))(hc:P.cellsOf t=n * sz)(hs:P.cellsOf e=sz)(he:FlT H P w e):FlT H P w t:=fun enc base spare held m cs y h vs hv=>by
 obtain⟨xs,m1,_,rfl,hl,hn,hf⟩:=DataW.trod_array ht h;simp only[flD] at hv;obtain⟨l,h1,h2,h3⟩:=wV _ _ hv;rw[List.length_map] at h2;rw[h1];refine chunks (sz:=sz) l cs (by rw[hl,hc,h2,hn]) fun i hi=>?_
 have hi2:i<xs.length:=by omega
 have h4:=hf i (by omega);rw[hs,List.getElem?_eq_getElem hi2] at h4;exact he enc base spare held m1 _ _ h4 _ (h3 i xs[i].1 l[i] (by rw[List.getElem?_map,List.getElem?_eq_getElem hi2];rfl) (List.getElem?_eq_getElem hi))
theorem E0{fs:Array Field}{a b c:Field}(ht:P.underlying t=some (.struct fs))(hfs:fs=#[a,b,c])(hc:P.cellsOf t=3)(oa:a.offset=0∧P.cellsOf a.type=1)(ob:b.offset=1∧P.cellsOf b.type=1)(oc:c.offset=2∧P.cellsOf c.type=1)(ha:FlT H P w a.type)(hb:FlT H P w b.type)(hcc:FlT H P w c.type):FlT H P w t:=fun enc base spare held m cs y h vs hv=>by
 subst hfs;obtain⟨xs,m1,_,rfl,hl,hn,hf⟩:=DataW.trod_struct ht h;have hl:=hl.trans hc
 match cs,hl with
 | [c0,c1,c2],_=>
  match xs,hn with
  | [x0,x1,x2],_=>
   have f0:=hf 0 a rfl;have f1:=hf 1 b rfl;have f2:=hf 2 c rfl;rw[oa.1,oa.2] at f0;rw[ob.1,ob.2] at f1;rw[oc.1,oc.2] at f2;simp only[List.drop_succ_cons,List.drop_zero,List.take_succ_cons,List.take_zero,List.getElem?_cons_zero,List.getElem?_cons_succ] at f0 f1 f2;simp only[flD,List.map_cons,List.map_nil] at hv;obtain⟨l,h1,h2,h3⟩:=wV _ _ hv
   match l,h2 with
   | [r0,r1,r2],_=>
    have e0:=ha enc base spare held m1 _ _ f0 r0 (h3 0 _ _ rfl rfl);have e1:=hb enc base spare held m1 _ _ f1 r1 (h3 1 _ _ rfl rfl);have e2:=hcc enc base spare held m1 _ _ f2 r2 (h3 2 _ _ rfl rfl);rw[h1,←e0,←e1,←e2];rfl
theorem xt{Z:Nat→Prop}:∀vs:List Value,F.ah Z w (vs.map .vl) vs
 | []=>eW
 | v :: vs=>aL (cL v) (xt vs)
theorem MU{n:String}{g:Nat}{cs:Array Value}{vs:List Value}(hg:P.globalNamed n=some g)(hv:w.var? P n=some cs)(e:cs.toList=vs)(h1:b6 vs=true)(h0:0<vs.length):F.rep (fun b=>b<w.heap.size) w (.pt vs.length [vs.map .vl] 0 0) (.pointer (some ⟨g,0,none⟩)):=by
 have hcell:=World.var?_cell hg hv;have hsz:g<w.heap.size:=by
  simp only[World.var?,hg,Option.bind_some] at hv
  split at hv
  ·rename_i hh;exact(Array.getElem?_eq_some_iff.1 hh).1
  ·cases hv
 unfold F.rep;refine⟨⟨g,0,none⟩,[vs],by simp[Addr.add],⟨rfl,by simp,fun _=>⟨⟨g,0,none⟩,rfl,hsz,fun j v hj=>?_⟩⟩,by simpa using h1,?_⟩
 ·simp only[List.flatten_cons,List.flatten_nil,List.append_nil] at hj;rw[add_lit,Nat.zero_add,hcell j,←Array.getElem?_toList,e];exact hj
 ·unfold F.aG;refine⟨vs,[],rfl,xt vs,?_⟩;unfold F.aG;rfl
end
end Go.Km
namespace Go.Proofs.YtpbichnnflabdaaGreatDoor
open Go Go.Sl Go.RowKit Go.Vc Go.Km Go.aa
open Go.ChangeShapes Go.WideShapes Go.ChangeAt
set_option maxRecDepth 100000
theorem M9:ownKnob Tryz.prog.godebug=none:=by kernel_rfl
theorem yn:laidOutB Tryz.prog=true:=by kernel_rfl
def fS:List (String×DataW Unit):=[("math/bits.deBruijn32tab",Rows.laid_math_bits_deBruijn32tab),("math/bits.deBruijn64tab",Rows.laid_math_bits_deBruijn64tab),("internal/strconv.uint64pow10",Rows.laid_internal_strconv_uint64pow10),("bonsai/tree.counts",Rows.laid_bonsai_tree_counts),("bonsai/print.counts",Rows.laid_bonsai_print_counts),("bonsai/print.signs",Rows.laid_bonsai_print_signs)]
theorem CN(os:Os)(args:Array Value):laidMetH Tryz.prog fS ((World.doorLaid Tryz.prog 400 os).forCall (fun _ _=>0) ⟨#[],args,[]⟩).memory:=
 laidMetH_of_parts3 (fuel:=8) (laidMet_of_run' 8 (by kernel_rfl) (by kernel_rfl)) (by kernel_rfl) (by kernel_rfl)
variable {H:Type} {W:World}
theorem Gd:FlT H Tryz.prog W 3:=AV Tryz.underlying3
theorem B1:FlT H Tryz.prog W 9:=JH Tryz.underlying9
theorem Mn:FlT H Tryz.prog W 5:=AV Tryz.underlying5
theorem Me:FlT H Tryz.prog W 42:=AV Tryz.underlying42
theorem flA:FlT H Tryz.prog W 177:=mW (sz:=2) Tryz.underlying177 (by kernel_rfl) (by kernel_rfl) (mW (sz:=1) Tryz.underlying176 (by kernel_rfl) (by kernel_rfl) Gd)
theorem flB:FlT H Tryz.prog W 256:=mW (sz:=1) Tryz.underlying256 (by kernel_rfl) (by kernel_rfl) Mn
theorem flC:FlT H Tryz.prog W 269:=mW (sz:=1) Tryz.underlying269 (by kernel_rfl) (by kernel_rfl) Mn
theorem flE:FlT H Tryz.prog W 264:=mW (sz:=1) Tryz.underlying264 (by kernel_rfl) (by kernel_rfl) Me
theorem flS:FlT H Tryz.prog W 232:=mW (sz:=3) Tryz.underlying232 (by kernel_rfl) (by kernel_rfl) (E0 Tryz.underlying231 rfl (by kernel_rfl) ⟨rfl,by kernel_rfl⟩ ⟨rfl,by kernel_rfl⟩ ⟨rfl,by kernel_rfl⟩ B1 B1 B1)
theorem flN:FlT H Tryz.prog W 246:=mW (sz:=3) Tryz.underlying246 (by kernel_rfl) (by kernel_rfl) (E0 Tryz.underlying245 rfl (by kernel_rfl) ⟨rfl,by kernel_rfl⟩ ⟨rfl,by kernel_rfl⟩ ⟨rfl,by kernel_rfl⟩ Gd Gd B1)
theorem Eg{W:World}(h:laidMetH Tryz.prog fS W):∀(n:String) (d:DataW Unit),(n,d)∈fS→∃g t cs fuel p,Tryz.prog.globalNamed n=some g∧(Tryz.prog.globals[g]?).map (·.type)=some t∧W.var? Tryz.prog n=some cs∧DataW.trod (fun _=>()) Tryz.prog W 0 (fun _=>true) false fuel t cs.toList=some (d,p):=by
 rw[MakeChecks.laidMetH_plain _ _ _ (by kernel_rfl)] at h;obtain⟨ps,hl,_⟩:=h;have key:∀(l:List (String×DataW Unit)) (ps:List MemPlace),DataW.LaidVars Tryz.prog W l ps→∀n d,(n,d)∈l→∃g t cs fuel p,Tryz.prog.globalNamed n=some g∧(Tryz.prog.globals[g]?).map (·.type)=some t∧W.var? Tryz.prog n=some cs∧DataW.trod (fun _=>()) Tryz.prog W 0 (fun _=>true) false fuel t cs.toList=some (d,p):=by
  intro l
  induction l with
  | nil=>intro ps _ n d hm;cases hm
  | cons x l ih=>
   intro ps hx n d hm;obtain⟨n0,d0⟩:=x;obtain⟨g,t,cs,f,p,q,h1,h2,h3,h4,h5,h6⟩:=hx;rcases List.mem_cons.1 hm with e|hm
   ·cases e;exact⟨g,t,cs,f,p,h1,h2,h3,h4⟩
   ·exact ih _ h5 n d hm
 exact key fS ps hl
theorem LH{W:World}(h:laidMetH Tryz.prog fS W):∀g cs,X1.Γ g=some cs→F.rep (jS W) W (.pt cs.length [cs] 0 0) (.pointer (some ⟨g,0,none⟩)):=by
 have hv:=Eg h;have one:∀(n:String) (d:DataW Unit) (g t:Nat) (vs:List Value),(n,d)∈fS→Tryz.prog.globalNamed n=some g→(Tryz.prog.globals[g]?).map (·.type)=some t→FlT Unit Tryz.prog W t→flD d=some vs→b6 vs=true→0<vs.length→F.rep (jS W) W (.pt vs.length [vs.map .vl] 0 0) (.pointer (some ⟨g,0,none⟩)):=fun n d g t vs hm hg ht hf hd h1 h0=>by
  obtain⟨g',t',cs,fuel,p,q1,q2,q3,q4⟩:=hv n d hm;obtain rfl:=Option.some.inj (hg.symm.trans q1);obtain rfl:=Option.some.inj (ht.symm.trans q2);exact MU hg q3 (hf _ _ _ _ _ _ _ q4 vs hd) h1 h0
 have a0:=one "bonsai/tree.counts" Rows.laid_bonsai_tree_counts 0 177 _ (by simp[fS]) (by kernel_rfl) (by kernel_rfl) flA rfl (by kernel_rfl) (Nat.le_of_ble_eq_true rfl);have a1:=one "bonsai/print.signs" Rows.laid_bonsai_print_signs 1 232 _ (by simp[fS]) (by kernel_rfl) (by kernel_rfl) flS rfl (by kernel_rfl) (Nat.le_of_ble_eq_true rfl);have a2:=one "bonsai/print.counts" Rows.laid_bonsai_print_counts 2 246 _ (by simp[fS]) (by kernel_rfl) (by kernel_rfl) flN rfl (by kernel_rfl) (Nat.le_of_ble_eq_true rfl);have a3:=one "math/bits.deBruijn64tab" Rows.laid_math_bits_deBruijn64tab 3 256 _ (by simp[fS]) (by kernel_rfl) (by kernel_rfl) flB rfl (by kernel_rfl) (Nat.le_of_ble_eq_true rfl);have a5:=one "internal/strconv.uint64pow10" Rows.laid_internal_strconv_uint64pow10 5 264 _ (by simp[fS]) (by kernel_rfl) (by kernel_rfl) flE rfl (by kernel_rfl) (Nat.le_of_ble_eq_true rfl);have a6:=one "math/bits.deBruijn32tab" Rows.laid_math_bits_deBruijn32tab 6 269 _ (by simp[fS]) (by kernel_rfl) (by kernel_rfl) flC rfl (by kernel_rfl) (Nat.le_of_ble_eq_true rfl);intro g cs hg;have key:∀(l:List (Nat×List F)),(∀x∈l,F.rep (jS W) W (.pt x.2.length [x.2] 0 0) (.pointer (some ⟨x.1,0,none⟩)))→Vc.lk l g=some cs→F.rep (jS W) W (.pt cs.length [cs] 0 0) (.pointer (some ⟨g,0,none⟩)):=by
  intro l
  induction l with
  | nil=>intro _ h;cases h
  | cons x l ih=>
   intro hx h;obtain⟨k,v⟩:=x;unfold Vc.lk at h
   cases hk:Nat.beq k g with
   | true=>
    rw[hk,cond_true] at h;have e:=Nat.eq_of_beq_eq_true hk;have e2:=Option.some.inj h;subst e e2;exact hx (_,_) (List.mem_cons_self ..)
   | false=>
    rw[hk,cond_false] at h;exact ih (fun y hy=>hx y (by simp[hy])) h
 exact key JK (by
  intro x hx;simp only[JK,List.mem_cons,List.not_mem_nil,or_false] at hx;rcases hx with rfl|rfl|rfl|rfl|rfl|rfl
  ·exact a0
  ·exact a1
  ·exact a2
  ·exact a3
  ·exact a5
  ·exact a6) hg
theorem GZ{H:Type}{P:Program}{ts:List TypeId}{ds:List (DataW H)}(h:(DataW.weightsEach P ts ds).all (·≤reachBytes)=true):∀(i:Nat) t d,ts[i]?=some t→ds[i]?=some d→ey P t d:=by
 refine ed fun k hk=>?_;have:=List.all_eq_true.1 h k hk;simpa using this
end Go.Proofs.YtpbichnnflabdaaGreatDoor
end
section
namespace Go.Proofs.YtpbichnnflabdaaGreatDoor
open Go Go.Sl Go.RowKit Go.Vc Go.Km Go.aa
open Go.ChangeShapes Go.WideShapes Go.ChangeAt
theorem xY (W:World) (v1 v2:Value) (g:List Dfn) (pass way r:Int) (p:List Int) (at_:Int) (h1:F.rep (jS W) W (cg g) v1) (h2:F.rep (jS W) W (.ag [byF pass,byF way,inF r,isF p,inF at_]) v2) (hL:laidMetH Tryz.prog fS W)
  (hn:g.length≤dd) (hw:∀d∈g,d.wf) (hw0:0≤way) (hw1:way≤255) (hp:p.length≤dd) :
  Calls Tryz.prog 7 #[v1,v2] W (fun e W'=>e=.returned (.bool true)∧Below W.heap.size W W'):=by
 have hr:=(CK g pass way r p at_ hn hw hw0 hw1 hp).run (jS W) W [v1,v2] (fun _ h=>h) (LH hL) (aL h1 (aL h2 eW));refine hr.mono fun e W' ⟨v,he,hb,hv⟩=>?_
 unfold F.rep at hv;subst hv;exact⟨he,hb⟩
set_option maxRecDepth 100000 in
theorem tl(os:Os)(started:os.Started)(H:Type)(enc:TypeId×Value→H) :
  ReturnsInHanded {} Tryz.checked os 7 .any (fun w args=>(Rows.deadRowSpec.pre enc Tryz.prog Tryz.f7 [] false w args∧laidMetH Tryz.prog fS w)∧sizedMet enc Tryz.prog Tryz.f7 (OpenSpec.ofChange Rows.deadRowSpec) false w args)
   (Rows.deadRowSpec.post enc Tryz.prog Tryz.f7 false true false false):=by
 refine returnsInHanded_of_change_and (C:=Tryz.checked) (X:=fun w _=>laidMetH Tryz.prog fS w) (fun _ _ _ hh h=>h.of_heap hh) M9 started (by kernel_rfl) Tryz.func7
  (ChangeSpec.witness_shaped (enc:=enc) (C:=Tryz.checked) (os:=os) (X:=fun w _=>laidMetH Tryz.prog fS w) false (World.doorLaid Tryz.prog 400 os) #[.agg #[.slice none 0 0],.agg #[.int .u8 0,.int .u8 0,.int .i64 0,.slice none 0 0,.int .i64 0]] 8 rfl (World.shaped_of_RefB (by kernel_rfl) (by kernel_rfl)) (by kernel_rfl) (by kernel_rfl) (by kernel_rfl) (CN os _)) ?_
 intro W base args ds gs before hval0 hW _ hsz0 hL _;have hsz:=GZ hsz0;have hlt:∀x∈before,x.block<W.heap.size:=fun x hx=>by simpa using hW.lt x hx
 have hW':=hW;obtain⟨p,q,hA0,hV,rfl,hfz,hnd⟩:=hW;have hA:DataW.TrodAll enc Tryz.prog W 0 (fun _=>true) true Tryz.f7.params.toList args.toList ds p:=hA0;rw[Tryz.params7] at hA hsz hval0;obtain⟨v1,v2,d1,d2,p1,p2,rfl,rfl,rfl,h1,h2⟩:=trodAll_two hA;obtain⟨rfl,rfl⟩:=trodVars_none hV;have h1':=h1;obtain⟨a1,rfl,_⟩:=okWide_struct Tryz.underlying24 (hval0 0 _ _ rfl rfl);obtain⟨_,h1⟩:=h1;obtain⟨x1,hr1,hlr1,hw1⟩:=Dl h1 (hsz 0 _ _ rfl rfl);have h2':=h2;obtain⟨a2,rfl,_⟩:=okWide_struct Tryz.underlying32 (hval0 1 _ _ rfl rfl);obtain⟨_,h2⟩:=h2;obtain⟨pass,way,r,ps,at_,hr2,hb1,hb2,hb3,hb4,hb5⟩:=JT h2 (hsz 1 _ _ rfl rfl);simp only[List.append_nil] at hW' hlt;have hb1':∀x∈p1,x.block<W.heap.size:=fun x hx=>hlt x (by simp[hx])
 have hb2':∀x∈p2,x.block<W.heap.size:=fun x hx=>hlt x (by simp[hx])
 have hxGrammar:∀W':World,Below W.heap.size W W'→∀(v d p),DataW.Trod enc Tryz.prog W 0 (fun _=>true) true 24 v d p→(∀x∈p,x.block<W.heap.size)→DataW.Trod enc Tryz.prog W' 0 (fun b=>decide (b<W.heap.size)) true 24 v d p:=
  fun W' hb v d p h hp=>Below.trod yn (by kernel_rfl) (of_decide_eq_true (by kernel_rfl)) h hb hp
 have hxStep:∀W':World,Below W.heap.size W W'→∀(v d p),DataW.Trod enc Tryz.prog W 0 (fun _=>true) true 32 v d p→(∀x∈p,x.block<W.heap.size)→DataW.Trod enc Tryz.prog W' 0 (fun b=>decide (b<W.heap.size)) true 32 v d p:=
  fun W' hb v d p h hp=>Below.trod yn (by kernel_rfl) (of_decide_eq_true (by kernel_rfl)) h hb hp
 refine(xY W _ _ x1 pass way r ps at_ hr1 hr2 hL hlr1 hw1 hb2.1 hb2.2 hb4.1).mono fun e W' ⟨he,hb⟩=>?_;subst he
 try simp only[List.append_assoc] at hW'
 exact⟨_,rfl,_,_,_,[],p1++p2,[],hW',trodAll_mk1 (shut_bool Tryz.underlying4 _),trodAll_mk2 (hxGrammar W' hb _ _ _ h1' hb1') (hxStep W' hb _ _ _ h2' hb2'),rfl,hb.frame _,fun h=>by cases h⟩
set_option maxRecDepth 100000 in
theorem tM:Rows.DeadRowSaid:=
 OpenClaim.holds_of_wide 7 Tryz.f7 rfl rfl rfl rfl rfl rfl rfl ⟨rfl,rfl,rfl,rfl,rfl⟩ rfl rfl rfl rfl rfl (by kernel_rfl) Tryz.func7 (by kernel_rfl)
  (of_decide_eq_true (by kernel_rfl)) (by unfold Func.isWrapper;first|(rw[if_pos (by decide +kernel)];kernel_rfl)|(rw[if_neg (by decide +kernel)];exact⟨rfl,rfl⟩))
  (fun os started H enc _=>tl os started H enc)
set_option maxRecDepth 100000 in
theorem deadRow_card_holds:Rows.DeadRowCardSaid:=
 Claim7.holds_tied_plain_at .later [] [.data,.data,.data,.data,.data,.data] true (true,"261646ac44af3a5509ab41c83a1ad89ad70877b4f4c8bd133ed783bfceeb2e4e") false
  tM (fun _ h=>by cases h) (by kernel_rfl) (fun _ h=>by cases h) deadRow_row_tie rfl ⟨rfl,rfl⟩ (by kernel_rfl) rfl
  (fun f fn hf hfn=>by
   obtain rfl:f=7:=Option.some.inj ((show Tryz.prog.funcNamed "bonsai/bonsailaw20.DeadRow"=some 7 by kernel_rfl).symm.trans hf) |>.symm;obtain rfl:fn=Tryz.f7:=(Option.some.inj (Tryz.func7.symm.trans hfn)).symm;exact⟨by kernel_rfl,fun j t ht=>by
    rw[Tryz.params7] at ht;have hm:t∈[24,32]:=by simpa using Array.mem_of_getElem? ht
    have hall:([24,32].all fun u=>!Tryz.prog.wantsStandIn u)=true:=by kernel_rfl
    exact(show Tryz.prog.wantsStandIn t=false by simpa using List.all_eq_true.1 hall t hm)⟩)
  (by kernel_rfl)
#print axioms deadRow_card_holds
end Go.Proofs.YtpbichnnflabdaaGreatDoor
end
