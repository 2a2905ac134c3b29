/- The texts that the card needs, part 12. -/
import Derived.Test.YtpbichnnflabdaaGreatDoorPC10
set_option linter.all false
section
namespace Go.Km
open Go Go.RowKit Go.Vc
open Go.Sl hiding lk
structure Gv where
 d:D
 h:List (Nat×B)
instance:ix Gv:=⟨fun r d h=>okR d=true∧∃m,bL m=true∧bj m d=some r.d∧cG m [] h m 0=some r.h⟩
structure Md(d:D)(h:List (Nat×B))(r:Gv):Prop where
 h:d=r.d∧h=r.h
instance:mN Gv where
 fin r d h:=eR (okR d) (mH h fun h=>iM (reach [] h 10000 (rH [d]++ghD h++iF h) []) fun m=>eR (bL m) (match bj m d,cG m [] h m 0 with
   |some d',some h'=>D.fo d' fun d'=>mH h' fun h'=>Md d' h' r
   |_,_=>False))
 ok r d h hf:=by
  cases hk:okR d with
  |false=>rw[hk]at hf;exact hf.elim
  |true=>
   rw[hk]at hf
   change (mH h fun h=>iM (reach [] h 10000 (rH [d]++ghD h++iF h) []) fun m=>eR (bL m) (match bj m d,cG m [] h m 0 with
    |some d',some h'=>D.fo d' fun d'=>mH h' fun h'=>Md d' h' r
    |_,_=>False))at hf
   rw[iv,fD]at hf
   cases ho:bL (reach [] h 10000 (rH [d]++ghD h++iF h) [])with
   |false=>rw[ho]at hf;exact hf.elim
   |true=>
    rw[ho]at hf
    change (match bj _ d,cG _ [] h _ 0 with|some d',some h'=>D.fo d' fun d'=>mH h' fun h'=>Md d' h' r|_,_=>False)at hf
    split at hf
    ·rename_i d' h' h1 h2;rw[D.jh,iv]at hf;exact⟨hk,_,ho,by rw[h1,hf.h.1],by rw[h2,hf.h.2]⟩
    ·exact hf.elim
theorem A4 {P:Program}{X:Tx} (hX:iP P X) {f:FuncId}{fi:Fi} (hf:X.fi f=some fi) {η:Env}{l l0 x x0:List D}{m0 μ:Rn}{hb h0:List (Nat×B)}{d d':D}{ds':List D}{rd:List Nat}{e h'':List (Nat×B)}
  (ho:bL m0=true) (hbk:∀b x,lk hb b=some x→η b=some x∧b∈rd) (hs:vA η (l++x) (m0.map (·.1)) μ ds' rd e) (hm0:cG m0 [] hb m0 0=some h0) (hl:aO m0 l=some l0) (hxr:aO m0 x=some x0) (hxv:∀η' c O w,(∀b∈rd,η' b=η b)→Hp c O η' w→∃us,D.ah c x us) (hN:Nat.ble l0.length fi.N=true) (hd:bj μ d=some d') (he:cG μ [] e μ 0=some h'')
  (hrun:∀vs,Sn P X f (⟨d',h''++[(μ.length,.gh 0 vs ds')]⟩:Gv) ⟨⟨f,fi.N,j9 0 l0,[.code fi.body],[],none⟩,[],(m0.length,.gh 0 vs (l0++x0))::h0,m0.length+1⟩):cT P X.Γ η f l d rd e:=by
 obtain⟨hcf,fn,hfn,hbd,hNn,hrs⟩:=hX.fi _ _ hf;refine⟨fun η' hη' W c O w vs hΓ hp hold hvs=>⟨hcf,fun cs=>?_⟩⟩;have hblk:∀b x,lk hb b=some x→η' b=some x:=fun b x hx=>(hη' b (hbk b x hx).2).trans (hbk b x hx).1
 have hp1:=Hp.ren hp ho hblk hm0;have hvs1:D.ah (rC m0 c) l0 vs:=bR hl hvs;obtain⟨us,hus⟩:=hxv η' c O w hη' hp;have hvx:=D.bw hvs hus;have hvx1:D.ah (rC m0 c) (l0++x0) (vs++us):=D.bw hvs1 (bR hxr hus);have hkeys:∀{h h':List (Nat×B)}{m:Rn},cG m [] h m 0=some h'→∀i x,lk h' i=some x→i<m.length:=by
  intro h h' m hm i x hx;obtain⟨_,b,y,k1,_⟩:=gR hm hx;rw[Nat.sub_zero]at k1;exact(List.getElem?_eq_some_iff.1 k1).1
 have hp2:Hp (rC m0 c) (rO m0 O) (lk ((m0.length,.gh 0 (vs++us) (l0++x0))::h0)) w:=by
  rw[bU];refine⟨fun i x hx=>?_,fun i v y hy=>?_,hp1.apart,hp1.fz,hp1.lt⟩
  ·by_cases e:m0.length=i
   ·subst e;rw[bf]at hx
    cases hx;exact hvx1
   ·rw[aG e]at hx;exact hp1.pc i x hx
  ·obtain⟨x,hx,hv⟩:=hp1.bound i v y hy;have:m0.length≠i:=by
    have:=hkeys hm0 i x hx;omega
   exact⟨x,by rw[aG this];exact hx,hv⟩
 have hlen:=D.aW hvs1;have hs0:=jR (N:=fi.N) hvs1 hN;have hrun:=hrun (vs++us);unfold Sn at hrun;obtain⟨v,w',fr,d0,h0',c0,O0,q1,q2,q3,⟨qk,m,qo,qd,qh⟩,q7,q8,q9⟩:=eL.fn (fun q h ⟨e,_⟩=>by simp[okR]at e) <| hrun ⟨w,fun g=>∃i,rO m0 O i g,rC m0 c⟩ cs hΓ (rC m0 c) (rO m0 O) ((bF f none).atR ⟨vs.toArray++Array.replicate (fi.N-vs.toArray.size) undef,[]⟩ [.code fi.body]) [] w
  ⟨⟨_,_,none,rfl,hs0,⟨_,_,rfl,rfl,rfl⟩,rfl,rfl⟩,rfl,hp2,⟨rfl,rfl,rfl,Nat.le_refl _,fun _ _ _=>rfl,fun i g h=>.inl ⟨i,h⟩,fun g hg=>.inl hg,Ext.refl _ _⟩,rfl⟩
 have p3:=Hp.ren q8 qo (fun _ _ h=>h) qh;have hv3:=pa qd q7;have hW:∀g,(∃i,rO m0 O i g)→∃b∈m0.map (·.1),O b g:=fun g ⟨i,b,v,e1,e2⟩=>⟨b,List.mem_map.2 ⟨(b,v),List.mem_of_getElem? e1,rfl⟩,e2⟩
 refine⟨.returned v,w',fr,⟨v,rfl,pX hs hd he hη' hp hold hvx p3 ?_ hv3⟩,?_,q2,q3⟩
 ·exact⟨q9.os,q9.tape,q9.output,q9.size,fun g hg hn=>q9.cv g hg (fun h=>hn (hW g h)),fun i g ⟨b,v,_,h⟩=>(q9.own b g h).imp (hW g) id,fun g hg=>(q9.mF g hg).imp id (fun h=>h.imp (hW g) id),q9.le⟩
 ·rw[pd hfn hbd,hNn];exact q1
theorem Kb {P:Program}{X:Tx} (hX:iP P X) {f:FuncId}{fi:Fi} (hf:X.fi f=some fi) {e sz:Nat}{rows':List (List F)}{l:List F} (hN:Nat.ble l.length fi.N=true)
  (hrun:∀vs,Sn P X f (⟨.own 0 0,[(0,.ro 0 e sz rows'),(1,.gh 0 vs (l.map F.toD))]⟩:Gv) ⟨⟨f,fi.N,j9 0 (l.map F.toD),[.code fi.body],[],none⟩,[],[(0,.gh 0 vs (l.map F.toD))],1⟩)
  {η:Env}{b2:Nat} (h2:η b2=none) :
  cT P X.Γ η f (l.map F.toD) (.own b2 (nv η b2)) [b2] [(b2,.ro (nv η b2) e sz rows')]:=by
 have hlk:∀{x:B}{i:Nat}{z:B},lk [(b2,x)] i=some z→i=b2∧z=x:=by
  intro x i z h;simp only[lk]at h
  cases e1:Nat.beq b2 i with
  |true=>rw[e1]at h;cases h;exact⟨(Nat.eq_of_beq_eq_true e1).symm,rfl⟩
  |false=>rw[e1]at h;cases h
 have l2:∀{x:B},lk [(b2,x)] b2=some x:=by intro x;simp[lk]
 refine A4 hX hf (x:=[]) (x0:=[]) (l:=l.map F.toD) (l0:=l.map F.toD) (m0:=[]) (μ:=[(b2,nv η b2)]) (hb:=[]) (h0:=[]) (d':=.own 0 0) (ds':=l.map F.toD) (h'':=[(0,.ro 0 e sz rows')]) rfl ?_ ⟨rfl,?_,?_,?_,?_,?_⟩ ?_ (dR _ _) rfl (fun _ _ _ _ _ _=>⟨[],by simp[D.ah]⟩) ?_ ?_ ?_ (fun vs=>by rw[List.append_nil];exact hrun vs)
 ·intro b x h;cases h
 ·intro b hb;cases hb
 ·intro b x h;rw[(hlk h).1];exact List.mem_cons_self ..
 ·intro b x h;obtain⟨rfl,rfl⟩:=hlk h;exact⟨by simp,.inl ⟨0,rfl⟩⟩
 ·intro b x y h hy;obtain⟨rfl,rfl⟩:=hlk h;rw[h2]at hy
  cases hy
 ·intro i b v h
  match i,h with
  |0,h=>cases h;exact .inl rfl
 ·rfl
 ·rw[List.length_map];exact hN
 ·simp only[bj,cc,Nat.beq_refl,cond_true]
 ·simp only[cG,l2,B.ver,Nat.beq_refl,cond_true,ez]
end Go.Km
end
section
namespace Go.Km
open Go Go.Vc Go.Proofs Go.aa Go.Proofs.YtpbichnnflabdaaGreatDoor
set_option maxRecDepth 100000
set_option maxHeartbeats 0
theorem FC{η:Env}{b:Nat}(hη:η b=none){t:Tre}(ht:t.wf)(hri:au t=true)(h0k:0<(aN t).length):cT Tryz.prog X1.Γ η 80 ([aE t].map F.toD) (.own b (nv η b)) [b] [(b,.ro (nv η b) 39 2 ((aN t).map dq))]:=by
 refine Kb dV rfl rfl (fun vs_=>?_) hη;have hlen:=ht.len;simp only[bY]at hlen;have hwx:=we ht;obtain⟨n,Fk,hF,hb,hf⟩:=fO (ao hri);have hsz:=fa (ao hri);have hk0:aN t=Fk.trees:=by rw[aN,if_pos hri,hF];rfl
 have hC:aJ t=cj (.cons n Fk .nil):=by rw[lq hri,hF]
 have hsz':Fk.size+1=t.nodes.length:=by rw[←hsz,hF];simp[Fo.size]
 have hl:(aJ t).nodes.length=Fk.size+1:=by rw[hC];show((Fo.cons n Fk .nil).ar 0).length=_;rw[Fo.bM];rfl
 have hroot:(aJ t).root=(Fk.size:Int):=by rw[hC];show(((Fk.size+1+0:Nat):Int)-1)=_;omega
 have hnod:(aJ t).nodes=Fk.ar 0++[{ n with kids:=Fk.bh 0 }]:=by rw[hC];show(Fo.cons n Fk .nil).ar 0=_;simp[Fo.ar]
 have hg:∀h:(aJ t).root.toNat<(aJ t).nodes.length,(aJ t).nodes[(aJ t).root.toNat]'h={ n with kids:=Fk.bh 0 }:=by
  intro h;simp only[hroot,Int.toNat_natCast,hnod];rw[List.getElem_append_right (by rw[Fo.bM];omega)];simp
 have htl:(Fk.bh 0).length=Fk.len:=Fo.fh Fk 0;have hls:=Fo.tQ Fk;have hround:∀(A:Fo) (m:Nod) (j r:Fo),A.app (.cons m j r)=Fk→A.len<Fk.len∧A.size+j.size+1≤Fk.size∧(∀h:A.len<(Fk.bh 0).length,(Fk.bh 0)[A.len]'h=((A.size+j.size:Nat):Int))∧
   ((aJ t).nodes.take (A.size+j.size+1)).drop A.size=(Fo.cons m j .nil).ar A.size∧bo ((Fo.cons m j .nil).ar A.size) (-(A.size:Int))=(cj (.cons m j .nil)).nodes∧(cj (.cons m j .nil)).root=(j.size:Int)∧(A.app (.cons m j .nil)).app r=Fk∧(A.app (.cons m j .nil)).trees=A.trees++[cj (.cons m j .nil)]:=by
  intro A m j r hAB;have e0:Fk.size=A.size+(j.size+1+r.size):=by rw[←hAB,Fo.bZ];rfl
  have e1:Fk.len=A.len+(r.len+1):=by rw[←hAB,Fo.dS];rfl
  refine⟨by omega,by omega,?_,?_,?_,?_,?_,?_⟩
  ·intro h;have hkk:(Fk.bh 0)[A.len]?=some ((A.size+j.size:Nat):Int):=by
    rw[←hAB,Fo.nY,List.getElem?_append_right (by rw[Fo.fh];omega),Fo.fh,Nat.sub_self,Nat.zero_add];rfl
   rw[List.getElem?_eq_getElem h]at hkk;exact Option.some.inj hkk
  ·have e2:(aJ t).nodes=A.ar 0++((Fo.cons m j .nil).ar A.size++(r.ar (A.size+j.size+1)++[{ n with kids:=Fk.bh 0 }])):=by
    rw[hnod,←hAB,Fo.wz,Nat.zero_add];simp[Fo.ar]
   rw[e2,List.drop_take,List.drop_append_of_le_length (by rw[Fo.bM];omega),List.drop_of_length_le (by rw[Fo.bM];omega),List.nil_append,List.take_append_of_le_length (by rw[Fo.bM];simp[Fo.size];omega),List.take_of_length_le (by rw[Fo.bM];simp[Fo.size];omega)]
  ·show bo ((Fo.cons m j .nil).ar A.size) (-(A.size:Int))=(Fo.cons m j .nil).ar 0
   rw[show A.size=0+A.size by omega,←Fo.lA,Nat.zero_add];simp only[bo,List.map_map];conv=>rhs;rw[←List.map_id ((Fo.cons m j .nil).ar 0)]
   refine List.map_congr_left fun x _=>?_
   cases x;simp[Function.comp_def,Int.add_neg_cancel_right]
  ·show(((j.size+1+0:Nat):Int)-1)=_
   omega
  ·rw[Fo.pJ];exact hAB
  ·rw[Fo.pY];rfl
 have hrow:∀(A:Fo) (m:Nod) (j r:Fo),A.app (.cons m j r)=Fk→dq (cj (.cons m j .nil))=[F.sl ((bo (List.drop A.size (List.take (A.size+j.size+1) (aJ t).nodes)) (0-(A.size:Int))).map a8),inF (((A.size+j.size:Nat):Int)-A.size)]:=by
  intro A m j r hAB;obtain⟨f1,f2,f3,f4,f5,f6,f7,f8⟩:=hround A m j r hAB;rw[f4,Int.zero_sub,f5,show(((A.size+j.size:Nat):Int)-A.size)=j.size by omega,←f6]
 have hpre:∀(A:Fo) (m:Nod) (j r:Fo),A.app (.cons m j r)=Fk→(List.drop A.size (List.take (A.size+j.size+1) (aJ t).nodes)).length≤1466015503701∧(∀n∈List.drop A.size (List.take (A.size+j.size+1) (aJ t).nodes),n.wf)∧(∀n∈List.drop A.size (List.take (A.size+j.size+1) (aJ t).nodes),∀k∈n.kids,-9223372036854775808≤k+(0-(A.size:Int))∧k+(0-(A.size:Int))≤9223372036854775807):=by
  intro A m j r hAB;obtain⟨f1,f2,f3,f4,f5,f6,f7,f8⟩:=hround A m j r hAB;have hsub:∀x∈List.drop A.size (List.take (A.size+j.size+1) (aJ t).nodes),x∈(aJ t).nodes:=fun x hx=>List.mem_of_mem_take (List.mem_of_mem_drop hx)
  have hR:=(qX t).trans hri;refine⟨by simp only[List.length_drop,List.length_take];omega,fun x hx=>hwx.nodes x (hsub x hx),fun x hx k hk=>?_⟩;obtain⟨i,hi,rfl⟩:=List.getElem_of_mem (hsub x hx);have:=(ao hR).kok i _ (List.getElem?_eq_getElem hi) k hk;omega
 rw[hk0]at h0k ⊢
 repeat' first|exact k9|refine k2 ?_|apply kA|apply kI;intro hc|apply kL;intro hl|((simp only[hg])<;>conv=>whnf)|refine k8 ?_|fail
 cases hFk:Fk with
 |nil=>
  rw[hFk]at h0k
  cases h0k
 |cons m j r=>
  obtain⟨f1,f2,f3,f4,f5,f6,f7,f8⟩:=hround .nil m j r hFk.symm;have g3:∀h:0<(Fk.bh 0).length,(Fk.bh 0)[0]'h=(j.size:Int):=fun h=>(f3 h).trans (by simp[Fo.size])
  have e3:((j.size:Int)+1).toNat=j.size+1:=by omega
  rw[←hFk];apply Stp.on
  repeat' first|exact k9|refine k2 ?_|apply kA|apply kI;intro hc|apply kL;intro hl|((simp only[g3])<;>conv=>whnf)|((simp only[e3])<;>conv=>whnf)|((simp only[←List.map_take,←List.map_drop])<;>conv=>whnf)|refine k8 ?_|fail
  ·have:=hpre .nil m j r hFk.symm;simp only[Fo.size,Nat.zero_add]at this;exact⟨this⟩
  have h0:=hrow .nil m j r hFk.symm;simp only[Fo.size,Nat.zero_add]at h0;apply kCt [1,3,4,19,20,21] [];conv=>whnf
  refine Lp.ind (fun x:Fo×Fo=>x.2.len) (fun x=>x.1.app x.2=Fk) (fun x=>[(21,InD x.1.len),(4,InD x.1.size)]) (fun x=>[(1,.ro 0 39 2 (x.1.trees.map dq))]) (fun _=>_) (.cons m j .nil,r) hFk.symm rfl rfl ?_ ?_
  ·rw[show(Fo.cons m j .nil).trees.map dq=[dq (cj (.cons m j .nil))]from rfl,h0];rfl
  rintro G ⟨A,B⟩ ih hAB
  dsimp only at hAB ih ⊢
  cases B with
  |nil=>
   have hA:A=Fk:=by rw[←hAB,Fo.xJ]
   subst hA
   repeat' first|exact k9|refine k2 ?_|apply kA|apply kI;intro hc|refine k8 ?_|apply kL;intro hl
   exact⟨rfl,rfl⟩
  |cons m' j' r'=>
   obtain⟨f1,f2,f3,f4,f5,f6,f7,f8⟩:=hround A m' j' r' hAB;have e4:(((A.size+j'.size:Nat):Int)+1).toNat=A.size+j'.size+1:=by omega
   have hAl:A.trees.length=A.len:=Fo.jm A
   repeat' first|exact k9|refine k2 ?_|apply kA|apply kI;intro hc|apply kL;intro hl|((simp only[f3])<;>conv=>whnf)|((simp only[e4])<;>conv=>whnf)|((simp only[←List.map_take,←List.map_drop])<;>conv=>whnf)|refine k8 ?_|fail
   ·exact⟨hpre A m' j' r' hAB⟩
   apply kCt [1,3,4,19,20,21] [];conv=>whnf
   refine ih (A.app (.cons m' j' .nil),r') _ _ _ (by simp only[Fo.len];omega) f7 rfl ?_ ?_
   ·dsimp only;rw[Fo.dS,Fo.bZ];rfl
   ·dsimp only;rw[f8,List.map_append,show List.map dq [cj (.cons m' j' .nil)]=[dq (cj (.cons m' j' .nil))]from rfl,hrow A m' j' r' hAB];rfl
end Go.Km
end
section
namespace Go.aa
open Go Go.Km
theorem IJ{l m:List Tre}(h:m.Sublist l):tot m≤tot l:=by
 induction h with
 |slnil=>exact Nat.le_refl _
 |cons a _ ih=>simp only[tot,List.map_cons,List.sum_cons]at ih ⊢;omega
 |cons_cons a _ ih=>simp only[tot,List.map_cons,List.sum_cons]at ih ⊢;omega
theorem DB(k:Nat)(l:List Tre)(at_:Int):(fX k l at_).Sublist l:=by
 unfold fX
 split
 ·exact List.eraseIdx_sublist _ _
 ·exact List.take_sublist _ _
theorem oV{k:Nat}{x:Tre}{at_:Int}(hx:x.wf)(hl:x.nodes.length≤20000):((fX k (aN x) at_).length≤1466015503701∧(∀t∈fX k (aN x) at_,t.wf)∧tot (fX k (aN x) at_)+1≤1466015503701)∧(eM k x at_).1.wf∧(eM k x at_).1.nodes.length≤100000:=by
 have hs:=DB k (aN x) at_;obtain⟨h1,h2⟩:=je x;have h3:=IJ hs;have h4:=hs.length_le;have hw:∀t∈fX k (aN x) at_,t.wf:=fun t ht=>Gu hx t (hs.subset ht)
 refine⟨⟨by omega,hw,by omega⟩,Jo ?_ hw (by unfold bY;omega),Nat.le_trans (Il _ _) (by omega)⟩;unfold uy
 split
 ·exact kD
 ·exact ja
end Go.aa
namespace Go.Km
open Go Go.Vc Go.Proofs Go.aa Go.Proofs.YtpbichnnflabdaaGreatDoor
set_option maxRecDepth 100000
set_option maxHeartbeats 0
abbrev gn(g:List Dfn)(r:Int)(p:List Int)(at_:Int):Prop:=(g.length≤1000∧(∀d∈g,d.wf∧0<d.body.nodes.length∧d.body.nodes.length≤20000)∧p.length≤1000000)∧(aC g r p).2=true∧0≤at_∧at_<(aN (aC g r p).1).length
theorem Kh{k:Nat}{g:List Dfn}{r:Int}{p:List Int}{at_:Int}(h:(eM k (aC g r p).1 at_).2=false∨(bA g r p (eM k (aC g r p).1 at_).1).2=false∨bb (bA g r p (eM k (aC g r p).1 at_).1).1≠0):cA k g r p at_=([],false):=by rw[cA,if_pos (.inr h)]
theorem wA{k:Nat}{g:List Dfn}{r:Int}{p:List Int}{at_:Int}(hf:(aC g r p).2=true){x:Tre×Bool}(hx:eM k (aC g r p).1 at_=x):cA k g r p at_=if x.2=false∨(bA g r p x.1).2=false∨bb (bA g r p x.1).1≠0 then([],false)else((bA g r p x.1).1,true):=by
 subst hx
 by_cases h:(eM k (aC g r p).1 at_).2=false∨(bA g r p (eM k (aC g r p).1 at_).1).2=false∨bb (bA g r p (eM k (aC g r p).1 at_).1).1≠0
 ·rw[if_pos h,Kh h]
 ·rw[if_neg h,cA,if_neg (by rw[hf];rintro(q|q);cases q;exact h q)]
instance(g:List Dfn)(r:Int)(p:List Int)(at_:Int):C 50 [cx g,.ag [byF 5,.cl 91 [],.cl 92 []],.ag [inF r,isF p],inF at_] (.tp [cx (cA 1 g r p at_).1,boF (cA 1 g r p at_).2]) false (gn g r p at_):=⟨fun⟨⟨hn,hg,hp⟩,hf,h0,h1⟩=>by
 have hw:∀d∈g,d.wf:=fun d hd=>(hg d hd).1
 have hsm:∀d∈g,d.wf∧d.body.nodes.length≤20000:=fun d hd=>⟨(hg d hd).1,(hg d hd).2.2⟩
 obtain⟨hxw,hxl⟩:=jn (r:=r) (p:=p) hsm;have hpf:g.length≤1000∧(∀d∈g,d.wf)∧p.length≤1000000:=⟨hn,hw,hp⟩
 have hr:=wA (k:=1) (at_:=at_) hf rfl;have hnp:=oV (k:=1) (at_:=at_) hxw hxl;obtain⟨L,hL⟩:=exEq ((aN (aC g r p).1).take (at_+1).toNat);have hnd:eM 1 (aC g r p).1 at_=dZ dE L:=by rw[hL];rfl
 rw[show fX 1 (aN (aC g r p).1) at_=L from hL.symm,hnd]at hnp;rw[hnd]at hr;obtain⟨h2,h3,h4⟩:=hnp;have hkl:(aN (aC g r p).1).length≤1000000:=by have:=(je (aC g r p).1).2;omega
 have hpa:0≤at_∧at_<(aN (aC g r p).1).length∧(aN (aC g r p).1).length≤1000000:=⟨h0,h1,hkl⟩
 have hgp:∀d∈g,d.wf∧0<d.body.nodes.length∧d.body.nodes.length≤100000:=fun d hd=>⟨(hg d hd).1,(hg d hd).2.1,by have:=(hg d hd).2.2;omega⟩
 have hpw:g.length≤1000∧(∀d∈g,d.wf∧0<d.body.nodes.length∧d.body.nodes.length≤100000)∧p.length≤1000000∧(dZ dE L).1.wf∧(dZ dE L).1.nodes.length≤100000:=⟨hn,hgp,hp,h3,h4⟩
 have hpc:=l5 (r:=r) hn hgp hp h3 h4;refine kf rfl rfl ?_;repeat' first|exact k9|refine k2 ?_|apply kA|apply kI;intro hc|apply kL;intro hl|(apply Sn.go hX;conv=>whnf)|((simp only[←hL])<;>conv=>whnf)|refine k8 ?_|fail
 ·refine aq.i ?_;rw[hr,if_neg (by rintro(q|q|q);exact bfF (by assumption) q;exact bfF (by assumption) q;exact q (by assumption))]
 ·refine aq.i ?_;rw[hr,if_pos (.inr (.inr (by assumption)))];rfl
 ·refine aq.i ?_;rw[hr,if_pos (.inr (.inl (by assumption)))];rfl
 ·refine aq.i ?_;rw[hr,if_pos (.inl (by assumption))];rfl⟩
instance(g:List Dfn)(r:Int)(p:List Int)(at_:Int):C 50 [cx g,.ag [byF 4,.cl 95 [],.cl 92 []],.ag [inF r,isF p],inF at_] (.tp [cx (cA 3 g r p at_).1,boF (cA 3 g r p at_).2]) false (gn g r p at_):=⟨fun⟨⟨hn,hg,hp⟩,hf,h0,h1⟩=>by
 have hw:∀d∈g,d.wf:=fun d hd=>(hg d hd).1
 have hsm:∀d∈g,d.wf∧d.body.nodes.length≤20000:=fun d hd=>⟨(hg d hd).1,(hg d hd).2.2⟩
 obtain⟨hxw,hxl⟩:=jn (r:=r) (p:=p) hsm;have hpf:g.length≤1000∧(∀d∈g,d.wf)∧p.length≤1000000:=⟨hn,hw,hp⟩
 have hr:=wA (k:=3) (at_:=at_) hf rfl;have hnp:=oV (k:=3) (at_:=at_) hxw hxl;obtain⟨L,hL⟩:=exEq ((aN (aC g r p).1).take (at_+1).toNat);have hnd:eM 3 (aC g r p).1 at_=dZ eH L:=by rw[hL];rfl
 rw[show fX 3 (aN (aC g r p).1) at_=L from hL.symm,hnd]at hnp;rw[hnd]at hr;obtain⟨h2,h3,h4⟩:=hnp;have hkl:(aN (aC g r p).1).length≤1000000:=by have:=(je (aC g r p).1).2;omega
 have hpa:0≤at_∧at_<(aN (aC g r p).1).length∧(aN (aC g r p).1).length≤1000000:=⟨h0,h1,hkl⟩
 have hgp:∀d∈g,d.wf∧0<d.body.nodes.length∧d.body.nodes.length≤100000:=fun d hd=>⟨(hg d hd).1,(hg d hd).2.1,by have:=(hg d hd).2.2;omega⟩
 have hpw:g.length≤1000∧(∀d∈g,d.wf∧0<d.body.nodes.length∧d.body.nodes.length≤100000)∧p.length≤1000000∧(dZ eH L).1.wf∧(dZ eH L).1.nodes.length≤100000:=⟨hn,hgp,hp,h3,h4⟩
 have hpc:=l5 (r:=r) hn hgp hp h3 h4;refine kf rfl rfl ?_;repeat' first|exact k9|refine k2 ?_|apply kA|apply kI;intro hc|apply kL;intro hl|(apply Sn.go hX;conv=>whnf)|((simp only[←hL])<;>conv=>whnf)|refine k8 ?_|fail
 ·refine aq.i ?_;rw[hr,if_neg (by rintro(q|q|q);exact bfF (by assumption) q;exact bfF (by assumption) q;exact q (by assumption))]
 ·refine aq.i ?_;rw[hr,if_pos (.inr (.inr (by assumption)))];rfl
 ·refine aq.i ?_;rw[hr,if_pos (.inr (.inl (by assumption)))];rfl
 ·refine aq.i ?_;rw[hr,if_pos (.inl (by assumption))];rfl⟩
theorem LQ{t:Nat}{η:Env}{x:Tre}{k:Kr Prop}(hη:η t=none)(ht:x.wf)(hri:au x=true)(h0k:0<(aN x).length)(hk:k (.own t (nv η t)) [t] [(t,.ro (nv η t) 39 2 ((aN x).map dq))]):dg Tryz.prog X1.Γ t η 80 ([aE x].map F.toD) k:=dg.i (FC hη ht hri h0k) hk
instance(g:List Dfn)(r:Int)(p:List Int)(at_:Int):C 50 [cx g,.ag [byF 5,.cl 93 [],.cl 94 []],.ag [inF r,isF p],inF at_] (.tp [cx (cA 2 g r p at_).1,boF (cA 2 g r p at_).2]) false (gn g r p at_):=⟨fun⟨⟨hn,hg,hp⟩,hf,h0,h1⟩=>by
 have hX:=rm [] [80,94];have hw:∀d∈g,d.wf:=fun d hd=>(hg d hd).1
 have hsm:∀d∈g,d.wf∧d.body.nodes.length≤20000:=fun d hd=>⟨(hg d hd).1,(hg d hd).2.2⟩
 obtain⟨hxw,hxl⟩:=jn (r:=r) (p:=p) hsm;have hpf:g.length≤1000∧(∀d∈g,d.wf)∧p.length≤1000000:=⟨hn,hw,hp⟩
 have hr:=wA (k:=2) (at_:=at_) hf rfl;have hnp:=oV (k:=2) (at_:=at_) hxw hxl;have hkl:(aN (aC g r p).1).length≤1000000:=by have:=(je (aC g r p).1).2;omega
 obtain⟨q,rfl⟩:∃q:Nat,at_=q:=⟨at_.toNat,by omega⟩
 have hq:q<(aN (aC g r p).1).length:=by omega
 obtain⟨L,hL⟩:=exEq ((aN (aC g r p).1).take q++(aN (aC g r p).1).drop (q+1));have hLd:fX 2 (aN (aC g r p).1) (q:Int)=L:=by rw[hL,fX,if_pos rfl,Int.toNat_natCast,List.eraseIdx_eq_take_drop_succ]
 have hnd:eM 2 (aC g r p).1 (q:Int)=dZ dE L:=by rw[←hLd];rfl
 rw[hLd,hnd]at hnp;rw[hnd]at hr;obtain⟨h2,h3,h4⟩:=hnp;have hri:au (aC g r p).1=true:=by
  cases hri:au (aC g r p).1 with
  |true=>rfl
  |false=>rw[show aN (aC g r p).1=[]from by rw[aN,if_neg (by rw[hri];decide)]]at hq;cases hq
 have hgp:∀d∈g,d.wf∧0<d.body.nodes.length∧d.body.nodes.length≤100000:=fun d hd=>⟨(hg d hd).1,(hg d hd).2.1,by have:=(hg d hd).2.2;omega⟩
 have hpw:g.length≤1000∧(∀d∈g,d.wf∧0<d.body.nodes.length∧d.body.nodes.length≤100000)∧p.length≤1000000∧(dZ dE L).1.wf∧(dZ dE L).1.nodes.length≤100000:=⟨hn,hgp,hp,h3,h4⟩
 have hpc:=l5 (r:=r) hn hgp hp h3 h4;have hLm:((aN (aC g r p).1).map dq).take q++((aN (aC g r p).1).map dq).drop (q+1)=L.map dq:=by rw[hL,List.map_append,List.map_take,List.map_drop]
 refine fL hX rfl rfl ?_;repeat' first|exact k9|refine k2 ?_|apply kA|apply kI;intro hc|apply kL;intro hl|(apply Sn.go hX;conv=>whnf)|(((refine LQ rfl hxw hri (by omega) ?_))<;>conv=>whnf)|(((refine dg.i (AR rfl (by rw[List.length_map];exact hq) (by rw[List.length_map];omega) _) ?_))<;>conv=>whnf)|((simp only[hLm])<;>conv=>whnf)|refine k8 ?_|fail
 ·refine aq.i ?_;rw[hr,if_neg (by rintro(q|q|q);exact bfF (by assumption) q;exact bfF (by assumption) q;exact q (by assumption))]
 ·refine aq.i ?_;rw[hr,if_pos (.inr (.inr (by assumption)))];rfl
 ·refine aq.i ?_;rw[hr,if_pos (.inr (.inl (by assumption)))];rfl
 ·refine aq.i ?_;rw[hr,if_pos (.inl (by assumption))];rfl⟩
end Go.Km
end
section
namespace Go.aa
open Go
end Go.aa
namespace Go.Km
open Go Go.Vc Go.Proofs Go.aa Go.Proofs.YtpbichnnflabdaaGreatDoor
set_option maxRecDepth 100000
set_option maxHeartbeats 0
abbrev A6(s:Sto):List F:=[byF s.pass,byF s.way,inF s.r,isF s.p,inF s.at_]
end Go.Km
end
section
namespace Go.aa
open Go Go.Km
theorem l6{α β:Type}{f:α→List β}(c:Nat):∀(l:List α),(∀a∈l,(f a).length≤c)→(l.flatMap f).length≤l.length*c
 |[],_=>by simp
 |a::l,h=>by
  have h1:=l6 c l (fun b hb=>h b (by simp[hb]));have h2:=h a (by simp);rw[List.flatMap_cons,List.length_append,List.length_cons,Nat.add_mul];omega
theorem pz{g:List Dfn}(h:cz g=0){x:Int×List Int}(hx:x∈mG g):(aC g x.1 x.2).2=true∧x.2.length≤2000:=by
 refine⟨(og h x.1 x.2).1 hx,?_⟩;rw[mG,if_pos h,List.mem_flatMap]at hx;obtain⟨⟨d,i⟩,hd,hp⟩:=hx;obtain⟨q,hq,rfl⟩:=List.mem_map.1 hp;have:=rk _ _ _ _ hq;have hd':d∈g:=List.fst_mem_of_mem_zipIdx hd;have:=(cE h).small hd';simp only[List.length_nil,Nat.zero_add]at *;omega
end Go.aa
namespace Go.Km
open Go Go.Vc Go.Proofs Go.aa Go.Proofs.YtpbichnnflabdaaGreatDoor
set_option maxRecDepth 100000
set_option maxHeartbeats 0
end Go.Km
end
section
namespace Go.aa
open Go Go.Km
def cC(g:List Dfn)(x:Int×List Int)(k:Nat):List Sto:=if k=0 then[]else((List.range (fF g x)).filter fun(a:Nat)=>okD k g x.1 x.2 (a:Int)).map fun(a:Nat)=>⟨2,(k:Int),x.1,x.2,(a:Int)⟩
theorem sY(g:List Dfn)(x:Int×List Int):de g x=(List.range 4).flatMap (cC g x):=rfl
def dc(g:List Dfn)(x:Int×List Int)(k a:Nat):List Sto:=((List.range a).filter fun(a:Nat)=>okD k g x.1 x.2 (a:Int)).map fun(a:Nat)=>⟨2,(k:Int),x.1,x.2,(a:Int)⟩
theorem tR(g:List Dfn)(x:Int×List Int)(k:Nat):dc g x k 0=[]:=rfl
theorem dG(g:List Dfn)(x:Int×List Int)(k a:Nat):dc g x k (a+1)=dc g x k a++(if okD k g x.1 x.2 (a:Int)=true then[⟨2,(k:Int),x.1,x.2,(a:Int)⟩]else[]):=by
 unfold dc;rw[List.range_succ,List.filter_append,List.map_append]
 congr 1
 cases h:okD k g x.1 x.2 (a:Int)<;>simp[h]
theorem jN(g:List Dfn)(x:Int×List Int)(k a:Nat):(dc g x k a).length≤a:=by
 unfold dc;rw[List.length_map];have:=List.length_filter_le (fun(a:Nat)=>okD k g x.1 x.2 (a:Int)) (List.range a)
 rwa [List.length_range]at this
structure AtD(g:List Dfn)(x:Int×List Int)(q:Nat):Prop where
 lt:q<g.length
 r:x.1=(q:Int)
 num:(gm (eE g x.1).nodes (eE g x.1).root x.2).2=true
 rng:0≤(gy g x.1 x.2).1∧(gy g x.1 x.2).1<(eE g x.1).nodes.length
 kids:(aN (aC g x.1 x.2).1).length=fF g x
theorem gW{g:List Dfn}{q:Nat}(h:q<g.length):eE g (q:Int)=g[q].body:=by
 rw[eE,Int.toNat_natCast,List.getD_eq_getElem?_getD,List.getElem?_eq_getElem h,Option.getD_some]
theorem Ld{g:List Dfn}(hm:cz g=0){x:Int×List Int}(h:(aC g x.1 x.2).2=true):∃q,AtD g x q:=by
 obtain⟨q,hq,e1,e2⟩:=iZ h;have hR:=(cE hm).right (List.getElem_mem hq);rw[e2]at h;obtain⟨k1,k2,k3,k4,k5⟩:=xw hR h;refine⟨q,hq,e1,?_,?_,?_⟩
 ·rw[e1,gW hq];exact k2
 ·rw[gy,e1,gW hq];exact k3
 ·rw[e2,k5,fF,gy,e1,gW hq]
theorem qm{g:List Dfn}(hw:∀d∈g,d.wf∧d.body.nodes.length≤20000){x:Int×List Int}{q:Nat}(h:AtD g x q):fF g x≤20000:=by
 have:=(je (aC g x.1 x.2).1).2;have:=(jn (r:=x.1) (p:=x.2) hw).2;rw[←h.kids];omega
end Go.aa
namespace Go.Km
open Go Go.Vc Go.Proofs Go.aa Go.Proofs.YtpbichnnflabdaaGreatDoor
set_option maxRecDepth 100000
set_option maxHeartbeats 0
instance(g:List Dfn):C 46 [cx g] (.cl 89 [.pt 1 [[.sl (g.map rD)]] 0 0]) false True:=⟨fun _=>by
 refine kf rfl rfl ?_;repeat' first|exact k9|refine k2 ?_|apply kA|apply kI;intro hc|(apply Sn.go hX;conv=>whnf)|refine k8 ?_|apply kL;intro hl
 exact aq.i rfl⟩
instance(g:List Dfn):C 22 [cx g] (.sl ((aR g).map A6)) false (g.length≤1000∧∀d∈g,d.wf):=⟨fun⟨hn,hw⟩=>by
 have hX:=rm [51,98] [];have hp:g.length≤1000∧∀d∈g,d.wf:=⟨hn,hw⟩
 by_cases hc0:bb g=0
 ·have ok:=cE (ba hc0);have hm:=ba hc0;have hpm:(g.length≤1000∧∀d∈g,d.wf)∧cz g=0:=⟨hp,hm⟩
  have hall:g.length≤1000∧(∀d∈g,d.wf)∧(cz g=0→∀d∈g,av d.body∧d.body.nodes.length≤2000):=⟨hn,hw,fun _ d hd=>⟨ok.right hd,by have:=ok.small hd;omega⟩⟩
  have hsm:∀d∈g,d.wf∧d.body.nodes.length≤20000:=fun d hd=>⟨hw d hd,by have:=ok.small hd;omega⟩
  rw[show aR g=(mG g).flatMap (de g)from by rw[aR,if_pos hc0]];obtain⟨al,hal⟩:=exEq (mG g);have hAt:∀y∈al,∃q,AtD g y q:=fun y hy=>Ld hm (pz hm (by rw[←hal];exact hy)).1
  have hWl:∀y∈al,∀k,(cC g y k).length≤20000:=fun y hy k=>by
   obtain⟨q,hq⟩:=hAt y hy;unfold cC
   split
   ·exact Nat.zero_le _
   ·exact Nat.le_trans (jN g y k (fF g y)) (qm hsm hq)
  have hAl:∀y∈al,(de g y).length≤80000:=fun y hy=>by
   have:=l6 (f:=cC g y) 20000 (List.range 4) (fun k _=>hWl y hy k);rw[List.length_range]at this;rw[sY];omega
  have hll:al.length≤2000000:=by
   rw[hal,qL g hm];exact Nat.le_trans (mA g.length (Nat.le_refl _) fun d hd=>Nat.le_trans (o7 (ok.right hd)) (by have:=ok.small hd;omega)) (by omega)
  refine fL hX rfl rfl ?_;repeat' first|exact k9|refine k2 ?_|apply kA|apply kI;intro hc|(apply Sn.go hX;conv=>whnf)|refine k8 ?_|apply kL;intro hl
  refine Stp.By 9 47 32 5 rfl rfl ?_;apply kCt [0,1,3,5,25,26,27] [2,3,7];conv=>whnf
  rw[←hal];refine Lp.ind (fun x:Nat=>al.length-x) (fun x=>x≤al.length) (fun x=>[(27,InD x)]) (fun x=>[(3,.ro 0 32 5 (((al.take x).flatMap (de g)).map A6))]) (fun _=>_) 0 (Nat.zero_le _) rfl rfl rfl ?_
  rintro G x ih hx
  by_cases hxl:x<al.length
  ·obtain⟨q,hq⟩:=hAt _ (List.getElem_mem hxl);obtain⟨P,hP⟩:=exEq (al[x].2);have hxe:al[x]=((q:Int),P):=by rw[hP,←hq.r]
   have hxi:∀h:x<al.length,al[x]'h=((q:Int),P):=fun _=>hxe
   have hmem:((q:Int),P)∈mG g:=by rw[←hxe,←hal];exact List.getElem_mem hxl
   obtain⟨hpf,hpn⟩:=pz hm hmem;dsimp only at hpf hpn;rw[hxe]at hq;have hql:=hq.lt;obtain⟨d,hd⟩:=exEq (g[q]);have hgi:∀h:((q:Nat):Int).toNat<g.length,g[((q:Nat):Int).toNat]'h=d:=fun _=>hd.symm
   have hbd:eE g (q:Int)=d.body:=by rw[gW hql,hd]
   have hnum:gy g (q:Int) P=gm d.body.nodes d.body.root P:=by rw[gy,hbd]
   have hdm:d∈g:=by rw[hd];exact List.getElem_mem hql
   have hdw:=(hw _ hdm).body;have hdR:=ok.right hdm;have hpn1:d.body.wf∧av d.body∧P.length≤1000000:=⟨hdw,hdR,by omega⟩
   apply Sn.go hX;repeat' first|exact k9|refine k2 ?_|apply kA|apply kI;intro hc|apply kL;intro hl|(apply Sn.go hX;conv=>whnf)|((simp only[hxi])<;>conv=>whnf)|((simp only[hgi])<;>conv=>whnf)|refine k8 ?_|fail
   obtain⟨N,hN⟩:=exEq (gm d.body.nodes d.body.root P);rw[←hN];obtain⟨nq,hnq⟩:∃nq:Nat,N.1=nq:=⟨N.1.toNat,by have:=hq.rng.1;rw[hnum,←hN]at this;omega⟩
   apply kCt [0,1,3,5,7,8,9,11,25,26,27] [2,3,7];conv=>whnf
   obtain⟨acc,hacc⟩:=exEq ((al.take x).flatMap (de g));rw[←hacc,hnq];have hacl:acc.length≤160000000000:=by
    have:=l6 80000 (al.take x) (fun y hy=>hAl y (List.mem_of_mem_take hy));rw[←hacc,List.length_take]at this;have:min x al.length*80000≤2000000*80000:=Nat.mul_le_mul_right _ (by omega);omega
   have hnl:nq<d.body.nodes.length:=by have:=hq.rng.2;rw[hnum,hbd,←hN,hnq]at this;omega
   have hseat:fF g ((q:Int),P)=d.body.nodes[nq].kids.length:=by
    show(ae (eE g (q:Int)).nodes (gy g (q:Int) P).1).length=_
    rw[hbd,hnum,←hN,hnq,←aF (List.getElem?_eq_getElem hnl)]
   have hsl0:=qm hsm hq;rw[hseat]at hsl0;obtain⟨fl,hfl⟩:=exEq (aH g (bk g) d.body.nodes);have hfll:fl.length=d.body.nodes.length:=by rw[hfl,bG]
   have hfi:∀h:((q:Nat):Int).toNat<(aP g).length,(aP g)[((q:Nat):Int).toNat]'h=fl:=fun h=>by
    simp only[Int.toNat_natCast,aP,List.getElem_map,hfl,hd]
   have hfi2:∀h:q<(aP g).length,(aP g)[q]'h=fl:=fun h=>by
    simp only[aP,List.getElem_map,hfl,hd]
   have hfal:(aP g).length=g.length:=by simp[aP]
   have hokD:∀k a:Nat,Go.aa.okD k g (q:Int) P (a:Int)=(aV k d.body.nodes fl (nq:Int) (a:Int)&&(cA k g (q:Int) P (a:Int)).2):=fun k a=>by
    unfold Go.aa.okD;rw[hbd,hnum,←hN,hnq,List.getD_eq_getElem?_getD,List.getElem?_eq_getElem (by rw[hfal];exact hql),hfi];rfl
   have hhp:d.body.wf∧av d.body∧fl.length=d.body.nodes.length∧0≤(nq:Int)∧(nq:Int)<d.body.nodes.length:=⟨hdw,hdR,hfll,by omega,by omega⟩
   have hgp:∀d∈g,d.wf∧0<d.body.nodes.length∧d.body.nodes.length≤20000:=fun d hd=>⟨hw d hd,by have:=(ok.right hd).root;omega,by have:=ok.small hd;omega⟩
   have hmal:((q:Int),P)∈al:=by rw[←hxe];exact List.getElem_mem hxl
   have hplen:P.length≤1000000:=by omega
   refine Lp.ind (fun w:Nat=>4-w) (fun w=>1≤w∧w≤4) (fun w=>[(11,InD w)]) (fun w=>[(3,.ro 0 32 5 ((acc++(List.range w).flatMap (cC g ((q:Int),P))).map A6))]) (fun _=>_) 1 (by omega) rfl rfl (by rw[show(List.range 1).flatMap (cC g ((q:Int),P))=[]from rfl,List.append_nil];rfl) ?_
   rintro G2 w ih2 hw7
   by_cases hwl:w<4
   ·have hwc:w=1∨w=2∨w=3:=by omega
    rcases hwc with rfl|rfl|rfl
    ·have hrl:=l6 (f:=cC g ((q:Int),P)) 20000 (List.range 1) (fun k _=>hWl _ hmal k);rw[List.length_range]at hrl;have hnext:acc++(List.range (1+1)).flatMap (cC g ((q:Int),P))=acc++(List.range 1).flatMap (cC g ((q:Int),P))++dc g ((q:Int),P) 1 d.body.nodes[nq].kids.length:=by
      rw[List.range_succ,List.flatMap_append,List.flatMap_singleton,List.append_assoc,←hseat];rfl
     apply Sn.go hX;repeat' first|exact k9|refine k2 ?_|apply kA|apply kI;intro hc|(apply Sn.go hX;conv=>whnf)|refine k8 ?_|apply kL;intro hl
     apply kCt [0,1,3,5,7,8,9,11,25,26,27,55,56] [2,3,7];conv=>whnf
     refine Lp.ind (fun a:Nat=>d.body.nodes[nq].kids.length-a) (fun a=>a≤d.body.nodes[nq].kids.length) (fun a=>[(56,InD a)]) (fun a=>[(3,.ro 0 32 5 ((acc++(List.range 1).flatMap (cC g ((q:Int),P))++dc g ((q:Int),P) 1 a).map A6))]) (fun _=>_) 0 (Nat.zero_le _) rfl rfl (by rw[tR,List.append_nil];rfl) ?_
     rintro G3 a ih3 ha
     by_cases hal3:a<d.body.nodes[nq].kids.length
     ·have hsucc:=dG g ((q:Int),P) 1 a;have hsl:=jN g ((q:Int),P) 1 a;have hok:Go.aa.okD 1 g (q:Int) P (a:Int)=(aV 1 d.body.nodes fl (nq:Int) (a:Int)&&(cA 1 g (q:Int) P (a:Int)).2):=hokD 1 a;rw[hok]at hsucc;have hpp:gn g (q:Int) P (a:Int):=⟨⟨hn,hgp,by omega⟩,hpf,by omega,by rw[hq.kids,hseat];omega⟩
      cases hh:aV 1 d.body.nodes fl (nq:Int) (a:Int)with
      |true=>
       cases hpu:(cA 1 g (q:Int) P (a:Int)).2 with
       |true=>
        rw[hh,hpu,Bool.and_self,if_pos rfl]at hsucc;apply Sn.go hX;repeat' first|exact k9|refine k2 ?_|apply kA|apply kI;intro hc|apply kL;intro hl|(apply Sn.go hX;conv=>whnf)|((simp only[hfi2])<;>conv=>whnf)|refine k8 ?_|fail
        apply kCt [0,1,3,5,7,8,9,11,25,26,27,55,56] [2,3,7];conv=>whnf
        exact ih3 (a+1) _ _ _ (by omega) (by omega) rfl rfl (by rw[hsucc,←List.append_assoc,List.map_append (l₂:=[_])];rfl)
       |false=>
        rw[hh,hpu,Bool.and_false,if_neg (by decide),List.append_nil]at hsucc;apply Sn.go hX;repeat' first|exact k9|refine k2 ?_|apply kA|apply kI;intro hc|apply kL;intro hl|(apply Sn.go hX;conv=>whnf)|((simp only[hfi2])<;>conv=>whnf)|refine k8 ?_|fail
        apply kCt [0,1,3,5,7,8,9,11,25,26,27,55,56] [2,3,7];conv=>whnf
        exact ih3 (a+1) _ _ _ (by omega) (by omega) rfl rfl (by rw[hsucc];rfl)
      |false=>
       rw[hh,Bool.false_and,if_neg (by decide),List.append_nil]at hsucc;apply Sn.go hX;repeat' first|exact k9|refine k2 ?_|apply kA|apply kI;intro hc|apply kL;intro hl|(apply Sn.go hX;conv=>whnf)|((simp only[hfi2])<;>conv=>whnf)|refine k8 ?_|fail
       apply kCt [0,1,3,5,7,8,9,11,25,26,27,55,56] [2,3,7];conv=>whnf
       exact ih3 (a+1) _ _ _ (by omega) (by omega) rfl rfl (by rw[hsucc];rfl)
     ·obtain rfl:a=d.body.nodes[nq].kids.length:=by omega
      apply Sn.go hX;repeat' first|exact k9|refine k2 ?_|apply kA|apply kI;intro hc|(apply Sn.go hX;conv=>whnf)|refine k8 ?_|apply kL;intro hl
      apply kCt [0,1,3,5,7,8,9,11,25,26,27] [2,3,7];conv=>whnf
      exact ih2 (1+1) _ _ _ (by omega) (by omega) rfl rfl (by rw[hnext];rfl)
    ·have hrl:=l6 (f:=cC g ((q:Int),P)) 20000 (List.range 2) (fun k _=>hWl _ hmal k);rw[List.length_range]at hrl;have hnext:acc++(List.range (2+1)).flatMap (cC g ((q:Int),P))=acc++(List.range 2).flatMap (cC g ((q:Int),P))++dc g ((q:Int),P) 2 d.body.nodes[nq].kids.length:=by
      rw[List.range_succ,List.flatMap_append,List.flatMap_singleton,List.append_assoc,←hseat];rfl
     apply Sn.go hX;repeat' first|exact k9|refine k2 ?_|apply kA|apply kI;intro hc|(apply Sn.go hX;conv=>whnf)|refine k8 ?_|apply kL;intro hl
     apply kCt [0,1,3,5,7,8,9,11,25,26,27,55,56] [2,3,7];conv=>whnf
     refine Lp.ind (fun a:Nat=>d.body.nodes[nq].kids.length-a) (fun a=>a≤d.body.nodes[nq].kids.length) (fun a=>[(56,InD a)]) (fun a=>[(3,.ro 0 32 5 ((acc++(List.range 2).flatMap (cC g ((q:Int),P))++dc g ((q:Int),P) 2 a).map A6))]) (fun _=>_) 0 (Nat.zero_le _) rfl rfl (by rw[tR,List.append_nil];rfl) ?_
     rintro G3 a ih3 ha
     by_cases hal3:a<d.body.nodes[nq].kids.length
     ·have hsucc:=dG g ((q:Int),P) 2 a;have hsl:=jN g ((q:Int),P) 2 a;have hok:Go.aa.okD 2 g (q:Int) P (a:Int)=(aV 2 d.body.nodes fl (nq:Int) (a:Int)&&(cA 2 g (q:Int) P (a:Int)).2):=hokD 2 a;rw[hok]at hsucc;have hpp:gn g (q:Int) P (a:Int):=⟨⟨hn,hgp,by omega⟩,hpf,by omega,by rw[hq.kids,hseat];omega⟩
      cases hh:aV 2 d.body.nodes fl (nq:Int) (a:Int)with
      |true=>
       cases hpu:(cA 2 g (q:Int) P (a:Int)).2 with
       |true=>
        rw[hh,hpu,Bool.and_self,if_pos rfl]at hsucc;apply Sn.go hX;repeat' first|exact k9|refine k2 ?_|apply kA|apply kI;intro hc|apply kL;intro hl|(apply Sn.go hX;conv=>whnf)|((simp only[hfi2])<;>conv=>whnf)|refine k8 ?_|fail
        apply kCt [0,1,3,5,7,8,9,11,25,26,27,55,56] [2,3,7];conv=>whnf
        exact ih3 (a+1) _ _ _ (by omega) (by omega) rfl rfl (by rw[hsucc,←List.append_assoc,List.map_append (l₂:=[_])];rfl)
       |false=>
        rw[hh,hpu,Bool.and_false,if_neg (by decide),List.append_nil]at hsucc;apply Sn.go hX;repeat' first|exact k9|refine k2 ?_|apply kA|apply kI;intro hc|apply kL;intro hl|(apply Sn.go hX;conv=>whnf)|((simp only[hfi2])<;>conv=>whnf)|refine k8 ?_|fail
        apply kCt [0,1,3,5,7,8,9,11,25,26,27,55,56] [2,3,7];conv=>whnf
        exact ih3 (a+1) _ _ _ (by omega) (by omega) rfl rfl (by rw[hsucc];rfl)
      |false=>
       rw[hh,Bool.false_and,if_neg (by decide),List.append_nil]at hsucc;apply Sn.go hX;repeat' first|exact k9|refine k2 ?_|apply kA|apply kI;intro hc|apply kL;intro hl|(apply Sn.go hX;conv=>whnf)|((simp only[hfi2])<;>conv=>whnf)|refine k8 ?_|fail
       apply kCt [0,1,3,5,7,8,9,11,25,26,27,55,56] [2,3,7];conv=>whnf
       exact ih3 (a+1) _ _ _ (by omega) (by omega) rfl rfl (by rw[hsucc];rfl)
     ·obtain rfl:a=d.body.nodes[nq].kids.length:=by omega
      apply Sn.go hX;repeat' first|exact k9|refine k2 ?_|apply kA|apply kI;intro hc|(apply Sn.go hX;conv=>whnf)|refine k8 ?_|apply kL;intro hl
      apply kCt [0,1,3,5,7,8,9,11,25,26,27] [2,3,7];conv=>whnf
      exact ih2 (2+1) _ _ _ (by omega) (by omega) rfl rfl (by rw[hnext];rfl)
    ·have hrl:=l6 (f:=cC g ((q:Int),P)) 20000 (List.range 3) (fun k _=>hWl _ hmal k);rw[List.length_range]at hrl;have hnext:acc++(List.range (3+1)).flatMap (cC g ((q:Int),P))=acc++(List.range 3).flatMap (cC g ((q:Int),P))++dc g ((q:Int),P) 3 d.body.nodes[nq].kids.length:=by
      rw[List.range_succ,List.flatMap_append,List.flatMap_singleton,List.append_assoc,←hseat];rfl
     apply Sn.go hX;repeat' first|exact k9|refine k2 ?_|apply kA|apply kI;intro hc|(apply Sn.go hX;conv=>whnf)|refine k8 ?_|apply kL;intro hl
     apply kCt [0,1,3,5,7,8,9,11,25,26,27,55,56] [2,3,7];conv=>whnf
     refine Lp.ind (fun a:Nat=>d.body.nodes[nq].kids.length-a) (fun a=>a≤d.body.nodes[nq].kids.length) (fun a=>[(56,InD a)]) (fun a=>[(3,.ro 0 32 5 ((acc++(List.range 3).flatMap (cC g ((q:Int),P))++dc g ((q:Int),P) 3 a).map A6))]) (fun _=>_) 0 (Nat.zero_le _) rfl rfl (by rw[tR,List.append_nil];rfl) ?_
     rintro G3 a ih3 ha
     by_cases hal3:a<d.body.nodes[nq].kids.length
     ·have hsucc:=dG g ((q:Int),P) 3 a;have hsl:=jN g ((q:Int),P) 3 a;have hok:Go.aa.okD 3 g (q:Int) P (a:Int)=(aV 3 d.body.nodes fl (nq:Int) (a:Int)&&(cA 3 g (q:Int) P (a:Int)).2):=hokD 3 a;rw[hok]at hsucc;have hpp:gn g (q:Int) P (a:Int):=⟨⟨hn,hgp,by omega⟩,hpf,by omega,by rw[hq.kids,hseat];omega⟩
      cases hh:aV 3 d.body.nodes fl (nq:Int) (a:Int)with
      |true=>
       cases hpu:(cA 3 g (q:Int) P (a:Int)).2 with
       |true=>
        rw[hh,hpu,Bool.and_self,if_pos rfl]at hsucc;apply Sn.go hX;repeat' first|exact k9|refine k2 ?_|apply kA|apply kI;intro hc|apply kL;intro hl|(apply Sn.go hX;conv=>whnf)|((simp only[hfi2])<;>conv=>whnf)|refine k8 ?_|fail
        apply kCt [0,1,3,5,7,8,9,11,25,26,27,55,56] [2,3,7];conv=>whnf
        exact ih3 (a+1) _ _ _ (by omega) (by omega) rfl rfl (by rw[hsucc,←List.append_assoc,List.map_append (l₂:=[_])];rfl)
       |false=>
        rw[hh,hpu,Bool.and_false,if_neg (by decide),List.append_nil]at hsucc;apply Sn.go hX;repeat' first|exact k9|refine k2 ?_|apply kA|apply kI;intro hc|apply kL;intro hl|(apply Sn.go hX;conv=>whnf)|((simp only[hfi2])<;>conv=>whnf)|refine k8 ?_|fail
        apply kCt [0,1,3,5,7,8,9,11,25,26,27,55,56] [2,3,7];conv=>whnf
        exact ih3 (a+1) _ _ _ (by omega) (by omega) rfl rfl (by rw[hsucc];rfl)
      |false=>
       rw[hh,Bool.false_and,if_neg (by decide),List.append_nil]at hsucc;apply Sn.go hX;repeat' first|exact k9|refine k2 ?_|apply kA|apply kI;intro hc|apply kL;intro hl|(apply Sn.go hX;conv=>whnf)|((simp only[hfi2])<;>conv=>whnf)|refine k8 ?_|fail
       apply kCt [0,1,3,5,7,8,9,11,25,26,27,55,56] [2,3,7];conv=>whnf
       exact ih3 (a+1) _ _ _ (by omega) (by omega) rfl rfl (by rw[hsucc];rfl)
     ·obtain rfl:a=d.body.nodes[nq].kids.length:=by omega
      apply Sn.go hX;repeat' first|exact k9|refine k2 ?_|apply kA|apply kI;intro hc|(apply Sn.go hX;conv=>whnf)|refine k8 ?_|apply kL;intro hl
      apply kCt [0,1,3,5,7,8,9,11,25,26,27] [2,3,7];conv=>whnf
      exact ih2 (3+1) _ _ _ (by omega) (by omega) rfl rfl (by rw[hnext];rfl)
   ·obtain rfl:w=4:=by omega
    have htk:(al.take (x+1)).flatMap (de g)=acc++(List.range 4).flatMap (cC g ((q:Int),P)):=by
     rw[List.take_succ_eq_append_getElem hxl,List.flatMap_append,List.flatMap_singleton,←hacc,sY,hxe]
    apply Sn.go hX;repeat' first|exact k9|refine k2 ?_|apply kA|apply kI;intro hc|(apply Sn.go hX;conv=>whnf)|refine k8 ?_|apply kL;intro hl
    apply kCt [0,1,3,5,25,26,27] [2,3,7];conv=>whnf
    exact ih (x+1) _ _ _ (by omega) (by omega) rfl rfl (by rw[htk];rfl)
  ·obtain rfl:x=al.length:=by omega
   rw[List.take_length]at *;apply Sn.go hX;repeat' first|exact k9|refine k2 ?_|apply kA|apply kI;intro hc|(apply Sn.go hX;conv=>whnf)|refine k8 ?_|apply kL;intro hl
 ·rw[show aR g=[]from by rw[aR,if_neg hc0]];refine kf rfl rfl ?_;repeat' first|exact k9|refine k2 ?_|apply kA|apply kI;intro hc|(apply Sn.go hX;conv=>whnf)|refine k8 ?_|apply kL;intro hl
  exact aq.i rfl⟩
end Go.Km
end
section
namespace Go.aa
open Go Go.Km
theorem HX{g:List Dfn}(hm:cz g=0){q:Nat}(hq:q<g.length){p:List Int}(h:(gy g (q:Int) p).2=true):(aC g (q:Int) p).2=true:=by
 have hR:=(cE hm).right (List.getElem_mem hq);rw[gy,gW hq,(mr _ _ _).1]at h;unfold aC;rw[dif_pos ⟨by omega,by omega⟩];simp only[Int.toNat_natCast];unfold dh;rw[if_pos hR.right]
 split
 ·rfl
 ·rename_i hd;rw[hd]at h;cases h
theorem nh{k:Nat}{ns:List Nod}{l:List Fl}{n at_:Int}(h:aV k ns l n at_=true):0≤at_∧at_<(ae ns n).length:=by
 unfold aV at h;simp only[Bool.and_eq_true,decide_eq_true_eq]at h;exact h.1.2
theorem eI{g:List Dfn}{pass way r:Int}{p:List Int}{at_:Int}(hc:bb g=0)(h:pass≠2∨way<1∨4≤way∨r<0∨(g.length:Int)≤r∨(gy g r p).2=false∨Go.aa.okD way.toNat g r p at_=false):aY g pass way r p at_=([],47):=by
 rw[aY,if_neg (by simpa using hc),if_pos h]
end Go.aa
namespace Go.Km
open Go Go.Vc Go.Proofs Go.aa Go.Proofs.YtpbichnnflabdaaGreatDoor
set_option maxRecDepth 100000
set_option maxHeartbeats 0
instance(g:List Dfn)(pass way r:Int)(p:List Int)(at_:Int):C 21 [cx g,.ag [byF pass,byF way,inF r,isF p,inF at_]] (.tp [cx (aY g pass way r p at_).1,inF (aY g pass way r p at_).2]) false (g.length≤1000∧(∀d∈g,d.wf)∧p.length≤1000000∧0≤way∧way≤255):=⟨fun⟨hn,hw,hp,hw0,hw1⟩=>by
 have hpre:g.length≤1000∧∀d∈g,d.wf:=⟨hn,hw⟩
 by_cases hc0:bb g=0
 ·have hm:=ba hc0;have ok:=cE hm;have hpm:(g.length≤1000∧∀d∈g,d.wf)∧cz g=0:=⟨hpre,hm⟩
  by_cases hs:pass≠2∨way<1∨4≤way∨r<0∨(g.length:Int)≤r
  ·rw[eI hc0 (by rcases hs with h|h|h|h|h;exact .inl h;exact .inr (.inl h);exact .inr (.inr (.inl h));exact .inr (.inr (.inr (.inl h)));exact .inr (.inr (.inr (.inr (.inl h)))))];refine kf rfl rfl ?_;repeat' first|exact k9|refine k2 ?_|apply kA|apply kI;intro hc|refine k8 ?_|apply kL;intro hl
   all_goals first|exact aq.i rfl|(exfalso;omega)|exact⟨by exfalso;omega⟩
  ·simp only[not_or,Decidable.not_not]at hs;obtain⟨s1,s2,s3,s4,s5⟩:=hs;obtain⟨q,rfl⟩:∃q:Nat,r=q:=⟨r.toNat,by omega⟩
   have hql:q<g.length:=by omega
   obtain⟨d,hd⟩:=exEq (g[q]);have hgi:∀h:((q:Nat):Int).toNat<g.length,g[((q:Nat):Int).toNat]'h=d:=fun _=>hd.symm
   have hgi2:∀h:q<g.length,g[q]'h=d:=fun _=>hd.symm
   have hbd:eE g (q:Int)=d.body:=by rw[gW hql,hd]
   have hnum:gy g (q:Int) p=gm d.body.nodes d.body.root p:=by rw[gy,hbd]
   have hdm:d∈g:=by rw[hd];exact List.getElem_mem hql
   have hdw:=(hw _ hdm).body;have hdR:=ok.right hdm;have hpn1:d.body.wf∧av d.body∧p.length≤1000000:=⟨hdw,hdR,hp⟩
   have hway:way=1∨way=2∨way=3:=by omega
   cases hnn:(gy g (q:Int) p).2 with
   |false=>
    rw[eI hc0 (.inr (.inr (.inr (.inr (.inr (.inl hnn))))))];rw[hnum]at hnn;rcases hway with rfl|rfl|rfl
    all_goals
     refine kf rfl rfl ?_;repeat' first|exact k9|refine k2 ?_|apply kA|apply kI;intro hc|apply kL;intro hl|((simp only[hgi])<;>conv=>whnf)|((simp only[hgi2])<;>conv=>whnf)|refine k8 ?_|fail
     all_goals first|exact aq.i rfl|(exfalso;omega)
   |true=>
    have hpf:=HX hm hql hnn;obtain⟨q',hq⟩:=Ld hm (x:=((q:Int),p)) hpf;have hnn2:=hnn;rw[hnum]at hnn2;obtain⟨fl,hfl⟩:=exEq (aH g (bk g) d.body.nodes);have hfll:fl.length=d.body.nodes.length:=by rw[hfl,bG]
    have hfi2:∀h:q<(aP g).length,(aP g)[q]'h=fl:=fun h=>by
     simp only[aP,List.getElem_map,hfl,hd]
    have hfal:(aP g).length=g.length:=by simp[aP]
    obtain⟨N,hN⟩:=exEq ((gm d.body.nodes d.body.root p).1);have hrng:=hq.rng;have hsd:fF g ((q:Int),p)=(ae d.body.nodes N).length:=by
     show(ae (eE g (q:Int)).nodes (gy g (q:Int) p).1).length=_
     rw[hbd,hnum,←hN]
    rw[hnum,hbd,←hN]at hrng;have hokD:∀k:Nat,Go.aa.okD k g (q:Int) p at_=(aV k d.body.nodes fl N at_&&(cA k g (q:Int) p at_).2):=fun k=>by
     unfold Go.aa.okD;rw[hbd,hnum,←hN,List.getD_eq_getElem?_getD,Int.toNat_natCast,List.getElem?_eq_getElem (by rw[hfal];exact hql),hfi2];rfl
    have hhp:d.body.wf∧av d.body∧fl.length=d.body.nodes.length∧0≤N∧N<d.body.nodes.length:=⟨hdw,hdR,hfll,hrng.1,hrng.2⟩
    have hgp:∀d∈g,d.wf∧0<d.body.nodes.length∧d.body.nodes.length≤20000:=fun d hd=>⟨hw d hd,by have:=(ok.right hd).root;omega,by have:=ok.small hd;omega⟩
    rcases hway with rfl|rfl|rfl
    ·have hk:Go.aa.okD ((1:Int).toNat) g (q:Int) p at_=(aV 1 d.body.nodes fl N at_&&(cA 1 g (q:Int) p at_).2):=hokD 1
     cases hh:aV 1 d.body.nodes fl N at_ with
     |false=>
      rw[hh,Bool.false_and]at hk;rw[eI hc0 (.inr (.inr (.inr (.inr (.inr (.inr hk))))))];refine kf rfl rfl ?_;repeat' first|exact k9|refine k2 ?_|apply kA|apply kI;intro hc|apply kL;intro hl|((simp only[hgi])<;>conv=>whnf)|((simp only[hgi2])<;>conv=>whnf)|((simp only[←hN])<;>conv=>whnf)|((simp only[hfi2])<;>conv=>whnf)|refine k8 ?_|fail
      all_goals first|exact aq.i rfl|(exfalso;omega)
     |true=>
      have hr2:=nh hh;have hpp:gn g (q:Int) p at_:=⟨⟨hn,hgp,hp⟩,hpf,hr2.1,by have:=hq.kids;dsimp only at this;rw[this,hsd];exact hr2.2⟩
      rw[hh,Bool.true_and]at hk;have hr:aY g pass 1 (q:Int) p at_=if(cA 1 g (q:Int) p at_).2=false then([],47)else((cA 1 g (q:Int) p at_).1,0):=by
       by_cases h:(cA 1 g (q:Int) p at_).2=false
       ·rw[if_pos h,eI hc0 (.inr (.inr (.inr (.inr (.inr (.inr (by rw[hk];exact h)))))))]
       ·rw[if_neg h,aY,if_neg (by simpa using hc0),if_neg]
        ·rfl
        ·rintro(a|a|a|a|a|a|a)
         ·exact a s1
         ·omega
         ·omega
         ·omega
         ·omega
         ·rw[hnn]at a;cases a
         ·rw[hk]at a;exact h a
      rw[hr];refine kf rfl rfl ?_;repeat' first|exact k9|refine k2 ?_|apply kA|apply kI;intro hc|apply kL;intro hl|((simp only[hgi])<;>conv=>whnf)|((simp only[hgi2])<;>conv=>whnf)|((simp only[←hN])<;>conv=>whnf)|((simp only[hfi2])<;>conv=>whnf)|refine k8 ?_|fail
      all_goals first|(exfalso;omega)|(refine aq.i ?_;rw[if_neg (fun q=>bfF hc q)];done)|(refine aq.i ?_;rw[if_pos hc];rfl)
    ·have hk:Go.aa.okD ((2:Int).toNat) g (q:Int) p at_=(aV 2 d.body.nodes fl N at_&&(cA 2 g (q:Int) p at_).2):=hokD 2
     cases hh:aV 2 d.body.nodes fl N at_ with
     |false=>
      rw[hh,Bool.false_and]at hk;rw[eI hc0 (.inr (.inr (.inr (.inr (.inr (.inr hk))))))];refine kf rfl rfl ?_;repeat' first|exact k9|refine k2 ?_|apply kA|apply kI;intro hc|apply kL;intro hl|((simp only[hgi])<;>conv=>whnf)|((simp only[hgi2])<;>conv=>whnf)|((simp only[←hN])<;>conv=>whnf)|((simp only[hfi2])<;>conv=>whnf)|refine k8 ?_|fail
      all_goals first|exact aq.i rfl|(exfalso;omega)
     |true=>
      have hr2:=nh hh;have hpp:gn g (q:Int) p at_:=⟨⟨hn,hgp,hp⟩,hpf,hr2.1,by have:=hq.kids;dsimp only at this;rw[this,hsd];exact hr2.2⟩
      rw[hh,Bool.true_and]at hk;have hr:aY g pass 2 (q:Int) p at_=if(cA 2 g (q:Int) p at_).2=false then([],47)else((cA 2 g (q:Int) p at_).1,0):=by
       by_cases h:(cA 2 g (q:Int) p at_).2=false
       ·rw[if_pos h,eI hc0 (.inr (.inr (.inr (.inr (.inr (.inr (by rw[hk];exact h)))))))]
       ·rw[if_neg h,aY,if_neg (by simpa using hc0),if_neg]
        ·rfl
        ·rintro(a|a|a|a|a|a|a)
         ·exact a s1
         ·omega
         ·omega
         ·omega
         ·omega
         ·rw[hnn]at a;cases a
         ·rw[hk]at a;exact h a
      rw[hr];refine kf rfl rfl ?_;repeat' first|exact k9|refine k2 ?_|apply kA|apply kI;intro hc|apply kL;intro hl|((simp only[hgi])<;>conv=>whnf)|((simp only[hgi2])<;>conv=>whnf)|((simp only[←hN])<;>conv=>whnf)|((simp only[hfi2])<;>conv=>whnf)|refine k8 ?_|fail
      all_goals first|(exfalso;omega)|(refine aq.i ?_;rw[if_neg (fun q=>bfF hc q)];done)|(refine aq.i ?_;rw[if_pos hc];rfl)
    ·have hk:Go.aa.okD ((3:Int).toNat) g (q:Int) p at_=(aV 3 d.body.nodes fl N at_&&(cA 3 g (q:Int) p at_).2):=hokD 3
     cases hh:aV 3 d.body.nodes fl N at_ with
     |false=>
      rw[hh,Bool.false_and]at hk;rw[eI hc0 (.inr (.inr (.inr (.inr (.inr (.inr hk))))))];refine kf rfl rfl ?_;repeat' first|exact k9|refine k2 ?_|apply kA|apply kI;intro hc|apply kL;intro hl|((simp only[hgi])<;>conv=>whnf)|((simp only[hgi2])<;>conv=>whnf)|((simp only[←hN])<;>conv=>whnf)|((simp only[hfi2])<;>conv=>whnf)|refine k8 ?_|fail
      all_goals first|exact aq.i rfl|(exfalso;omega)
     |true=>
      have hr2:=nh hh;have hpp:gn g (q:Int) p at_:=⟨⟨hn,hgp,hp⟩,hpf,hr2.1,by have:=hq.kids;dsimp only at this;rw[this,hsd];exact hr2.2⟩
      rw[hh,Bool.true_and]at hk;have hr:aY g pass 3 (q:Int) p at_=if(cA 3 g (q:Int) p at_).2=false then([],47)else((cA 3 g (q:Int) p at_).1,0):=by
       by_cases h:(cA 3 g (q:Int) p at_).2=false
       ·rw[if_pos h,eI hc0 (.inr (.inr (.inr (.inr (.inr (.inr (by rw[hk];exact h)))))))]
       ·rw[if_neg h,aY,if_neg (by simpa using hc0),if_neg]
        ·rfl
        ·rintro(a|a|a|a|a|a|a)
         ·exact a s1
         ·omega
         ·omega
         ·omega
         ·omega
         ·rw[hnn]at a;cases a
         ·rw[hk]at a;exact h a
      rw[hr];refine kf rfl rfl ?_;repeat' first|exact k9|refine k2 ?_|apply kA|apply kI;intro hc|apply kL;intro hl|((simp only[hgi])<;>conv=>whnf)|((simp only[hgi2])<;>conv=>whnf)|((simp only[←hN])<;>conv=>whnf)|((simp only[hfi2])<;>conv=>whnf)|refine k8 ?_|fail
      all_goals first|(exfalso;omega)|(refine aq.i ?_;rw[if_neg (fun q=>bfF hc q)];done)|(refine aq.i ?_;rw[if_pos hc];rfl)
 ·rw[show aY g pass way r p at_=([],bb g)from by rw[aY,if_pos hc0]];refine kf rfl rfl ?_;repeat' first|exact k9|refine k2 ?_|apply kA|apply kI;intro hc|refine k8 ?_|apply kL;intro hl
  all_goals exact aq.i rfl⟩
end Go.Km
end
section
namespace Go.aa
open Go Go.Km
def E3(t:Tre)(way at_:Int):Tre×Bool:=if(aY [⟨⟨#[97]⟩,t⟩] 2 way 0 [] at_).2≠0∨(aY [⟨⟨#[97]⟩,t⟩] 2 way 0 [] at_).1.length≠1 then(.zero,false)else(((aY [⟨⟨#[97]⟩,t⟩] 2 way 0 [] at_).1.headD ⟨⟨#[]⟩,.zero⟩).body,true)
theorem vX{g:List Dfn}{pass way r:Int}{p:List Int}{at_:Int}(hn:g.length≤1000)(hw:∀d∈g,d.wf)(hp:p.length≤1000000):(aY g pass way r p at_).1.length≤1000∧∀d∈(aY g pass way r p at_).1,d.wf:=by
 have hnil:([]:List Dfn).length≤1000∧∀d∈([]:List Dfn),d.wf:=⟨Nat.zero_le _,fun d hd=>by cases hd⟩
 unfold aY
 split
 ·exact hnil
 ·rename_i hc;have hc0:bb g=0:=by omega
  have ok:=cE (ba hc0);have hsm:∀d∈g,d.wf∧d.body.nodes.length≤20000:=fun d hd=>⟨hw d hd,by have:=ok.small hd;omega⟩
  have hgp:∀d∈g,d.wf∧0<d.body.nodes.length∧d.body.nodes.length≤100000:=fun d hd=>⟨hw d hd,by have:=(ok.right hd).root;omega,by have:=ok.small hd;omega⟩
  split
  ·exact hnil
  ·unfold cA
   split
   ·exact hnil
   ·obtain⟨hxw,hxl⟩:=jn (r:=r) (p:=p) hsm;obtain⟨_,h3,h4⟩:=oV (k:=way.toNat) (at_:=at_) hxw hxl;exact l5 hn hgp hp h3 h4
end Go.aa
namespace Go.Km
open Go Go.Vc Go.Proofs Go.aa Go.Proofs.YtpbichnnflabdaaGreatDoor
set_option maxRecDepth 100000
set_option maxHeartbeats 0
instance(g:List Dfn):C 18 [cx g] (boF (rq g)) true (g.length≤dJ∧∀d∈g,d.wf):=⟨fun⟨hn,hw⟩=>by
 simp only[dJ]at hn;refine kf rfl rfl ?_;repeat' first|exact k9|refine k2 ?_|apply kA|apply kI;intro hc|refine k8 ?_|apply kL;intro hl
 apply kCt [1,3,4] [];conv=>whnf
 refine Lp.ind (fun x:Nat×Nat=>g.length-x.1) (fun x=>x.1≤g.length∧x.2≤1000∧pw 0 g=pw x.2 (g.drop x.1)) (fun x=>[(4,InD x.1),(3,InD x.2)]) (fun x=>[]) (fun _=>(boF (rq g),true)) (0,0) ⟨by simp,by simp,rfl⟩ rfl rfl rfl ?_
 rintro G ⟨i,a⟩ ih ⟨hi,ha,hW⟩
 dsimp only at hi ha hW ih ⊢
 by_cases hx:i<g.length
 ·obtain⟨d,hd⟩:=exEq (g[i]);have hdi:∀h,g[i]'h=d:=fun _=>hd.symm
  have hgl:g[i].body.nodes.length=d.body.nodes.length:=by rw[hd]
  have hwd:=hw d (by rw[hd];exact List.getElem_mem hx);have hnl:=hwd.body.len;have hnm:=hwd.name;simp only[bY]at hnl;rw[List.drop_eq_getElem_cons hx,←hd,pw]at hW;have hmn:(bif leI 220 (szS d.name:Int)then(220:Int)else(szS d.name:Int))=((min 220 d.name.size:Nat):Int):=wF 220 (szS d.name)
  by_cases h2:a<220
  ·rw[if_pos h2]at hW
   repeat' first|exact k9|refine k2 ?_|apply kA|apply kI;intro hc|apply kL;intro hl|((simp only[hdi])<;>conv=>whnf)|((rw[hmn])<;>conv=>whnf)|(((apply SdA.m;exact Nd.i (by omega)))<;>conv=>whnf)|refine k8 ?_|fail
   apply kCt [1,3,4,5] [];conv=>whnf
   refine Lp.ind (fun x:Nat×Nat=>d.body.nodes.length-x.1) (fun x=>x.1≤d.body.nodes.length∧x.2≤1000∧pw 0 g=pw (rF x.2 (d.body.nodes.drop x.1)) (g.drop (i+1))) (fun x=>[(5,InD x.1),(3,InD x.2)]) (fun x=>[]) (fun _=>(boF (rq g),true)) (0,a+5+min 220 d.name.size) ⟨by simp,by dsimp only;omega,hW⟩ rfl rfl rfl ?_
   rintro G' ⟨k,b⟩ ih' ⟨hk,hb,hV⟩
   dsimp only at hk hb hV ih' ⊢
   by_cases hkx:k<d.body.nodes.length
   ·obtain⟨n,hnn⟩:=exEq (d.body.nodes[k]);have hni:∀h,d.body.nodes[k]'h=n:=fun _=>hnn.symm
    have hwn:=hwd.body.nodes n (by rw[hnn];exact List.getElem_mem hkx);have hnk:=hwn.kids.1;have hnt:=hwn.text;simp only[dJ]at hnk;have hm1:(bif leI 220 ((List.map ikF n.kids).length:Int)then(220:Int)else((List.map ikF n.kids).length:Int))=((min 220 n.kids.length:Nat):Int):=by rw[List.length_map];exact wF 220 n.kids.length
    have hm2:IntKind.i64.wrap ((bif leI 220 (szS n.text:Int)then(220:Int)else(szS n.text:Int)).tdiv 20)=((min 220 n.text.size/20:Nat):Int):=by
     rw[show(bif leI 220 (szS n.text:Int)then(220:Int)else(szS n.text:Int))=((min 220 n.text.size:Nat):Int)from wF 220 (szS n.text)];rw[show(((min 220 n.text.size:Nat):Int).tdiv 20)=((min 220 n.text.size/20:Nat):Int)from(Int.ofNat_tdiv _ 20).symm];exact wrap_i64 (by unfold Go.Sl.I64;omega)
    rw[List.drop_eq_getElem_cons hkx,←hnn,rF]at hV
    by_cases h3:b<220
    ·rw[if_pos h3]at hV;have hnw:pB n=1+min 220 n.kids.length+min 220 n.text.size/20:=rfl
     repeat' first|exact k9|refine k2 ?_|apply kA|apply kI;intro hc|apply kL;intro hl|((simp only[hdi,hni])<;>conv=>whnf)|((simp only[hm1,hm2])<;>conv=>whnf)|(((apply SdA.m;exact Nd.i (by omega)))<;>conv=>whnf)|refine k8 ?_|fail
     apply kCt [1,3,4,5] [];conv=>whnf
     refine ih' (k+1,b+pB n) _ _ _ (by dsimp only;omega) ⟨by dsimp only;omega,by dsimp only;omega,hV⟩ rfl ?_ rfl;have e:((b+pB n:Nat):Int)=(b:Int)+1+((min 220 n.kids.length:Nat):Int)+((min 220 n.text.size/20:Nat):Int):=by rw[hnw];omega
     dsimp only;show _=jv [(5,InD ((k+1:Nat):Int)),(3,InD ((b+pB n:Nat):Int))] _
     rw[e];rfl
    ·rw[if_neg h3]at hV
     repeat' first|exact k9|refine k2 ?_|apply kA|apply kI;intro hc|apply kL;intro hl|((simp only[hdi,hni])<;>conv=>whnf)|refine k8 ?_|fail
     apply kCt [1,3,4] [];conv=>whnf
     refine ih (i+1,b) _ _ _ (by dsimp only;omega) ⟨by dsimp only;omega,hb,hV⟩ rfl rfl rfl
   ·rw[List.drop_of_length_le (by omega),rF]at hV
    repeat' first|exact k9|refine k2 ?_|apply kA|apply kI;intro hc|apply kL;intro hl|((simp only[hdi])<;>conv=>whnf)|refine k8 ?_|fail
    apply kCt [1,3,4] [];conv=>whnf
    refine ih (i+1,b) _ _ _ (by dsimp only;omega) ⟨by dsimp only;omega,hb,hV⟩ rfl rfl rfl
  ·rw[if_neg h2]at hW
   repeat' first|exact k9|refine k2 ?_|apply kA|apply kI;intro hc|apply kL;intro hl|((simp only[hdi])<;>conv=>whnf)|refine k8 ?_|fail
   exact aq.b (by rw[rq,hW,dM];exact decide_eq_decide.2 (by omega)) rfl
 ·rw[List.drop_of_length_le (by omega),pw]at hW
  repeat' first|exact k9|refine k2 ?_|apply kA|apply kI;intro hc|refine k8 ?_|apply kL;intro hl
  exact aq.b (by rw[rq,hW,dM];exact decide_eq_decide.2 (by omega)) rfl⟩
instance(kind sa sb sc sd:Int)(text:ByteArray)(lo hi:Int)(K:List (List F))(l:List Tre):C 85 [.ag [byF kind,.vl (.int .u64 sa),.vl (.int .u64 sb),.vl (.int .u64 sc),.vl (.int .u64 sd),stF text,inF lo,inF hi,.sl K],kF l]
  (aE (ofP ⟨kind,⟨sa,sb,sc,sd⟩,text,lo,hi,[]⟩ l).1) false ((⟨kind,⟨sa,sb,sc,sd⟩,text,lo,hi,[]⟩:Nod).wf∧l.length≤1466015503701∧(∀t∈l,Sm t)∧tot l+1≤1466015503701):=⟨fun h=>by
 refine kf rfl rfl ?_;repeat' first|exact k9|refine k2 ?_|apply kA|apply kI;intro hc|refine k8 ?_|apply kL;intro hl
 all_goals exact aq.i rfl⟩
instance(t:Tre)(lo hi:Int):C 40 [inF lo,inF hi,aE t] (aE (ofP ⟨6,.zero,⟨#[]⟩,lo,hi,[]⟩ [t]).1) false (Sm t∧(-1000000≤lo∧lo≤1000000)∧(-1000000≤hi∧hi≤1000000)):=⟨fun⟨hs,h1,h2⟩=>by
 have hpre:(⟨6,⟨0,0,0,0⟩,⟨#[]⟩,lo,hi,[]⟩:Nod).wf∧[t].length≤1466015503701∧(∀x∈[t],Sm x)∧tot [t]+1≤1466015503701:=⟨Cb h1 h2,by simp,by simpa using hs,by have:=hs.le;simp[tot];omega⟩
 have inst:C 85 [.ag [byF 6,.vl (.int .u64 0),.vl (.int .u64 0),.vl (.int .u64 0),.vl (.int .u64 0),stF ⟨#[]⟩,inF lo,inF hi,.sl []],.sl [dq t]] (aE (ofP ⟨6,.zero,⟨#[]⟩,lo,hi,[]⟩ [t]).1) false True:=⟨fun _=>KC.h (P:=Tryz.prog) (Γ:=X1.Γ) (f:=85) (l:=[.ag [byF 6,.vl (.int .u64 0),.vl (.int .u64 0),.vl (.int .u64 0),.vl (.int .u64 0),stF ⟨#[]⟩,inF lo,inF hi,.sl []],kF [t]]) hpre⟩
 refine kf rfl rfl ?_;repeat' first|exact k9|refine k2 ?_|apply kA|apply kI;intro hc|refine k8 ?_|apply kL;intro hl
 all_goals exact aq.i rfl⟩
instance(l:List Tre):C 42 [kF l] (aE (ofP eH l).1) false (l.length≤100000∧(∀t∈l,Sm t)∧tot l≤100000):=⟨fun⟨h1,h2,h3⟩=>by
 have hpre:(⟨4,⟨0,0,0,0⟩,⟨#[]⟩,0,0,[]⟩:Nod).wf∧l.length≤1466015503701∧(∀x∈l,Sm x)∧tot l+1≤1466015503701:=⟨kD,by omega,h2,by omega⟩
 refine kf rfl rfl ?_;repeat' first|exact k9|refine k2 ?_|apply kA|apply kI;intro hc|refine k8 ?_|apply kL;intro hl
 all_goals exact aq.i rfl⟩
instance(t:Tre):C 43 [aE t] (cx [⟨⟨#[97]⟩,t⟩]) false True:=⟨fun _=>by
 refine kf rfl rfl ?_;repeat' first|exact k9|refine k2 ?_|apply kA|apply kI;intro hc|refine k8 ?_|apply kL;intro hl
 all_goals exact aq.i rfl⟩
instance(l:List Tre):C 39 [kF l] (aE (ofP dE l).1) false (l.length≤100000∧(∀t∈l,Sm t)∧tot l≤100000):=⟨fun⟨h1,h2,h3⟩=>by
 have hpre:(⟨5,⟨0,0,0,0⟩,⟨#[]⟩,0,0,[]⟩:Nod).wf∧l.length≤1466015503701∧(∀x∈l,Sm x)∧tot l+1≤1466015503701:=⟨ja,by omega,h2,by omega⟩
 refine kf rfl rfl ?_;repeat' first|exact k9|refine k2 ?_|apply kA|apply kI;intro hc|refine k8 ?_|apply kL;intro hl
 all_goals exact aq.i rfl⟩
instance(t:Tre)(way at_:Int):C 41 [aE t,byF way,inF at_] (t2F (E3 t way at_)) false (t.wf∧0≤way∧way≤255):=⟨fun⟨ht,h0,h1⟩=>by
 rw[E3];have hpre:([⟨⟨#[97]⟩,t⟩]:List Dfn).length≤1000∧(∀d∈([⟨⟨#[97]⟩,t⟩]:List Dfn),d.wf)∧([]:List Int).length≤1000000∧0≤way∧way≤255:=⟨by simp,by intro d hd;simp only[List.mem_singleton]at hd;subst hd;exact⟨by show(1:Nat)≤_;decide,ht⟩,by simp,h0,h1⟩
 obtain⟨g,hg⟩:∃g:List Dfn,g=[⟨⟨#[97]⟩,t⟩]:=⟨_,rfl⟩
 rw[←hg]at hpre ⊢;have i1:C 43 [aE t] (cx g) false True:=⟨fun _=>by rw[hg];exact KC.h trivial⟩
 obtain⟨r,hr⟩:=exEq (aY g 2 way 0 [] at_);have i2:C 21 [cx g,.ag [byF 2,byF way,inF 0,.sl [],inF at_]] (.tp [cx r.1,inF r.2]) false True:=⟨fun _=>by rw[hr];exact KC.h (l:=[cx g,.ag [byF 2,byF way,inF 0,isF [],inF at_]]) hpre⟩
 rw[←hr];have hrl:r.1.length≤1000:=by rw[hr];exact(vX hpre.1 hpre.2.1 hpre.2.2.1).1
 refine kf rfl rfl ?_;repeat' first|exact k9|refine k2 ?_|apply kA|apply kI;intro hc|refine k8 ?_|apply kL;intro hl
 ·rw[if_neg (by omega)];rw[show r.1.headD ⟨⟨#[]⟩,.zero⟩=r.1[0]from by rw[List.headD_eq_head?_getD,List.head?_eq_getElem?,List.getElem?_eq_getElem (by omega)];rfl];exact aq.i rfl
 ·rw[if_pos (by omega)];exact aq.i rfl
 ·rw[if_pos (by omega)];exact aq.i rfl⟩
end Go.Km
end
section
namespace Go.aa
open Go Go.Km
set_option maxRecDepth 100000
def cQ(l:List UInt8):Tre:=qO ⟨2,.zero,⟨l.toArray⟩,0,0,[]⟩
def BO(lo hi:Int)(t:Tre):Tre:=(ofP ⟨6,.zero,⟨#[]⟩,lo,hi,[]⟩ [t]).1
end Go.aa
namespace Go.Km
open Go Go.Vc Go.Proofs Go.aa Go.Proofs.YtpbichnnflabdaaGreatDoor
set_option maxRecDepth 100000
set_option maxHeartbeats 0
theorem MM{t:Tre}(h:t.wf∧t.nodes.length≤500000):Sm t:=⟨h.1,h.2⟩
theorem Mi(l:List UInt8)(h:l.length≤1000):Sm (cQ l):=MM ⟨za ⟨by dsimp only;omega,by unfold Bts.wf Bts.zero;dsimp only;omega,by show l.toArray.size≤_;simp;omega,by unfold Go.Sl.I64;dsimp only;omega,by unfold Go.Sl.I64;dsimp only;omega,⟨Nat.zero_le _,fun x hx=>by cases hx⟩⟩,by show 1≤_;omega⟩
theorem L8{lo hi:Int}{t:Tre}(h1:-1000000≤lo∧lo≤1000000)(h2:-1000000≤hi∧hi≤1000000)(ht:t.wf∧t.nodes.length≤1000):(BO lo hi t).wf∧(BO lo hi t).nodes.length≤t.nodes.length+1:=by
 have e:tot [t]=t.nodes.length:=by simp[tot]
 exact⟨As (Cb h1 h2) (by simpa using ht.1) (by rw[e];unfold bY;omega),by have:=IS (n:=⟨6,.zero,⟨#[]⟩,lo,hi,[]⟩) (l:=[t]);rw[e]at this;exact this⟩
theorem BG{t:Tre}(ht:t.wf∧t.nodes.length≤1000)(h:Dm t t=true):C 29 [aE t,aE t] (boF true) true True:=⟨fun _=>by
 have:=KC.h (P:=Tryz.prog) (Γ:=X1.Γ) (f:=29) (l:=[aE t,aE t]) ⟨ht.1,ht.1⟩;rw[h]at this;exact this⟩
theorem txw(l:List UInt8)(h:l.length≤1000):(cQ l).wf∧(cQ l).nodes.length≤1000:=⟨(Mi l h).wf,by show 1≤_;omega⟩
end Go.Km
end
section
namespace Go.aa
open Go Go.Sl Go.Km
def eK(k:Int):List Fl→Int
 |[]=>0
 |f::r=>if(k=5∧f.fail=false)∨(k=4∧f.succ=false)then(r.length:Int)else(if k=5∧f.succ=false then 1 else 0)+eK k r
def fR(l:List Fl)(ns:List Nod):Int:=(ns.map fun n=>eK n.kind (aS l n.kids)).sum
def kT(g:List Dfn):Int:=if bb g=0 then(g.map fun d=>fR (aH g (bk g) d.body.nodes) d.body.nodes).sum else 0
theorem l9(k:Int):∀l:List Fl,0≤eK k l∧eK k l≤l.length
 |[]=>⟨Int.le_refl _,Int.le_refl _⟩
 |f::r=>by
  have:=l9 k r;unfold eK;simp only[List.length_cons]
  split
  ·omega
  ·split<;>omega
def Fl.kh(f:Fl):Prop:=f.fail=true∨f.zero=true
theorem F2:∀{l:List Fl}{i:Nat} (h:i+1<l.length),l[i].fail=false→1≤eK 5 l
 |f::r,0,h,hf=>by
  simp only[List.length_cons,List.getElem_cons_zero]at h hf;unfold eK;rw[if_pos (.inl ⟨rfl,hf⟩)];omega
 |f::r,i+1,h,hf=>by
  simp only[List.length_cons,List.getElem_cons_succ]at h hf;have:=F2 (l:=r) (i:=i) (by omega) hf;unfold eK
  split
  ·omega
  ·split<;>omega
theorem FR:∀{l:List Fl}{i:Nat} (h:i+1<l.length),l[i].succ=false→1≤eK 4 l
 |f::r,0,h,hf=>by
  simp only[List.length_cons,List.getElem_cons_zero]at h hf;unfold eK;rw[if_pos (.inr ⟨rfl,hf⟩)];omega
 |f::r,i+1,h,hf=>by
  simp only[List.length_cons,List.getElem_cons_succ]at h hf;have:=FR (l:=r) (i:=i) (by omega) hf;unfold eK
  split
  ·omega
  ·split<;>omega
theorem Ho:∀{l:List Fl}{i:Nat} (h:i<l.length),(∀f∈l,f.kh)→l[i].succ=false→1≤eK 5 l
 |f::r,0,h,hg,hf=>by
  simp only[List.getElem_cons_zero]at hf;have:=l9 5 r;have hz:f.zero=false:=by unfold Fl.succ at hf;cases hz:f.zero<;>simp_all
  have hfl:f.fail=true:=by
   rcases hg f (by simp)with h|h
   ·exact h
   ·rw[hz]at h;cases h
  unfold eK;rw[if_neg (by rw[hfl];simp),if_pos ⟨rfl,hf⟩];omega
 |f::r,i+1,h,hg,hf=>by
  simp only[List.length_cons,List.getElem_cons_succ]at h hf;have:=Ho (l:=r) (i:=i) (by omega) (fun x hx=>hg x (by simp[hx])) hf;unfold eK
  split
  ·omega
  ·split<;>omega
theorem Fo.l7(g:List Dfn)(l:List Fl):∀F:Fo,(F.cK g l).length=F.len
 |.nil=>rfl
 |.cons n k r=>by simp only[Fo.cK,List.length_cons,Fo.l7 g l r,Fo.len]
theorem FU{n:Nod}{c:Int}(h:fits n c=true)(h6:n.kind=6):0≤n.min:=by
 unfold fits at h;rw[if_neg (by omega),if_neg (by omega),if_neg (by omega),if_neg (by omega),if_neg (by omega),if_pos h6]at h;simp only[Bool.and_eq_true,decide_eq_true_eq]at h;omega
theorem zT:∀{l:List Fl}{p:Fl×Bool},p.1.fail=true→(l.foldl iO p).1.fail=true
 |[],p,h=>h
 |f::l,p,h=>zT (l:=l) (by simp[iO,h])
theorem eC(g:List Dfn)(l:List Fl):∀(F:Fo) (s:Bool),F.fit=true→(∀y∈F.eN g l s,(dt g l y).kh)→
  (s=false→∀f∈F.cK g l,f.kh)∧(s=true→∀p:Fl×Bool,p.1.zero=true→p.2=true→((F.cK g l).foldl iO p).1.fail=true∨((F.cK g l).foldl iO p).1.zero=true)
 |.nil,s,_,_=>⟨fun _ f hf=>(by cases hf),fun _ p h1 _=>.inr h1⟩
 |.cons n k r,s,hfit,hy=>by
  simp only[Fo.fit,Bool.and_eq_true]at hfit;obtain⟨⟨hf1,hf2⟩,hf3⟩:=hfit;rw[Fo.eN]at hy;have hh:(dX n (k.cK g l) (dt g l n.text)).kh:=by
   have hk0:n.kind≠3→¬(n.kind=6∧n.max=0)→∀y∈k.eN g l (decide (n.kind=4)),(dt g l y).kh:=fun h3 h6 y hyk=>hy y (by rw[if_neg h3,if_neg h6];exact List.mem_append_left _ hyk)
   obtain⟨c1,c2,c3⟩:=ml hf1;have hlen:(k.cK g l).length=k.len:=Fo.l7 g l k;have one:n.kind=6∨n.kind=7∨n.kind=8∨n.kind=9→¬(n.kind=6∧n.max=0)→(hd0 (k.cK g l)).kh:=fun hk h6=>by
    have h1:k.len=1:=by have:=c2 (by omega);omega
    have ih:=(eC g l k (decide (n.kind=4)) hf2 (hk0 (by omega) h6)).1 (decide_eq_false (by omega));rw[h1]at hlen
    match hf:k.cK g l,hlen with
    |[f],_=>exact ih f (by rw[hf];simp)
   unfold dX
   split;· exact .inr rfl
   split;· exact .inl rfl
   split;· exact .inl rfl
   split
   ·rename_i h3;exact hy n.text (by rw[if_pos h3];simp)
   split
   ·rename_i h3 h4;have ih:=(eC g l k (decide (n.kind=4)) hf2 (hk0 (by omega) (by omega))).2 (decide_eq_true h4) (⟨true,false,false⟩,true) rfl rfl;exact ih
   split
   ·rename_i h3 h4 h5;have ih:=(eC g l k (decide (n.kind=4)) hf2 (hk0 (by omega) (by omega))).1 (decide_eq_false (by omega));have key:∀(m:List Fl) (p:Fl),(∀f∈m,f.kh)→p.kh→(m.foldl rM p).kh:=by
     intro m
     induction m with
     |nil=>exact fun p _ hp=>hp
     |cons a m ihm=>
      intro p hm hp;refine ihm (rM p a) (fun f hf=>hm f (by simp[hf])) ?_;have ha:=hm a (by simp);unfold Fl.kh rM at *;rcases hp with hp|hp<;>rcases ha with ha|ha<;>simp[hp,ha]
    exact key _ _ ih (.inl rfl)
   split
   ·rename_i h6
    split
    ·exact .inr rfl
    ·rename_i hm;have:=one (.inl h6) (fun q=>hm q.2);have m1:=FU hf1 h6;unfold Fl.kh at *;rcases this with h|h
     ·by_cases h0:n.min=0
      ·exact .inr (by simp[h0,h])
      ·exact .inl (by simp[h];omega)
     ·exact .inr (by simp[h])
   split
   ·rename_i h7;have:=one (.inr (.inl h7)) (by omega);unfold Fl.kh at *;rcases this with h|h
    ·exact .inl h
    ·exact .inr (by simp[Fl.succ,h])
   split
   ·rename_i h8;have:=one (.inr (.inr (.inl h8))) (by omega);unfold Fl.kh at *;rcases this with h|h
    ·exact .inr h
    ·exact .inl (by simp[Fl.succ,h])
   ·exact one (.inr (.inr (.inr (by omega)))) (by omega)
  refine⟨fun hs f hf=>?_,fun hs p hp1 hp2=>?_⟩
  ·subst hs;simp only[Bool.false_and,Bool.false_eq_true,if_false]at hy;rcases List.mem_cons.1 hf with rfl|hf
   ·exact hh
   ·exact(eC g l r false hf3 (fun y h=>hy y (List.mem_append_right _ h))).1 rfl f hf
  ·subst hs;rw[Fo.cK,List.foldl_cons];generalize dX n (k.cK g l) (dt g l n.text)=f at *
   cases hz:f.zero with
   |true=>
    rw[hz]at hy;simp only[Bool.not_true,Bool.and_false,Bool.false_eq_true,if_false]at hy;exact(eC g l r true hf3 (fun y h=>hy y (List.mem_append_right _ h))).2 rfl (iO p f) (by simp[iO,hp1,hz]) (by simp[iO,hp2,Fl.succ,hz])
   |false=>
    have hfl:f.fail=true:=by
     rcases hh with h|h
     ·exact h
     ·rw[hz]at h;cases h
    exact .inl (zT (by simp[iO,hp2,hfl]))
theorem Fb{r:Nat→Nat→Prop}{n:Nat}{B:Nat→Prop}(h:∀i,i<n→B i→∃j,j<n∧B j∧r i j){i:Nat}(hi:i<n)(hB:B i):∃j,j<n∧kC r j j:=by
 refine Classical.byContradiction fun hno=>?_;have key:∀k:Nat,∃l:List Nat,l.length=k+1∧(∀x∈l,x<n∧B x)∧l.Pairwise (fun a b=>kC r b a):=by
  intro k
  induction k with
  |zero=>exact⟨[i],rfl,by simp[hi,hB],by simp⟩
  |succ k ih=>
   obtain⟨l,h1,h2,h3⟩:=ih
   match l,h1 with
   |x::l,h1=>
    obtain⟨q1,q2⟩:=h2 x (by simp);obtain⟨j,j1,j2,j3⟩:=h x q1 q2;refine⟨j::x::l,by simpa using h1,fun y hy=>?_,?_⟩
    ·rcases List.mem_cons.1 hy with rfl|hy
     ·exact⟨j1,j2⟩
     ·exact h2 y hy
    ·rw[List.pairwise_cons];refine⟨fun y hy=>?_,h3⟩;rcases List.mem_cons.1 hy with rfl|hy
     ·exact .one j3
     ·exact .more ((List.pairwise_cons.1 h3).1 y hy) j3
 obtain⟨l,h1,h2,h3⟩:=key n;have hnd:l.Nodup:=h3.imp_of_mem fun {a b} ha _ hab hne=>hno ⟨a,(h2 a ha).1,by subst hne;exact hab⟩
 have:=List.Nodup.length_le_of_subset hnd (l₂:=List.range n) (fun x hx=>List.mem_range.2 (h2 x hx).1);rw[h1,List.length_range]at this;omega
end Go.aa
end
section
namespace Go.aa
open Go Go.Km
theorem Bi(l:List Fl)(ns:List Nod){i:Nat}(h:i<ns.length):fR l (ns.take (i+1))=fR l (ns.take i)+eK ns[i].kind (aS l ns[i].kids):=by
 rw[List.take_succ_eq_append_getElem h,fR,List.map_append,List.sum_append];simp[fR]
theorem Cr(l:List Fl):∀(ns:List Nod),(∀n∈ns,n.kids.length≤1000000)→0≤fR l ns∧fR l ns≤1000000*ns.length
 |[],_=>by simp[fR]
 |n::ns,h=>by
  have h1:=Cr l ns fun x hx=>h x (by simp[hx])
  have h2:=l9 n.kind (aS l n.kids);have h3:(aS l n.kids).length=n.kids.length:=by simp[aS]
  have h4:=h n (by simp);simp only[fR,List.map_cons,List.sum_cons,List.length_cons]at h1 ⊢;omega
theorem Gz{t:Tre}(hR:av t){k:Nat}(hk:k<t.nodes.length):t.nodes[k].kids.length≤t.nodes.length:=by
 have hr:=kM hR;have h1:=(hr.kids k _ (List.getElem?_eq_getElem hk)).length_le;rw[List.length_cons,hr.len]at h1;omega
end Go.aa
namespace Go.Km
open Go Go.Vc Go.Proofs Go.aa Go.Proofs.YtpbichnnflabdaaGreatDoor
set_option maxRecDepth 100000
set_option maxHeartbeats 0
instance(k a b c d:Int)(tx:ByteArray)(lo hi:Int)(ks:List Int)(l:List Fl):C 45 [.ag (iH k a b c d tx lo hi (ks.map ikF)),iE l] (inF (eK k (aS l ks))) true (ks.length≤1000000∧∀x∈ks,0≤x∧x<l.length):=⟨fun⟨hkl,hk⟩=>by
 refine kf rfl rfl ?_;repeat' first|exact k9|refine k2 ?_|apply kA|apply kI;intro hc|refine k8 ?_|apply kL;intro hl
 apply kCt [1,2,5,10,11,12] [];conv=>whnf
 obtain⟨R,hR⟩:=exEq (eK k (aS l ks));rw[←hR];refine Lp.ind (fun x:Nat×Int=>ks.length-x.1) (fun x=>x.1≤ks.length∧(0≤x.2∧x.2≤x.1)∧R=x.2+eK k (aS l (ks.drop x.1))) (fun x=>[(12,InD x.1),(5,InD x.2)]) (fun _=>[]) (fun _=>_) (0,0) ⟨Nat.zero_le _,by dsimp only;omega,by rw[hR];simp⟩ rfl rfl rfl ?_
 rintro G ⟨i,z⟩ ih ⟨hi,hz,hT⟩
 dsimp only at hi hz hT ih ⊢
 by_cases hx:i<ks.length
 ·have hyl:=hk _ (List.getElem_mem hx);have hyn:ks[i].toNat<l.length:=by omega
  have hll:(aS l (ks.drop (i+1))).length=ks.length-(i+1):=by simp[aS]
  rw[List.drop_eq_getElem_cons hx,show aS l (ks[i]::ks.drop (i+1))=l.getD ks[i].toNat .bot::aS l (ks.drop (i+1))from rfl,List.getD_eq_getElem?_getD,List.getElem?_eq_getElem hyn,Option.getD_some,eK,hll]at hT;have hks:k=5∨k=4∨(k≠5∧k≠4):=by omega
  rcases hks with rfl|rfl|⟨h5,h4⟩
  all_goals
   repeat' first|exact k9|refine k2 ?_|apply kA|apply kI;intro hc|refine k8 ?_|apply kL;intro hl
   all_goals first
    |(refine aq.n ?_ rfl;simp_all [Fl.succ];omega)
    |((apply kCt [1,2,5,10,11,12] [];conv=>whnf);refine ih (i+1,z) _ _ _ (by dsimp only;omega) ⟨by dsimp only;omega,by dsimp only;omega,?_⟩ rfl rfl rfl;clear ih;simp_all [Fl.succ];done)
    |((apply kCt [1,2,5,10,11,12] [];conv=>whnf);refine ih (i+1,z+1) _ _ _ (by dsimp only;omega) ⟨by dsimp only;omega,by dsimp only;omega,?_⟩ rfl rfl rfl;clear ih;simp_all [Fl.succ];omega)
 ·obtain rfl:i=ks.length:=by omega
  rw[List.drop_length]at hT
  repeat' first|exact k9|refine k2 ?_|apply kA|apply kI;intro hc|refine k8 ?_|apply kL;intro hl
  exact aq.n (by rw[hT];simp[aS,eK]) rfl⟩
instance(g:List Dfn):C 19 [cx g] (inF (kT g)) true (g.length≤1000∧∀d∈g,d.wf):=⟨fun hp=>by
 by_cases hc0:bb g=0
 ·have hm:=ba hc0;have ok:=cE hm;have hpm:(g.length≤1000∧∀d∈g,d.wf)∧cz g=0:=⟨hp,hm⟩
  have hn:=hp.1;obtain⟨R,hR⟩:=exEq (kT g);have hR1:R=(g.map fun d=>fR (aH g (bk g) d.body.nodes) d.body.nodes).sum:=by rw[hR,kT,if_pos hc0]
  rw[←hR];have hfal:(aP g).length=g.length:=by simp[aP]
  refine kf rfl rfl ?_;repeat' first|exact k9|refine k2 ?_|apply kA|apply kI;intro hc|refine k8 ?_|apply kL;intro hl
  apply kCt [3,5,21,22,23] [];conv=>whnf
  obtain⟨f,hf⟩:∃f:Dfn→Int,f=fun d=>fR (aH g (bk g) d.body.nodes) d.body.nodes:=⟨_,rfl⟩
  rw[←hf]at hR1;refine Lp.ind (fun x:Nat×Int=>g.length-x.1) (fun x=>x.1≤g.length∧(0≤x.2∧x.2≤20000000000*(x.1:Int))∧x.2=((g.take x.1).map f).sum) (fun x=>[(23,InD x.1),(5,InD x.2)]) (fun _=>[]) (fun _=>_) (0,0) ⟨Nat.zero_le _,by dsimp only;omega,rfl⟩ rfl rfl rfl ?_
  rintro G ⟨i,z⟩ ih ⟨hi,hz,hT⟩
  dsimp only at hi hz hT ih ⊢
  by_cases hx:i<g.length
  ·obtain⟨d,hd⟩:=exEq (g[i]);have hgi:∀h:i<g.length,g[i]'h=d:=fun _=>hd.symm
   have hdm:d∈g:=by rw[hd];exact List.getElem_mem hx
   have hdw:=(hp.2 _ hdm).body;have hdR:=ok.right hdm;have hds:=ok.small hdm;obtain⟨fl,hfl⟩:=exEq (aH g (bk g) d.body.nodes);have hfll:fl.length=d.body.nodes.length:=by rw[hfl,bG]
   have hfi2:∀h:i<(aP g).length,(aP g)[i]'h=fl:=fun h=>by
    simp only[aP,List.getElem_map,hfl,hd]
   have hfd:f d=fR fl d.body.nodes:=by rw[hf,hfl]
   have hkn:∀n∈d.body.nodes,n.kids.length≤1000000:=fun n hn=>by
    obtain⟨k,hk,rfl⟩:=List.getElem_of_mem hn;have:=Gz hdR hk;omega
   have hbb:=fun j=>Cr fl (d.body.nodes.take j) (fun n hn=>hkn n (List.mem_of_mem_take hn))
   repeat' first|exact k9|refine k2 ?_|apply kA|apply kI;intro hc|apply kL;intro hl|((simp only[hgi])<;>conv=>whnf)|refine k8 ?_|fail
   apply kCt [3,5,6,21,22,23,30,31,32] [];conv=>whnf
   refine Lp.ind (fun j:Nat=>d.body.nodes.length-j) (fun j=>j≤d.body.nodes.length) (fun j=>[(32,InD j),(5,InD (z+fR fl (d.body.nodes.take j)))]) (fun _=>[]) (fun _=>_) 0 (Nat.zero_le _) rfl (by rw[show fR fl (d.body.nodes.take 0)=0 from rfl,Int.add_zero];rfl) rfl ?_
   rintro G2 j ih2 hj
   by_cases hy:j<d.body.nodes.length
   ·have hst:=Bi fl d.body.nodes hy;have hb1:=hbb j;have hb2:=l9 d.body.nodes[j].kind (aS fl d.body.nodes[j].kids);have hkl:=hkn _ (List.getElem_mem hy);rw[List.length_take]at hb1;have hb3:(aS fl d.body.nodes[j].kids).length=d.body.nodes[j].kids.length:=by simp[aS]
    have hpk:d.body.nodes[j].kids.length≤1000000∧∀x∈d.body.nodes[j].kids,0≤x∧x<fl.length:=⟨hkl,fun x hx=>by have:=hdR.kok j _ (List.getElem?_eq_getElem hy) x hx;omega⟩
    repeat' first|exact k9|refine k2 ?_|apply kA|apply kI;intro hc|apply kL;intro hl|((simp only[hfi2])<;>conv=>whnf)|refine k8 ?_|fail
    apply kCt [3,5,6,21,22,23,30,31,32] [];conv=>whnf
    exact ih2 (j+1) _ _ _ (by omega) (by omega) rfl (by rw[hst,←Int.add_assoc];rfl) rfl
   ·obtain rfl:j=d.body.nodes.length:=by omega
    have hb1:=hbb d.body.nodes.length;rw[List.take_length]at hb1 ⊢;clear ih2;have hst:((g.take (i+1)).map f).sum=z+fR fl d.body.nodes:=by
     rw[List.take_succ_eq_append_getElem hx,List.map_append,List.sum_append,←hT,←hd,List.map_cons,List.map_nil,List.sum_cons,hfd,List.sum_nil,Int.add_zero]
    repeat' first|exact k9|refine k2 ?_|apply kA|apply kI;intro hc|refine k8 ?_|apply kL;intro hl
    apply kCt [3,5,21,22,23] [];conv=>whnf
    exact ih (i+1,z+fR fl d.body.nodes) _ _ _ (by dsimp only;omega) ⟨by dsimp only;omega,by dsimp only;omega,by rw[hst]⟩ rfl rfl rfl
  ·obtain rfl:i=g.length:=by omega
   rw[List.take_length]at hT
   repeat' first|exact k9|refine k2 ?_|apply kA|apply kI;intro hc|refine k8 ?_|apply kL;intro hl
   exact aq.n (by rw[hR1,hT]) rfl
 ·rw[show kT g=0 from by rw[kT,if_neg hc0]];refine kf rfl rfl ?_;repeat' first|exact k9|refine k2 ?_|apply kA|apply kI;intro hc|refine k8 ?_|apply kL;intro hl
  all_goals exact aq.n rfl rfl⟩
end Go.Km
end
section
namespace Go.aa
open Go Go.Km
set_option maxRecDepth 100000
def mZ:Tre:=qO ⟨1,⟨0,0,0,0⟩,⟨#[]⟩,0,0,[]⟩
def tw(l:List Tre):Tre:=(ofP dE l).1
def sqT(l:List Tre):Tre:=(ofP eH l).1
def Ai:Tre:=tw [BO 0 (-1) (cQ [120]),cQ [121],cQ [122]]
theorem v1:E3 Ai 1 0=(BO 0 (-1) (cQ [120]),true):=by decide +kernel
theorem v2:E3 (tw [mZ,cQ [121]]) 2 0=(cQ [121],true):=by decide +kernel
theorem v3:E3 (sqT [cQ [120],mZ,cQ [121]]) 3 1=(sqT [cQ [120],mZ],true):=by decide +kernel
theorem v4:aR [⟨⟨#[97]⟩,tw [cQ [120],cQ [121]]⟩]=[]:=by decide +kernel
theorem v5:kT [⟨⟨#[97]⟩,Ai⟩]=2:=by decide +kernel
end Go.aa
namespace Go.Km
open Go Go.Vc Go.Proofs Go.aa Go.Proofs.YtpbichnnflabdaaGreatDoor
set_option maxRecDepth 100000
set_option maxHeartbeats 0
theorem Aj (X Y Z N R F1 C1 S1 S2 C2:Tre) (G1 G2:List Dfn) (hYs:Dm Y Y=true)
  [i1:C 24 [stF ⟨#[120]⟩] (aE X) false True]
  [i2:C 24 [stF ⟨#[121]⟩] (aE Y) false True]
  [i3:C 24 [stF ⟨#[122]⟩] (aE Z) false True]
  [i4:C 38 [.ag [.vl (.int .u64 0),.vl (.int .u64 0),.vl (.int .u64 0),.vl (.int .u64 0)]] (aE N) false True]
  [i5:C 40 [inF 0,inF (-1),aE X] (aE R) false True]
  [i6:C 39 [.sl [dq R,dq Y,dq Z]] (aE F1) false True]
  [i7:C 39 [.sl [dq N,dq Y]] (aE C1) false True]
  [i8:C 42 [.sl [dq X,dq N,dq Y]] (aE S1) false True]
  [i9:C 42 [.sl [dq X,dq N]] (aE S2) false True]
  [i10:C 39 [.sl [dq X,dq Y]] (aE C2) false True]
  [i11:C 43 [aE C2] (cx G1) false True]
  [i12:C 43 [aE F1] (cx G2) false True]
  [i20:C 41 [aE F1,byF 1,inF 0] (.tp [aE R,boF true]) false True]
  [i21:C 41 [aE C1,byF 2,inF 0] (.tp [aE Y,boF true]) false True]
  [i22:C 41 [aE S1,byF 3,inF 1] (.tp [aE S2,boF true]) false True]
  [i23:C 22 [cx G1] (.sl []) false True]
  [i24:C 19 [cx G2] (inF 2) true True]
  [i27:C 29 [aE R,aE R] (boF true) true True]
  [i28:C 29 [aE Y,aE Y] (boF true) true True]
  [i29:C 29 [aE S2,aE S2] (boF true) true True]:Pure Tryz.prog X1.Γ 17 [] (boF true) true:=by
 have hX:=rm [] [42,39];refine fL hX rfl rfl ?_;repeat' first|exact k9|refine k2 ?_|apply kA|apply kI;intro hc|(apply Sn.go hX;conv=>whnf)|((first|(refine mj i6 rfl rfl trivial ?_)|(refine mj i7 rfl rfl trivial ?_)|(refine mj i8 rfl rfl trivial ?_)|(refine mj i9 rfl rfl trivial ?_)|(refine mj i10 rfl rfl trivial ?_))<;>conv=>whnf)|refine k8 ?_|apply kL;intro hl
 exact aq.b rfl rfl
theorem KD{l:List Tre}(h:∀t∈l,t.nodes.length≤1000):tot l≤1000*l.length:=by
 induction l with
 |nil=>simp[tot]
 |cons a l ih=>
  have h1:=h a (by simp);have h2:=ih fun t ht=>h t (by simp[ht])
  simp only[tot,List.map_cons,List.sum_cons,List.length_cons]at h2 ⊢;omega
theorem sH{n:Nod}(hn:n.wf){l:List Tre}(hl:∀t∈l,t.wf∧t.nodes.length≤1000)(hc:l.length≤10):(ofP n l).1.wf:=by
 have:=KD fun t ht=>(hl t ht).2
 exact As hn (fun t ht=>(hl t ht).1) (by unfold bY;omega)
theorem zQ{f:Nat}{n:Nod}{l:List Tre}[h:C f [kF l] (aE (ofP n l).1) false (l.length≤100000∧(∀t∈l,Sm t)∧tot l≤100000)](hl:∀t∈l,t.wf∧t.nodes.length≤1000)(hc:l.length≤10):C f [.sl (l.map dq)] (aE (ofP n l).1) false True:=⟨fun _=>h.h ⟨by omega,fun t ht=>⟨(hl t ht).1,by have:=(hl t ht).2;omega⟩,by have:=KD fun t ht=>(hl t ht).2;omega⟩⟩
theorem K5{p:Tre→Prop}{a b:Tre}(ha:p a)(hb:p b):∀t∈[a,b],p t:=fun t ht=>by
 simp only[List.mem_cons,List.not_mem_nil,or_false]at ht;rcases ht with rfl|rfl
 ·exact ha
 ·exact hb
theorem NP{p:Tre→Prop}{a b c:Tre}(ha:p a)(hb:p b)(hc:p c):∀t∈[a,b,c],p t:=fun t ht=>by
 simp only[List.mem_cons,List.not_mem_nil,or_false]at ht;rcases ht with rfl|rfl|rfl
 ·exact ha
 ·exact hb
 ·exact hc
theorem wM{t x:Tre}{w a:Int}{b:Bool}(ht:t.wf∧t.nodes.length≤1000)(hw:0≤w∧w≤255)(h:E3 t w a=(x,b)):C 41 [aE t,byF w,inF a] (.tp [aE x,boF b]) false True:=⟨fun _=>by
 have:=KC.h (P:=Tryz.prog) (Γ:=X1.Γ) (f:=41) (l:=[aE t,byF w,inF a]) ⟨ht.1,hw⟩;rw[h]at this;exact this⟩
theorem H7{t:Tre}(ht:t.wf):([⟨⟨#[97]⟩,t⟩]:List Dfn).length≤1000∧∀d∈([⟨⟨#[97]⟩,t⟩]:List Dfn),d.wf:=⟨by simp,fun d hd=>by
 simp only[List.mem_singleton]at hd;subst hd;exact⟨by show(1:Nat)≤_;omega,ht⟩⟩
instance:C 17 [] (boF true) true True:=⟨fun _=>by
 have hX:=txw [120] (by simp);have hY:=txw [121] (by simp);have hZ:=txw [122] (by simp);have hN:mZ.wf∧mZ.nodes.length≤1000:=⟨za ⟨by dsimp only;omega,by unfold Bts.wf;dsimp only;omega,Nat.zero_le _,by unfold Go.Sl.I64;dsimp only;omega,by unfold Go.Sl.I64;dsimp only;omega,⟨Nat.zero_le _,fun x hx=>by cases hx⟩⟩,by show 1≤_;omega⟩
 have hR:(BO 0 (-1) (cQ [120])).wf∧(BO 0 (-1) (cQ [120])).nodes.length≤1000:=⟨(L8 (by omega) (by omega) hX).1,by decide +kernel⟩
 let W:=fun t:Tre=>t.wf∧t.nodes.length≤1000
 have f1:=NP (p:=W) hR hY hZ;have c1:=K5 (p:=W) hN hY;have s1:=NP (p:=W) hX hN hY;have s2:=K5 (p:=W) hX hN;have c2:=K5 (p:=W) hX hY;have hF1:Ai.wf∧Ai.nodes.length≤1000:=⟨sH ja f1 (by simp),by decide +kernel⟩
 have hC1:(tw [mZ,cQ [121]]).wf∧(tw [mZ,cQ [121]]).nodes.length≤1000:=⟨sH ja c1 (by simp),by decide +kernel⟩
 have hS1:(sqT [cQ [120],mZ,cQ [121]]).wf∧(sqT [cQ [120],mZ,cQ [121]]).nodes.length≤1000:=⟨sH kD s1 (by simp),by decide +kernel⟩
 have hS2:(sqT [cQ [120],mZ]).wf∧(sqT [cQ [120],mZ]).nodes.length≤1000:=⟨sH kD s2 (by simp),by decide +kernel⟩
 have hC2:(tw [cQ [120],cQ [121]]).wf∧(tw [cQ [120],cQ [121]]).nodes.length≤1000:=⟨sH ja c2 (by simp),by decide +kernel⟩
 exact Aj (cQ [120]) (cQ [121]) (cQ [122]) mZ (BO 0 (-1) (cQ [120])) Ai (tw [mZ,cQ [121]]) (sqT [cQ [120],mZ,cQ [121]]) (sqT [cQ [120],mZ]) (tw [cQ [120],cQ [121]]) [⟨⟨#[97]⟩,tw [cQ [120],cQ [121]]⟩] [⟨⟨#[97]⟩,Ai⟩] (by decide +kernel)
  (i1:=⟨fun _=>KC.h trivial⟩) (i2:=⟨fun _=>KC.h trivial⟩) (i3:=⟨fun _=>KC.h trivial⟩) (i4:=⟨fun _=>KC.h trivial⟩)
  (i5:=⟨fun _=>KC.h ⟨⟨hX.1,by have:=hX.2;omega⟩,by omega,by omega⟩⟩)
  (i6:=zQ f1 (by simp)) (i7:=zQ c1 (by simp)) (i8:=zQ s1 (by simp)) (i9:=zQ s2 (by simp)) (i10:=zQ c2 (by simp))
  (i11:=⟨fun _=>KC.h trivial⟩) (i12:=⟨fun _=>KC.h trivial⟩)
  (i20:=wM hF1 (by omega) v1) (i21:=wM hC1 (by omega) v2) (i22:=wM hS1 (by omega) v3)
  (i23:=⟨fun _=>by
   have:=KC.h (P:=Tryz.prog) (Γ:=X1.Γ) (f:=22) (l:=[cx [⟨⟨#[97]⟩,tw [cQ [120],cQ [121]]⟩]]) (H7 hC2.1);rw[v4]at this;exact this⟩)
  (i24:=⟨fun _=>by
   have:=KC.h (P:=Tryz.prog) (Γ:=X1.Γ) (f:=19) (l:=[cx [⟨⟨#[97]⟩,Ai⟩]]) (H7 hF1.1);rw[v5]at this;exact this⟩)
  (i27:=BG hR (by decide +kernel)) (i28:=BG hY (by decide +kernel)) (i29:=BG hS2 (by decide +kernel))⟩
end Go.Km
end
section
namespace Go.aa
open Go Go.Km
theorem sw{g:List Dfn}{s:Sto}(h:s∈aR g):s.p.length≤2000:=by
 unfold aR at h
 split at h
 ·rename_i hc;obtain⟨x,hx,h⟩:=List.mem_flatMap.1 h;obtain⟨_,_,e,_⟩:=gL.1 h;rw[e];exact(pz (ba hc) hx).2
 ·cases h
theorem uS{g:List Dfn}{s:Sto}(h:s∈aR g):0≤s.way∧s.way≤255:=by
 unfold aR at h
 split at h
 ·obtain⟨x,hx,h⟩:=List.mem_flatMap.1 h;obtain⟨_,_,_,h1,h2,_⟩:=gL.1 h;omega
 ·cases h
end Go.aa
namespace Go.Km
open Go Go.Vc Go.Proofs Go.aa Go.Proofs.YtpbichnnflabdaaGreatDoor
set_option maxRecDepth 100000
set_option maxHeartbeats 0
set_option maxRecDepth 100000
set_option maxHeartbeats 0
end Go.Km
end
section
namespace Go.aa
open Go Go.Km
theorem vB{g:List Dfn}{k:Nat}(h:k<g.length)(hm:cz g=0):w6 g k=mc g g[k].body:=by
 unfold w6;rw[if_neg (by omega),Int.toNat_natCast,List.getD_eq_getElem?_getD,List.getElem?_eq_getElem h];rfl
theorem uI{g:List Dfn}(hc:bb g=0){s:Sto}(h:s∈aR g) :
  (aY g s.pass s.way s.r s.p s.at_).2=0∧b8 (aY g s.pass s.way s.r s.p s.at_).1<b8 g∧
  (aY g s.pass s.way s.r s.p s.at_).1.length=g.length∧∀(k:Nat),k<g.length→∀j∈w6 (aY g s.pass s.way s.r s.p s.at_).1 k,j∈w6 g k:=by
 have h0:=(uF hc).1 h;obtain⟨h1,h2,q,H⟩:=tO hc h0;have hm:=ba hc;have hm':=ba h1;refine⟨h0,h2,H.len,fun k hk j hj=>?_⟩;have hk2:=hk;rw[←H.len]at hk2;rw[vB hk2 hm']at hj;rw[vB hk hm];exact H.calls hm hk hk2 ((cE hm').right (List.getElem_mem hk2)) hj
end Go.aa
namespace Go.Km
open Go Go.Vc Go.Proofs Go.aa Go.Proofs.YtpbichnnflabdaaGreatDoor
set_option maxRecDepth 100000
set_option maxHeartbeats 0
end Go.Km
end
section
namespace Go.aa
open Go Go.Km
def Sto.zero:Sto:=⟨0,0,0,[],0⟩
def gK(l:List Sto):Sto×Bool:=match l with
 |[]=>(.zero,false)
 |s::_=>(s,true)
theorem ny{l:List Sto}{s:Sto}(h:[s] <+: l):gK l=(s,true):=by
 obtain⟨t,rfl⟩:=h;rfl
theorem iC{α β:Type}(f:α→List β){l:List α}{x:Nat}(hx:x<l.length):(l.take x).flatMap f++f l[x] <+: l.flatMap f:=by
 refine⟨(l.drop (x+1)).flatMap f,?_⟩;conv=>rhs;rw[←List.take_append_drop x l,List.drop_eq_getElem_cons hx]
 rw[List.flatMap_append,List.flatMap_cons,List.append_assoc]
theorem pR{β:Type}(f:Nat→List β){k n:Nat}(hk:k<n):(List.range k).flatMap f++f k <+: (List.range n).flatMap f:=by
 have:=iC f (l:=List.range n) (x:=k) (by simpa using hk);rw[List.take_range,Nat.min_eq_left (Nat.le_of_lt hk),List.getElem_range]at this;exact this
theorem mY(g:List Dfn)(x:Int×List Int)(k:Nat){a b:Nat}(h:a≤b):dc g x k a <+: dc g x k b:=by
 induction h with
 |refl=>exact List.prefix_rfl
 |step _ ih=>rw[dG];exact ih.trans (List.prefix_append _ _)
theorem mB{α:Type}{a b c:List α}(ha:a=[])(h:b <+: c){d:List α}(hd:a++c <+: d):b <+: d:=by
 subst ha;exact h.trans hd
end Go.aa
namespace Go.Km
open Go Go.Vc Go.Proofs Go.aa Go.Proofs.YtpbichnnflabdaaGreatDoor
set_option maxRecDepth 100000
set_option maxHeartbeats 0
instance(g:List Dfn):C 20 [cx g] (.tp [.ag (A6 (gK (aR g)).1),boF (gK (aR g)).2]) false (g.length≤1000∧∀d∈g,d.wf):=⟨fun⟨hn,hw⟩=>by
 have hp:g.length≤1000∧∀d∈g,d.wf:=⟨hn,hw⟩
 by_cases hc0:bb g=0
 ·have ok:=cE (ba hc0);have hm:=ba hc0;have hpm:(g.length≤1000∧∀d∈g,d.wf)∧cz g=0:=⟨hp,hm⟩
  have hall:g.length≤1000∧(∀d∈g,d.wf)∧(cz g=0→∀d∈g,av d.body∧d.body.nodes.length≤2000):=⟨hn,hw,fun _ d hd=>⟨ok.right hd,by have:=ok.small hd;omega⟩⟩
  have hsm:∀d∈g,d.wf∧d.body.nodes.length≤20000:=fun d hd=>⟨hw d hd,by have:=ok.small hd;omega⟩
  rw[show aR g=(mG g).flatMap (de g)from by rw[aR,if_pos hc0]];obtain⟨al,hal⟩:=exEq (mG g);have hAt:∀y∈al,∃q,AtD g y q:=fun y hy=>Ld hm (pz hm (by rw[←hal];exact hy)).1
  have hll:al.length≤2000000:=by
   rw[hal,qL g hm];exact Nat.le_trans (mA g.length (Nat.le_refl _) fun d hd=>Nat.le_trans (o7 (ok.right hd)) (by have:=ok.small hd;omega)) (by omega)
  refine kf rfl rfl ?_;repeat' first|exact k9|refine k2 ?_|apply kA|apply kI;intro hc|refine k8 ?_|apply kL;intro hl
  apply kCt [0,1,3,5,25,26,27] [2,3];conv=>whnf
  rw[←hal];refine Lp.ind (fun x:Nat=>al.length-x) (fun x=>x≤al.length∧(al.take x).flatMap (de g)=[]) (fun x=>[(27,InD x)]) (fun _=>[]) (fun _=>_) 0 ⟨Nat.zero_le _,rfl⟩ rfl rfl rfl ?_
  rintro G x ih ⟨hx,hx0⟩
  by_cases hxl:x<al.length
  ·obtain⟨q,hq⟩:=hAt _ (List.getElem_mem hxl);obtain⟨P,hP⟩:=exEq (al[x].2);have hxe:al[x]=((q:Int),P):=by rw[hP,←hq.r]
   have hxi:∀h:x<al.length,al[x]'h=((q:Int),P):=fun _=>hxe
   have hmem:((q:Int),P)∈mG g:=by rw[←hxe,←hal];exact List.getElem_mem hxl
   obtain⟨hpf,hpn⟩:=pz hm hmem;dsimp only at hpf hpn;rw[hxe]at hq;have hql:=hq.lt;obtain⟨d,hd⟩:=exEq (g[q]);have hgi:∀h:((q:Nat):Int).toNat<g.length,g[((q:Nat):Int).toNat]'h=d:=fun _=>hd.symm
   have hbd:eE g (q:Int)=d.body:=by rw[gW hql,hd]
   have hnum:gy g (q:Int) P=gm d.body.nodes d.body.root P:=by rw[gy,hbd]
   have hdm:d∈g:=by rw[hd];exact List.getElem_mem hql
   have hdw:=(hw _ hdm).body;have hdR:=ok.right hdm;have hpn1:d.body.wf∧av d.body∧P.length≤1000000:=⟨hdw,hdR,by omega⟩
   repeat' first|exact k9|refine k2 ?_|apply kA|apply kI;intro hc|apply kL;intro hl|((simp only[hxi])<;>conv=>whnf)|((simp only[hgi])<;>conv=>whnf)|refine k8 ?_|fail
   obtain⟨N,hN⟩:=exEq (gm d.body.nodes d.body.root P);rw[←hN];obtain⟨nq,hnq⟩:∃nq:Nat,N.1=nq:=⟨N.1.toNat,by have:=hq.rng.1;rw[hnum,←hN]at this;omega⟩
   apply kCt [0,1,3,5,7,8,9,11,25,26,27] [2,3];conv=>whnf
   rw[hnq];have hnl:nq<d.body.nodes.length:=by have:=hq.rng.2;rw[hnum,hbd,←hN,hnq]at this;omega
   have hseat:fF g ((q:Int),P)=d.body.nodes[nq].kids.length:=by
    show(ae (eE g (q:Int)).nodes (gy g (q:Int) P).1).length=_
    rw[hbd,hnum,←hN,hnq,←aF (List.getElem?_eq_getElem hnl)]
   have hsl0:=qm hsm hq;rw[hseat]at hsl0;obtain⟨fl,hfl⟩:=exEq (aH g (bk g) d.body.nodes);have hfll:fl.length=d.body.nodes.length:=by rw[hfl,bG]
   have hfi:∀h:((q:Nat):Int).toNat<(aP g).length,(aP g)[((q:Nat):Int).toNat]'h=fl:=fun h=>by
    simp only[Int.toNat_natCast,aP,List.getElem_map,hfl,hd]
   have hfi2:∀h:q<(aP g).length,(aP g)[q]'h=fl:=fun h=>by
    simp only[aP,List.getElem_map,hfl,hd]
   have hfal:(aP g).length=g.length:=by simp[aP]
   have hokD:∀k a:Nat,Go.aa.okD k g (q:Int) P (a:Int)=(aV k d.body.nodes fl (nq:Int) (a:Int)&&(cA k g (q:Int) P (a:Int)).2):=fun k a=>by
    unfold Go.aa.okD;rw[hbd,hnum,←hN,hnq,List.getD_eq_getElem?_getD,List.getElem?_eq_getElem (by rw[hfal];exact hql),hfi];rfl
   have hhp:d.body.wf∧av d.body∧fl.length=d.body.nodes.length∧0≤(nq:Int)∧(nq:Int)<d.body.nodes.length:=⟨hdw,hdR,hfll,by omega,by omega⟩
   have hgp:∀d∈g,d.wf∧0<d.body.nodes.length∧d.body.nodes.length≤20000:=fun d hd=>⟨hw d hd,by have:=(ok.right hd).root;omega,by have:=ok.small hd;omega⟩
   have hmal:((q:Int),P)∈al:=by rw[←hxe];exact List.getElem_mem hxl
   have hplen:P.length≤1000000:=by omega
   refine Lp.ind (fun w:Nat=>4-w) (fun w=>(1≤w∧w≤4)∧(List.range w).flatMap (cC g ((q:Int),P))=[]) (fun w=>[(11,InD w)]) (fun _=>[]) (fun _=>_) 1 ⟨by omega,rfl⟩ rfl rfl rfl ?_
   rintro G2 w ih2 ⟨hw7,hw0⟩
   by_cases hwl:w<4
   ·have hwc:w=1∨w=2∨w=3:=by omega
    rcases hwc with rfl|rfl|rfl
    ·have hnext:(List.range (1+1)).flatMap (cC g ((q:Int),P))=(List.range 1).flatMap (cC g ((q:Int),P))++dc g ((q:Int),P) 1 d.body.nodes[nq].kids.length:=by
      rw[List.range_succ,List.flatMap_append,List.flatMap_singleton,←hseat];rfl
     repeat' first|exact k9|refine k2 ?_|apply kA|apply kI;intro hc|refine k8 ?_|apply kL;intro hl
     apply kCt [0,1,3,5,7,8,9,11,25,26,27,55,56] [2,3];conv=>whnf
     refine Lp.ind (fun a:Nat=>d.body.nodes[nq].kids.length-a) (fun a=>a≤d.body.nodes[nq].kids.length∧dc g ((q:Int),P) 1 a=[]) (fun a=>[(56,InD a)]) (fun _=>[]) (fun _=>_) 0 ⟨Nat.zero_le _,rfl⟩ rfl rfl rfl ?_
     rintro G3 a ih3 ⟨ha,ha0⟩
     by_cases hal3:a<d.body.nodes[nq].kids.length
     ·have hsucc:=dG g ((q:Int),P) 1 a;have hok:Go.aa.okD 1 g (q:Int) P (a:Int)=(aV 1 d.body.nodes fl (nq:Int) (a:Int)&&(cA 1 g (q:Int) P (a:Int)).2):=hokD 1 a;rw[hok]at hsucc;have hpp:gn g (q:Int) P (a:Int):=⟨⟨hn,hgp,by omega⟩,hpf,by omega,by rw[hq.kids,hseat];omega⟩
      cases hh:aV 1 d.body.nodes fl (nq:Int) (a:Int)with
      |true=>
       cases hpu:(cA 1 g (q:Int) P (a:Int)).2 with
       |true=>
        rw[hh,hpu,Bool.and_self,if_pos rfl]at hsucc;have hfst:gK (al.flatMap (de g))=(⟨2,((1:Nat):Int),(q:Int),P,(a:Int)⟩,true):=by
         refine ny ?_;rw[ha0,List.nil_append]at hsucc;have p1:=mY g ((q:Int),P) 1 (show a+1≤fF g ((q:Int),P)by rw[hseat];omega);rw[hsucc]at p1;have p2:=mB hw0 p1 (pR (cC g ((q:Int),P)) (show 1<4 by omega));have p3:=iC (de g) hxl;rw[hxe]at p3;exact mB hx0 p2 p3
        rw[hfst]
        repeat' first|exact k9|refine k2 ?_|apply kA|apply kI;intro hc|apply kL;intro hl|((simp only[hfi2])<;>conv=>whnf)|refine k8 ?_|fail
       |false=>
        rw[hh,hpu,Bool.and_false,if_neg (by decide),List.append_nil]at hsucc
        repeat' first|exact k9|refine k2 ?_|apply kA|apply kI;intro hc|apply kL;intro hl|((simp only[hfi2])<;>conv=>whnf)|refine k8 ?_|fail
        apply kCt [0,1,3,5,7,8,9,11,25,26,27,55,56] [2,3];conv=>whnf
        exact ih3 (a+1) _ _ _ (by omega) ⟨by omega,by rw[hsucc,ha0]⟩ rfl rfl rfl
      |false=>
       rw[hh,Bool.false_and,if_neg (by decide),List.append_nil]at hsucc
       repeat' first|exact k9|refine k2 ?_|apply kA|apply kI;intro hc|apply kL;intro hl|((simp only[hfi2])<;>conv=>whnf)|refine k8 ?_|fail
       apply kCt [0,1,3,5,7,8,9,11,25,26,27,55,56] [2,3];conv=>whnf
       exact ih3 (a+1) _ _ _ (by omega) ⟨by omega,by rw[hsucc,ha0]⟩ rfl rfl rfl
     ·obtain rfl:a=d.body.nodes[nq].kids.length:=by omega
      repeat' first|exact k9|refine k2 ?_|apply kA|apply kI;intro hc|refine k8 ?_|apply kL;intro hl
      apply kCt [0,1,3,5,7,8,9,11,25,26,27] [2,3];conv=>whnf
      exact ih2 (1+1) _ _ _ (by omega) ⟨by omega,by rw[hnext,hw0,ha0];rfl⟩ rfl rfl rfl
    ·have hnext:(List.range (2+1)).flatMap (cC g ((q:Int),P))=(List.range 2).flatMap (cC g ((q:Int),P))++dc g ((q:Int),P) 2 d.body.nodes[nq].kids.length:=by
      rw[List.range_succ,List.flatMap_append,List.flatMap_singleton,←hseat];rfl
     repeat' first|exact k9|refine k2 ?_|apply kA|apply kI;intro hc|refine k8 ?_|apply kL;intro hl
     apply kCt [0,1,3,5,7,8,9,11,25,26,27,55,56] [2,3];conv=>whnf
     refine Lp.ind (fun a:Nat=>d.body.nodes[nq].kids.length-a) (fun a=>a≤d.body.nodes[nq].kids.length∧dc g ((q:Int),P) 2 a=[]) (fun a=>[(56,InD a)]) (fun _=>[]) (fun _=>_) 0 ⟨Nat.zero_le _,rfl⟩ rfl rfl rfl ?_
     rintro G3 a ih3 ⟨ha,ha0⟩
     by_cases hal3:a<d.body.nodes[nq].kids.length
     ·have hsucc:=dG g ((q:Int),P) 2 a;have hok:Go.aa.okD 2 g (q:Int) P (a:Int)=(aV 2 d.body.nodes fl (nq:Int) (a:Int)&&(cA 2 g (q:Int) P (a:Int)).2):=hokD 2 a;rw[hok]at hsucc;have hpp:gn g (q:Int) P (a:Int):=⟨⟨hn,hgp,by omega⟩,hpf,by omega,by rw[hq.kids,hseat];omega⟩
      cases hh:aV 2 d.body.nodes fl (nq:Int) (a:Int)with
      |true=>
       cases hpu:(cA 2 g (q:Int) P (a:Int)).2 with
       |true=>
        rw[hh,hpu,Bool.and_self,if_pos rfl]at hsucc;have hfst:gK (al.flatMap (de g))=(⟨2,((2:Nat):Int),(q:Int),P,(a:Int)⟩,true):=by
         refine ny ?_;rw[ha0,List.nil_append]at hsucc;have p1:=mY g ((q:Int),P) 2 (show a+1≤fF g ((q:Int),P)by rw[hseat];omega);rw[hsucc]at p1;have p2:=mB hw0 p1 (pR (cC g ((q:Int),P)) (show 2<4 by omega));have p3:=iC (de g) hxl;rw[hxe]at p3;exact mB hx0 p2 p3
        rw[hfst]
        repeat' first|exact k9|refine k2 ?_|apply kA|apply kI;intro hc|apply kL;intro hl|((simp only[hfi2])<;>conv=>whnf)|refine k8 ?_|fail
       |false=>
        rw[hh,hpu,Bool.and_false,if_neg (by decide),List.append_nil]at hsucc
        repeat' first|exact k9|refine k2 ?_|apply kA|apply kI;intro hc|apply kL;intro hl|((simp only[hfi2])<;>conv=>whnf)|refine k8 ?_|fail
        apply kCt [0,1,3,5,7,8,9,11,25,26,27,55,56] [2,3];conv=>whnf
        exact ih3 (a+1) _ _ _ (by omega) ⟨by omega,by rw[hsucc,ha0]⟩ rfl rfl rfl
      |false=>
       rw[hh,Bool.false_and,if_neg (by decide),List.append_nil]at hsucc
       repeat' first|exact k9|refine k2 ?_|apply kA|apply kI;intro hc|apply kL;intro hl|((simp only[hfi2])<;>conv=>whnf)|refine k8 ?_|fail
       apply kCt [0,1,3,5,7,8,9,11,25,26,27,55,56] [2,3];conv=>whnf
       exact ih3 (a+1) _ _ _ (by omega) ⟨by omega,by rw[hsucc,ha0]⟩ rfl rfl rfl
     ·obtain rfl:a=d.body.nodes[nq].kids.length:=by omega
      repeat' first|exact k9|refine k2 ?_|apply kA|apply kI;intro hc|refine k8 ?_|apply kL;intro hl
      apply kCt [0,1,3,5,7,8,9,11,25,26,27] [2,3];conv=>whnf
      exact ih2 (2+1) _ _ _ (by omega) ⟨by omega,by rw[hnext,hw0,ha0];rfl⟩ rfl rfl rfl
    ·have hnext:(List.range (3+1)).flatMap (cC g ((q:Int),P))=(List.range 3).flatMap (cC g ((q:Int),P))++dc g ((q:Int),P) 3 d.body.nodes[nq].kids.length:=by
      rw[List.range_succ,List.flatMap_append,List.flatMap_singleton,←hseat];rfl
     repeat' first|exact k9|refine k2 ?_|apply kA|apply kI;intro hc|refine k8 ?_|apply kL;intro hl
     apply kCt [0,1,3,5,7,8,9,11,25,26,27,55,56] [2,3];conv=>whnf
     refine Lp.ind (fun a:Nat=>d.body.nodes[nq].kids.length-a) (fun a=>a≤d.body.nodes[nq].kids.length∧dc g ((q:Int),P) 3 a=[]) (fun a=>[(56,InD a)]) (fun _=>[]) (fun _=>_) 0 ⟨Nat.zero_le _,rfl⟩ rfl rfl rfl ?_
     rintro G3 a ih3 ⟨ha,ha0⟩
     by_cases hal3:a<d.body.nodes[nq].kids.length
     ·have hsucc:=dG g ((q:Int),P) 3 a;have hok:Go.aa.okD 3 g (q:Int) P (a:Int)=(aV 3 d.body.nodes fl (nq:Int) (a:Int)&&(cA 3 g (q:Int) P (a:Int)).2):=hokD 3 a;rw[hok]at hsucc;have hpp:gn g (q:Int) P (a:Int):=⟨⟨hn,hgp,by omega⟩,hpf,by omega,by rw[hq.kids,hseat];omega⟩
      cases hh:aV 3 d.body.nodes fl (nq:Int) (a:Int)with
      |true=>
       cases hpu:(cA 3 g (q:Int) P (a:Int)).2 with
       |true=>
        rw[hh,hpu,Bool.and_self,if_pos rfl]at hsucc;have hfst:gK (al.flatMap (de g))=(⟨2,((3:Nat):Int),(q:Int),P,(a:Int)⟩,true):=by
         refine ny ?_;rw[ha0,List.nil_append]at hsucc;have p1:=mY g ((q:Int),P) 3 (show a+1≤fF g ((q:Int),P)by rw[hseat];omega);rw[hsucc]at p1;have p2:=mB hw0 p1 (pR (cC g ((q:Int),P)) (show 3<4 by omega));have p3:=iC (de g) hxl;rw[hxe]at p3;exact mB hx0 p2 p3
        rw[hfst]
        repeat' first|exact k9|refine k2 ?_|apply kA|apply kI;intro hc|apply kL;intro hl|((simp only[hfi2])<;>conv=>whnf)|refine k8 ?_|fail
       |false=>
        rw[hh,hpu,Bool.and_false,if_neg (by decide),List.append_nil]at hsucc
        repeat' first|exact k9|refine k2 ?_|apply kA|apply kI;intro hc|apply kL;intro hl|((simp only[hfi2])<;>conv=>whnf)|refine k8 ?_|fail
        apply kCt [0,1,3,5,7,8,9,11,25,26,27,55,56] [2,3];conv=>whnf
        exact ih3 (a+1) _ _ _ (by omega) ⟨by omega,by rw[hsucc,ha0]⟩ rfl rfl rfl
      |false=>
       rw[hh,Bool.false_and,if_neg (by decide),List.append_nil]at hsucc
       repeat' first|exact k9|refine k2 ?_|apply kA|apply kI;intro hc|apply kL;intro hl|((simp only[hfi2])<;>conv=>whnf)|refine k8 ?_|fail
       apply kCt [0,1,3,5,7,8,9,11,25,26,27,55,56] [2,3];conv=>whnf
       exact ih3 (a+1) _ _ _ (by omega) ⟨by omega,by rw[hsucc,ha0]⟩ rfl rfl rfl
     ·obtain rfl:a=d.body.nodes[nq].kids.length:=by omega
      repeat' first|exact k9|refine k2 ?_|apply kA|apply kI;intro hc|refine k8 ?_|apply kL;intro hl
      apply kCt [0,1,3,5,7,8,9,11,25,26,27] [2,3];conv=>whnf
      exact ih2 (3+1) _ _ _ (by omega) ⟨by omega,by rw[hnext,hw0,ha0];rfl⟩ rfl rfl rfl
   ·obtain rfl:w=4:=by omega
    have htk:(al.take (x+1)).flatMap (de g)=(al.take x).flatMap (de g)++(List.range 4).flatMap (cC g ((q:Int),P)):=by
     rw[List.take_succ_eq_append_getElem hxl,List.flatMap_append,List.flatMap_singleton,sY,hxe]
    repeat' first|exact k9|refine k2 ?_|apply kA|apply kI;intro hc|refine k8 ?_|apply kL;intro hl
    apply kCt [0,1,3,5,25,26,27] [2,3];conv=>whnf
    exact ih (x+1) _ _ _ (by omega) ⟨by omega,by rw[htk,hx0,hw0];rfl⟩ rfl rfl rfl
  ·obtain rfl:x=al.length:=by omega
   rw[List.take_length]at *;rw[hx0]
   repeat' first|exact k9|refine k2 ?_|apply kA|apply kI;intro hc|refine k8 ?_|apply kL;intro hl
   exact aq.i rfl
 ·rw[show aR g=[]from by rw[aR,if_neg hc0]];refine kf rfl rfl ?_;repeat' first|exact k9|refine k2 ?_|apply kA|apply kI;intro hc|refine k8 ?_|apply kL;intro hl
  exact aq.i rfl⟩
end Go.Km
end
section
namespace Go.aa
open Go Go.Sl Go.Km
theorem lT(g:List Dfn)(l:List Fl):∀(F:Fo) (s:Bool),∀y∈F.eN g l s,y∈F.rns
 |.nil,s,y,h=>by cases h
 |.cons n k r,s,y,h=>by
  rw[Fo.eN,List.mem_append]at h;simp only[Fo.rns,List.mem_append];rcases h with h|h
  ·split at h
   ·rename_i h3;exact .inl (.inl (by rw[if_pos h3];exact h))
   ·split at h
    ·cases h
    ·exact .inl (.inr (lT g l k _ y h))
  ·split at h
   ·cases h
   ·exact .inr (lT g l r s y h)
theorem BA{g:List Dfn}(h:bb g=0){i:Nat}(hi:i<g.length):v9 g i=false:=by
 have hm:=ba h;unfold bb iG at h;rw[if_pos hm]at h
 split at h
 ·cases h
 ·rename_i h1;exact fV.1 h1 i (Nat.zero_le _) (by omega)
theorem DR{g:List Dfn}(h:bb g=0){i:Nat}(hi:i<g.length):((bk g).getD i .bot).kh:=by
 have hm:=ba h;have ok:=cE hm;refine Classical.byContradiction fun hb=>?_
 obtain⟨j,hj,hp⟩:=Fb (r:=fun a b=>b∈gB g a) (n:=g.length) (B:=fun i=>¬((bk g).getD i .bot).kh) (fun i hi hB=>by
  have hR:=ok.right (List.getElem_mem hi);have hfx:(bk g).getD i .bot=hd0 ((foT g[i].body).cK g (bk g)):=by
   conv=>lhs;rw[←vb]
   rw[iR,List.getElem?_eq_getElem hi];exact ET g _ hR
  have hfb:=qJ hR.right;refine Classical.byContradiction fun hno=>hB ?_
  rw[hfx];have hall:=(eC g (bk g) (foT g[i].body) false hfb.1.1 (fun y hy=>by
   obtain⟨n,hn,h3,rfl⟩:=(tT hR y).1 (lT g _ _ _ y hy);have hs:=ok.named _ (List.getElem_mem hi) n hn h3;obtain⟨j,hj⟩:=Option.isSome_iff_exists.1 hs;have hjl:=(fv hj).1;refine Classical.byContradiction fun hbad=>hno ⟨j,hjl,?_,?_⟩
   ·unfold dt at hbad;rw[hj]at hbad;exact hbad
   ·unfold gB;rw[List.getElem?_eq_getElem hi];exact List.mem_filterMap.2 ⟨n.text,hy,hj⟩)).1 rfl
  have hl:=Fo.l7 g (bk g) (foT g[i].body);rw[hfb.2]at hl
  match hf:(foT g[i].body).cK g (bk g),hl with
  |[f],_=>exact hall f (by rw[hf];simp)) hi hb
 have:=BA h hj;rw[(vS hj).2 hp]at this
 cases this
theorem DH{g:List Dfn}(h:bb g=0){d:Dfn}(hd:d∈g){i:Nat}(hi:i<d.body.nodes.length):((aH g (bk g) d.body.nodes).getD i .bot).kh:=by
 have ok:=cE (ba h);have hR:=ok.right hd;rw[po g (bk g) hR.kok i hi];have hfit:(aA d.body.nodes d.body.nodes.length [(i:Int)]).fit=true:=kH hR _ _ (fun y hy=>by simp at hy;subst hy;omega) (Nat.le_refl _);have hall:=(eC g (bk g) (aA d.body.nodes d.body.nodes.length [(i:Int)]) false hfit (fun y hy=>by
  have hr:=lT g _ _ _ y hy;rw[lI]at hr;obtain⟨k,hk,h3,rfl⟩:=hr;have hkr:=eX hR.kok.ae _ _ (fun x hx=>by simp at hx;subst hx;omega) k hk;obtain⟨q,rfl⟩:∃q:Nat,k=q:=⟨k.toNat,by omega⟩
  have hq:q<d.body.nodes.length:=by omega
  have e:dat d.body.nodes (q:Int)={ d.body.nodes[q]with kids:=[] }:=by
   unfold dat;rw[Int.toNat_natCast,List.getD_eq_getElem?_getD,List.getElem?_eq_getElem hq];rfl
  rw[e]at h3 ⊢;have hs:=ok.named _ hd _ (List.getElem_mem hq) h3;obtain⟨j,hj⟩:=Option.isSome_iff_exists.1 hs;have hjl:=(fv hj).1;unfold dt;rw[show bx g ({ d.body.nodes[q]with kids:=[] }:Nod).text=some j from hj];exact DR h hjl)).1 rfl
 have hl:=Fo.l7 g (bk g) (aA d.body.nodes d.body.nodes.length [(i:Int)]);rw[show(aA d.body.nodes d.body.nodes.length [(i:Int)]).len=1 from by rw[bT hR.kok.ae (by omega) (by omega)];rfl]at hl
 match hf:(aA d.body.nodes d.body.nodes.length [(i:Int)]).cK g (bk g),hl with
 |[f],_=>exact hall f (by rw[hf];simp)
theorem B0:∀{l:List Int},(∀x∈l,0≤x)→0≤l.sum
 |[],_=>Int.le_refl _
 |a::l,h=>by
  have h1:=h a (by simp);have h2:=B0 (l:=l) fun y hy=>h y (by simp[hy])
  rw[List.sum_cons];omega
theorem s7:∀{l:List Int},(∀x∈l,0≤x)→l.sum=0→∀x∈l,x=0
 |[],_,_,x,hx=>by cases hx
 |a::l,h,hs,x,hx=>by
  have ha:=h a (by simp);have hl:0≤l.sum:=B0 fun y hy=>h y (by simp[hy])
  rw[List.sum_cons]at hs;rcases List.mem_cons.1 hx with rfl|hx
  ·omega
  ·exact s7 (fun y hy=>h y (by simp[hy])) (by omega) x hx
theorem Io(l:List Fl)(ns:List Nod):0≤fR l ns:=by
 refine B0 fun y hy=>?_;obtain⟨n,_,rfl⟩:=List.mem_map.1 hy;exact(l9 _ _).1
theorem AW{g:List Dfn}(hc:bb g=0)(h:kT g=0):aR g=[]:=by
 have hm:=ba hc;rw[kT,if_pos hc]at h;refine List.eq_nil_iff_forall_not_mem.2 fun s hs=>?_
 rw[aR,if_pos hc,List.mem_flatMap]at hs;obtain⟨x,hx,hs⟩:=hs;obtain⟨h1,h2,h3,h4,h5,h6⟩:=gL.1 hs;have hf:=(og hm x.1 x.2).1 hx;obtain⟨q,hq,e1,e2⟩:=iZ hf;have hR:=(cE hm).right (List.getElem_mem hq);rw[e2]at hf;obtain⟨k1,k2,k3,k4,k5⟩:=xw hR hf;have eb:eE g x.1=g[q].body:=by rw[eE,e1,Int.toNat_natCast,List.getD_eq_getElem?_getD,List.getElem?_eq_getElem hq,Option.getD_some]
 rw[Go.aa.okD,Bool.and_eq_true]at h6;have h7:=h6.1;have hfl:(aP g).getD x.1.toNat []=aH g (bk g) g[q].body.nodes:=by
  rw[e1,Int.toNat_natCast,List.getD_eq_getElem?_getD,aP,List.getElem?_map,List.getElem?_eq_getElem hq];rfl
 rw[hfl,eb,gy,eb]at h7;obtain⟨n,hn⟩:∃n:Nat,(gm g[q].body.nodes g[q].body.root x.2).1=n:=⟨(gm g[q].body.nodes g[q].body.root x.2).1.toNat,by omega⟩
 rw[hn]at h7 k3;have hnl:n<g[q].body.nodes.length:=by omega
 have z1:=s7 (fun y hy=>by obtain⟨d,_,rfl⟩:=List.mem_map.1 hy;exact Io _ _) h _ (List.mem_map.2 ⟨g[q],List.getElem_mem hq,rfl⟩);have z2:=s7 (fun y hy=>by obtain⟨n,_,rfl⟩:=List.mem_map.1 hy;exact(l9 _ _).1) z1 _ (List.mem_map.2 ⟨g[q].body.nodes[n],List.getElem_mem hnl,rfl⟩);have hch:ae g[q].body.nodes (n:Int)=g[q].body.nodes[n].kids:=(aF (List.getElem?_eq_getElem hnl)).symm;have hkd:(dat g[q].body.nodes (n:Int)).kind=g[q].body.nodes[n].kind:=by
  unfold dat;rw[Int.toNat_natCast,List.getD_eq_getElem?_getD,List.getElem?_eq_getElem hnl];rfl
 obtain⟨fl,hfle⟩:=exEq (aH g (bk g) g[q].body.nodes);have hgd:∀i<g[q].body.nodes.length,(fl.getD i .bot).kh:=fun i hi=>by rw[hfle];exact DH hc (List.getElem_mem hq) hi
 have hko:=hR.kok n g[q].body.nodes[n] (List.getElem?_eq_getElem hnl);rw[←hfle]at h7 z2;unfold aV at h7;rw[hch,hkd]at h7;simp only[Bool.and_eq_true,decide_eq_true_eq]at h7;obtain⟨⟨a1,a2,a3⟩,a4⟩:=h7;have hat:s.at_.toNat<g[q].body.nodes[n].kids.length:=by omega
 have hlk:(aS fl g[q].body.nodes[n].kids).length=g[q].body.nodes[n].kids.length:=by simp[aS]
 have hgk:(aS fl g[q].body.nodes[n].kids)[s.at_.toNat]'(by omega)=fl.getD ((g[q].body.nodes[n].kids.getD s.at_.toNat 0)).toNat .bot:=by
  rw[List.getD_eq_getElem?_getD (l:=g[q].body.nodes[n].kids),List.getElem?_eq_getElem hat];simp[aS]
 have hallg:∀f∈aS fl g[q].body.nodes[n].kids,f.kh:=fun f hf=>by
  obtain⟨k,hk,rfl⟩:=List.mem_map.1 hf;have:=hko k hk;exact hgd _ (by omega)
 rw[←hgk]at a4;have hw:s.way.toNat=1∨s.way.toNat=2∨s.way.toNat=3:=by omega
 rcases hw with hw|hw|hw
 ·rw[hw]at a1 a4;have a1:g[q].body.nodes[n].kind=5:=a1;simp only[kY,if_true,Bool.and_eq_true,Bool.not_eq_true',decide_eq_false_iff_not]at a4;have:=F2 (i:=s.at_.toNat) (l:=aS fl g[q].body.nodes[n].kids) (by omega) a4.1;rw[a1]at z2;omega
 ·rw[hw]at a1 a4;have a1:g[q].body.nodes[n].kind=5:=a1;have a4:((aS fl g[q].body.nodes[n].kids)[s.at_.toNat]'(by omega)).succ=false:=by simpa [kY]using a4
  have:=Ho (i:=s.at_.toNat) (l:=aS fl g[q].body.nodes[n].kids) (by omega) hallg a4;rw[a1]at z2;omega
 ·rw[hw]at a1 a4;have a1:g[q].body.nodes[n].kind=4:=a1;have a4:((aS fl g[q].body.nodes[n].kids)[s.at_.toNat]'(by omega)).succ=false∧¬s.at_=(g[q].body.nodes[n].kids.length:Int)-1:=by simpa [kY]using a4
  have:=FR (i:=s.at_.toNat) (l:=aS fl g[q].body.nodes[n].kids) (by omega) a4.1;rw[a1]at z2;omega
end Go.aa
end
section
namespace Go.aa
open Go Go.Km
theorem AH{l:List Sto}(h:(gK l).2=true):(gK l).1∈l:=by
 cases l with
 |nil=>cases h
 |cons s l=>simp[gK]
theorem vd{g:List Dfn}(hw:∀d∈g,d.wf):0≤b8 g:=(mb hw).1
end Go.aa
namespace Go.Km
open Go Go.Vc Go.Proofs Go.aa Go.Proofs.YtpbichnnflabdaaGreatDoor
set_option maxRecDepth 100000
set_option maxHeartbeats 0
theorem D8(g:List Dfn)(hn:g.length≤dJ)(hw:∀d∈g,d.wf) :
  Pure Tryz.prog X1.Γ 5 [cx g] (boF true) true:=by
 simp only[dJ]at hn;have hlo:g.length≤dJ∧∀d∈g,d.wf:=⟨by unfold dJ;omega,hw⟩
 cases hl:rq g with
 |true=>
  refine kf rfl rfl ?_;repeat' first|exact k9|refine k2 ?_|apply kA|apply kI;intro hc|refine k8 ?_|apply kL;intro hl
 |false=>
  obtain⟨h1,h2⟩:=I0 hl;have hwe:g.length≤1000∧∀d∈g,d.wf:=⟨by omega,hw⟩
  by_cases hc0:bb g=0
  ·obtain⟨K,hK⟩:∃K:Nat,b8 g=(K:Int):=⟨(b8 g).toNat,by have:=vd hw;omega⟩
   have hKb:(K:Int)≤2000000000000*1000:=by have:=(mb hw).2;rw[hK]at this;omega
   refine kf rfl rfl ?_;repeat' first|exact k9|refine k2 ?_|apply kA|apply kI;intro hc|refine k8 ?_|apply kL;intro hl
   apply kCt [1,3,4] [];conv=>whnf
   rw[hK];refine Lp.ind (fun x:Nat×List Dfn=>K+1-x.1) (fun x=>x.1≤K+1∧(x.2.length≤1000∧∀d∈x.2,d.wf)∧bb x.2=0∧b8 x.2+(x.1:Int)≤(K:Int)) (fun x=>[(4,InD x.1)]) (fun x=>[(0,.va 0 24 [.fr (.sl (x.2.map rD))])]) (fun _=>_) (0,g) ⟨by dsimp only;omega,hwe,hc0,by dsimp only;omega⟩ rfl rfl rfl ?_
   rintro G ⟨i,q⟩ ih ⟨hi,hq,hcq,hnq⟩
   dsimp only at hi hq hcq hnq ih ⊢;have hnn:=vd hq.2;have hiK:i≤K:=by omega
   cases hfs:(gK (aR q)).2 with
   |false=>
    repeat' first|exact k9|refine k2 ?_|apply kA|apply kI;intro hc|refine k8 ?_|apply kL;intro hl
   |true=>
    have hm:=AH hfs;have hid:kT q≠0:=fun h=>by rw[AW hcq h]at hm;cases hm
    obtain⟨s,hs⟩:∃s,gK (aR q)=(s,true):=⟨_,Prod.ext rfl hfs⟩
    rw[hs]at hm;have hrg:=uS hm;have hpl:=sw hm;obtain⟨s1,s2,s3,s4⟩:=uI hcq hm;have hce:=qR q s.pass s.way s.r s.p s.at_ hcq;have hpre:q.length≤1000∧(∀d∈q,d.wf)∧s.p.length≤1000000∧0≤s.way∧s.way≤255:=⟨hq.1,hq.2,by dsimp only at hpl;omega,hrg.1,hrg.2⟩
    have hdw:=vX (pass:=s.pass) (way:=s.way) (r:=s.r) (at_:=s.at_) hq.1 hq.2 hpre.2.2.1;dsimp only at s1 s2;have hch:bb (aY q s.pass s.way s.r s.p s.at_).1=0:=by
     rcases hce with h|h
     ·exact h.2
     ·rw[h]at s1;cases s1
    repeat' first|exact k9|refine k2 ?_|apply kA|apply kI;intro hc|apply kL;intro hl|((simp only[hs])<;>conv=>whnf)|refine k8 ?_|fail
    ·apply kCt [1,3,4] [];conv=>whnf
     exact ih (i+1,(aY q s.pass s.way s.r s.p s.at_).1) _ _ _ (by dsimp only;omega) ⟨by dsimp only;omega,hdw,hch,by dsimp only;omega⟩ rfl rfl rfl
  ·have hid:kT g=0:=by rw[kT,if_neg hc0]
   refine kf rfl rfl ?_;repeat' first|exact k9|refine k2 ?_|apply kA|apply kI;intro hc|refine k8 ?_|apply kL;intro hl
   exact aq.b (by rw[hid];rfl) rfl
end Go.Km
end
section
namespace Go.Km
open Go Go.Sl Go.RowKit Go.Vc Go.aa
section
variable {H:Type}{enc:TypeId×Value→H}{P:Program}{w:World}
def fT(P:Program)(t:TypeId)(d:DataW H):Prop:=∀k∈d.weights P t,k≤reachBytes
theorem wj{e:TypeId}:∀{l:List (DataW H)},(∀k∈DataW.weightsAll P e l,k≤reachBytes)→∀d∈l,fT P e d
 |[],_,d,hd=>by cases hd
 |x::l,h,d,hd=>by
  simp only[DataW.weightsAll,List.mem_append]at h;rcases List.mem_cons.1 hd with rfl|hd
  ·exact fun k hk=>h k (.inl hk)
  ·exact wj (fun k hk=>h k (.inr hk)) d hd
theorem fu:∀{ts:List TypeId}{l:List (DataW H)},(∀k∈DataW.weightsEach P ts l,k≤reachBytes)→∀(i:Nat) t d,ts[i]?=some t→l[i]?=some d→fT P t d
 |[],_,_,i,t,d,ht,_=>by simp at ht
 |_::_,[],_,i,t,d,_,hd=>by simp at hd
 |t0::ts,x::l,h,0,t,d,ht,hd=>by
  simp only[DataW.weightsEach,List.mem_append]at h;simp at ht hd;subst ht;subst hd;exact fun k hk=>h k (.inl hk)
 |t0::ts,x::l,h,i+1,t,d,ht,hd=>by
  simp only[DataW.weightsEach,List.mem_append]at h;exact fu (fun k hk=>h k (.inr hk)) i t d (by simpa using ht) (by simpa using hd)
theorem lG:reachBytes=140737488351232:=by decide
theorem rT{n:Int}(h:(Lit.int .i64 n).wf=true):I64 n:=by
 simp only[Lit.wf,Bool.and_eq_true,decide_eq_true_eq]at h;exact h
theorem KW{n:Int}(h:(Lit.int .u8 n).wf=true):0≤n∧n≤255:=by
 simp only[Lit.wf,Bool.and_eq_true,decide_eq_true_eq]at h;exact h
theorem rU{n:Int}(h:(Lit.int .u64 n).wf=true):0≤n∧n<18446744073709551616:=by
 simp only[Lit.wf,Bool.and_eq_true,decide_eq_true_eq]at h;have h1:(0:Int)≤n:=h.1;have h2:n≤(18446744073709551615:Int):=h.2;omega
theorem wU {α:Type} [Inhabited α] {t e sz:Nat}{R:List Value→α→Prop}{F:α→Prop} (ht:P.underlying t=some (.slice e)) (hc:P.cellsOf e=sz) (hsz:0<sz)
  (hE:∀(n:Nat) cs (y:DataW H×List MemPlace),DataW.trod enc P w 0 (fun _=>true) true n e cs=some y→fT P e y.1→∃a,R cs a∧F a)
  {fuel:Nat}{cs:List Value}{x:DataW H×List MemPlace} (h:DataW.trod enc P w 0 (fun _=>true) true fuel t cs=some x) (hs:fT P t x.1) :
  ∃(xs:List α) (A:Option Addr) (c:Nat) (rows:List (List Value)),cs=[.slice A xs.length c]∧Arr sz (fun b=>b<w.heap.size) w A xs.length rows∧(rows.length=xs.length∧∀(i:Nat) a b,rows[i]?=some a→xs[i]?=some b→R a b)∧xs.length≤c∧xs.length*P.bytesOf e≤reachBytes∧∀a∈xs,F a:=by
 rcases DataW.trod_slice ht h with⟨rfl,rfl⟩|⟨a,len,cap,elems,rest,n,rfl,rfl,rfl,_,hlc,hcm,hel,hg,_,_⟩
 ·exact⟨[],none,0,[],rfl,Arr.nil,⟨rfl,fun i a b h=>by simp at h⟩,Nat.le_refl _,by simp,by simp⟩
 ·unfold fT at hs;simp only[DataW.weights,ht,List.mem_cons,List.mem_append,List.length_map]at hs;have hb:=hs _ (.inl rfl);have hse:=wj (P:=P) (e:=e) (fun k hk=>hs k (.inr (.inl hk)));have key:∀i:Nat,∃p:List Value×α,i<len→w.cells? 0 (a.add (i*sz)) sz=some p.1∧R p.1 p.2∧F p.2:=by
   intro i
   by_cases hi:i<len
   ·have h1:=hg i hi;rw[List.getElem?_eq_getElem (by omega),hc]at h1;obtain⟨ci,h2,h3⟩:=Option.bind_eq_some_iff.1 h1;obtain⟨ai,h4,h5⟩:=hE n ci _ h3 (hse _ (List.mem_map.2 ⟨elems[i],List.getElem_mem _,rfl⟩));exact⟨(ci,ai),fun _=>⟨h2,h4,h5⟩⟩
   ·exact⟨([],default),fun h=>absurd h hi⟩
  obtain⟨f,hf⟩:=Classical.axiomOfChoice key;have hlr:((List.range len).map fun i=>(f i).1).length=len:=by simp
  have hlx:((List.range len).map fun i=>(f i).2).length=len:=by simp
  have hgr:∀i,i<len→((List.range len).map fun i=>(f i).1)[i]?=some (f i).1:=fun i hi=>by simp[hi]
  have hgx:∀i,i<len→((List.range len).map fun i=>(f i).2)[i]?=some (f i).2:=fun i hi=>by simp[hi]
  have hrs:∀r∈(List.range len).map (fun i=>(f i).1),r.length=sz:=by
   intro r hr;obtain⟨i,hi,rfl⟩:=List.mem_map.1 hr;exact(World.cells?_some (hf i (List.mem_range.1 hi)).1).2.1
  refine⟨(List.range len).map fun i=>(f i).2,some a,cap,(List.range len).map fun i=>(f i).1,by rw[hlx],?_,⟨by rw[hlr,hlx],fun i x y hx hy=>?_⟩,by rw[hlx];exact hlc,?_,fun y hy=>?_⟩
  ·rw[hlx];refine⟨hlr,hrs,fun h0=>⟨a,rfl,?_,fun j v hj=>?_⟩⟩
   ·have:=World.cells?_block (hf 0 h0).1 hsz;simpa [pU]using this
   ·have hjl:j<len*sz:=by
     have:=(List.getElem?_eq_some_iff.1 hj).1
     rwa [length_flatten hrs,hlr]at this
    have hi:j/sz<len:=Nat.div_lt_of_lt_mul (by rw[Nat.mul_comm];exact hjl);have ho:j % sz<sz:=Nat.mod_lt _ hsz;have hdm:j/sz*sz+j % sz=j:=by rw[Nat.mul_comm];exact Nat.div_add_mod j sz
    have h1:=m7 hrs (hgr _ hi) ho;rw[hdm,hj]at h1;have h2:=(World.cells?_some (hf _ hi).1).2.2 _ ho;rw[Sl.add_add,hdm,←h1]at h2;exact h2
  ·have hi:i<len:=by have:=(List.getElem?_eq_some_iff.1 hx).1;simpa using this
   rw[hgr i hi]at hx;rw[hgx i hi]at hy
   injection hx with hx
   injection hy with hy
   subst hx;subst hy;exact(hf i hi).2.1
  ·rw[hlx];refine Nat.le_trans (Nat.mul_le_mul_right _ ?_) hb;omega
  ·obtain⟨i,hi,rfl⟩:=List.mem_map.1 hy;exact(hf i (List.mem_range.1 hi)).2.2
theorem bc{Z:Nat→Prop}{w:World}{x:F}{u:Value}{l:List F}{us:List Value}(h:F.rep Z w x u)(k:F.ah Z w l us):F.ah Z w (x::l) (u::us):=by
 unfold F.ah;exact⟨u,us,rfl,h,k⟩
theorem gJ{Z:Nat→Prop}{w:World}:F.ah Z w [] []:=by unfold F.ah;rfl
theorem eu{Z:Nat→Prop}{w:World}(v:Value):F.rep Z w (.vl v) v:=by unfold F.rep;rfl
theorem JV{Z:Nat→Prop}{w:World}{l:List F}{vs:List Value}(h:F.ah Z w l vs):F.rep Z w (.ag l) (.agg vs.toArray):=by unfold F.rep;exact⟨vs,rfl,h⟩
theorem Ce{Z:Nat→Prop}{w:World}{α:Type}{c:α→List F}:∀{xs:List α}{rows:List (List Value)},rows.length=xs.length→(∀(i:Nat) a b,rows[i]?=some a→xs[i]?=some b→F.ah Z w (c b) a)→F.aI Z w (xs.map c) rows
 |[],[],_,_=>by unfold F.aI;rfl
 |[],_::_,h,_=>by simp at h
 |_::_,[],h,_=>by simp at h
 |x::xs,r::rows,h,k=>by
  rw[List.map_cons];unfold F.aI;exact⟨r,rows,rfl,k 0 r x rfl rfl,Ce (by simpa using h) fun i a b ha hb=>k (i+1) a b (by simpa using ha) (by simpa using hb)⟩
theorem p7{Z:Nat→Prop}{w:World}{α:Type}{c:α→List F}{xs:List α}{A:Option Addr}{k sz:Nat}{rows:List (List Value)}(hk:xs.length≤k)(hA:Arr sz Z w A xs.length rows)(hR:rows.length=xs.length∧∀(i:Nat) a b,rows[i]?=some a→xs[i]?=some b→F.ah Z w (c b) a)(h1:∀x,(c x).all F.one=true):F.rep Z w (.sl (xs.map c)) (.slice A xs.length k):=by
 unfold F.rep;refine⟨A,k,rows,sz,by rw[List.length_map],by rw[List.length_map];exact hk,by rw[List.length_map];exact hA,fun r hr=>?_,Ce hR.1 hR.2⟩;obtain⟨i,hi,rfl⟩:=List.getElem_of_mem hr;exact F.fe (hR.2 i _ (xs[i]'(by rw[←hR.1];exact hi)) (List.getElem?_eq_getElem hi) (List.getElem?_eq_getElem _)) (h1 _)
instance:Inhabited Nod:=⟨.zero⟩
instance:Inhabited Dfn:=⟨⟨⟨#[]⟩,.zero⟩⟩
end
end Go.Km
namespace Go.Proofs.YtpbichnnflabdaaGreatDoor
open Go Go.Sl Go.RowKit Go.Vc Go.Km Go.aa
variable {H:Type}{enc:TypeId×Value→H}{w:World}
abbrev mI(w:World):Nat→Prop:=fun b=>b<w.heap.size
theorem Ly:Tryz.prog.cellsOf 3=1:=by kernel_rfl
theorem Ng:Tryz.prog.cellsOf 46=9:=by kernel_rfl
theorem NU:Tryz.prog.cellsOf 39=2:=by kernel_rfl
theorem Oz:Tryz.prog.cellsOf 44=4:=by kernel_rfl
theorem N8:Tryz.prog.cellsOf 42=1:=by kernel_rfl
theorem Ox:Tryz.prog.cellsOf 5=1:=by kernel_rfl
theorem Oi:Tryz.prog.cellsOf 9=1:=by kernel_rfl
theorem Ov:Tryz.prog.cellsOf 30=1:=by kernel_rfl
theorem On:Tryz.prog.cellsOf 37=1:=by kernel_rfl
theorem N7:Tryz.prog.bytesOf 3=8:=by kernel_rfl
theorem Oj:Tryz.prog.bytesOf 46=96:=by kernel_rfl
theorem MB:Tryz.prog.cellsOf 41=3:=by kernel_rfl
theorem Oo:Tryz.prog.cellsOf 22=1:=by kernel_rfl
theorem N4:Tryz.prog.cellsOf 24=1:=by kernel_rfl
theorem Oe:Tryz.prog.bytesOf 41=48:=by kernel_rfl
theorem Lm{fuel:Nat}{cs:List Value}{x:DataW H×List MemPlace}(h:DataW.trod enc Tryz.prog w 0 (fun _=>true) true fuel 30 cs=some x)(hs:fT Tryz.prog 30 x.1):∃xs:List Int,∃u,cs=[u]∧F.rep (mI w) w (isF xs) u∧HL xs:=by
 obtain⟨xs,A,c,rows,h1,h2,h3,h4,h5,h6⟩:=wU (R:=fun cs (a:Int)=>F.ah (mI w) w (ikF a) cs) (F:=fun a=>I64 a) Tryz.underlying30 Ly (by decide) (fun n cs y hy _=>by
  obtain⟨k,e1,e2,e3⟩:=DataW.trod_int Tryz.underlying3 hy;subst e1;exact⟨k,bc (eu _) gJ,rT e3⟩) h hs
 rw[N7]at h5;refine⟨xs,_,h1,p7 h4 h2 h3 (fun _=>rfl),?_,h6⟩;rw[lG]at h5;unfold dJ;omega
set_option maxRecDepth 100000 in
theorem LD{fuel:Nat}{cs:List Value}{x:DataW H×List MemPlace}(h:DataW.trod enc Tryz.prog w 0 (fun _=>true) true fuel 46 cs=some x)(hs:fT Tryz.prog 46 x.1):∃n:Nod,F.ah (mI w) w (a8 n) cs∧n.wf:=by
 obtain⟨xs,m,_,rfl,hl,hlen,hf⟩:=DataW.trod_struct Tryz.underlying46 h;have hl:=hl.trans Ng
 match cs,hl with
 |[c0,c1,c2,c3,c4,c5,c6,c7,c8],_=>
  match xs,hlen with
  |[y0,y1,y2,y3,y4,y5],_=>
   unfold fT at hs;simp only[DataW.weights,Tryz.underlying46]at hs;have hse:=fu hs;have f0:=hf 0 _ rfl;have f1:=hf 1 _ rfl;have f2:=hf 2 _ rfl;have f3:=hf 3 _ rfl;have f4:=hf 4 _ rfl;have f5:=hf 5 _ rfl;simp only[Ox,Oz,Oi,Ly,Ov,List.drop_succ_cons,List.drop_zero,List.take_succ_cons,List.take_zero,List.getElem?_cons_zero,List.getElem?_cons_succ]at f0 f1 f2 f3 f4 f5;obtain⟨k0,e0,_,w0⟩:=DataW.trod_int Tryz.underlying5 f0;obtain⟨zs,m1,_,_,_,hzl,hz⟩:=DataW.trod_array Tryz.underlying44 f1;obtain⟨s,e2,rfl',_⟩:=DataW.trod_string Tryz.underlying9 f2;obtain⟨k3,e3,_,w3⟩:=DataW.trod_int Tryz.underlying3 f3;obtain⟨k4,e4,_,w4⟩:=DataW.trod_int Tryz.underlying3 f4;obtain⟨ks,u5,e5,hr5,hw5⟩:=Lm f5 (hse 5 _ _ rfl rfl)
   match zs,hzl with
   |[z0,z1,z2,z3],_=>
    have g0:=hz 0 (by decide);have g1:=hz 1 (by decide);have g2:=hz 2 (by decide);have g3:=hz 3 (by decide);simp only[N8,Nat.zero_mul,Nat.one_mul,Nat.mul_one,List.drop_succ_cons,List.drop_zero,List.take_succ_cons,List.take_zero,List.getElem?_cons_zero,List.getElem?_cons_succ]at g0 g1 g2 g3;obtain⟨b0,q0,_,u0⟩:=DataW.trod_int Tryz.underlying42 g0;obtain⟨b1,q1,_,u1⟩:=DataW.trod_int Tryz.underlying42 g1;obtain⟨b2,q2,_,u2⟩:=DataW.trod_int Tryz.underlying42 g2;obtain⟨b3,q3,_,u3⟩:=DataW.trod_int Tryz.underlying42 g3;have hst:=hse 2 _ _ rfl rfl;have htx:s.size≤reachBytes:=by
     have e:y2.1=.lit (.string s.data.toList):=by rw[rfl']
     simp only[List.map_cons,List.getElem?_cons_zero,List.getElem?_cons_succ]at hst;rw[e]at hst;have:=hst s.data.toList.length (by simp[DataW.weights]);simpa using this
    obtain⟨rfl,_⟩:=List.cons.inj e0;obtain⟨rfl,_⟩:=List.cons.inj e2;obtain⟨rfl,_⟩:=List.cons.inj e3;obtain⟨rfl,_⟩:=List.cons.inj e4;obtain⟨rfl,_⟩:=List.cons.inj e5;obtain⟨rfl,_⟩:=List.cons.inj q0;obtain⟨rfl,_⟩:=List.cons.inj q1;obtain⟨rfl,_⟩:=List.cons.inj q2;obtain⟨rfl,_⟩:=List.cons.inj q3;refine⟨⟨k0,⟨b0,b1,b2,b3⟩,s,k3,k4,ks⟩,bc (eu _) (bc (eu _) (bc (eu _) (bc (eu _) (bc (eu _) (bc (eu _) (bc (eu _) (bc (eu _) (bc hr5 gJ)))))))),KW w0,⟨rU u0,rU u1,rU u2,rU u3⟩,?_,rT w3,rT w4,hw5⟩;show s.size≤140737488355328
    rw[lG]at htx;omega
theorem Jg{fuel:Nat}{cs:List Value}{x:DataW H×List MemPlace}(h:DataW.trod enc Tryz.prog w 0 (fun _=>true) true fuel 37 cs=some x)(hs:fT Tryz.prog 37 x.1):∃ns:List Nod,∃u,cs=[u]∧F.rep (mI w) w (.sl (ns.map a8)) u∧ns.length≤bY∧∀n∈ns,n.wf:=by
 obtain⟨ns,A,c,rows,h1,h2,h3,h4,h5,h6⟩:=wU (R:=fun cs (n:Nod)=>F.ah (mI w) w (a8 n) cs) (F:=Nod.wf) Tryz.underlying37 Ng (by decide) (fun n cs y hy hys=>LD hy hys) h hs;rw[Oj]at h5;refine⟨ns,_,h1,p7 h4 h2 h3 (fun _=>rfl),?_,h6⟩;rw[lG]at h5;unfold bY;omega
set_option maxRecDepth 100000 in
theorem My{fuel:Nat}{cs:List Value}{x:DataW H×List MemPlace}(h:DataW.trod enc Tryz.prog w 0 (fun _=>true) true fuel 39 cs=some x)(hs:fT Tryz.prog 39 x.1):∃t:Tre,F.ah (mI w) w (dq t) cs∧t.wf:=by
 obtain⟨xs,m,_,rfl,hl,hlen,hf⟩:=DataW.trod_struct Tryz.underlying39 h;have hl:=hl.trans NU
 match cs,hl with
 |[c0,c1],_=>
  match xs,hlen with
  |[y0,y1],_=>
   unfold fT at hs;simp only[DataW.weights,Tryz.underlying39]at hs;have hse:=fu hs;have f0:=hf 0 _ rfl;have f1:=hf 1 _ rfl;simp only[On,Ly,List.drop_succ_cons,List.drop_zero,List.take_succ_cons,List.take_zero,List.getElem?_cons_zero,List.getElem?_cons_succ]at f0 f1;obtain⟨ns,u0,e0,hr,hnl,hw⟩:=Jg f0 (hse 0 _ _ rfl rfl);obtain⟨k1,e1,_,w1⟩:=DataW.trod_int Tryz.underlying3 f1;obtain⟨rfl,_⟩:=List.cons.inj e0;obtain⟨rfl,_⟩:=List.cons.inj e1;exact⟨⟨ns,k1⟩,bc hr (bc (eu _) gJ),hnl,hw,rT w1⟩
set_option maxRecDepth 100000 in
theorem NS{fuel:Nat}{cs:List Value}{x:DataW H×List MemPlace}(h:DataW.trod enc Tryz.prog w 0 (fun _=>true) true fuel 41 cs=some x)(hs:fT Tryz.prog 41 x.1):∃d:Dfn,F.ah (mI w) w (rD d) cs∧d.wf:=by
 obtain⟨xs,m,_,rfl,hl,hlen,hf⟩:=DataW.trod_struct Tryz.underlying41 h;have hl:=hl.trans MB
 match cs,hl with
 |[c0,c1,c2],_=>
  match xs,hlen with
  |[y0,y1],_=>
   unfold fT at hs;simp only[DataW.weights,Tryz.underlying41]at hs;have hse:=fu hs;have f0:=hf 0 _ rfl;have f1:=hf 1 _ rfl;simp only[Oi,NU,List.drop_succ_cons,List.drop_zero,List.take_succ_cons,List.take_zero,List.getElem?_cons_zero,List.getElem?_cons_succ]at f0 f1;obtain⟨s,e0,rfl',_⟩:=DataW.trod_string Tryz.underlying9 f0;obtain⟨t,ht,hw⟩:=My f1 (hse 1 _ _ rfl rfl);have hst:=hse 0 _ _ rfl rfl;have htx:s.size≤reachBytes:=by
    have e:y0.1=.lit (.string s.data.toList):=by rw[rfl']
    simp only[List.map_cons,List.getElem?_cons_zero,List.getElem?_cons_succ]at hst;rw[e]at hst;have:=hst s.data.toList.length (by simp[DataW.weights]);simpa using this
   obtain⟨rfl,_⟩:=List.cons.inj e0;refine⟨⟨s,t⟩,bc (eu _) ht,?_,hw⟩;show s.size≤_
   rw[lG]at htx;omega
theorem Mf{fuel:Nat}{cs:List Value}{x:DataW H×List MemPlace}(h:DataW.trod enc Tryz.prog w 0 (fun _=>true) true fuel 22 cs=some x)(hs:fT Tryz.prog 22 x.1):∃l:List Dfn,∃u,cs=[u]∧F.rep (mI w) w (.sl (l.map rD)) u∧l.length≤dJ∧∀d∈l,d.wf:=by
 obtain⟨l,A,c,rows,h1,h2,h3,h4,h5,h6⟩:=wU (R:=fun cs (d:Dfn)=>F.ah (mI w) w (rD d) cs) (F:=Dfn.wf) Tryz.underlying22 MB (by decide) (fun n cs y hy hys=>NS hy hys) h hs;rw[Oe]at h5;refine⟨l,_,h1,p7 h4 h2 h3 (fun _=>rfl),?_,h6⟩;rw[lG]at h5;unfold dJ;omega
set_option maxRecDepth 100000 in
theorem E0{fuel:Nat}{cs:List Value}{x:DataW H×List MemPlace}(h:DataW.trod enc Tryz.prog w 0 (fun _=>true) true fuel 24 cs=some x)(hs:fT Tryz.prog 24 x.1):∃g:List Dfn,F.rep (mI w) w (cx g) (.agg cs.toArray)∧g.length≤dJ∧∀d∈g,d.wf:=by
 obtain⟨xs,m,_,rfl,hl,hlen,hf⟩:=DataW.trod_struct Tryz.underlying24 h;have hl:=hl.trans N4
 match cs,hl with
 |[c0],_=>
  match xs,hlen with
  |[y0],_=>
   unfold fT at hs;simp only[DataW.weights,Tryz.underlying24]at hs;have hse:=fu hs;have f0:=hf 0 _ rfl;simp only[Oo,List.drop_succ_cons,List.drop_zero,List.take_succ_cons,List.take_zero,List.getElem?_cons_zero,List.getElem?_cons_succ]at f0;obtain⟨l,u0,e0,hr,hnl,hw⟩:=Mf f0 (hse 0 _ _ rfl rfl);obtain⟨rfl,_⟩:=List.cons.inj e0;exact⟨l,JV (bc hr gJ),hnl,hw⟩
end Go.Proofs.YtpbichnnflabdaaGreatDoor
end
