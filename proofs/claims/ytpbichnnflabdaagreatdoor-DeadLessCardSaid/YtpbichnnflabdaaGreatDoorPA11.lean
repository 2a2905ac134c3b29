/- The card of DeadLess: whatever comes in, DeadLess answers true, and what came in reads as it did. -/
import Derived.Test.YtpbichnnflabdaaGreatDoorPA10
set_option linter.all false
section
namespace Go.Km
open Go Go.RowKit Go.Vc
open Go.Sl hiding lk
structure Fc where
 d:D
 h:List (Nat×B)
instance:ig Fc:=⟨fun r d h=>okR d=true∧∃m,bH m=true∧bc m d=some r.d∧cC m [] h m 0=some r.h⟩
structure Lg(d:D)(h:List (Nat×B))(r:Fc):Prop where
 h:d=r.d∧h=r.h
instance:mB Fc where
 fin r d h:=eQ (okR d) (mo h fun h=>iC (reach [] h 10000 (rq [d]++ghD h++iG h) []) fun m=>eQ (bH m) (match bc m d,cC m [] h m 0 with
   | some d',some h'=>D.fo d' fun d'=>mo h' fun h'=>Lg d' h' r
   | _,_=>False))
 ok r d h hf:=by
  cases hk:okR d with
  | false=>rw[hk] at hf;exact hf.elim
  | true=>
   rw[hk] at hf
   change (mo h fun h=>iC (reach [] h 10000 (rq [d]++ghD h++iG h) []) fun m=>eQ (bH m) (match bc m d,cC m [] h m 0 with
    | some d',some h'=>D.fo d' fun d'=>mo h' fun h'=>Lg d' h' r
    | _,_=>False)) at hf
   rw[iu,ft] at hf
   cases ho:bH (reach [] h 10000 (rq [d]++ghD h++iG h) []) with
   | false=>rw[ho] at hf;exact hf.elim
   | true=>
    rw[ho] at hf
    change (match bc _ d,cC _ [] h _ 0 with|some d',some h'=>D.fo d' fun d'=>mo h' fun h'=>Lg d' h' r|_,_=>False) at hf
    split at hf
    ·rename_i d' h' h1 h2;rw[D.ji,iu] at hf;exact⟨hk,_,ho,by rw[h1,hf.h.1],by rw[h2,hf.h.2]⟩
    ·exact hf.elim
theorem BK {P:Program} {X:Tx} (hX:iA P X) {f:FuncId} {fi:Fi} (hf:X.fi f=some fi) {η:Env} {l l0 x x0:List D} {m0 μ:Rn} {hb h0:List (Nat×B)} {d d':D} {ds':List D} {rd:List Nat} {e h'':List (Nat×B)}
  (ho:bH m0=true) (hbk:∀b x,lk hb b=some x→η b=some x∧b∈rd) (hs:vM η (l++x) (m0.map (·.1)) μ ds' rd e) (hm0:cC m0 [] hb m0 0=some h0) (hl:aO m0 l=some l0) (hxr:aO m0 x=some x0) (hxv:∀η' c O w,(∀b∈rd,η' b=η b)→Hp c O η' w→∃us,D.ah c x us) (hN:Nat.ble l0.length fi.N=true) (hd:bc μ d=some d') (he:cC μ [] e μ 0=some h'')
  (hrun:∀vs,Sn P X f (⟨d',h''++[(μ.length,.gh 0 vs ds')]⟩:Fc) ⟨⟨f,fi.N,j6 0 l0,[.code fi.body],[],none⟩,[],(m0.length,.gh 0 vs (l0++x0)) :: h0,m0.length+1⟩):cQ P X.Γ η f l d rd e:=by
 obtain⟨hcf,fn,hfn,hbd,hNn,hrs⟩:=hX.fi _ _ hf;refine⟨fun η' hη' W c O w vs hΓ hp hold hvs=>⟨hcf,fun cs=>?_⟩⟩;have hblk:∀b x,lk hb b=some x→η' b=some x:=fun b x hx=>(hη' b (hbk b x hx).2).trans (hbk b x hx).1
 have hp1:=Hp.ren hp ho hblk hm0;have hvs1:D.ah (rC m0 c) l0 vs:=bL hl hvs;obtain⟨us,hus⟩:=hxv η' c O w hη' hp;have hvx:=D.bn hvs hus;have hvx1:D.ah (rC m0 c) (l0++x0) (vs++us):=D.bn hvs1 (bL hxr hus);have hkeys:∀{h h':List (Nat×B)} {m:Rn},cC m [] h m 0=some h'→∀i x,lk h' i=some x→i<m.length:=by
  intro h h' m hm i x hx;obtain⟨_,b,y,k1,_⟩:=gP hm hx;rw[Nat.sub_zero] at k1;exact(List.getElem?_eq_some_iff.1 k1).1
 have hp2:Hp (rC m0 c) (rO m0 O) (lk ((m0.length,.gh 0 (vs++us) (l0++x0)) :: h0)) w:=by
  rw[bQ];refine⟨fun i x hx=>?_,fun i v y hy=>?_,hp1.apart,hp1.fz,hp1.lt⟩
  ·by_cases e:m0.length=i
   ·subst e;rw[a8] at hx
    cases hx;exact hvx1
   ·rw[aF e] at hx;exact hp1.pc i x hx
  ·obtain⟨x,hx,hv⟩:=hp1.bound i v y hy;have:m0.length≠i:=by
    have:=hkeys hm0 i x hx;omega
   exact⟨x,by rw[aF this];exact hx,hv⟩
 have hlen:=D.aS hvs1;have hs0:=jH (N:=fi.N) hvs1 hN;have hrun:=hrun (vs++us);unfold Sn at hrun;obtain⟨v,w',fr,d0,h0',c0,O0,q1,q2,q3,⟨qk,m,qo,qd,qh⟩,q7,q8,q9⟩:=eE.fn (fun q h ⟨e,_⟩=>by simp[okR] at e) <| hrun ⟨w,fun g=>∃i,rO m0 O i g,rC m0 c⟩ cs hΓ (rC m0 c) (rO m0 O) ((bF f none).atR ⟨vs.toArray++Array.replicate (fi.N - vs.toArray.size) undef,[]⟩ [.code fi.body]) [] w
  ⟨⟨_,_,none,rfl,hs0,⟨_,_,rfl,rfl,rfl⟩,rfl,rfl⟩,rfl,hp2,⟨rfl,rfl,rfl,Nat.le_refl _,fun _ _ _=>rfl,fun i g h=>.inl ⟨i,h⟩,fun g hg=>.inl hg,Ext.refl _ _⟩,rfl⟩
 have p3:=Hp.ren q8 qo (fun _ _ h=>h) qh;have hv3:=pb qd q7;have hW:∀g,(∃i,rO m0 O i g)→∃b∈m0.map (·.1),O b g:=fun g ⟨i,b,v,e1,e2⟩=>⟨b,List.mem_map.2 ⟨(b,v),List.mem_of_getElem? e1,rfl⟩,e2⟩
 refine⟨.returned v,w',fr,⟨v,rfl,pT hs hd he hη' hp hold hvx p3 ?_ hv3⟩,?_,q2,q3⟩
 ·exact⟨q9.os,q9.tape,q9.output,q9.size,fun g hg hn=>q9.cu g hg (fun h=>hn (hW g h)),fun i g ⟨b,v,_,h⟩=>(q9.own b g h).imp (hW g) id,fun g hg=>(q9.mm g hg).imp id (fun h=>h.imp (hW g) id),q9.le⟩
 ·rw[oS hfn hbd,hNn];exact q1
theorem Jx {P:Program} {X:Tx} (hX:iA P X) {f:FuncId} {fi:Fi} (hf:X.fi f=some fi) {e sz:Nat} {rows':List (List F)} {l:List F} (hN:Nat.ble l.length fi.N=true)
  (hrun:∀vs,Sn P X f (⟨.own 0 0,[(0,.ro 0 e sz rows'),(1,.gh 0 vs (l.map F.toD))]⟩:Fc) ⟨⟨f,fi.N,j6 0 (l.map F.toD),[.code fi.body],[],none⟩,[],[(0,.gh 0 vs (l.map F.toD))],1⟩)
  {η:Env} {b2:Nat} (h2:η b2=none) :
  cQ P X.Γ η f (l.map F.toD) (.own b2 (nv η b2)) [b2] [(b2,.ro (nv η b2) e sz rows')]:=by
 have hlk:∀{x:B} {i:Nat} {z:B},lk [(b2,x)] i=some z→i=b2∧z=x:=by
  intro x i z h;simp only[lk] at h
  cases e1:Nat.beq b2 i with
  | true=>rw[e1] at h;cases h;exact⟨(Nat.eq_of_beq_eq_true e1).symm,rfl⟩
  | false=>rw[e1] at h;cases h
 have l2:∀{x:B},lk [(b2,x)] b2=some x:=by intro x;simp[lk]
 refine BK hX hf (x:=[]) (x0:=[]) (l:=l.map F.toD) (l0:=l.map F.toD) (m0:=[]) (μ:=[(b2,nv η b2)]) (hb:=[]) (h0:=[]) (d':=.own 0 0) (ds':=l.map F.toD) (h'':=[(0,.ro 0 e sz rows')]) rfl ?_ ⟨rfl,?_,?_,?_,?_,?_⟩ ?_ (dL _ _) rfl (fun _ _ _ _ _ _=>⟨[],by simp[D.ah]⟩) ?_ ?_ ?_ (fun vs=>by rw[List.append_nil];exact hrun vs)
 ·intro b x h;cases h
 ·intro b hb;cases hb
 ·intro b x h;rw[(hlk h).1];exact List.mem_cons_self ..
 ·intro b x h;obtain⟨rfl,rfl⟩:=hlk h;exact⟨by simp,.inl ⟨0,rfl⟩⟩
 ·intro b x y h hy;obtain⟨rfl,rfl⟩:=hlk h;rw[h2] at hy
  cases hy
 ·intro i b v h
  match i,h with
  | 0,h=>cases h;exact .inl rfl
 ·rfl
 ·rw[List.length_map];exact hN
 ·simp only[bc,cb,Nat.beq_refl,cond_true]
 ·simp only[cC,l2,B.ver,Nat.beq_refl,cond_true,en]
end Go.Km
end
section
namespace Go.Km
open Go Go.Vc Go.Proofs Go.aa Go.Proofs.YtpbichnnflabdaaGreatDoor
set_option maxRecDepth 100000
set_option maxHeartbeats 0
theorem Ht{η:Env}{b:Nat}(hη:η b=none){t:Tre}(ht:t.wf)(hri:au t=true)(h0k:0<(aN t).length):cQ Tryz.prog X1.Γ η 80 ([aE t].map F.toD) (.own b (nv η b)) [b] [(b,.ro (nv η b) 39 2 ((aN t).map dm))]:=by
 refine Jx dP rfl rfl (fun vs_=>?_) hη;have hlen:=ht.len;simp only[bV] at hlen;have hwx:=vg ht;obtain⟨n,Fk,hF,hb,hf⟩:=fu (ao hri);have hsz:=eN (ao hri);have hk0:aN t=Fk.trees:=by rw[aN,if_pos hri,hF];rfl
 have hC:aI t=cg (.cons n Fk .nil):=by rw[kh hri,hF]
 have hsz':Fk.size+1=t.nodes.length:=by rw[←hsz,hF];simp[Fo.size]
 have hl:(aI t).nodes.length=Fk.size+1:=by rw[hC];show((Fo.cons n Fk .nil).ar 0).length=_;rw[Fo.bJ];rfl
 have hroot:(aI t).root=(Fk.size:Int):=by rw[hC];show(((Fk.size+1+0:Nat):Int) - 1)=_;omega
 have hnod:(aI t).nodes=Fk.ar 0++[{ n with kids:=Fk.ba 0 }]:=by rw[hC];show(Fo.cons n Fk .nil).ar 0=_;simp[Fo.ar]
 have hg:∀h:(aI t).root.toNat<(aI t).nodes.length,(aI t).nodes[(aI t).root.toNat]'h={ n with kids:=Fk.ba 0 }:=by
  intro h;simp only[hroot,Int.toNat_natCast,hnod];rw[List.getElem_append_right (by rw[Fo.bJ];omega)];simp
 have htl:(Fk.ba 0).length=Fk.len:=Fo.eH Fk 0;have hls:=Fo.sY Fk;have hround:∀(A:Fo) (m:Nod) (j r:Fo),A.app (.cons m j r)=Fk→A.len<Fk.len∧A.size+j.size+1≤Fk.size∧(∀h:A.len<(Fk.ba 0).length,(Fk.ba 0)[A.len]'h=((A.size+j.size:Nat):Int))∧
   ((aI t).nodes.take (A.size+j.size+1)).drop A.size=(Fo.cons m j .nil).ar A.size∧bl ((Fo.cons m j .nil).ar A.size) (-(A.size:Int))=(cg (.cons m j .nil)).nodes∧(cg (.cons m j .nil)).root=(j.size:Int)∧(A.app (.cons m j .nil)).app r=Fk∧(A.app (.cons m j .nil)).trees=A.trees++[cg (.cons m j .nil)]:=by
  intro A m j r hAB;have e0:Fk.size=A.size+(j.size+1+r.size):=by rw[←hAB,Fo.bY];rfl
  have e1:Fk.len=A.len+(r.len+1):=by rw[←hAB,Fo.dK];rfl
  refine⟨by omega,by omega,?_,?_,?_,?_,?_,?_⟩
  ·intro h;have hkk:(Fk.ba 0)[A.len]?=some ((A.size+j.size:Nat):Int):=by
    rw[←hAB,Fo.oX,List.getElem?_append_right (by rw[Fo.eH];omega),Fo.eH,Nat.sub_self,Nat.zero_add];rfl
   rw[List.getElem?_eq_getElem h] at hkk;exact Option.some.inj hkk
  ·have e2:(aI t).nodes=A.ar 0++((Fo.cons m j .nil).ar A.size++(r.ar (A.size+j.size+1)++[{ n with kids:=Fk.ba 0 }])):=by
    rw[hnod,←hAB,Fo.wy,Nat.zero_add];simp[Fo.ar]
   rw[e2,List.drop_take,List.drop_append_of_le_length (by rw[Fo.bJ];omega),List.drop_of_length_le (by rw[Fo.bJ];omega),List.nil_append,List.take_append_of_le_length (by rw[Fo.bJ];simp[Fo.size];omega),List.take_of_length_le (by rw[Fo.bJ];simp[Fo.size];omega)]
  ·show bl ((Fo.cons m j .nil).ar A.size) (-(A.size:Int))=(Fo.cons m j .nil).ar 0
   rw[show A.size=0+A.size by omega,←Fo.lz,Nat.zero_add];simp only[bl,List.map_map];conv=>rhs;rw[←List.map_id ((Fo.cons m j .nil).ar 0)]
   refine List.map_congr_left fun x _=>?_
   cases x;simp[Function.comp_def,Int.add_neg_cancel_right]
  ·show(((j.size+1+0:Nat):Int) - 1)=_
   omega
  ·rw[Fo.pM];exact hAB
  ·rw[Fo.qg];rfl
 have hrow:∀(A:Fo) (m:Nod) (j r:Fo),A.app (.cons m j r)=Fk→dm (cg (.cons m j .nil))=[F.sl ((bl (List.drop A.size (List.take (A.size+j.size+1) (aI t).nodes)) (0 - (A.size:Int))).map aX),inF (((A.size+j.size:Nat):Int) - A.size)]:=by
  intro A m j r hAB;obtain⟨f1,f2,f3,f4,f5,f6,f7,f8⟩:=hround A m j r hAB;rw[f4,Int.zero_sub,f5,show(((A.size+j.size:Nat):Int) - A.size)=j.size by omega,←f6]
 have hpre:∀(A:Fo) (m:Nod) (j r:Fo),A.app (.cons m j r)=Fk→(List.drop A.size (List.take (A.size+j.size+1) (aI t).nodes)).length≤1466015503701∧(∀n∈List.drop A.size (List.take (A.size+j.size+1) (aI t).nodes),n.wf)∧(∀n∈List.drop A.size (List.take (A.size+j.size+1) (aI t).nodes),∀k∈n.kids,-9223372036854775808≤k+(0 - (A.size:Int))∧k+(0 - (A.size:Int))≤9223372036854775807):=by
  intro A m j r hAB;obtain⟨f1,f2,f3,f4,f5,f6,f7,f8⟩:=hround A m j r hAB;have hsub:∀x∈List.drop A.size (List.take (A.size+j.size+1) (aI t).nodes),x∈(aI t).nodes:=fun x hx=>List.mem_of_mem_take (List.mem_of_mem_drop hx)
  have hR:=(qO t).trans hri;refine⟨by simp only[List.length_drop,List.length_take];omega,fun x hx=>hwx.nodes x (hsub x hx),fun x hx k hk=>?_⟩;obtain⟨i,hi,rfl⟩:=List.getElem_of_mem (hsub x hx);have:=(ao hR).kok i _ (List.getElem?_eq_getElem hi) k hk;omega
 rw[hk0] at h0k ⊢
 repeat' first|exact k9|refine k2 ?_|apply kA|apply kI;intro hc|apply kL;intro hl|((simp only[hg])<;>conv=>whnf)|refine k8 ?_|fail
 cases hFk:Fk with
 | nil=>
  rw[hFk] at h0k
  cases h0k
 | cons m j r=>
  obtain⟨f1,f2,f3,f4,f5,f6,f7,f8⟩:=hround .nil m j r hFk.symm;have g3:∀h:0<(Fk.ba 0).length,(Fk.ba 0)[0]'h=(j.size:Int):=fun h=>(f3 h).trans (by simp[Fo.size])
  have e3:((j.size:Int)+1).toNat=j.size+1:=by omega
  rw[←hFk];apply Stp.on
  repeat' first|exact k9|refine k2 ?_|apply kA|apply kI;intro hc|apply kL;intro hl|((simp only[g3])<;>conv=>whnf)|((simp only[e3])<;>conv=>whnf)|((simp only[←List.map_take,←List.map_drop])<;>conv=>whnf)|refine k8 ?_|fail
  ·have:=hpre .nil m j r hFk.symm;simp only[Fo.size,Nat.zero_add] at this;exact⟨this⟩
  have h0:=hrow .nil m j r hFk.symm;simp only[Fo.size,Nat.zero_add] at h0;apply kCt [1,3,4,19,20,21] [];conv=>whnf
  refine Lp.ind (fun x:Fo×Fo=>x.2.len) (fun x=>x.1.app x.2=Fk) (fun x=>[(21,InD x.1.len),(4,InD x.1.size)]) (fun x=>[(1,.ro 0 39 2 (x.1.trees.map dm))]) (fun _=>_) (.cons m j .nil,r) hFk.symm rfl rfl ?_ ?_
  ·rw[show(Fo.cons m j .nil).trees.map dm=[dm (cg (.cons m j .nil))] from rfl,h0];rfl
  rintro G ⟨A,B⟩ ih hAB
  dsimp only at hAB ih ⊢
  cases B with
  | nil=>
   have hA:A=Fk:=by rw[←hAB,Fo.xp]
   subst hA
   repeat' first|exact k9|refine k2 ?_|apply kA|apply kI;intro hc|refine k8 ?_|apply kL;intro hl
   exact⟨rfl,rfl⟩
  | cons m' j' r'=>
   obtain⟨f1,f2,f3,f4,f5,f6,f7,f8⟩:=hround A m' j' r' hAB;have e4:(((A.size+j'.size:Nat):Int)+1).toNat=A.size+j'.size+1:=by omega
   have hAl:A.trees.length=A.len:=Fo.iN A
   repeat' first|exact k9|refine k2 ?_|apply kA|apply kI;intro hc|apply kL;intro hl|((simp only[f3])<;>conv=>whnf)|((simp only[e4])<;>conv=>whnf)|((simp only[←List.map_take,←List.map_drop])<;>conv=>whnf)|refine k8 ?_|fail
   ·exact⟨hpre A m' j' r' hAB⟩
   apply kCt [1,3,4,19,20,21] [];conv=>whnf
   refine ih (A.app (.cons m' j' .nil),r') _ _ _ (by simp only[Fo.len];omega) f7 rfl ?_ ?_
   ·dsimp only;rw[Fo.dK,Fo.bY];rfl
   ·dsimp only;rw[f8,List.map_append,show List.map dm [cg (.cons m' j' .nil)]=[dm (cg (.cons m' j' .nil))] from rfl,hrow A m' j' r' hAB];rfl
end Go.Km
end
section
namespace Go.aa
open Go Go.Km
theorem Jr{l m:List Tre}(h:m.Sublist l):tot m≤tot l:=by
 induction h with
 | slnil=>exact Nat.le_refl _
 | cons a _ ih=>simp only[tot,List.map_cons,List.sum_cons] at ih ⊢;omega
 | cons_cons a _ ih=>simp only[tot,List.map_cons,List.sum_cons] at ih ⊢;omega
theorem DB(k:Nat)(l:List Tre)(at_:Int):(fM k l at_).Sublist l:=by
 unfold fM
 split
 ·exact List.eraseIdx_sublist _ _
 ·exact List.take_sublist _ _
theorem oC{k:Nat}{x:Tre}{at_:Int}(hx:x.wf)(hl:x.nodes.length≤20000):((fM k (aN x) at_).length≤1466015503701∧(∀t∈fM k (aN x) at_,t.wf)∧tot (fM k (aN x) at_)+1≤1466015503701)∧(eD k x at_).1.wf∧(eD k x at_).1.nodes.length≤100000:=by
 have hs:=DB k (aN x) at_;obtain⟨h1,h2⟩:=je x;have h3:=Jr hs;have h4:=hs.length_le;have hw:∀t∈fM k (aN x) at_,t.wf:=fun t ht=>He hx t (hs.subset ht)
 refine⟨⟨by omega,hw,by omega⟩,Js ?_ hw (by unfold bV;omega),Nat.le_trans (Gm _ _) (by omega)⟩;unfold r9
 split
 ·exact la
 ·exact iS
end Go.aa
namespace Go.Km
open Go Go.Vc Go.Proofs Go.aa Go.Proofs.YtpbichnnflabdaaGreatDoor
set_option maxRecDepth 100000
set_option maxHeartbeats 0
abbrev jS(g:List Dfn)(r:Int)(p:List Int)(at_:Int):Prop:=(g.length≤1000∧(∀d∈g,d.wf∧0<d.body.nodes.length∧d.body.nodes.length≤20000)∧p.length≤1000000)∧(aB g r p).2=true∧0≤at_∧at_<(aN (aB g r p).1).length
theorem I8{k:Nat}{g:List Dfn}{r:Int}{p:List Int}{at_:Int}(h:(eD k (aB g r p).1 at_).2=false∨(bu g r p (eD k (aB g r p).1 at_).1).2=false∨bT (bu g r p (eD k (aB g r p).1 at_).1).1≠0):cZ k g r p at_=([],false):=by rw[cZ,if_pos (.inr h)]
theorem xl{k:Nat}{g:List Dfn}{r:Int}{p:List Int}{at_:Int}(hf:(aB g r p).2=true){x:Tre×Bool}(hx:eD k (aB g r p).1 at_=x):cZ k g r p at_=if x.2=false∨(bu g r p x.1).2=false∨bT (bu g r p x.1).1≠0 then ([],false) else ((bu g r p x.1).1,true):=by
 subst hx
 by_cases h:(eD k (aB g r p).1 at_).2=false∨(bu g r p (eD k (aB g r p).1 at_).1).2=false∨bT (bu g r p (eD k (aB g r p).1 at_).1).1≠0
 ·rw[if_pos h,I8 h]
 ·rw[if_neg h,cZ,if_neg (by rw[hf];rintro(q|q);cases q;exact h q)]
instance(g:List Dfn)(r:Int)(p:List Int)(at_:Int):C 50 [b8 g,.ag [byF 5,.cl 91 [],.cl 92 []],.ag [inF r,isF p],inF at_] (.tp [b8 (cZ 1 g r p at_).1,boF (cZ 1 g r p at_).2]) false (jS g r p at_):=⟨fun ⟨⟨hn,hg,hp⟩,hf,h0,h1⟩=>by
 have hw:∀d∈g,d.wf:=fun d hd=>(hg d hd).1
 have hsm:∀d∈g,d.wf∧d.body.nodes.length≤20000:=fun d hd=>⟨(hg d hd).1,(hg d hd).2.2⟩
 obtain⟨hxw,hxl⟩:=iO (r:=r) (p:=p) hsm;have hpf:g.length≤1000∧(∀d∈g,d.wf)∧p.length≤1000000:=⟨hn,hw,hp⟩
 have hr:=xl (k:=1) (at_:=at_) hf rfl;have hnp:=oC (k:=1) (at_:=at_) hxw hxl;obtain⟨L,hL⟩:=exEq ((aN (aB g r p).1).take (at_+1).toNat);have hnd:eD 1 (aB g r p).1 at_=dQ dC L:=by rw[hL];rfl
 rw[show fM 1 (aN (aB g r p).1) at_=L from hL.symm,hnd] at hnp;rw[hnd] at hr;obtain⟨h2,h3,h4⟩:=hnp;have hkl:(aN (aB g r p).1).length≤1000000:=by have:=(je (aB g r p).1).2;omega
 have hpa:0≤at_∧at_<(aN (aB g r p).1).length∧(aN (aB g r p).1).length≤1000000:=⟨h0,h1,hkl⟩
 have hgp:∀d∈g,d.wf∧0<d.body.nodes.length∧d.body.nodes.length≤100000:=fun d hd=>⟨(hg d hd).1,(hg d hd).2.1,by have:=(hg d hd).2.2;omega⟩
 have hpw:g.length≤1000∧(∀d∈g,d.wf∧0<d.body.nodes.length∧d.body.nodes.length≤100000)∧p.length≤1000000∧(dQ dC L).1.wf∧(dQ dC L).1.nodes.length≤100000:=⟨hn,hgp,hp,h3,h4⟩
 have hpc:=mb (r:=r) hn hgp hp h3 h4;refine kf rfl rfl ?_;repeat' first|exact k9|refine k2 ?_|apply kA|apply kI;intro hc|apply kL;intro hl|(apply Sn.go hX;conv=>whnf)|((simp only[←hL])<;>conv=>whnf)|refine k8 ?_|fail
 ·refine aq.i ?_;rw[hr,if_neg (by rintro(q|q|q);exact bfF (by assumption) q;exact bfF (by assumption) q;exact q (by assumption))]
 ·refine aq.i ?_;rw[hr,if_pos (.inr (.inr (by assumption)))];rfl
 ·refine aq.i ?_;rw[hr,if_pos (.inr (.inl (by assumption)))];rfl
 ·refine aq.i ?_;rw[hr,if_pos (.inl (by assumption))];rfl⟩
instance(g:List Dfn)(r:Int)(p:List Int)(at_:Int):C 50 [b8 g,.ag [byF 4,.cl 95 [],.cl 92 []],.ag [inF r,isF p],inF at_] (.tp [b8 (cZ 3 g r p at_).1,boF (cZ 3 g r p at_).2]) false (jS g r p at_):=⟨fun ⟨⟨hn,hg,hp⟩,hf,h0,h1⟩=>by
 have hw:∀d∈g,d.wf:=fun d hd=>(hg d hd).1
 have hsm:∀d∈g,d.wf∧d.body.nodes.length≤20000:=fun d hd=>⟨(hg d hd).1,(hg d hd).2.2⟩
 obtain⟨hxw,hxl⟩:=iO (r:=r) (p:=p) hsm;have hpf:g.length≤1000∧(∀d∈g,d.wf)∧p.length≤1000000:=⟨hn,hw,hp⟩
 have hr:=xl (k:=3) (at_:=at_) hf rfl;have hnp:=oC (k:=3) (at_:=at_) hxw hxl;obtain⟨L,hL⟩:=exEq ((aN (aB g r p).1).take (at_+1).toNat);have hnd:eD 3 (aB g r p).1 at_=dQ eC L:=by rw[hL];rfl
 rw[show fM 3 (aN (aB g r p).1) at_=L from hL.symm,hnd] at hnp;rw[hnd] at hr;obtain⟨h2,h3,h4⟩:=hnp;have hkl:(aN (aB g r p).1).length≤1000000:=by have:=(je (aB g r p).1).2;omega
 have hpa:0≤at_∧at_<(aN (aB g r p).1).length∧(aN (aB g r p).1).length≤1000000:=⟨h0,h1,hkl⟩
 have hgp:∀d∈g,d.wf∧0<d.body.nodes.length∧d.body.nodes.length≤100000:=fun d hd=>⟨(hg d hd).1,(hg d hd).2.1,by have:=(hg d hd).2.2;omega⟩
 have hpw:g.length≤1000∧(∀d∈g,d.wf∧0<d.body.nodes.length∧d.body.nodes.length≤100000)∧p.length≤1000000∧(dQ eC L).1.wf∧(dQ eC L).1.nodes.length≤100000:=⟨hn,hgp,hp,h3,h4⟩
 have hpc:=mb (r:=r) hn hgp hp h3 h4;refine kf rfl rfl ?_;repeat' first|exact k9|refine k2 ?_|apply kA|apply kI;intro hc|apply kL;intro hl|(apply Sn.go hX;conv=>whnf)|((simp only[←hL])<;>conv=>whnf)|refine k8 ?_|fail
 ·refine aq.i ?_;rw[hr,if_neg (by rintro(q|q|q);exact bfF (by assumption) q;exact bfF (by assumption) q;exact q (by assumption))]
 ·refine aq.i ?_;rw[hr,if_pos (.inr (.inr (by assumption)))];rfl
 ·refine aq.i ?_;rw[hr,if_pos (.inr (.inl (by assumption)))];rfl
 ·refine aq.i ?_;rw[hr,if_pos (.inl (by assumption))];rfl⟩
theorem Ma{t:Nat}{η:Env}{x:Tre}{k:Kr Prop}(hη:η t=none)(ht:x.wf)(hri:au x=true)(h0k:0<(aN x).length)(hk:k (.own t (nv η t)) [t] [(t,.ro (nv η t) 39 2 ((aN x).map dm))]):de Tryz.prog X1.Γ t η 80 ([aE x].map F.toD) k:=de.i (Ht hη ht hri h0k) hk
instance(g:List Dfn)(r:Int)(p:List Int)(at_:Int):C 50 [b8 g,.ag [byF 5,.cl 93 [],.cl 94 []],.ag [inF r,isF p],inF at_] (.tp [b8 (cZ 2 g r p at_).1,boF (cZ 2 g r p at_).2]) false (jS g r p at_):=⟨fun ⟨⟨hn,hg,hp⟩,hf,h0,h1⟩=>by
 have hX:=qA [] [80,94];have hw:∀d∈g,d.wf:=fun d hd=>(hg d hd).1
 have hsm:∀d∈g,d.wf∧d.body.nodes.length≤20000:=fun d hd=>⟨(hg d hd).1,(hg d hd).2.2⟩
 obtain⟨hxw,hxl⟩:=iO (r:=r) (p:=p) hsm;have hpf:g.length≤1000∧(∀d∈g,d.wf)∧p.length≤1000000:=⟨hn,hw,hp⟩
 have hr:=xl (k:=2) (at_:=at_) hf rfl;have hnp:=oC (k:=2) (at_:=at_) hxw hxl;have hkl:(aN (aB g r p).1).length≤1000000:=by have:=(je (aB g r p).1).2;omega
 obtain⟨q,rfl⟩:∃q:Nat,at_=q:=⟨at_.toNat,by omega⟩
 have hq:q<(aN (aB g r p).1).length:=by omega
 obtain⟨L,hL⟩:=exEq ((aN (aB g r p).1).take q++(aN (aB g r p).1).drop (q+1));have hLd:fM 2 (aN (aB g r p).1) (q:Int)=L:=by rw[hL,fM,if_pos rfl,Int.toNat_natCast,List.eraseIdx_eq_take_drop_succ]
 have hnd:eD 2 (aB g r p).1 (q:Int)=dQ dC L:=by rw[←hLd];rfl
 rw[hLd,hnd] at hnp;rw[hnd] at hr;obtain⟨h2,h3,h4⟩:=hnp;have hri:au (aB g r p).1=true:=by
  cases hri:au (aB g r p).1 with
  | true=>rfl
  | false=>rw[show aN (aB g r p).1=[] from by rw[aN,if_neg (by rw[hri];decide)]] at hq;cases hq
 have hgp:∀d∈g,d.wf∧0<d.body.nodes.length∧d.body.nodes.length≤100000:=fun d hd=>⟨(hg d hd).1,(hg d hd).2.1,by have:=(hg d hd).2.2;omega⟩
 have hpw:g.length≤1000∧(∀d∈g,d.wf∧0<d.body.nodes.length∧d.body.nodes.length≤100000)∧p.length≤1000000∧(dQ dC L).1.wf∧(dQ dC L).1.nodes.length≤100000:=⟨hn,hgp,hp,h3,h4⟩
 have hpc:=mb (r:=r) hn hgp hp h3 h4;have hLm:((aN (aB g r p).1).map dm).take q++((aN (aB g r p).1).map dm).drop (q+1)=L.map dm:=by rw[hL,List.map_append,List.map_take,List.map_drop]
 refine fw hX rfl rfl ?_;repeat' first|exact k9|refine k2 ?_|apply kA|apply kI;intro hc|apply kL;intro hl|(apply Sn.go hX;conv=>whnf)|(((refine Ma rfl hxw hri (by omega) ?_))<;>conv=>whnf)|(((refine de.i (As rfl (by rw[List.length_map];exact hq) (by rw[List.length_map];omega) _) ?_))<;>conv=>whnf)|((simp only[hLm])<;>conv=>whnf)|refine k8 ?_|fail
 ·refine aq.i ?_;rw[hr,if_neg (by rintro(q|q|q);exact bfF (by assumption) q;exact bfF (by assumption) q;exact q (by assumption))]
 ·refine aq.i ?_;rw[hr,if_pos (.inr (.inr (by assumption)))];rfl
 ·refine aq.i ?_;rw[hr,if_pos (.inr (.inl (by assumption)))];rfl
 ·refine aq.i ?_;rw[hr,if_pos (.inl (by assumption))];rfl⟩
end Go.Km
end
section
namespace Go.aa
open Go
end Go.aa
namespace Go.Km
open Go Go.Vc Go.Proofs Go.aa Go.Proofs.YtpbichnnflabdaaGreatDoor
set_option maxRecDepth 100000
set_option maxHeartbeats 0
abbrev AZ(s:Sto):List F:=[byF s.pass,byF s.way,inF s.r,isF s.p,inF s.at_]
end Go.Km
end
section
namespace Go.aa
open Go Go.Km
theorem hH{α β:Type}{f:α→List β}(c:Nat):∀(l:List α),(∀a∈l,(f a).length≤c)→(l.flatMap f).length≤l.length * c
 | [],_=>by simp
 | a :: l,h=>by
  have h1:=hH c l (fun b hb=>h b (by simp[hb]));have h2:=h a (by simp);rw[List.flatMap_cons,List.length_append,List.length_cons,Nat.add_mul];omega
theorem rR{g:List Dfn}(h:cA g=0){x:Int×List Int}(hx:x∈kP g):(aB g x.1 x.2).2=true∧x.2.length≤2000:=by
 refine⟨(tg h x.1 x.2).1 hx,?_⟩;rw[kP,if_pos h,List.mem_flatMap] at hx;obtain⟨⟨d,i⟩,hd,hp⟩:=hx;obtain⟨q,hq,rfl⟩:=List.mem_map.1 hp;have:=qG _ _ _ _ hq;have hd':d∈g:=List.fst_mem_of_mem_zipIdx hd;have:=(cY h).small hd';simp only[List.length_nil,Nat.zero_add] at *;omega
end Go.aa
namespace Go.Km
open Go Go.Vc Go.Proofs Go.aa Go.Proofs.YtpbichnnflabdaaGreatDoor
set_option maxRecDepth 100000
set_option maxHeartbeats 0
end Go.Km
end
section
namespace Go.aa
open Go Go.Km
def dV(g:List Dfn)(x:Int×List Int)(k:Nat):List Sto:=if k=0 then [] else ((List.range (iE g x)).filter fun (a:Nat)=>okD k g x.1 x.2 (a:Int)).map fun (a:Nat)=>⟨2,(k:Int),x.1,x.2,(a:Int)⟩
theorem sf(g:List Dfn)(x:Int×List Int):iy g x=(List.range 4).flatMap (dV g x):=rfl
def fW(g:List Dfn)(x:Int×List Int)(k a:Nat):List Sto:=((List.range a).filter fun (a:Nat)=>okD k g x.1 x.2 (a:Int)).map fun (a:Nat)=>⟨2,(k:Int),x.1,x.2,(a:Int)⟩
theorem tn(g:List Dfn)(x:Int×List Int)(k:Nat):fW g x k 0=[]:=rfl
theorem ly(g:List Dfn)(x:Int×List Int)(k a:Nat):fW g x k (a+1)=fW g x k a++(if okD k g x.1 x.2 (a:Int)=true then [⟨2,(k:Int),x.1,x.2,(a:Int)⟩] else []):=by
 unfold fW;rw[List.range_succ,List.filter_append,List.map_append]
 congr 1
 cases h:okD k g x.1 x.2 (a:Int)<;>simp[h]
theorem gF(g:List Dfn)(x:Int×List Int)(k a:Nat):(fW g x k a).length≤a:=by
 unfold fW;rw[List.length_map];have:=List.length_filter_le (fun (a:Nat)=>okD k g x.1 x.2 (a:Int)) (List.range a)
 rwa [List.length_range] at this
structure AtD(g:List Dfn)(x:Int×List Int)(q:Nat):Prop where
 lt:q<g.length
 r:x.1=(q:Int)
 num:(iF (gi g x.1).nodes (gi g x.1).root x.2).2=true
 rng:0≤(iQ g x.1 x.2).1∧(iQ g x.1 x.2).1<(gi g x.1).nodes.length
 kids:(aN (aB g x.1 x.2).1).length=iE g x
theorem ja{g:List Dfn}{q:Nat}(h:q<g.length):gi g (q:Int)=g[q].body:=by
 rw[gi,Int.toNat_natCast,List.getD_eq_getElem?_getD,List.getElem?_eq_getElem h,Option.getD_some]
theorem KN{g:List Dfn}(hm:cA g=0){x:Int×List Int}(h:(aB g x.1 x.2).2=true):∃q,AtD g x q:=by
 obtain⟨q,hq,e1,e2⟩:=l9 h;have hR:=(cY hm).right (List.getElem_mem hq);rw[e2] at h;obtain⟨k1,k2,k3,k4,k5⟩:=BM hR h;refine⟨q,hq,e1,?_,?_,?_⟩
 ·rw[e1,ja hq];exact k2
 ·rw[iQ,e1,ja hq];exact k3
 ·rw[e2,k5,iE,iQ,e1,ja hq]
theorem pv{g:List Dfn}(hw:∀d∈g,d.wf∧d.body.nodes.length≤20000){x:Int×List Int}{q:Nat}(h:AtD g x q):iE g x≤20000:=by
 have:=(je (aB g x.1 x.2).1).2;have:=(iO (r:=x.1) (p:=x.2) hw).2;rw[←h.kids];omega
end Go.aa
namespace Go.Km
open Go Go.Vc Go.Proofs Go.aa Go.Proofs.YtpbichnnflabdaaGreatDoor
set_option maxRecDepth 100000
set_option maxHeartbeats 0
instance(g:List Dfn):C 46 [b8 g] (.cl 89 [.pt 1 [[.sl (g.map qW)]] 0 0]) false True:=⟨fun _=>by
 refine kf rfl rfl ?_;repeat' first|exact k9|refine k2 ?_|apply kA|apply kI;intro hc|(apply Sn.go hX;conv=>whnf)|refine k8 ?_|apply kL;intro hl
 exact aq.i rfl⟩
instance(g:List Dfn):C 22 [b8 g] (.sl ((bb g).map AZ)) false (g.length≤1000∧∀d∈g,d.wf):=⟨fun ⟨hn,hw⟩=>by
 have hX:=qA [51,98] [];have hp:g.length≤1000∧∀d∈g,d.wf:=⟨hn,hw⟩
 by_cases hc0:bT g=0
 ·have ok:=cY (b6 hc0);have hm:=b6 hc0;have hpm:(g.length≤1000∧∀d∈g,d.wf)∧cA g=0:=⟨hp,hm⟩
  have hall:g.length≤1000∧(∀d∈g,d.wf)∧(cA g=0→∀d∈g,aw d.body∧d.body.nodes.length≤2000):=⟨hn,hw,fun _ d hd=>⟨ok.right hd,by have:=ok.small hd;omega⟩⟩
  have hsm:∀d∈g,d.wf∧d.body.nodes.length≤20000:=fun d hd=>⟨hw d hd,by have:=ok.small hd;omega⟩
  rw[show bb g=(kP g).flatMap (iy g) from by rw[bb,if_pos hc0]];obtain⟨al,hal⟩:=exEq (kP g);have hAt:∀y∈al,∃q,AtD g y q:=fun y hy=>KN hm (rR hm (by rw[←hal];exact hy)).1
  have hWl:∀y∈al,∀k,(dV g y k).length≤20000:=fun y hy k=>by
   obtain⟨q,hq⟩:=hAt y hy;unfold dV
   split
   ·exact Nat.zero_le _
   ·exact Nat.le_trans (gF g y k (iE g y)) (pv hsm hq)
  have hAl:∀y∈al,(iy g y).length≤80000:=fun y hy=>by
   have:=hH (f:=dV g y) 20000 (List.range 4) (fun k _=>hWl y hy k);rw[List.length_range] at this;rw[sf];omega
  have hll:al.length≤2000000:=by
   rw[hal,qa g hm];exact Nat.le_trans (lD g.length (Nat.le_refl _) fun d hd=>Nat.le_trans (oF (ok.right hd)) (by have:=ok.small hd;omega)) (by omega)
  refine fw hX rfl rfl ?_;repeat' first|exact k9|refine k2 ?_|apply kA|apply kI;intro hc|(apply Sn.go hX;conv=>whnf)|refine k8 ?_|apply kL;intro hl
  refine Stp.Bi 9 47 32 5 rfl rfl ?_;apply kCt [0,1,3,5,25,26,27] [2,3,7];conv=>whnf
  rw[←hal];refine Lp.ind (fun x:Nat=>al.length - x) (fun x=>x≤al.length) (fun x=>[(27,InD x)]) (fun x=>[(3,.ro 0 32 5 (((al.take x).flatMap (iy g)).map AZ))]) (fun _=>_) 0 (Nat.zero_le _) rfl rfl rfl ?_
  rintro G x ih hx
  by_cases hxl:x<al.length
  ·obtain⟨q,hq⟩:=hAt _ (List.getElem_mem hxl);obtain⟨P,hP⟩:=exEq (al[x].2);have hxe:al[x]=((q:Int),P):=by rw[hP,←hq.r]
   have hxi:∀h:x<al.length,al[x]'h=((q:Int),P):=fun _=>hxe
   have hmem:((q:Int),P)∈kP g:=by rw[←hxe,←hal];exact List.getElem_mem hxl
   obtain⟨hpf,hpn⟩:=rR hm hmem;dsimp only at hpf hpn;rw[hxe] at hq;have hql:=hq.lt;obtain⟨d,hd⟩:=exEq (g[q]);have hgi:∀h:((q:Nat):Int).toNat<g.length,g[((q:Nat):Int).toNat]'h=d:=fun _=>hd.symm
   have hbd:gi g (q:Int)=d.body:=by rw[ja hql,hd]
   have hnum:iQ g (q:Int) P=iF d.body.nodes d.body.root P:=by rw[iQ,hbd]
   have hdm:d∈g:=by rw[hd];exact List.getElem_mem hql
   have hdw:=(hw _ hdm).body;have hdR:=ok.right hdm;have hpn1:d.body.wf∧aw d.body∧P.length≤1000000:=⟨hdw,hdR,by omega⟩
   apply Sn.go hX;repeat' first|exact k9|refine k2 ?_|apply kA|apply kI;intro hc|apply kL;intro hl|(apply Sn.go hX;conv=>whnf)|((simp only[hxi])<;>conv=>whnf)|((simp only[hgi])<;>conv=>whnf)|refine k8 ?_|fail
   obtain⟨N,hN⟩:=exEq (iF d.body.nodes d.body.root P);rw[←hN];obtain⟨nq,hnq⟩:∃nq:Nat,N.1=nq:=⟨N.1.toNat,by have:=hq.rng.1;rw[hnum,←hN] at this;omega⟩
   apply kCt [0,1,3,5,7,8,9,11,25,26,27] [2,3,7];conv=>whnf
   obtain⟨acc,hacc⟩:=exEq ((al.take x).flatMap (iy g));rw[←hacc,hnq];have hacl:acc.length≤160000000000:=by
    have:=hH 80000 (al.take x) (fun y hy=>hAl y (List.mem_of_mem_take hy));rw[←hacc,List.length_take] at this;have:min x al.length * 80000≤2000000 * 80000:=Nat.mul_le_mul_right _ (by omega);omega
   have hnl:nq<d.body.nodes.length:=by have:=hq.rng.2;rw[hnum,hbd,←hN,hnq] at this;omega
   have hseat:iE g ((q:Int),P)=d.body.nodes[nq].kids.length:=by
    show(ae (gi g (q:Int)).nodes (iQ g (q:Int) P).1).length=_
    rw[hbd,hnum,←hN,hnq,←aH (List.getElem?_eq_getElem hnl)]
   have hsl0:=pv hsm hq;rw[hseat] at hsl0;obtain⟨fl,hfl⟩:=exEq (aJ g (cJ g) d.body.nodes);have hfll:fl.length=d.body.nodes.length:=by rw[hfl,bN]
   have hfi:∀h:((q:Nat):Int).toNat<(bg g).length,(bg g)[((q:Nat):Int).toNat]'h=fl:=fun h=>by
    simp only[Int.toNat_natCast,bg,List.getElem_map,hfl,hd]
   have hfi2:∀h:q<(bg g).length,(bg g)[q]'h=fl:=fun h=>by
    simp only[bg,List.getElem_map,hfl,hd]
   have hfal:(bg g).length=g.length:=by simp[bg]
   have hokD:∀k a:Nat,Go.aa.okD k g (q:Int) P (a:Int)=(bw k d.body.nodes fl (nq:Int) (a:Int)&&(cZ k g (q:Int) P (a:Int)).2):=fun k a=>by
    unfold Go.aa.okD;rw[hbd,hnum,←hN,hnq,List.getD_eq_getElem?_getD,List.getElem?_eq_getElem (by rw[hfal];exact hql),hfi];rfl
   have hhp:d.body.wf∧aw d.body∧fl.length=d.body.nodes.length∧0≤(nq:Int)∧(nq:Int)<d.body.nodes.length:=⟨hdw,hdR,hfll,by omega,by omega⟩
   have hgp:∀d∈g,d.wf∧0<d.body.nodes.length∧d.body.nodes.length≤20000:=fun d hd=>⟨hw d hd,by have:=(ok.right hd).root;omega,by have:=ok.small hd;omega⟩
   have hmal:((q:Int),P)∈al:=by rw[←hxe];exact List.getElem_mem hxl
   have hplen:P.length≤1000000:=by omega
   refine Lp.ind (fun w:Nat=>4 - w) (fun w=>1≤w∧w≤4) (fun w=>[(11,InD w)]) (fun w=>[(3,.ro 0 32 5 ((acc++(List.range w).flatMap (dV g ((q:Int),P))).map AZ))]) (fun _=>_) 1 (by omega) rfl rfl (by rw[show(List.range 1).flatMap (dV g ((q:Int),P))=[] from rfl,List.append_nil];rfl) ?_
   rintro G2 w ih2 hw7
   by_cases hwl:w<4
   ·have hwc:w=1∨w=2∨w=3:=by omega
    rcases hwc with rfl|rfl|rfl
    ·have hrl:=hH (f:=dV g ((q:Int),P)) 20000 (List.range 1) (fun k _=>hWl _ hmal k);rw[List.length_range] at hrl;have hnext:acc++(List.range (1+1)).flatMap (dV g ((q:Int),P))=acc++(List.range 1).flatMap (dV g ((q:Int),P))++fW g ((q:Int),P) 1 d.body.nodes[nq].kids.length:=by
      rw[List.range_succ,List.flatMap_append,List.flatMap_singleton,List.append_assoc,←hseat];rfl
     apply Sn.go hX;repeat' first|exact k9|refine k2 ?_|apply kA|apply kI;intro hc|(apply Sn.go hX;conv=>whnf)|refine k8 ?_|apply kL;intro hl
     apply kCt [0,1,3,5,7,8,9,11,25,26,27,55,56] [2,3,7];conv=>whnf
     refine Lp.ind (fun a:Nat=>d.body.nodes[nq].kids.length - a) (fun a=>a≤d.body.nodes[nq].kids.length) (fun a=>[(56,InD a)]) (fun a=>[(3,.ro 0 32 5 ((acc++(List.range 1).flatMap (dV g ((q:Int),P))++fW g ((q:Int),P) 1 a).map AZ))]) (fun _=>_) 0 (Nat.zero_le _) rfl rfl (by rw[tn,List.append_nil];rfl) ?_
     rintro G3 a ih3 ha
     by_cases hal3:a<d.body.nodes[nq].kids.length
     ·have hsucc:=ly g ((q:Int),P) 1 a;have hsl:=gF g ((q:Int),P) 1 a;have hok:Go.aa.okD 1 g (q:Int) P (a:Int)=(bw 1 d.body.nodes fl (nq:Int) (a:Int)&&(cZ 1 g (q:Int) P (a:Int)).2):=hokD 1 a;rw[hok] at hsucc;have hpp:jS g (q:Int) P (a:Int):=⟨⟨hn,hgp,by omega⟩,hpf,by omega,by rw[hq.kids,hseat];omega⟩
      cases hh:bw 1 d.body.nodes fl (nq:Int) (a:Int) with
      | true=>
       cases hpu:(cZ 1 g (q:Int) P (a:Int)).2 with
       | true=>
        rw[hh,hpu,Bool.and_self,if_pos rfl] at hsucc;apply Sn.go hX;repeat' first|exact k9|refine k2 ?_|apply kA|apply kI;intro hc|apply kL;intro hl|(apply Sn.go hX;conv=>whnf)|((simp only[hfi2])<;>conv=>whnf)|refine k8 ?_|fail
        apply kCt [0,1,3,5,7,8,9,11,25,26,27,55,56] [2,3,7];conv=>whnf
        exact ih3 (a+1) _ _ _ (by omega) (by omega) rfl rfl (by rw[hsucc,←List.append_assoc,List.map_append (l₂:=[_])];rfl)
       | false=>
        rw[hh,hpu,Bool.and_false,if_neg (by decide),List.append_nil] at hsucc;apply Sn.go hX;repeat' first|exact k9|refine k2 ?_|apply kA|apply kI;intro hc|apply kL;intro hl|(apply Sn.go hX;conv=>whnf)|((simp only[hfi2])<;>conv=>whnf)|refine k8 ?_|fail
        apply kCt [0,1,3,5,7,8,9,11,25,26,27,55,56] [2,3,7];conv=>whnf
        exact ih3 (a+1) _ _ _ (by omega) (by omega) rfl rfl (by rw[hsucc];rfl)
      | false=>
       rw[hh,Bool.false_and,if_neg (by decide),List.append_nil] at hsucc;apply Sn.go hX;repeat' first|exact k9|refine k2 ?_|apply kA|apply kI;intro hc|apply kL;intro hl|(apply Sn.go hX;conv=>whnf)|((simp only[hfi2])<;>conv=>whnf)|refine k8 ?_|fail
       apply kCt [0,1,3,5,7,8,9,11,25,26,27,55,56] [2,3,7];conv=>whnf
       exact ih3 (a+1) _ _ _ (by omega) (by omega) rfl rfl (by rw[hsucc];rfl)
     ·obtain rfl:a=d.body.nodes[nq].kids.length:=by omega
      apply Sn.go hX;repeat' first|exact k9|refine k2 ?_|apply kA|apply kI;intro hc|(apply Sn.go hX;conv=>whnf)|refine k8 ?_|apply kL;intro hl
      apply kCt [0,1,3,5,7,8,9,11,25,26,27] [2,3,7];conv=>whnf
      exact ih2 (1+1) _ _ _ (by omega) (by omega) rfl rfl (by rw[hnext];rfl)
    ·have hrl:=hH (f:=dV g ((q:Int),P)) 20000 (List.range 2) (fun k _=>hWl _ hmal k);rw[List.length_range] at hrl;have hnext:acc++(List.range (2+1)).flatMap (dV g ((q:Int),P))=acc++(List.range 2).flatMap (dV g ((q:Int),P))++fW g ((q:Int),P) 2 d.body.nodes[nq].kids.length:=by
      rw[List.range_succ,List.flatMap_append,List.flatMap_singleton,List.append_assoc,←hseat];rfl
     apply Sn.go hX;repeat' first|exact k9|refine k2 ?_|apply kA|apply kI;intro hc|(apply Sn.go hX;conv=>whnf)|refine k8 ?_|apply kL;intro hl
     apply kCt [0,1,3,5,7,8,9,11,25,26,27,55,56] [2,3,7];conv=>whnf
     refine Lp.ind (fun a:Nat=>d.body.nodes[nq].kids.length - a) (fun a=>a≤d.body.nodes[nq].kids.length) (fun a=>[(56,InD a)]) (fun a=>[(3,.ro 0 32 5 ((acc++(List.range 2).flatMap (dV g ((q:Int),P))++fW g ((q:Int),P) 2 a).map AZ))]) (fun _=>_) 0 (Nat.zero_le _) rfl rfl (by rw[tn,List.append_nil];rfl) ?_
     rintro G3 a ih3 ha
     by_cases hal3:a<d.body.nodes[nq].kids.length
     ·have hsucc:=ly g ((q:Int),P) 2 a;have hsl:=gF g ((q:Int),P) 2 a;have hok:Go.aa.okD 2 g (q:Int) P (a:Int)=(bw 2 d.body.nodes fl (nq:Int) (a:Int)&&(cZ 2 g (q:Int) P (a:Int)).2):=hokD 2 a;rw[hok] at hsucc;have hpp:jS g (q:Int) P (a:Int):=⟨⟨hn,hgp,by omega⟩,hpf,by omega,by rw[hq.kids,hseat];omega⟩
      cases hh:bw 2 d.body.nodes fl (nq:Int) (a:Int) with
      | true=>
       cases hpu:(cZ 2 g (q:Int) P (a:Int)).2 with
       | true=>
        rw[hh,hpu,Bool.and_self,if_pos rfl] at hsucc;apply Sn.go hX;repeat' first|exact k9|refine k2 ?_|apply kA|apply kI;intro hc|apply kL;intro hl|(apply Sn.go hX;conv=>whnf)|((simp only[hfi2])<;>conv=>whnf)|refine k8 ?_|fail
        apply kCt [0,1,3,5,7,8,9,11,25,26,27,55,56] [2,3,7];conv=>whnf
        exact ih3 (a+1) _ _ _ (by omega) (by omega) rfl rfl (by rw[hsucc,←List.append_assoc,List.map_append (l₂:=[_])];rfl)
       | false=>
        rw[hh,hpu,Bool.and_false,if_neg (by decide),List.append_nil] at hsucc;apply Sn.go hX;repeat' first|exact k9|refine k2 ?_|apply kA|apply kI;intro hc|apply kL;intro hl|(apply Sn.go hX;conv=>whnf)|((simp only[hfi2])<;>conv=>whnf)|refine k8 ?_|fail
        apply kCt [0,1,3,5,7,8,9,11,25,26,27,55,56] [2,3,7];conv=>whnf
        exact ih3 (a+1) _ _ _ (by omega) (by omega) rfl rfl (by rw[hsucc];rfl)
      | false=>
       rw[hh,Bool.false_and,if_neg (by decide),List.append_nil] at hsucc;apply Sn.go hX;repeat' first|exact k9|refine k2 ?_|apply kA|apply kI;intro hc|apply kL;intro hl|(apply Sn.go hX;conv=>whnf)|((simp only[hfi2])<;>conv=>whnf)|refine k8 ?_|fail
       apply kCt [0,1,3,5,7,8,9,11,25,26,27,55,56] [2,3,7];conv=>whnf
       exact ih3 (a+1) _ _ _ (by omega) (by omega) rfl rfl (by rw[hsucc];rfl)
     ·obtain rfl:a=d.body.nodes[nq].kids.length:=by omega
      apply Sn.go hX;repeat' first|exact k9|refine k2 ?_|apply kA|apply kI;intro hc|(apply Sn.go hX;conv=>whnf)|refine k8 ?_|apply kL;intro hl
      apply kCt [0,1,3,5,7,8,9,11,25,26,27] [2,3,7];conv=>whnf
      exact ih2 (2+1) _ _ _ (by omega) (by omega) rfl rfl (by rw[hnext];rfl)
    ·have hrl:=hH (f:=dV g ((q:Int),P)) 20000 (List.range 3) (fun k _=>hWl _ hmal k);rw[List.length_range] at hrl;have hnext:acc++(List.range (3+1)).flatMap (dV g ((q:Int),P))=acc++(List.range 3).flatMap (dV g ((q:Int),P))++fW g ((q:Int),P) 3 d.body.nodes[nq].kids.length:=by
      rw[List.range_succ,List.flatMap_append,List.flatMap_singleton,List.append_assoc,←hseat];rfl
     apply Sn.go hX;repeat' first|exact k9|refine k2 ?_|apply kA|apply kI;intro hc|(apply Sn.go hX;conv=>whnf)|refine k8 ?_|apply kL;intro hl
     apply kCt [0,1,3,5,7,8,9,11,25,26,27,55,56] [2,3,7];conv=>whnf
     refine Lp.ind (fun a:Nat=>d.body.nodes[nq].kids.length - a) (fun a=>a≤d.body.nodes[nq].kids.length) (fun a=>[(56,InD a)]) (fun a=>[(3,.ro 0 32 5 ((acc++(List.range 3).flatMap (dV g ((q:Int),P))++fW g ((q:Int),P) 3 a).map AZ))]) (fun _=>_) 0 (Nat.zero_le _) rfl rfl (by rw[tn,List.append_nil];rfl) ?_
     rintro G3 a ih3 ha
     by_cases hal3:a<d.body.nodes[nq].kids.length
     ·have hsucc:=ly g ((q:Int),P) 3 a;have hsl:=gF g ((q:Int),P) 3 a;have hok:Go.aa.okD 3 g (q:Int) P (a:Int)=(bw 3 d.body.nodes fl (nq:Int) (a:Int)&&(cZ 3 g (q:Int) P (a:Int)).2):=hokD 3 a;rw[hok] at hsucc;have hpp:jS g (q:Int) P (a:Int):=⟨⟨hn,hgp,by omega⟩,hpf,by omega,by rw[hq.kids,hseat];omega⟩
      cases hh:bw 3 d.body.nodes fl (nq:Int) (a:Int) with
      | true=>
       cases hpu:(cZ 3 g (q:Int) P (a:Int)).2 with
       | true=>
        rw[hh,hpu,Bool.and_self,if_pos rfl] at hsucc;apply Sn.go hX;repeat' first|exact k9|refine k2 ?_|apply kA|apply kI;intro hc|apply kL;intro hl|(apply Sn.go hX;conv=>whnf)|((simp only[hfi2])<;>conv=>whnf)|refine k8 ?_|fail
        apply kCt [0,1,3,5,7,8,9,11,25,26,27,55,56] [2,3,7];conv=>whnf
        exact ih3 (a+1) _ _ _ (by omega) (by omega) rfl rfl (by rw[hsucc,←List.append_assoc,List.map_append (l₂:=[_])];rfl)
       | false=>
        rw[hh,hpu,Bool.and_false,if_neg (by decide),List.append_nil] at hsucc;apply Sn.go hX;repeat' first|exact k9|refine k2 ?_|apply kA|apply kI;intro hc|apply kL;intro hl|(apply Sn.go hX;conv=>whnf)|((simp only[hfi2])<;>conv=>whnf)|refine k8 ?_|fail
        apply kCt [0,1,3,5,7,8,9,11,25,26,27,55,56] [2,3,7];conv=>whnf
        exact ih3 (a+1) _ _ _ (by omega) (by omega) rfl rfl (by rw[hsucc];rfl)
      | false=>
       rw[hh,Bool.false_and,if_neg (by decide),List.append_nil] at hsucc;apply Sn.go hX;repeat' first|exact k9|refine k2 ?_|apply kA|apply kI;intro hc|apply kL;intro hl|(apply Sn.go hX;conv=>whnf)|((simp only[hfi2])<;>conv=>whnf)|refine k8 ?_|fail
       apply kCt [0,1,3,5,7,8,9,11,25,26,27,55,56] [2,3,7];conv=>whnf
       exact ih3 (a+1) _ _ _ (by omega) (by omega) rfl rfl (by rw[hsucc];rfl)
     ·obtain rfl:a=d.body.nodes[nq].kids.length:=by omega
      apply Sn.go hX;repeat' first|exact k9|refine k2 ?_|apply kA|apply kI;intro hc|(apply Sn.go hX;conv=>whnf)|refine k8 ?_|apply kL;intro hl
      apply kCt [0,1,3,5,7,8,9,11,25,26,27] [2,3,7];conv=>whnf
      exact ih2 (3+1) _ _ _ (by omega) (by omega) rfl rfl (by rw[hnext];rfl)
   ·obtain rfl:w=4:=by omega
    have htk:(al.take (x+1)).flatMap (iy g)=acc++(List.range 4).flatMap (dV g ((q:Int),P)):=by
     rw[List.take_succ_eq_append_getElem hxl,List.flatMap_append,List.flatMap_singleton,←hacc,sf,hxe]
    apply Sn.go hX;repeat' first|exact k9|refine k2 ?_|apply kA|apply kI;intro hc|(apply Sn.go hX;conv=>whnf)|refine k8 ?_|apply kL;intro hl
    apply kCt [0,1,3,5,25,26,27] [2,3,7];conv=>whnf
    exact ih (x+1) _ _ _ (by omega) (by omega) rfl rfl (by rw[htk];rfl)
  ·obtain rfl:x=al.length:=by omega
   rw[List.take_length] at *;apply Sn.go hX;repeat' first|exact k9|refine k2 ?_|apply kA|apply kI;intro hc|(apply Sn.go hX;conv=>whnf)|refine k8 ?_|apply kL;intro hl
 ·rw[show bb g=[] from by rw[bb,if_neg hc0]];refine kf rfl rfl ?_;repeat' first|exact k9|refine k2 ?_|apply kA|apply kI;intro hc|(apply Sn.go hX;conv=>whnf)|refine k8 ?_|apply kL;intro hl
  exact aq.i rfl⟩
end Go.Km
end
section
namespace Go.aa
open Go Go.Km
theorem G9{g:List Dfn}(hm:cA g=0){q:Nat}(hq:q<g.length){p:List Int}(h:(iQ g (q:Int) p).2=true):(aB g (q:Int) p).2=true:=by
 have hR:=(cY hm).right (List.getElem_mem hq);rw[iQ,ja hq,(lV _ _ _).1] at h;unfold aB;rw[dif_pos ⟨by omega,by omega⟩];simp only[Int.toNat_natCast];unfold dd;rw[if_pos hR.right]
 split
 ·rfl
 ·rename_i hd;rw[hd] at h;cases h
theorem mM{k:Nat}{ns:List Nod}{l:List Fl}{n at_:Int}(h:bw k ns l n at_=true):0≤at_∧at_<(ae ns n).length:=by
 unfold bw at h;simp only[Bool.and_eq_true,decide_eq_true_eq] at h;exact h.1.2
theorem ey{g:List Dfn}{pass way r:Int}{p:List Int}{at_:Int}(hc:bT g=0)(h:pass≠2∨way<1∨4≤way∨r<0∨(g.length:Int)≤r∨(iQ g r p).2=false∨Go.aa.okD way.toNat g r p at_=false):aT g pass way r p at_=([],47):=by
 rw[aT,if_neg (by simpa using hc),if_pos h]
end Go.aa
namespace Go.Km
open Go Go.Vc Go.Proofs Go.aa Go.Proofs.YtpbichnnflabdaaGreatDoor
set_option maxRecDepth 100000
set_option maxHeartbeats 0
instance(g:List Dfn)(pass way r:Int)(p:List Int)(at_:Int):C 21 [b8 g,.ag [byF pass,byF way,inF r,isF p,inF at_]] (.tp [b8 (aT g pass way r p at_).1,inF (aT g pass way r p at_).2]) false (g.length≤1000∧(∀d∈g,d.wf)∧p.length≤1000000∧0≤way∧way≤255):=⟨fun ⟨hn,hw,hp,hw0,hw1⟩=>by
 have hpre:g.length≤1000∧∀d∈g,d.wf:=⟨hn,hw⟩
 by_cases hc0:bT g=0
 ·have hm:=b6 hc0;have ok:=cY hm;have hpm:(g.length≤1000∧∀d∈g,d.wf)∧cA g=0:=⟨hpre,hm⟩
  by_cases hs:pass≠2∨way<1∨4≤way∨r<0∨(g.length:Int)≤r
  ·rw[ey hc0 (by rcases hs with h|h|h|h|h;exact .inl h;exact .inr (.inl h);exact .inr (.inr (.inl h));exact .inr (.inr (.inr (.inl h)));exact .inr (.inr (.inr (.inr (.inl h)))))];refine kf rfl rfl ?_;repeat' first|exact k9|refine k2 ?_|apply kA|apply kI;intro hc|refine k8 ?_|apply kL;intro hl
   all_goals first|exact aq.i rfl|(exfalso;omega)|exact⟨by exfalso;omega⟩
  ·simp only[not_or,Decidable.not_not] at hs;obtain⟨s1,s2,s3,s4,s5⟩:=hs;obtain⟨q,rfl⟩:∃q:Nat,r=q:=⟨r.toNat,by omega⟩
   have hql:q<g.length:=by omega
   obtain⟨d,hd⟩:=exEq (g[q]);have hgi:∀h:((q:Nat):Int).toNat<g.length,g[((q:Nat):Int).toNat]'h=d:=fun _=>hd.symm
   have hgi2:∀h:q<g.length,g[q]'h=d:=fun _=>hd.symm
   have hbd:gi g (q:Int)=d.body:=by rw[ja hql,hd]
   have hnum:iQ g (q:Int) p=iF d.body.nodes d.body.root p:=by rw[iQ,hbd]
   have hdm:d∈g:=by rw[hd];exact List.getElem_mem hql
   have hdw:=(hw _ hdm).body;have hdR:=ok.right hdm;have hpn1:d.body.wf∧aw d.body∧p.length≤1000000:=⟨hdw,hdR,hp⟩
   have hway:way=1∨way=2∨way=3:=by omega
   cases hnn:(iQ g (q:Int) p).2 with
   | false=>
    rw[ey hc0 (.inr (.inr (.inr (.inr (.inr (.inl hnn))))))];rw[hnum] at hnn;rcases hway with rfl|rfl|rfl
    all_goals
     refine kf rfl rfl ?_;repeat' first|exact k9|refine k2 ?_|apply kA|apply kI;intro hc|apply kL;intro hl|((simp only[hgi])<;>conv=>whnf)|((simp only[hgi2])<;>conv=>whnf)|refine k8 ?_|fail
     all_goals first|exact aq.i rfl|(exfalso;omega)
   | true=>
    have hpf:=G9 hm hql hnn;obtain⟨q',hq⟩:=KN hm (x:=((q:Int),p)) hpf;have hnn2:=hnn;rw[hnum] at hnn2;obtain⟨fl,hfl⟩:=exEq (aJ g (cJ g) d.body.nodes);have hfll:fl.length=d.body.nodes.length:=by rw[hfl,bN]
    have hfi2:∀h:q<(bg g).length,(bg g)[q]'h=fl:=fun h=>by
     simp only[bg,List.getElem_map,hfl,hd]
    have hfal:(bg g).length=g.length:=by simp[bg]
    obtain⟨N,hN⟩:=exEq ((iF d.body.nodes d.body.root p).1);have hrng:=hq.rng;have hsd:iE g ((q:Int),p)=(ae d.body.nodes N).length:=by
     show(ae (gi g (q:Int)).nodes (iQ g (q:Int) p).1).length=_
     rw[hbd,hnum,←hN]
    rw[hnum,hbd,←hN] at hrng;have hokD:∀k:Nat,Go.aa.okD k g (q:Int) p at_=(bw k d.body.nodes fl N at_&&(cZ k g (q:Int) p at_).2):=fun k=>by
     unfold Go.aa.okD;rw[hbd,hnum,←hN,List.getD_eq_getElem?_getD,Int.toNat_natCast,List.getElem?_eq_getElem (by rw[hfal];exact hql),hfi2];rfl
    have hhp:d.body.wf∧aw d.body∧fl.length=d.body.nodes.length∧0≤N∧N<d.body.nodes.length:=⟨hdw,hdR,hfll,hrng.1,hrng.2⟩
    have hgp:∀d∈g,d.wf∧0<d.body.nodes.length∧d.body.nodes.length≤20000:=fun d hd=>⟨hw d hd,by have:=(ok.right hd).root;omega,by have:=ok.small hd;omega⟩
    rcases hway with rfl|rfl|rfl
    ·have hk:Go.aa.okD ((1:Int).toNat) g (q:Int) p at_=(bw 1 d.body.nodes fl N at_&&(cZ 1 g (q:Int) p at_).2):=hokD 1
     cases hh:bw 1 d.body.nodes fl N at_ with
     | false=>
      rw[hh,Bool.false_and] at hk;rw[ey hc0 (.inr (.inr (.inr (.inr (.inr (.inr hk))))))];refine kf rfl rfl ?_;repeat' first|exact k9|refine k2 ?_|apply kA|apply kI;intro hc|apply kL;intro hl|((simp only[hgi])<;>conv=>whnf)|((simp only[hgi2])<;>conv=>whnf)|((simp only[←hN])<;>conv=>whnf)|((simp only[hfi2])<;>conv=>whnf)|refine k8 ?_|fail
      all_goals first|exact aq.i rfl|(exfalso;omega)
     | true=>
      have hr2:=mM hh;have hpp:jS g (q:Int) p at_:=⟨⟨hn,hgp,hp⟩,hpf,hr2.1,by have:=hq.kids;dsimp only at this;rw[this,hsd];exact hr2.2⟩
      rw[hh,Bool.true_and] at hk;have hr:aT g pass 1 (q:Int) p at_=if (cZ 1 g (q:Int) p at_).2=false then ([],47) else ((cZ 1 g (q:Int) p at_).1,0):=by
       by_cases h:(cZ 1 g (q:Int) p at_).2=false
       ·rw[if_pos h,ey hc0 (.inr (.inr (.inr (.inr (.inr (.inr (by rw[hk];exact h)))))))]
       ·rw[if_neg h,aT,if_neg (by simpa using hc0),if_neg]
        ·rfl
        ·rintro(a|a|a|a|a|a|a)
         ·exact a s1
         ·omega
         ·omega
         ·omega
         ·omega
         ·rw[hnn] at a;cases a
         ·rw[hk] at a;exact h a
      rw[hr];refine kf rfl rfl ?_;repeat' first|exact k9|refine k2 ?_|apply kA|apply kI;intro hc|apply kL;intro hl|((simp only[hgi])<;>conv=>whnf)|((simp only[hgi2])<;>conv=>whnf)|((simp only[←hN])<;>conv=>whnf)|((simp only[hfi2])<;>conv=>whnf)|refine k8 ?_|fail
      all_goals first|(exfalso;omega)|(refine aq.i ?_;rw[if_neg (fun q=>bfF hc q)];done)|(refine aq.i ?_;rw[if_pos hc];rfl)
    ·have hk:Go.aa.okD ((2:Int).toNat) g (q:Int) p at_=(bw 2 d.body.nodes fl N at_&&(cZ 2 g (q:Int) p at_).2):=hokD 2
     cases hh:bw 2 d.body.nodes fl N at_ with
     | false=>
      rw[hh,Bool.false_and] at hk;rw[ey hc0 (.inr (.inr (.inr (.inr (.inr (.inr hk))))))];refine kf rfl rfl ?_;repeat' first|exact k9|refine k2 ?_|apply kA|apply kI;intro hc|apply kL;intro hl|((simp only[hgi])<;>conv=>whnf)|((simp only[hgi2])<;>conv=>whnf)|((simp only[←hN])<;>conv=>whnf)|((simp only[hfi2])<;>conv=>whnf)|refine k8 ?_|fail
      all_goals first|exact aq.i rfl|(exfalso;omega)
     | true=>
      have hr2:=mM hh;have hpp:jS g (q:Int) p at_:=⟨⟨hn,hgp,hp⟩,hpf,hr2.1,by have:=hq.kids;dsimp only at this;rw[this,hsd];exact hr2.2⟩
      rw[hh,Bool.true_and] at hk;have hr:aT g pass 2 (q:Int) p at_=if (cZ 2 g (q:Int) p at_).2=false then ([],47) else ((cZ 2 g (q:Int) p at_).1,0):=by
       by_cases h:(cZ 2 g (q:Int) p at_).2=false
       ·rw[if_pos h,ey hc0 (.inr (.inr (.inr (.inr (.inr (.inr (by rw[hk];exact h)))))))]
       ·rw[if_neg h,aT,if_neg (by simpa using hc0),if_neg]
        ·rfl
        ·rintro(a|a|a|a|a|a|a)
         ·exact a s1
         ·omega
         ·omega
         ·omega
         ·omega
         ·rw[hnn] at a;cases a
         ·rw[hk] at a;exact h a
      rw[hr];refine kf rfl rfl ?_;repeat' first|exact k9|refine k2 ?_|apply kA|apply kI;intro hc|apply kL;intro hl|((simp only[hgi])<;>conv=>whnf)|((simp only[hgi2])<;>conv=>whnf)|((simp only[←hN])<;>conv=>whnf)|((simp only[hfi2])<;>conv=>whnf)|refine k8 ?_|fail
      all_goals first|(exfalso;omega)|(refine aq.i ?_;rw[if_neg (fun q=>bfF hc q)];done)|(refine aq.i ?_;rw[if_pos hc];rfl)
    ·have hk:Go.aa.okD ((3:Int).toNat) g (q:Int) p at_=(bw 3 d.body.nodes fl N at_&&(cZ 3 g (q:Int) p at_).2):=hokD 3
     cases hh:bw 3 d.body.nodes fl N at_ with
     | false=>
      rw[hh,Bool.false_and] at hk;rw[ey hc0 (.inr (.inr (.inr (.inr (.inr (.inr hk))))))];refine kf rfl rfl ?_;repeat' first|exact k9|refine k2 ?_|apply kA|apply kI;intro hc|apply kL;intro hl|((simp only[hgi])<;>conv=>whnf)|((simp only[hgi2])<;>conv=>whnf)|((simp only[←hN])<;>conv=>whnf)|((simp only[hfi2])<;>conv=>whnf)|refine k8 ?_|fail
      all_goals first|exact aq.i rfl|(exfalso;omega)
     | true=>
      have hr2:=mM hh;have hpp:jS g (q:Int) p at_:=⟨⟨hn,hgp,hp⟩,hpf,hr2.1,by have:=hq.kids;dsimp only at this;rw[this,hsd];exact hr2.2⟩
      rw[hh,Bool.true_and] at hk;have hr:aT g pass 3 (q:Int) p at_=if (cZ 3 g (q:Int) p at_).2=false then ([],47) else ((cZ 3 g (q:Int) p at_).1,0):=by
       by_cases h:(cZ 3 g (q:Int) p at_).2=false
       ·rw[if_pos h,ey hc0 (.inr (.inr (.inr (.inr (.inr (.inr (by rw[hk];exact h)))))))]
       ·rw[if_neg h,aT,if_neg (by simpa using hc0),if_neg]
        ·rfl
        ·rintro(a|a|a|a|a|a|a)
         ·exact a s1
         ·omega
         ·omega
         ·omega
         ·omega
         ·rw[hnn] at a;cases a
         ·rw[hk] at a;exact h a
      rw[hr];refine kf rfl rfl ?_;repeat' first|exact k9|refine k2 ?_|apply kA|apply kI;intro hc|apply kL;intro hl|((simp only[hgi])<;>conv=>whnf)|((simp only[hgi2])<;>conv=>whnf)|((simp only[←hN])<;>conv=>whnf)|((simp only[hfi2])<;>conv=>whnf)|refine k8 ?_|fail
      all_goals first|(exfalso;omega)|(refine aq.i ?_;rw[if_neg (fun q=>bfF hc q)];done)|(refine aq.i ?_;rw[if_pos hc];rfl)
 ·rw[show aT g pass way r p at_=([],bT g) from by rw[aT,if_pos hc0]];refine kf rfl rfl ?_;repeat' first|exact k9|refine k2 ?_|apply kA|apply kI;intro hc|refine k8 ?_|apply kL;intro hl
  all_goals exact aq.i rfl⟩
end Go.Km
end
section
namespace Go.aa
open Go Go.Km
def D5(t:Tre)(way at_:Int):Tre×Bool:=if (aT [⟨⟨#[97]⟩,t⟩] 2 way 0 [] at_).2≠0∨(aT [⟨⟨#[97]⟩,t⟩] 2 way 0 [] at_).1.length≠1 then (.zero,false) else (((aT [⟨⟨#[97]⟩,t⟩] 2 way 0 [] at_).1.headD ⟨⟨#[]⟩,.zero⟩).body,true)
theorem uO{g:List Dfn}{pass way r:Int}{p:List Int}{at_:Int}(hn:g.length≤1000)(hw:∀d∈g,d.wf)(hp:p.length≤1000000):(aT g pass way r p at_).1.length≤1000∧∀d∈(aT g pass way r p at_).1,d.wf:=by
 have hnil:([]:List Dfn).length≤1000∧∀d∈([]:List Dfn),d.wf:=⟨Nat.zero_le _,fun d hd=>by cases hd⟩
 unfold aT
 split
 ·exact hnil
 ·rename_i hc;have hc0:bT g=0:=by omega
  have ok:=cY (b6 hc0);have hsm:∀d∈g,d.wf∧d.body.nodes.length≤20000:=fun d hd=>⟨hw d hd,by have:=ok.small hd;omega⟩
  have hgp:∀d∈g,d.wf∧0<d.body.nodes.length∧d.body.nodes.length≤100000:=fun d hd=>⟨hw d hd,by have:=(ok.right hd).root;omega,by have:=ok.small hd;omega⟩
  split
  ·exact hnil
  ·unfold cZ
   split
   ·exact hnil
   ·obtain⟨hxw,hxl⟩:=iO (r:=r) (p:=p) hsm;obtain⟨_,h3,h4⟩:=oC (k:=way.toNat) (at_:=at_) hxw hxl;exact mb hn hgp hp h3 h4
end Go.aa
namespace Go.Km
open Go Go.Vc Go.Proofs Go.aa Go.Proofs.YtpbichnnflabdaaGreatDoor
set_option maxRecDepth 100000
set_option maxHeartbeats 0
instance(g:List Dfn):C 18 [b8 g] (boF (qD g)) true (g.length≤dF∧∀d∈g,d.wf):=⟨fun ⟨hn,hw⟩=>by
 simp only[dF] at hn;refine kf rfl rfl ?_;repeat' first|exact k9|refine k2 ?_|apply kA|apply kI;intro hc|refine k8 ?_|apply kL;intro hl
 apply kCt [1,3,4] [];conv=>whnf
 refine Lp.ind (fun x:Nat×Nat=>g.length - x.1) (fun x=>x.1≤g.length∧x.2≤1000∧nO 0 g=nO x.2 (g.drop x.1)) (fun x=>[(4,InD x.1),(3,InD x.2)]) (fun x=>[]) (fun _=>(boF (qD g),true)) (0,0) ⟨by simp,by simp,rfl⟩ rfl rfl rfl ?_
 rintro G ⟨i,a⟩ ih ⟨hi,ha,hW⟩
 dsimp only at hi ha hW ih ⊢
 by_cases hx:i<g.length
 ·obtain⟨d,hd⟩:=exEq (g[i]);have hdi:∀h,g[i]'h=d:=fun _=>hd.symm
  have hgl:g[i].body.nodes.length=d.body.nodes.length:=by rw[hd]
  have hwd:=hw d (by rw[hd];exact List.getElem_mem hx);have hnl:=hwd.body.len;have hnm:=hwd.name;simp only[bV] at hnl;rw[List.drop_eq_getElem_cons hx,←hd,nO] at hW;have hmn:(bif leI 220 (szS d.name:Int) then (220:Int) else (szS d.name:Int))=((min 220 d.name.size:Nat):Int):=wO 220 (szS d.name)
  by_cases h2:a<220
  ·rw[if_pos h2] at hW
   repeat' first|exact k9|refine k2 ?_|apply kA|apply kI;intro hc|apply kL;intro hl|((simp only[hdi])<;>conv=>whnf)|((rw[hmn])<;>conv=>whnf)|(((apply SdA.m;exact Nd.i (by omega)))<;>conv=>whnf)|refine k8 ?_|fail
   apply kCt [1,3,4,5] [];conv=>whnf
   refine Lp.ind (fun x:Nat×Nat=>d.body.nodes.length - x.1) (fun x=>x.1≤d.body.nodes.length∧x.2≤1000∧nO 0 g=nO (qY x.2 (d.body.nodes.drop x.1)) (g.drop (i+1))) (fun x=>[(5,InD x.1),(3,InD x.2)]) (fun x=>[]) (fun _=>(boF (qD g),true)) (0,a+5+min 220 d.name.size) ⟨by simp,by dsimp only;omega,hW⟩ rfl rfl rfl ?_
   rintro G' ⟨k,b⟩ ih' ⟨hk,hb,hV⟩
   dsimp only at hk hb hV ih' ⊢
   by_cases hkx:k<d.body.nodes.length
   ·obtain⟨n,hnn⟩:=exEq (d.body.nodes[k]);have hni:∀h,d.body.nodes[k]'h=n:=fun _=>hnn.symm
    have hwn:=hwd.body.nodes n (by rw[hnn];exact List.getElem_mem hkx);have hnk:=hwn.kids.1;have hnt:=hwn.text;simp only[dF] at hnk;have hm1:(bif leI 220 ((List.map ikF n.kids).length:Int) then (220:Int) else ((List.map ikF n.kids).length:Int))=((min 220 n.kids.length:Nat):Int):=by rw[List.length_map];exact wO 220 n.kids.length
    have hm2:IntKind.i64.wrap ((bif leI 220 (szS n.text:Int) then (220:Int) else (szS n.text:Int)).tdiv 20)=((min 220 n.text.size / 20:Nat):Int):=by
     rw[show(bif leI 220 (szS n.text:Int) then (220:Int) else (szS n.text:Int))=((min 220 n.text.size:Nat):Int) from wO 220 (szS n.text)];rw[show(((min 220 n.text.size:Nat):Int).tdiv 20)=((min 220 n.text.size / 20:Nat):Int) from (Int.ofNat_tdiv _ 20).symm];exact wrap_i64 (by unfold Go.Sl.I64;omega)
    rw[List.drop_eq_getElem_cons hkx,←hnn,qY] at hV
    by_cases h3:b<220
    ·rw[if_pos h3] at hV;have hnw:oG n=1+min 220 n.kids.length+min 220 n.text.size / 20:=rfl
     repeat' first|exact k9|refine k2 ?_|apply kA|apply kI;intro hc|apply kL;intro hl|((simp only[hdi,hni])<;>conv=>whnf)|((simp only[hm1,hm2])<;>conv=>whnf)|(((apply SdA.m;exact Nd.i (by omega)))<;>conv=>whnf)|refine k8 ?_|fail
     apply kCt [1,3,4,5] [];conv=>whnf
     refine ih' (k+1,b+oG n) _ _ _ (by dsimp only;omega) ⟨by dsimp only;omega,by dsimp only;omega,hV⟩ rfl ?_ rfl;have e:((b+oG n:Nat):Int)=(b:Int)+1+((min 220 n.kids.length:Nat):Int)+((min 220 n.text.size / 20:Nat):Int):=by rw[hnw];omega
     dsimp only;show _=jc [(5,InD ((k+1:Nat):Int)),(3,InD ((b+oG n:Nat):Int))] _
     rw[e];rfl
    ·rw[if_neg h3] at hV
     repeat' first|exact k9|refine k2 ?_|apply kA|apply kI;intro hc|apply kL;intro hl|((simp only[hdi,hni])<;>conv=>whnf)|refine k8 ?_|fail
     apply kCt [1,3,4] [];conv=>whnf
     refine ih (i+1,b) _ _ _ (by dsimp only;omega) ⟨by dsimp only;omega,hb,hV⟩ rfl rfl rfl
   ·rw[List.drop_of_length_le (by omega),qY] at hV
    repeat' first|exact k9|refine k2 ?_|apply kA|apply kI;intro hc|apply kL;intro hl|((simp only[hdi])<;>conv=>whnf)|refine k8 ?_|fail
    apply kCt [1,3,4] [];conv=>whnf
    refine ih (i+1,b) _ _ _ (by dsimp only;omega) ⟨by dsimp only;omega,hb,hV⟩ rfl rfl rfl
  ·rw[if_neg h2] at hW
   repeat' first|exact k9|refine k2 ?_|apply kA|apply kI;intro hc|apply kL;intro hl|((simp only[hdi])<;>conv=>whnf)|refine k8 ?_|fail
   exact aq.b (by rw[qD,hW,dI];exact decide_eq_decide.2 (by omega)) rfl
 ·rw[List.drop_of_length_le (by omega),nO] at hW
  repeat' first|exact k9|refine k2 ?_|apply kA|apply kI;intro hc|refine k8 ?_|apply kL;intro hl
  exact aq.b (by rw[qD,hW,dI];exact decide_eq_decide.2 (by omega)) rfl⟩
instance(kind sa sb sc sd:Int)(text:ByteArray)(lo hi:Int)(K:List (List F))(l:List Tre):C 85 [.ag [byF kind,.vl (.int .u64 sa),.vl (.int .u64 sb),.vl (.int .u64 sc),.vl (.int .u64 sd),stF text,inF lo,inF hi,.sl K],lA l]
  (aE (ofP ⟨kind,⟨sa,sb,sc,sd⟩,text,lo,hi,[]⟩ l).1) false ((⟨kind,⟨sa,sb,sc,sd⟩,text,lo,hi,[]⟩:Nod).wf∧l.length≤1466015503701∧(∀t∈l,Sm t)∧tot l+1≤1466015503701):=⟨fun h=>by
 refine kf rfl rfl ?_;repeat' first|exact k9|refine k2 ?_|apply kA|apply kI;intro hc|refine k8 ?_|apply kL;intro hl
 all_goals exact aq.i rfl⟩
instance(t:Tre)(lo hi:Int):C 40 [inF lo,inF hi,aE t] (aE (ofP ⟨6,.zero,⟨#[]⟩,lo,hi,[]⟩ [t]).1) false (Sm t∧(-1000000≤lo∧lo≤1000000)∧(-1000000≤hi∧hi≤1000000)):=⟨fun ⟨hs,h1,h2⟩=>by
 have hpre:(⟨6,⟨0,0,0,0⟩,⟨#[]⟩,lo,hi,[]⟩:Nod).wf∧[t].length≤1466015503701∧(∀x∈[t],Sm x)∧tot [t]+1≤1466015503701:=⟨CQ h1 h2,by simp,by simpa using hs,by have:=hs.le;simp[tot];omega⟩
 have inst:C 85 [.ag [byF 6,.vl (.int .u64 0),.vl (.int .u64 0),.vl (.int .u64 0),.vl (.int .u64 0),stF ⟨#[]⟩,inF lo,inF hi,.sl []],.sl [dm t]] (aE (ofP ⟨6,.zero,⟨#[]⟩,lo,hi,[]⟩ [t]).1) false True:=⟨fun _=>KC.h (P:=Tryz.prog) (Γ:=X1.Γ) (f:=85) (l:=[.ag [byF 6,.vl (.int .u64 0),.vl (.int .u64 0),.vl (.int .u64 0),.vl (.int .u64 0),stF ⟨#[]⟩,inF lo,inF hi,.sl []],lA [t]]) hpre⟩
 refine kf rfl rfl ?_;repeat' first|exact k9|refine k2 ?_|apply kA|apply kI;intro hc|refine k8 ?_|apply kL;intro hl
 all_goals exact aq.i rfl⟩
instance(l:List Tre):C 42 [lA l] (aE (ofP eC l).1) false (l.length≤100000∧(∀t∈l,Sm t)∧tot l≤100000):=⟨fun ⟨h1,h2,h3⟩=>by
 have hpre:(⟨4,⟨0,0,0,0⟩,⟨#[]⟩,0,0,[]⟩:Nod).wf∧l.length≤1466015503701∧(∀x∈l,Sm x)∧tot l+1≤1466015503701:=⟨la,by omega,h2,by omega⟩
 refine kf rfl rfl ?_;repeat' first|exact k9|refine k2 ?_|apply kA|apply kI;intro hc|refine k8 ?_|apply kL;intro hl
 all_goals exact aq.i rfl⟩
instance(t:Tre):C 43 [aE t] (b8 [⟨⟨#[97]⟩,t⟩]) false True:=⟨fun _=>by
 refine kf rfl rfl ?_;repeat' first|exact k9|refine k2 ?_|apply kA|apply kI;intro hc|refine k8 ?_|apply kL;intro hl
 all_goals exact aq.i rfl⟩
instance(l:List Tre):C 39 [lA l] (aE (ofP dC l).1) false (l.length≤100000∧(∀t∈l,Sm t)∧tot l≤100000):=⟨fun ⟨h1,h2,h3⟩=>by
 have hpre:(⟨5,⟨0,0,0,0⟩,⟨#[]⟩,0,0,[]⟩:Nod).wf∧l.length≤1466015503701∧(∀x∈l,Sm x)∧tot l+1≤1466015503701:=⟨iS,by omega,h2,by omega⟩
 refine kf rfl rfl ?_;repeat' first|exact k9|refine k2 ?_|apply kA|apply kI;intro hc|refine k8 ?_|apply kL;intro hl
 all_goals exact aq.i rfl⟩
instance(t:Tre)(way at_:Int):C 41 [aE t,byF way,inF at_] (t2F (D5 t way at_)) false (t.wf∧0≤way∧way≤255):=⟨fun ⟨ht,h0,h1⟩=>by
 rw[D5];have hpre:([⟨⟨#[97]⟩,t⟩]:List Dfn).length≤1000∧(∀d∈([⟨⟨#[97]⟩,t⟩]:List Dfn),d.wf)∧([]:List Int).length≤1000000∧0≤way∧way≤255:=⟨by simp,by intro d hd;simp only[List.mem_singleton] at hd;subst hd;exact⟨by show(1:Nat)≤_;decide,ht⟩,by simp,h0,h1⟩
 obtain⟨g,hg⟩:∃g:List Dfn,g=[⟨⟨#[97]⟩,t⟩]:=⟨_,rfl⟩
 rw[←hg] at hpre ⊢;have i1:C 43 [aE t] (b8 g) false True:=⟨fun _=>by rw[hg];exact KC.h trivial⟩
 obtain⟨r,hr⟩:=exEq (aT g 2 way 0 [] at_);have i2:C 21 [b8 g,.ag [byF 2,byF way,inF 0,.sl [],inF at_]] (.tp [b8 r.1,inF r.2]) false True:=⟨fun _=>by rw[hr];exact KC.h (l:=[b8 g,.ag [byF 2,byF way,inF 0,isF [],inF at_]]) hpre⟩
 rw[←hr];have hrl:r.1.length≤1000:=by rw[hr];exact(uO hpre.1 hpre.2.1 hpre.2.2.1).1
 refine kf rfl rfl ?_;repeat' first|exact k9|refine k2 ?_|apply kA|apply kI;intro hc|refine k8 ?_|apply kL;intro hl
 ·rw[if_neg (by omega)];rw[show r.1.headD ⟨⟨#[]⟩,.zero⟩=r.1[0] from by rw[List.headD_eq_head?_getD,List.head?_eq_getElem?,List.getElem?_eq_getElem (by omega)];rfl];exact aq.i rfl
 ·rw[if_pos (by omega)];exact aq.i rfl
 ·rw[if_pos (by omega)];exact aq.i rfl⟩
end Go.Km
end
section
namespace Go.aa
open Go Go.Km
set_option maxRecDepth 100000
def cN(l:List UInt8):Tre:=qQ ⟨2,.zero,⟨l.toArray⟩,0,0,[]⟩
def Aj(lo hi:Int)(t:Tre):Tre:=(ofP ⟨6,.zero,⟨#[]⟩,lo,hi,[]⟩ [t]).1
end Go.aa
namespace Go.Km
open Go Go.Vc Go.Proofs Go.aa Go.Proofs.YtpbichnnflabdaaGreatDoor
set_option maxRecDepth 100000
set_option maxHeartbeats 0
theorem MW{t:Tre}(h:t.wf∧t.nodes.length≤500000):Sm t:=⟨h.1,h.2⟩
theorem Kb(l:List UInt8)(h:l.length≤1000):Sm (cN l):=MW ⟨xG ⟨by dsimp only;omega,by unfold Bts.wf Bts.zero;dsimp only;omega,by show l.toArray.size≤_;simp;omega,by unfold Go.Sl.I64;dsimp only;omega,by unfold Go.Sl.I64;dsimp only;omega,⟨Nat.zero_le _,fun x hx=>by cases hx⟩⟩,by show 1≤_;omega⟩
theorem KR{lo hi:Int}{t:Tre}(h1:-1000000≤lo∧lo≤1000000)(h2:-1000000≤hi∧hi≤1000000)(ht:t.wf∧t.nodes.length≤1000):(Aj lo hi t).wf∧(Aj lo hi t).nodes.length≤t.nodes.length+1:=by
 have e:tot [t]=t.nodes.length:=by simp[tot]
 exact⟨Bu (CQ h1 h2) (by simpa using ht.1) (by rw[e];unfold bV;omega),by have:=Iz (n:=⟨6,.zero,⟨#[]⟩,lo,hi,[]⟩) (l:=[t]);rw[e] at this;exact this⟩
theorem Bc{t:Tre}(ht:t.wf∧t.nodes.length≤1000)(h:BX t t=true):C 29 [aE t,aE t] (boF true) true True:=⟨fun _=>by
 have:=KC.h (P:=Tryz.prog) (Γ:=X1.Γ) (f:=29) (l:=[aE t,aE t]) ⟨ht.1,ht.1⟩;rw[h] at this;exact this⟩
theorem txw(l:List UInt8)(h:l.length≤1000):(cN l).wf∧(cN l).nodes.length≤1000:=⟨(Kb l h).wf,by show 1≤_;omega⟩
end Go.Km
end
section
namespace Go.aa
open Go Go.Sl Go.Km
def lq(k:Int):List Fl→Int
 | []=>0
 | f :: r=>if (k=5∧f.fail=false)∨(k=4∧f.succ=false) then (r.length:Int) else (if k=5∧f.succ=false then 1 else 0)+lq k r
def fZ(l:List Fl)(ns:List Nod):Int:=(ns.map fun n=>lq n.kind (bA l n.kids)).sum
def vt(g:List Dfn):Int:=if bT g=0 then (g.map fun d=>fZ (aJ g (cJ g) d.body.nodes) d.body.nodes).sum else 0
theorem xr(k:Int):∀l:List Fl,0≤lq k l∧lq k l≤l.length
 | []=>⟨Int.le_refl _,Int.le_refl _⟩
 | f :: r=>by
  have:=xr k r;unfold lq;simp only[List.length_cons]
  split
  ·omega
  ·split<;>omega
end Go.aa
end
section
namespace Go.aa
open Go Go.Km
theorem Ad(l:List Fl)(ns:List Nod){i:Nat}(h:i<ns.length):fZ l (ns.take (i+1))=fZ l (ns.take i)+lq ns[i].kind (bA l ns[i].kids):=by
 rw[List.take_succ_eq_append_getElem h,fZ,List.map_append,List.sum_append];simp[fZ]
theorem Cz(l:List Fl):∀(ns:List Nod),(∀n∈ns,n.kids.length≤1000000)→0≤fZ l ns∧fZ l ns≤1000000 * ns.length
 | [],_=>by simp[fZ]
 | n :: ns,h=>by
  have h1:=Cz l ns fun x hx=>h x (by simp[hx])
  have h2:=xr n.kind (bA l n.kids);have h3:(bA l n.kids).length=n.kids.length:=by simp[bA]
  have h4:=h n (by simp);simp only[fZ,List.map_cons,List.sum_cons,List.length_cons] at h1 ⊢;omega
theorem GB{t:Tre}(hR:aw t){k:Nat}(hk:k<t.nodes.length):t.nodes[k].kids.length≤t.nodes.length:=by
 have hr:=kg hR;have h1:=(hr.kids k _ (List.getElem?_eq_getElem hk)).length_le;rw[List.length_cons,hr.len] at h1;omega
end Go.aa
namespace Go.Km
open Go Go.Vc Go.Proofs Go.aa Go.Proofs.YtpbichnnflabdaaGreatDoor
set_option maxRecDepth 100000
set_option maxHeartbeats 0
instance(k a b c d:Int)(tx:ByteArray)(lo hi:Int)(ks:List Int)(l:List Fl):C 45 [.ag (iw k a b c d tx lo hi (ks.map ikF)),iz l] (inF (lq k (bA l ks))) true (ks.length≤1000000∧∀x∈ks,0≤x∧x<l.length):=⟨fun ⟨hkl,hk⟩=>by
 refine kf rfl rfl ?_;repeat' first|exact k9|refine k2 ?_|apply kA|apply kI;intro hc|refine k8 ?_|apply kL;intro hl
 apply kCt [1,2,5,10,11,12] [];conv=>whnf
 obtain⟨R,hR⟩:=exEq (lq k (bA l ks));rw[←hR];refine Lp.ind (fun x:Nat×Int=>ks.length - x.1) (fun x=>x.1≤ks.length∧(0≤x.2∧x.2≤x.1)∧R=x.2+lq k (bA l (ks.drop x.1))) (fun x=>[(12,InD x.1),(5,InD x.2)]) (fun _=>[]) (fun _=>_) (0,0) ⟨Nat.zero_le _,by dsimp only;omega,by rw[hR];simp⟩ rfl rfl rfl ?_
 rintro G ⟨i,z⟩ ih ⟨hi,hz,hT⟩
 dsimp only at hi hz hT ih ⊢
 by_cases hx:i<ks.length
 ·have hyl:=hk _ (List.getElem_mem hx);have hyn:ks[i].toNat<l.length:=by omega
  have hll:(bA l (ks.drop (i+1))).length=ks.length - (i+1):=by simp[bA]
  rw[List.drop_eq_getElem_cons hx,show bA l (ks[i] :: ks.drop (i+1))=l.getD ks[i].toNat .bot :: bA l (ks.drop (i+1)) from rfl,List.getD_eq_getElem?_getD,List.getElem?_eq_getElem hyn,Option.getD_some,lq,hll] at hT;have hks:k=5∨k=4∨(k≠5∧k≠4):=by omega
  rcases hks with rfl|rfl|⟨h5,h4⟩
  all_goals
   repeat' first|exact k9|refine k2 ?_|apply kA|apply kI;intro hc|refine k8 ?_|apply kL;intro hl
   all_goals first
    | (refine aq.n ?_ rfl;simp_all [Fl.succ];omega)
    | ((apply kCt [1,2,5,10,11,12] [];conv=>whnf);refine ih (i+1,z) _ _ _ (by dsimp only;omega) ⟨by dsimp only;omega,by dsimp only;omega,?_⟩ rfl rfl rfl;clear ih;simp_all [Fl.succ];done)
    | ((apply kCt [1,2,5,10,11,12] [];conv=>whnf);refine ih (i+1,z+1) _ _ _ (by dsimp only;omega) ⟨by dsimp only;omega,by dsimp only;omega,?_⟩ rfl rfl rfl;clear ih;simp_all [Fl.succ];omega)
 ·obtain rfl:i=ks.length:=by omega
  rw[List.drop_length] at hT
  repeat' first|exact k9|refine k2 ?_|apply kA|apply kI;intro hc|refine k8 ?_|apply kL;intro hl
  exact aq.n (by rw[hT];simp[bA,lq]) rfl⟩
instance(g:List Dfn):C 19 [b8 g] (inF (vt g)) true (g.length≤1000∧∀d∈g,d.wf):=⟨fun hp=>by
 by_cases hc0:bT g=0
 ·have hm:=b6 hc0;have ok:=cY hm;have hpm:(g.length≤1000∧∀d∈g,d.wf)∧cA g=0:=⟨hp,hm⟩
  have hn:=hp.1;obtain⟨R,hR⟩:=exEq (vt g);have hR1:R=(g.map fun d=>fZ (aJ g (cJ g) d.body.nodes) d.body.nodes).sum:=by rw[hR,vt,if_pos hc0]
  rw[←hR];have hfal:(bg g).length=g.length:=by simp[bg]
  refine kf rfl rfl ?_;repeat' first|exact k9|refine k2 ?_|apply kA|apply kI;intro hc|refine k8 ?_|apply kL;intro hl
  apply kCt [3,5,21,22,23] [];conv=>whnf
  obtain⟨f,hf⟩:∃f:Dfn→Int,f=fun d=>fZ (aJ g (cJ g) d.body.nodes) d.body.nodes:=⟨_,rfl⟩
  rw[←hf] at hR1;refine Lp.ind (fun x:Nat×Int=>g.length - x.1) (fun x=>x.1≤g.length∧(0≤x.2∧x.2≤20000000000 * (x.1:Int))∧x.2=((g.take x.1).map f).sum) (fun x=>[(23,InD x.1),(5,InD x.2)]) (fun _=>[]) (fun _=>_) (0,0) ⟨Nat.zero_le _,by dsimp only;omega,rfl⟩ rfl rfl rfl ?_
  rintro G ⟨i,z⟩ ih ⟨hi,hz,hT⟩
  dsimp only at hi hz hT ih ⊢
  by_cases hx:i<g.length
  ·obtain⟨d,hd⟩:=exEq (g[i]);have hgi:∀h:i<g.length,g[i]'h=d:=fun _=>hd.symm
   have hdm:d∈g:=by rw[hd];exact List.getElem_mem hx
   have hdw:=(hp.2 _ hdm).body;have hdR:=ok.right hdm;have hds:=ok.small hdm;obtain⟨fl,hfl⟩:=exEq (aJ g (cJ g) d.body.nodes);have hfll:fl.length=d.body.nodes.length:=by rw[hfl,bN]
   have hfi2:∀h:i<(bg g).length,(bg g)[i]'h=fl:=fun h=>by
    simp only[bg,List.getElem_map,hfl,hd]
   have hfd:f d=fZ fl d.body.nodes:=by rw[hf,hfl]
   have hkn:∀n∈d.body.nodes,n.kids.length≤1000000:=fun n hn=>by
    obtain⟨k,hk,rfl⟩:=List.getElem_of_mem hn;have:=GB hdR hk;omega
   have hbb:=fun j=>Cz fl (d.body.nodes.take j) (fun n hn=>hkn n (List.mem_of_mem_take hn))
   repeat' first|exact k9|refine k2 ?_|apply kA|apply kI;intro hc|apply kL;intro hl|((simp only[hgi])<;>conv=>whnf)|refine k8 ?_|fail
   apply kCt [3,5,6,21,22,23,30,31,32] [];conv=>whnf
   refine Lp.ind (fun j:Nat=>d.body.nodes.length - j) (fun j=>j≤d.body.nodes.length) (fun j=>[(32,InD j),(5,InD (z+fZ fl (d.body.nodes.take j)))]) (fun _=>[]) (fun _=>_) 0 (Nat.zero_le _) rfl (by rw[show fZ fl (d.body.nodes.take 0)=0 from rfl,Int.add_zero];rfl) rfl ?_
   rintro G2 j ih2 hj
   by_cases hy:j<d.body.nodes.length
   ·have hst:=Ad fl d.body.nodes hy;have hb1:=hbb j;have hb2:=xr d.body.nodes[j].kind (bA fl d.body.nodes[j].kids);have hkl:=hkn _ (List.getElem_mem hy);rw[List.length_take] at hb1;have hb3:(bA fl d.body.nodes[j].kids).length=d.body.nodes[j].kids.length:=by simp[bA]
    have hpk:d.body.nodes[j].kids.length≤1000000∧∀x∈d.body.nodes[j].kids,0≤x∧x<fl.length:=⟨hkl,fun x hx=>by have:=hdR.kok j _ (List.getElem?_eq_getElem hy) x hx;omega⟩
    repeat' first|exact k9|refine k2 ?_|apply kA|apply kI;intro hc|apply kL;intro hl|((simp only[hfi2])<;>conv=>whnf)|refine k8 ?_|fail
    apply kCt [3,5,6,21,22,23,30,31,32] [];conv=>whnf
    exact ih2 (j+1) _ _ _ (by omega) (by omega) rfl (by rw[hst,←Int.add_assoc];rfl) rfl
   ·obtain rfl:j=d.body.nodes.length:=by omega
    have hb1:=hbb d.body.nodes.length;rw[List.take_length] at hb1 ⊢;clear ih2;have hst:((g.take (i+1)).map f).sum=z+fZ fl d.body.nodes:=by
     rw[List.take_succ_eq_append_getElem hx,List.map_append,List.sum_append,←hT,←hd,List.map_cons,List.map_nil,List.sum_cons,hfd,List.sum_nil,Int.add_zero]
    repeat' first|exact k9|refine k2 ?_|apply kA|apply kI;intro hc|refine k8 ?_|apply kL;intro hl
    apply kCt [3,5,21,22,23] [];conv=>whnf
    exact ih (i+1,z+fZ fl d.body.nodes) _ _ _ (by dsimp only;omega) ⟨by dsimp only;omega,by dsimp only;omega,by rw[hst]⟩ rfl rfl rfl
  ·obtain rfl:i=g.length:=by omega
   rw[List.take_length] at hT
   repeat' first|exact k9|refine k2 ?_|apply kA|apply kI;intro hc|refine k8 ?_|apply kL;intro hl
   exact aq.n (by rw[hR1,hT]) rfl
 ·rw[show vt g=0 from by rw[vt,if_neg hc0]];refine kf rfl rfl ?_;repeat' first|exact k9|refine k2 ?_|apply kA|apply kI;intro hc|refine k8 ?_|apply kL;intro hl
  all_goals exact aq.n rfl rfl⟩
end Go.Km
end
section
namespace Go.aa
open Go Go.Km
set_option maxRecDepth 100000
def m3:Tre:=qQ ⟨1,⟨0,0,0,0⟩,⟨#[]⟩,0,0,[]⟩
def tF(l:List Tre):Tre:=(ofP dC l).1
def sqT(l:List Tre):Tre:=(ofP eC l).1
def AH:Tre:=tF [Aj 0 (-1) (cN [120]),cN [121],cN [122]]
theorem v1:D5 AH 1 0=(Aj 0 (-1) (cN [120]),true):=by decide +kernel
theorem v2:D5 (tF [m3,cN [121]]) 2 0=(cN [121],true):=by decide +kernel
theorem v3:D5 (sqT [cN [120],m3,cN [121]]) 3 1=(sqT [cN [120],m3],true):=by decide +kernel
theorem v4:bb [⟨⟨#[97]⟩,tF [cN [120],cN [121]]⟩]=[]:=by decide +kernel
theorem v5:vt [⟨⟨#[97]⟩,AH⟩]=2:=by decide +kernel
end Go.aa
namespace Go.Km
open Go Go.Vc Go.Proofs Go.aa Go.Proofs.YtpbichnnflabdaaGreatDoor
set_option maxRecDepth 100000
set_option maxHeartbeats 0
theorem Bl (X Y Z N R F1 C1 S1 S2 C2:Tre) (G1 G2:List Dfn) (hYs:BX Y Y=true)
  [i1:C 24 [stF ⟨#[120]⟩] (aE X) false True]
  [i2:C 24 [stF ⟨#[121]⟩] (aE Y) false True]
  [i3:C 24 [stF ⟨#[122]⟩] (aE Z) false True]
  [i4:C 38 [.ag [.vl (.int .u64 0),.vl (.int .u64 0),.vl (.int .u64 0),.vl (.int .u64 0)]] (aE N) false True]
  [i5:C 40 [inF 0,inF (-1),aE X] (aE R) false True]
  [i6:C 39 [.sl [dm R,dm Y,dm Z]] (aE F1) false True]
  [i7:C 39 [.sl [dm N,dm Y]] (aE C1) false True]
  [i8:C 42 [.sl [dm X,dm N,dm Y]] (aE S1) false True]
  [i9:C 42 [.sl [dm X,dm N]] (aE S2) false True]
  [i10:C 39 [.sl [dm X,dm Y]] (aE C2) false True]
  [i11:C 43 [aE C2] (b8 G1) false True]
  [i12:C 43 [aE F1] (b8 G2) false True]
  [i20:C 41 [aE F1,byF 1,inF 0] (.tp [aE R,boF true]) false True]
  [i21:C 41 [aE C1,byF 2,inF 0] (.tp [aE Y,boF true]) false True]
  [i22:C 41 [aE S1,byF 3,inF 1] (.tp [aE S2,boF true]) false True]
  [i23:C 22 [b8 G1] (.sl []) false True]
  [i24:C 19 [b8 G2] (inF 2) true True]
  [i27:C 29 [aE R,aE R] (boF true) true True]
  [i28:C 29 [aE Y,aE Y] (boF true) true True]
  [i29:C 29 [aE S2,aE S2] (boF true) true True]:Pure Tryz.prog X1.Γ 17 [] (boF true) true:=by
 have hX:=qA [] [42,39];refine fw hX rfl rfl ?_;repeat' first|exact k9|refine k2 ?_|apply kA|apply kI;intro hc|(apply Sn.go hX;conv=>whnf)|((first|(refine lM i6 rfl rfl trivial ?_)|(refine lM i7 rfl rfl trivial ?_)|(refine lM i8 rfl rfl trivial ?_)|(refine lM i9 rfl rfl trivial ?_)|(refine lM i10 rfl rfl trivial ?_))<;>conv=>whnf)|refine k8 ?_|apply kL;intro hl
 exact aq.b rfl rfl
theorem JZ{l:List Tre}(h:∀t∈l,t.nodes.length≤1000):tot l≤1000 * l.length:=by
 induction l with
 | nil=>simp[tot]
 | cons a l ih=>
  have h1:=h a (by simp);have h2:=ih fun t ht=>h t (by simp[ht])
  simp only[tot,List.map_cons,List.sum_cons,List.length_cons] at h2 ⊢;omega
theorem so{n:Nod}(hn:n.wf){l:List Tre}(hl:∀t∈l,t.wf∧t.nodes.length≤1000)(hc:l.length≤10):(ofP n l).1.wf:=by
 have:=JZ fun t ht=>(hl t ht).2
 exact Bu hn (fun t ht=>(hl t ht).1) (by unfold bV;omega)
theorem yq{f:Nat}{n:Nod}{l:List Tre}[h:C f [lA l] (aE (ofP n l).1) false (l.length≤100000∧(∀t∈l,Sm t)∧tot l≤100000)](hl:∀t∈l,t.wf∧t.nodes.length≤1000)(hc:l.length≤10):C f [.sl (l.map dm)] (aE (ofP n l).1) false True:=⟨fun _=>h.h ⟨by omega,fun t ht=>⟨(hl t ht).1,by have:=(hl t ht).2;omega⟩,by have:=JZ fun t ht=>(hl t ht).2;omega⟩⟩
theorem LD{p:Tre→Prop}{a b:Tre}(ha:p a)(hb:p b):∀t∈[a,b],p t:=fun t ht=>by
 simp only[List.mem_cons,List.not_mem_nil,or_false] at ht;rcases ht with rfl|rfl
 ·exact ha
 ·exact hb
theorem MD{p:Tre→Prop}{a b c:Tre}(ha:p a)(hb:p b)(hc:p c):∀t∈[a,b,c],p t:=fun t ht=>by
 simp only[List.mem_cons,List.not_mem_nil,or_false] at ht;rcases ht with rfl|rfl|rfl
 ·exact ha
 ·exact hb
 ·exact hc
theorem xb{t x:Tre}{w a:Int}{b:Bool}(ht:t.wf∧t.nodes.length≤1000)(hw:0≤w∧w≤255)(h:D5 t w a=(x,b)):C 41 [aE t,byF w,inF a] (.tp [aE x,boF b]) false True:=⟨fun _=>by
 have:=KC.h (P:=Tryz.prog) (Γ:=X1.Γ) (f:=41) (l:=[aE t,byF w,inF a]) ⟨ht.1,hw⟩;rw[h] at this;exact this⟩
theorem HO{t:Tre}(ht:t.wf):([⟨⟨#[97]⟩,t⟩]:List Dfn).length≤1000∧∀d∈([⟨⟨#[97]⟩,t⟩]:List Dfn),d.wf:=⟨by simp,fun d hd=>by
 simp only[List.mem_singleton] at hd;subst hd;exact⟨by show(1:Nat)≤_;omega,ht⟩⟩
instance:C 17 [] (boF true) true True:=⟨fun _=>by
 have hX:=txw [120] (by simp);have hY:=txw [121] (by simp);have hZ:=txw [122] (by simp);have hN:m3.wf∧m3.nodes.length≤1000:=⟨xG ⟨by dsimp only;omega,by unfold Bts.wf;dsimp only;omega,Nat.zero_le _,by unfold Go.Sl.I64;dsimp only;omega,by unfold Go.Sl.I64;dsimp only;omega,⟨Nat.zero_le _,fun x hx=>by cases hx⟩⟩,by show 1≤_;omega⟩
 have hR:(Aj 0 (-1) (cN [120])).wf∧(Aj 0 (-1) (cN [120])).nodes.length≤1000:=⟨(KR (by omega) (by omega) hX).1,by decide +kernel⟩
 let W:=fun t:Tre=>t.wf∧t.nodes.length≤1000
 have f1:=MD (p:=W) hR hY hZ;have c1:=LD (p:=W) hN hY;have s1:=MD (p:=W) hX hN hY;have s2:=LD (p:=W) hX hN;have c2:=LD (p:=W) hX hY;have hF1:AH.wf∧AH.nodes.length≤1000:=⟨so iS f1 (by simp),by decide +kernel⟩
 have hC1:(tF [m3,cN [121]]).wf∧(tF [m3,cN [121]]).nodes.length≤1000:=⟨so iS c1 (by simp),by decide +kernel⟩
 have hS1:(sqT [cN [120],m3,cN [121]]).wf∧(sqT [cN [120],m3,cN [121]]).nodes.length≤1000:=⟨so la s1 (by simp),by decide +kernel⟩
 have hS2:(sqT [cN [120],m3]).wf∧(sqT [cN [120],m3]).nodes.length≤1000:=⟨so la s2 (by simp),by decide +kernel⟩
 have hC2:(tF [cN [120],cN [121]]).wf∧(tF [cN [120],cN [121]]).nodes.length≤1000:=⟨so iS c2 (by simp),by decide +kernel⟩
 exact Bl (cN [120]) (cN [121]) (cN [122]) m3 (Aj 0 (-1) (cN [120])) AH (tF [m3,cN [121]]) (sqT [cN [120],m3,cN [121]]) (sqT [cN [120],m3]) (tF [cN [120],cN [121]]) [⟨⟨#[97]⟩,tF [cN [120],cN [121]]⟩] [⟨⟨#[97]⟩,AH⟩] (by decide +kernel)
  (i1:=⟨fun _=>KC.h trivial⟩) (i2:=⟨fun _=>KC.h trivial⟩) (i3:=⟨fun _=>KC.h trivial⟩) (i4:=⟨fun _=>KC.h trivial⟩)
  (i5:=⟨fun _=>KC.h ⟨⟨hX.1,by have:=hX.2;omega⟩,by omega,by omega⟩⟩)
  (i6:=yq f1 (by simp)) (i7:=yq c1 (by simp)) (i8:=yq s1 (by simp)) (i9:=yq s2 (by simp)) (i10:=yq c2 (by simp))
  (i11:=⟨fun _=>KC.h trivial⟩) (i12:=⟨fun _=>KC.h trivial⟩)
  (i20:=xb hF1 (by omega) v1) (i21:=xb hC1 (by omega) v2) (i22:=xb hS1 (by omega) v3)
  (i23:=⟨fun _=>by
   have:=KC.h (P:=Tryz.prog) (Γ:=X1.Γ) (f:=22) (l:=[b8 [⟨⟨#[97]⟩,tF [cN [120],cN [121]]⟩]]) (HO hC2.1);rw[v4] at this;exact this⟩)
  (i24:=⟨fun _=>by
   have:=KC.h (P:=Tryz.prog) (Γ:=X1.Γ) (f:=19) (l:=[b8 [⟨⟨#[97]⟩,AH⟩]]) (HO hF1.1);rw[v5] at this;exact this⟩)
  (i27:=Bc hR (by decide +kernel)) (i28:=Bc hY (by decide +kernel)) (i29:=Bc hS2 (by decide +kernel))⟩
end Go.Km
end
section
namespace Go.aa
open Go Go.Km
theorem rZ{g:List Dfn}{s:Sto}(h:s∈bb g):s.p.length≤2000:=by
 unfold bb at h
 split at h
 ·rename_i hc;obtain⟨x,hx,h⟩:=List.mem_flatMap.1 h;obtain⟨_,_,e,_⟩:=jI.1 h;rw[e];exact(rR (b6 hc) hx).2
 ·cases h
theorem ug{g:List Dfn}{s:Sto}(h:s∈bb g):0≤s.way∧s.way≤255:=by
 unfold bb at h
 split at h
 ·obtain⟨x,hx,h⟩:=List.mem_flatMap.1 h;obtain⟨_,_,_,h1,h2,_⟩:=jI.1 h;omega
 ·cases h
theorem uE{g:List Dfn}(hn:g.length≤1000)(hw:∀d∈g,d.wf):(bb g).length≤160000000000:=by
 unfold bb
 split
 ·rename_i hc;have hm:=b6 hc;have ok:=cY hm;have hsm:∀d∈g,d.wf∧d.body.nodes.length≤20000:=fun d hd=>⟨hw d hd,by have:=ok.small hd;omega⟩
  have hAl:∀y∈kP g,(iy g y).length≤80000:=fun y hy=>by
   obtain⟨q,hq⟩:=KN hm (rR hm hy).1;have:=hH (f:=dV g y) 20000 (List.range 4) (fun k _=>by
    unfold dV
    split
    ·exact Nat.zero_le _
    ·exact Nat.le_trans (gF g y k (iE g y)) (pv hsm hq))
   rw[List.length_range] at this;rw[sf];omega
  have hll:(kP g).length≤2000000:=by
   rw[qa g hm];exact Nat.le_trans (lD g.length (Nat.le_refl _) fun d hd=>Nat.le_trans (oF (ok.right hd)) (by have:=ok.small hd;omega)) (by omega)
  have:=hH 80000 (kP g) hAl;have:(kP g).length * 80000≤2000000 * 80000:=Nat.mul_le_mul_right _ hll;omega
 ·exact Nat.zero_le _
end Go.aa
namespace Go.Km
open Go Go.Vc Go.Proofs Go.aa Go.Proofs.YtpbichnnflabdaaGreatDoor
set_option maxRecDepth 100000
set_option maxHeartbeats 0
set_option maxRecDepth 100000
set_option maxHeartbeats 0
instance(g:List Dfn)(t:Tre):C 37 [b8 g,aE t] (isF ((fA g t).map Int.ofNat)) true (g.length≤1000∧t.wf):=⟨fun h=>by
 obtain⟨hn,hw⟩:=h;obtain⟨ns,hns⟩:=exEq (t.nodes);have hnl:ns.length≤2000000000000:=by rw[hns];exact Nat.le_trans hw.len (by decide)
 refine kf rfl rfl ?_;repeat' first|exact k9|refine k2 ?_|apply kA|apply kI;intro hc|refine k8 ?_|apply kL;intro hl
 apply kCt [0,6,7,8] [2,5];conv=>whnf
 rw[←hns];refine Lp.ind (fun z:Nat=>ns.length - z) (fun z=>z≤ns.length) (fun z=>[(8,InD z)]) (fun z=>[(4,.ro 0 4 1 ((fL g ns z).map fun b=>[boF b]))]) (fun _=>_) 0 (Nat.zero_le _) rfl rfl ?_ ?_
 ·rw[I1,List.map_replicate,←List.length_map (f:=qW)];rfl
 rintro G k ih hk
 have hml:=uU g ns k
 by_cases hy:k<ns.length
 ·by_cases h3:ns[k].kind=3
  ·cases hfi:a9 g ns[k].text with
   | some j=>
    have hfn:ib g ns[k].text=(j:Int):=by rw[ib,hfi]
    have hj:j<g.length:=(List.findIdx?_eq_some_iff_getElem.1 hfi).1;have hm:=DS hy h3 hfi
    repeat' first|exact k9|refine k2 ?_|apply kA|apply kI;intro hc|refine k8 ?_|apply kL;intro hl
    apply kCt [0,6,7,8] [2,5];conv=>whnf
    refine ih (k+1) _ _ _ (by omega) (by omega) rfl rfl ?_;have hjn:j=(ib g ns[k].text).toNat:=by rw[hfn];rfl
    rw[hm,List.map_set,hjn];rfl
   | none=>
    have hfn:ib g ns[k].text=-1:=by rw[ib,hfi]
    have hm:=y8 hy (.inr hfi)
    repeat' first|exact k9|refine k2 ?_|apply kA|apply kI;intro hc|refine k8 ?_|apply kL;intro hl
    apply kCt [0,6,7,8] [2,5];conv=>whnf
    refine ih (k+1) _ _ _ (by omega) (by omega) rfl rfl ?_;rw[hm];rfl
  ·have hm:=y8 (g:=g) hy (.inl h3)
   repeat' first|exact k9|refine k2 ?_|apply kA|apply kI;intro hc|refine k8 ?_|apply kL;intro hl
   apply kCt [0,6,7,8] [2,5];conv=>whnf
   refine ih (k+1) _ _ _ (by omega) (by omega) rfl rfl ?_;rw[hm];rfl
 ·obtain rfl:k=ns.length:=by omega
  clear ih
  repeat' first|exact k9|refine k2 ?_|apply kA|apply kI;intro hc|refine k8 ?_|apply kL;intro hl
  apply Stp.mq 8 3 1 rfl rfl;apply kCt [8,32,33,34] [];conv=>whnf
  obtain⟨M,hM⟩:=exEq (fL g ns ns.length);have hcp:=AY g t;rw[←hns,←hM,←hml,←hM] at hcp;rw[←hM] at hml ⊢;rw[hcp];refine Lp.ind (fun z:Nat=>M.length - z) (fun z=>z≤M.length) (fun z=>[(34,InD z)]) (fun z=>[(0,.ro 0 3 1 ((((List.range z).filter fun j=>M.getD j false).map Int.ofNat).map ikF))]) (fun _=>_) 0 (Nat.zero_le _) rfl rfl rfl ?_
  rintro G i ih hi
  have hfl:(((List.range i).filter fun j=>M.getD j false).map Int.ofNat).length≤1000:=by
   rw[List.length_map];exact Nat.le_trans (List.length_filter_le _ _) (by rw[List.length_range];omega)
  by_cases hx:i<M.length
  ·have hsn:∀c:Bool,M[i]=c→((List.range (i+1)).filter fun j=>M.getD j false).map Int.ofNat=((List.range i).filter fun j=>M.getD j false).map Int.ofNat++(if c=true then [(i:Int)] else []):=fun c h=>by
    have e:M.getD i false=c:=by rw[List.getD_eq_getElem?_getD,List.getElem?_eq_getElem hx,Option.getD_some,h]
    rw[List.range_succ,List.filter_append,List.map_append]
    cases c
    ·rw[List.filter_cons_of_neg (by rw[e];decide)];simp
    ·rw[List.filter_cons_of_pos (by rw[e])];simp
   obtain⟨L,hL⟩:=exEq (((List.range i).filter fun j=>M.getD j false).map Int.ofNat);rw[←hL] at hfl hsn ⊢
   repeat' first|exact k9|refine k2 ?_|apply kA|apply kI;intro hc|refine k8 ?_|apply kL;intro hl
   ·have hp:M[i]=true:=by assumption
    apply kCt [8,32,33,34] [];conv=>whnf
    refine ih (i+1) _ _ _ (by omega) (by omega) rfl rfl ?_;rw[hsn true hp,if_pos rfl,List.map_append];rfl
   ·have hp:M[i]=false:=by assumption
    apply kCt [8,32,33,34] [];conv=>whnf
    refine ih (i+1) _ _ _ (by omega) (by omega) rfl rfl ?_;rw[hsn false hp,if_neg (by decide),List.append_nil];rfl
  ·obtain rfl:i=M.length:=by omega
   repeat' first|exact k9|refine k2 ?_|apply kA|apply kI;intro hc|refine k8 ?_|apply kL;intro hl
   refine aq.j rfl ?_;simp only[cB,nF,lk,Nat.beq,cond_true,cond_false];rw[List.all_map,List.all_eq_true];intro x _;rfl⟩
instance(g:List Dfn)(k:Int):C 16 [b8 g,inF k] (isF ((da g k).map Int.ofNat)) false (g.length≤1000∧∀d∈g,d.wf):=⟨fun h=>by
 obtain⟨hn,hw⟩:=h;have hwe:g.length≤1000∧∀d∈g,d.wf:=⟨hn,hw⟩
 by_cases hk:0≤k∧k<g.length
 ·obtain⟨q,rfl⟩:∃q:Nat,k=(q:Int):=⟨k.toNat,by omega⟩
  have hq:q<g.length:=by omega
  have hwq:g.length≤1000∧g[q].body.wf:=⟨hn,(hw _ (List.getElem_mem hq)).body⟩
  by_cases hm:cA g=0
  ·have e:da g (q:Int)=fA g g[q].body:=by
    unfold da;rw[if_neg (by omega),Int.toNat_natCast,List.getD_eq_getElem?_getD,List.getElem?_eq_getElem hq];rfl
   rw[e];refine kf rfl rfl ?_;repeat' first|exact k9|refine k2 ?_|apply kA|apply kI;intro hc|refine k8 ?_|apply kL;intro hl
   all_goals exact aq.i rfl
  ·have e:da g (q:Int)=[]:=by
    unfold da;rw[if_pos (.inr (.inr hm))]
   rw[e];refine kf rfl rfl ?_;repeat' first|exact k9|refine k2 ?_|apply kA|apply kI;intro hc|refine k8 ?_|apply kL;intro hl
   all_goals exact aq.i rfl
 ·have e:da g k=[]:=by
   unfold da;rw[if_pos (by omega)]
  rw[e];refine kf rfl rfl ?_;repeat' first|exact k9|refine k2 ?_|apply kA|apply kI;intro hc|refine k8 ?_|apply kL;intro hl
  all_goals exact aq.i rfl⟩
end Go.Km
end
section
namespace Go.aa
open Go Go.Km
theorem vA{g:List Dfn}{k:Nat}(h:k<g.length)(hm:cA g=0):da g k=fA g g[k].body:=by
 unfold da;rw[if_neg (by omega),Int.toNat_natCast,List.getD_eq_getElem?_getD,List.getElem?_eq_getElem h];rfl
theorem uH{g:List Dfn}(hc:bT g=0){s:Sto}(h:s∈bb g) :
  (aT g s.pass s.way s.r s.p s.at_).2=0∧cI (aT g s.pass s.way s.r s.p s.at_).1<cI g∧
  (aT g s.pass s.way s.r s.p s.at_).1.length=g.length∧∀(k:Nat),k<g.length→∀j∈da (aT g s.pass s.way s.r s.p s.at_).1 k,j∈da g k:=by
 have h0:=(uk hc).1 h;obtain⟨h1,h2,q,H⟩:=sn hc h0;have hm:=b6 hc;have hm':=b6 h1;refine⟨h0,h2,H.len,fun k hk j hj=>?_⟩;have hk2:=hk;rw[←H.len] at hk2;rw[vA hk2 hm'] at hj;rw[vA hk hm];exact H.calls hm hk hk2 ((cY hm').right (List.getElem_mem hk2)) hj
theorem sB(g:List Dfn)(k:Int):(da g k).length≤g.length:=by
 unfold da
 split
 ·exact Nat.zero_le _
 ·unfold fA;exact Nat.le_trans (List.length_filter_le _ _) (by rw[List.length_range];exact Nat.le_refl _)
def D9(l:List Int)(x:Int):Bool:=l.any fun y=>decide (y=x)
theorem Dq{l:List Int}{i:Nat}(h:i<l.length)(x:Int):D9 (l.take (i+1)) x=(D9 (l.take i) x||decide (l[i]=x)):=by
 rw[D9,List.take_succ_eq_append_getElem h,List.any_append,D9];simp
theorem HW{l:List Int}{x:Int}(h:x∈l):D9 l x=true:=List.any_eq_true.2 ⟨x,h,decide_eq_true rfl⟩
end Go.aa
namespace Go.Km
open Go Go.Vc Go.Proofs Go.aa Go.Proofs.YtpbichnnflabdaaGreatDoor
set_option maxRecDepth 100000
set_option maxHeartbeats 0
theorem Me(g:List Dfn)(s:Sto):KC Tryz.prog X1.Γ 21 [b8 g,.ag (AZ s)] (.tp [b8 (aT g s.pass s.way s.r s.p s.at_).1,inF (aT g s.pass s.way s.r s.p s.at_).2]) false (g.length≤1000∧(∀d∈g,d.wf)∧s.p.length≤1000000∧0≤s.way∧s.way≤255):=inferInstance
theorem Ai(g:List Dfn)(hn:g.length≤dF)(hw:∀d∈g,d.wf) :
  Pure Tryz.prog X1.Γ 6 [b8 g] (boF true) true:=by
 simp only[dF] at hn;have hlo:g.length≤dF∧∀d∈g,d.wf:=⟨by unfold dF;omega,hw⟩
 cases hl:qD g with
 | true=>
  refine kf rfl rfl ?_;repeat' first|exact k9|refine k2 ?_|apply kA|apply kI;intro hc|refine k8 ?_|apply kL;intro hl
 | false=>
  obtain⟨h1,h2⟩:=JM hl;have hwe:g.length≤1000∧∀d∈g,d.wf:=⟨by omega,hw⟩
  obtain⟨l,hfl⟩:=exEq (bb g);have hll:l.length≤160000000000:=by rw[hfl];exact uE hwe.1 hw
  refine kf rfl rfl ?_;repeat' first|exact k9|refine k2 ?_|apply kA|apply kI;intro hc|refine k8 ?_|apply kL;intro hl
  apply kCt [1,3,4] [];conv=>whnf
  rw[←hfl];refine Lp.ind (fun x:Nat=>l.length - x) (fun x=>x≤l.length) (fun x=>[(4,InD x)]) (fun _=>[]) (fun _=>_) 0 (Nat.zero_le _) rfl rfl rfl ?_
  rintro G x ih hx
  by_cases hxl:x<l.length
  ·have hm:l[x]∈bb g:=by rw[←hfl];exact List.getElem_mem hxl
   have hcg:bT g=0:=by
    refine Classical.byContradiction fun hc=>?_;rw[bb,if_neg hc] at hm
    cases hm
   have hrg:=ug hm;have hpl:=rZ hm;obtain⟨s1,s2,s3,s4⟩:=uH hcg hm;have hpre:g.length≤1000∧(∀d∈g,d.wf)∧l[x].p.length≤1000000∧0≤l[x].way∧l[x].way≤255:=⟨hwe.1,hw,by omega,hrg.1,hrg.2⟩
   have hdw:=uO (pass:=l[x].pass) (way:=l[x].way) (r:=l[x].r) (at_:=l[x].at_) hwe.1 hw hpre.2.2.1;have hC:=Me g l[x];generalize aT g l[x].pass l[x].way l[x].r l[x].p l[x].at_=D at s1 s2 s3 s4 hdw hC;obtain⟨h,e⟩:=D;dsimp only at s1 s2 s3 s4 hdw hC;subst s1
   repeat' first|exact k9|refine k2 ?_|apply kA|apply kI;intro hc|(((refine od.e hC hpre ?_))<;>conv=>whnf)|refine k8 ?_|apply kL;intro hl
   apply kCt [1,3,4,5,7] [];conv=>whnf
   refine Lp.ind (fun k:Nat=>h.length - k) (fun k=>k≤h.length) (fun k=>[(7,InD k)]) (fun _=>[]) (fun _=>_) 0 (Nat.zero_le _) rfl rfl rfl ?_
   rintro G2 k ih2 hk
   by_cases hkl:k<h.length
   ·have hcs:=s4 k (by omega);have l1:=sB h (k:Int);have l2:=sB g (k:Int);have hcm:∀x∈(da h (k:Int)).map Int.ofNat,x∈(da g (k:Int)).map Int.ofNat:=fun x hx=>by
     obtain⟨j,hj,rfl⟩:=List.mem_map.1 hx;exact List.mem_map.2 ⟨j,hcs j hj,rfl⟩
    have l3:((da h (k:Int)).map Int.ofNat).length≤1000:=by rw[List.length_map];omega
    have l4:((da g (k:Int)).map Int.ofNat).length≤1000:=by rw[List.length_map];omega
    repeat' first|exact k9|refine k2 ?_|apply kA|apply kI;intro hc|refine k8 ?_|apply kL;intro hl
    generalize (da h (k:Int)).map Int.ofNat=cs at *;generalize (da g (k:Int)).map Int.ofNat=hd at *;apply kCt [1,3,4,5,7,8,9,10] [];conv=>whnf
    refine Lp.ind (fun n:Nat=>cs.length - n) (fun n=>n≤cs.length) (fun n=>[(10,InD n)]) (fun _=>[]) (fun _=>_) 0 (Nat.zero_le _) rfl rfl rfl ?_
    rintro G3 n ih3 hn3
    by_cases hnl:n<cs.length
    ·have hin:=HW (hcm _ (List.getElem_mem hnl))
     repeat' first|exact k9|refine k2 ?_|apply kA|apply kI;intro hc|refine k8 ?_|apply kL;intro hl
     apply kCt [1,3,4,5,7,8,9,10,11,12] [];conv=>whnf
     refine Lp.ind (fun j:Nat×Bool=>hd.length - j.1) (fun j=>j.1≤hd.length∧j.2=D9 (hd.take j.1) cs[n]) (fun j=>[(12,InD j.1),(11,BoD j.2)]) (fun _=>[]) (fun _=>_) (0,false) ⟨Nat.zero_le _,rfl⟩ rfl rfl rfl ?_
     rintro G4 ⟨j,b⟩ ih4 ⟨hj,hb⟩
     dsimp only at hj hb ih4 ⊢
     by_cases hjl:j<hd.length
     ·have hst:=Dq hjl cs[n];rw[←hb] at hst
      cases b
      ·repeat' first|exact k9|refine k2 ?_|apply kA|apply kI;intro hc|refine k8 ?_|apply kL;intro hl
       apply kCt [1,3,4,5,7,8,9,10,11,12] [];conv=>whnf
       exact ih4 (j+1,eqI hd[j] cs[n]) _ _ _ (by dsimp only;omega) ⟨by dsimp only;omega,by rw[hst,Bool.false_or,dn]⟩ rfl rfl rfl
      ·repeat' first|exact k9|refine k2 ?_|apply kA|apply kI;intro hc|refine k8 ?_|apply kL;intro hl
       apply kCt [1,3,4,5,7,8,9,10,11,12] [];conv=>whnf
       exact ih4 (j+1,true) _ _ _ (by dsimp only;omega) ⟨by dsimp only;omega,by rw[hst,Bool.true_or]⟩ rfl rfl rfl
     ·obtain rfl:j=hd.length:=by omega
      rw[List.take_length,hin] at hb;subst hb
      repeat' first|exact k9|refine k2 ?_|apply kA|apply kI;intro hc|refine k8 ?_|apply kL;intro hl
      apply kCt [1,3,4,5,7,8,9,10] [];conv=>whnf
      exact ih3 (n+1) _ _ _ (by omega) (by omega) rfl rfl rfl
    ·repeat' first|exact k9|refine k2 ?_|apply kA|apply kI;intro hc|refine k8 ?_|apply kL;intro hl
     apply kCt [1,3,4,5,7] [];conv=>whnf
     exact ih2 (k+1) _ _ _ (by omega) (by omega) rfl rfl rfl
   ·repeat' first|exact k9|refine k2 ?_|apply kA|apply kI;intro hc|refine k8 ?_|apply kL;intro hl
    apply kCt [1,3,4] [];conv=>whnf
    exact ih (x+1) _ _ _ (by omega) (by omega) rfl rfl rfl
  ·repeat' first|exact k9|refine k2 ?_|apply kA|apply kI;intro hc|refine k8 ?_|apply kL;intro hl
end Go.Km
end
section
namespace Go.Km
open Go Go.Sl Go.RowKit Go.Vc Go.aa
section
variable {H:Type} {enc:TypeId×Value→H} {P:Program} {w:World}
def fI(P:Program)(t:TypeId)(d:DataW H):Prop:=∀k∈d.weights P t,k≤reachBytes
theorem vC{e:TypeId}:∀{l:List (DataW H)},(∀k∈DataW.weightsAll P e l,k≤reachBytes)→∀d∈l,fI P e d
 | [],_,d,hd=>by cases hd
 | x :: l,h,d,hd=>by
  simp only[DataW.weightsAll,List.mem_append] at h;rcases List.mem_cons.1 hd with rfl|hd
  ·exact fun k hk=>h k (.inl hk)
  ·exact vC (fun k hk=>h k (.inr hk)) d hd
theorem fc:∀{ts:List TypeId} {l:List (DataW H)},(∀k∈DataW.weightsEach P ts l,k≤reachBytes)→∀(i:Nat) t d,ts[i]?=some t→l[i]?=some d→fI P t d
 | [],_,_,i,t,d,ht,_=>by simp at ht
 | _ :: _,[],_,i,t,d,_,hd=>by simp at hd
 | t0 :: ts,x :: l,h,0,t,d,ht,hd=>by
  simp only[DataW.weightsEach,List.mem_append] at h;simp at ht hd;subst ht;subst hd;exact fun k hk=>h k (.inl hk)
 | t0 :: ts,x :: l,h,i+1,t,d,ht,hd=>by
  simp only[DataW.weightsEach,List.mem_append] at h;exact fc (fun k hk=>h k (.inr hk)) i t d (by simpa using ht) (by simpa using hd)
theorem kR:reachBytes=140737488351232:=by decide
theorem rI{n:Int}(h:(Lit.int .i64 n).wf=true):I64 n:=by
 simp only[Lit.wf,Bool.and_eq_true,decide_eq_true_eq] at h;exact h
theorem Lf{n:Int}(h:(Lit.int .u8 n).wf=true):0≤n∧n≤255:=by
 simp only[Lit.wf,Bool.and_eq_true,decide_eq_true_eq] at h;exact h
theorem rH{n:Int}(h:(Lit.int .u64 n).wf=true):0≤n∧n<18446744073709551616:=by
 simp only[Lit.wf,Bool.and_eq_true,decide_eq_true_eq] at h;have h1:(0:Int)≤n:=h.1;have h2:n≤(18446744073709551615:Int):=h.2;omega
theorem vX {α:Type} [Inhabited α] {t e sz:Nat} {R:List Value→α→Prop} {F:α→Prop} (ht:P.underlying t=some (.slice e)) (hc:P.cellsOf e=sz) (hsz:0<sz)
  (hE:∀(n:Nat) cs (y:DataW H×List MemPlace),DataW.trod enc P w 0 (fun _=>true) true n e cs=some y→fI P e y.1→∃a,R cs a∧F a)
  {fuel:Nat} {cs:List Value} {x:DataW H×List MemPlace} (h:DataW.trod enc P w 0 (fun _=>true) true fuel t cs=some x) (hs:fI P t x.1) :
  ∃(xs:List α) (A:Option Addr) (c:Nat) (rows:List (List Value)),cs=[.slice A xs.length c]∧Arr sz (fun b=>b<w.heap.size) w A xs.length rows∧(rows.length=xs.length∧∀(i:Nat) a b,rows[i]?=some a→xs[i]?=some b→R a b)∧xs.length≤c∧xs.length * P.bytesOf e≤reachBytes∧∀a∈xs,F a:=by
 rcases DataW.trod_slice ht h with ⟨rfl,rfl⟩|⟨a,len,cap,elems,rest,n,rfl,rfl,rfl,_,hlc,hcm,hel,hg,_,_⟩
 ·exact⟨[],none,0,[],rfl,Arr.nil,⟨rfl,fun i a b h=>by simp at h⟩,Nat.le_refl _,by simp,by simp⟩
 ·unfold fI at hs;simp only[DataW.weights,ht,List.mem_cons,List.mem_append,List.length_map] at hs;have hb:=hs _ (.inl rfl);have hse:=vC (P:=P) (e:=e) (fun k hk=>hs k (.inr (.inl hk)));have key:∀i:Nat,∃p:List Value×α,i<len→w.cells? 0 (a.add (i * sz)) sz=some p.1∧R p.1 p.2∧F p.2:=by
   intro i
   by_cases hi:i<len
   ·have h1:=hg i hi;rw[List.getElem?_eq_getElem (by omega),hc] at h1;obtain⟨ci,h2,h3⟩:=Option.bind_eq_some_iff.1 h1;obtain⟨ai,h4,h5⟩:=hE n ci _ h3 (hse _ (List.mem_map.2 ⟨elems[i],List.getElem_mem _,rfl⟩));exact⟨(ci,ai),fun _=>⟨h2,h4,h5⟩⟩
   ·exact⟨([],default),fun h=>absurd h hi⟩
  obtain⟨f,hf⟩:=Classical.axiomOfChoice key;have hlr:((List.range len).map fun i=>(f i).1).length=len:=by simp
  have hlx:((List.range len).map fun i=>(f i).2).length=len:=by simp
  have hgr:∀i,i<len→((List.range len).map fun i=>(f i).1)[i]?=some (f i).1:=fun i hi=>by simp[hi]
  have hgx:∀i,i<len→((List.range len).map fun i=>(f i).2)[i]?=some (f i).2:=fun i hi=>by simp[hi]
  have hrs:∀r∈(List.range len).map (fun i=>(f i).1),r.length=sz:=by
   intro r hr;obtain⟨i,hi,rfl⟩:=List.mem_map.1 hr;exact(World.cells?_some (hf i (List.mem_range.1 hi)).1).2.1
  refine⟨(List.range len).map fun i=>(f i).2,some a,cap,(List.range len).map fun i=>(f i).1,by rw[hlx],?_,⟨by rw[hlr,hlx],fun i x y hx hy=>?_⟩,by rw[hlx];exact hlc,?_,fun y hy=>?_⟩
  ·rw[hlx];refine⟨hlr,hrs,fun h0=>⟨a,rfl,?_,fun j v hj=>?_⟩⟩
   ·have:=World.cells?_block (hf 0 h0).1 hsz;simpa [qb] using this
   ·have hjl:j<len * sz:=by
     have:=(List.getElem?_eq_some_iff.1 hj).1
     rwa [length_flatten hrs,hlr] at this
    have hi:j / sz<len:=Nat.div_lt_of_lt_mul (by rw[Nat.mul_comm];exact hjl);have ho:j % sz<sz:=Nat.mod_lt _ hsz;have hdm:j / sz * sz+j % sz=j:=by rw[Nat.mul_comm];exact Nat.div_add_mod j sz
    have h1:=nK hrs (hgr _ hi) ho;rw[hdm,hj] at h1;have h2:=(World.cells?_some (hf _ hi).1).2.2 _ ho;rw[Sl.add_add,hdm,←h1] at h2;exact h2
  ·have hi:i<len:=by have:=(List.getElem?_eq_some_iff.1 hx).1;simpa using this
   rw[hgr i hi] at hx;rw[hgx i hi] at hy
   injection hx with hx
   injection hy with hy
   subst hx;subst hy;exact(hf i hi).2.1
  ·rw[hlx];refine Nat.le_trans (Nat.mul_le_mul_right _ ?_) hb;omega
  ·obtain⟨i,hi,rfl⟩:=List.mem_map.1 hy;exact(hf i (List.mem_range.1 hi)).2.2
theorem aZ{Z:Nat→Prop}{w:World}{x:F}{u:Value}{l:List F}{us:List Value}(h:F.rep Z w x u)(k:F.ah Z w l us):F.ah Z w (x :: l) (u :: us):=by
 unfold F.ah;exact⟨u,us,rfl,h,k⟩
theorem gw{Z:Nat→Prop}{w:World}:F.ah Z w [] []:=by unfold F.ah;rfl
theorem ed{Z:Nat→Prop}{w:World}(v:Value):F.rep Z w (.vl v) v:=by unfold F.rep;rfl
theorem I6{Z:Nat→Prop}{w:World}{l:List F}{vs:List Value}(h:F.ah Z w l vs):F.rep Z w (.ag l) (.agg vs.toArray):=by unfold F.rep;exact⟨vs,rfl,h⟩
theorem Cy{Z:Nat→Prop}{w:World}{α:Type}{c:α→List F}:∀{xs:List α} {rows:List (List Value)},rows.length=xs.length→(∀(i:Nat) a b,rows[i]?=some a→xs[i]?=some b→F.ah Z w (c b) a)→F.aG Z w (xs.map c) rows
 | [],[],_,_=>by unfold F.aG;rfl
 | [],_ :: _,h,_=>by simp at h
 | _ :: _,[],h,_=>by simp at h
 | x :: xs,r :: rows,h,k=>by
  rw[List.map_cons];unfold F.aG;exact⟨r,rows,rfl,k 0 r x rfl rfl,Cy (by simpa using h) fun i a b ha hb=>k (i+1) a b (by simpa using ha) (by simpa using hb)⟩
theorem qf{Z:Nat→Prop}{w:World}{α:Type}{c:α→List F}{xs:List α}{A:Option Addr}{k sz:Nat}{rows:List (List Value)}(hk:xs.length≤k)(hA:Arr sz Z w A xs.length rows)(hR:rows.length=xs.length∧∀(i:Nat) a b,rows[i]?=some a→xs[i]?=some b→F.ah Z w (c b) a)(h1:∀x,(c x).all F.one=true):F.rep Z w (.sl (xs.map c)) (.slice A xs.length k):=by
 unfold F.rep;refine⟨A,k,rows,sz,by rw[List.length_map],by rw[List.length_map];exact hk,by rw[List.length_map];exact hA,fun r hr=>?_,Cy hR.1 hR.2⟩;obtain⟨i,hi,rfl⟩:=List.getElem_of_mem hr;exact F.eL (hR.2 i _ (xs[i]'(by rw[←hR.1];exact hi)) (List.getElem?_eq_getElem hi) (List.getElem?_eq_getElem _)) (h1 _)
instance:Inhabited Nod:=⟨.zero⟩
instance:Inhabited Dfn:=⟨⟨⟨#[]⟩,.zero⟩⟩
end
end Go.Km
namespace Go.Proofs.YtpbichnnflabdaaGreatDoor
open Go Go.Sl Go.RowKit Go.Vc Go.Km Go.aa
variable {H:Type} {enc:TypeId×Value→H} {w:World}
abbrev mu(w:World):Nat→Prop:=fun b=>b<w.heap.size
theorem LQ:Tryz.prog.cellsOf 3=1:=by kernel_rfl
theorem Ns:Tryz.prog.cellsOf 46=9:=by kernel_rfl
theorem Nj:Tryz.prog.cellsOf 39=2:=by kernel_rfl
theorem N9:Tryz.prog.cellsOf 44=4:=by kernel_rfl
theorem NM:Tryz.prog.cellsOf 42=1:=by kernel_rfl
theorem N7:Tryz.prog.cellsOf 5=1:=by kernel_rfl
theorem NQ:Tryz.prog.cellsOf 9=1:=by kernel_rfl
theorem N8:Tryz.prog.cellsOf 30=1:=by kernel_rfl
theorem N5:Tryz.prog.cellsOf 37=1:=by kernel_rfl
theorem NK:Tryz.prog.bytesOf 3=8:=by kernel_rfl
theorem NN:Tryz.prog.bytesOf 46=96:=by kernel_rfl
theorem My:Tryz.prog.cellsOf 41=3:=by kernel_rfl
theorem N6:Tryz.prog.cellsOf 22=1:=by kernel_rfl
theorem NX:Tryz.prog.cellsOf 24=1:=by kernel_rfl
theorem NC:Tryz.prog.bytesOf 41=48:=by kernel_rfl
theorem Lt{fuel:Nat}{cs:List Value}{x:DataW H×List MemPlace}(h:DataW.trod enc Tryz.prog w 0 (fun _=>true) true fuel 30 cs=some x)(hs:fI Tryz.prog 30 x.1):∃xs:List Int,∃u,cs=[u]∧F.rep (mu w) w (isF xs) u∧F6 xs:=by
 obtain⟨xs,A,c,rows,h1,h2,h3,h4,h5,h6⟩:=vX (R:=fun cs (a:Int)=>F.ah (mu w) w (ikF a) cs) (F:=fun a=>I64 a) Tryz.underlying30 LQ (by decide) (fun n cs y hy _=>by
  obtain⟨k,e1,e2,e3⟩:=DataW.trod_int Tryz.underlying3 hy;subst e1;exact⟨k,aZ (ed _) gw,rI e3⟩) h hs
 rw[NK] at h5;refine⟨xs,_,h1,qf h4 h2 h3 (fun _=>rfl),?_,h6⟩;rw[kR] at h5;unfold dF;omega
set_option maxRecDepth 100000 in
theorem Kl{fuel:Nat}{cs:List Value}{x:DataW H×List MemPlace}(h:DataW.trod enc Tryz.prog w 0 (fun _=>true) true fuel 46 cs=some x)(hs:fI Tryz.prog 46 x.1):∃n:Nod,F.ah (mu w) w (aX n) cs∧n.wf:=by
 obtain⟨xs,m,_,rfl,hl,hlen,hf⟩:=DataW.trod_struct Tryz.underlying46 h;have hl:=hl.trans Ns
 match cs,hl with
 | [c0,c1,c2,c3,c4,c5,c6,c7,c8],_=>
  match xs,hlen with
  | [y0,y1,y2,y3,y4,y5],_=>
   unfold fI at hs;simp only[DataW.weights,Tryz.underlying46] at hs;have hse:=fc hs;have f0:=hf 0 _ rfl;have f1:=hf 1 _ rfl;have f2:=hf 2 _ rfl;have f3:=hf 3 _ rfl;have f4:=hf 4 _ rfl;have f5:=hf 5 _ rfl;simp only[N7,N9,NQ,LQ,N8,List.drop_succ_cons,List.drop_zero,List.take_succ_cons,List.take_zero,List.getElem?_cons_zero,List.getElem?_cons_succ] at f0 f1 f2 f3 f4 f5;obtain⟨k0,e0,_,w0⟩:=DataW.trod_int Tryz.underlying5 f0;obtain⟨zs,m1,_,_,_,hzl,hz⟩:=DataW.trod_array Tryz.underlying44 f1;obtain⟨s,e2,rfl',_⟩:=DataW.trod_string Tryz.underlying9 f2;obtain⟨k3,e3,_,w3⟩:=DataW.trod_int Tryz.underlying3 f3;obtain⟨k4,e4,_,w4⟩:=DataW.trod_int Tryz.underlying3 f4;obtain⟨ks,u5,e5,hr5,hw5⟩:=Lt f5 (hse 5 _ _ rfl rfl)
   match zs,hzl with
   | [z0,z1,z2,z3],_=>
    have g0:=hz 0 (by decide);have g1:=hz 1 (by decide);have g2:=hz 2 (by decide);have g3:=hz 3 (by decide);simp only[NM,Nat.zero_mul,Nat.one_mul,Nat.mul_one,List.drop_succ_cons,List.drop_zero,List.take_succ_cons,List.take_zero,List.getElem?_cons_zero,List.getElem?_cons_succ] at g0 g1 g2 g3;obtain⟨b0,q0,_,u0⟩:=DataW.trod_int Tryz.underlying42 g0;obtain⟨b1,q1,_,u1⟩:=DataW.trod_int Tryz.underlying42 g1;obtain⟨b2,q2,_,u2⟩:=DataW.trod_int Tryz.underlying42 g2;obtain⟨b3,q3,_,u3⟩:=DataW.trod_int Tryz.underlying42 g3;have hst:=hse 2 _ _ rfl rfl;have htx:s.size≤reachBytes:=by
     have e:y2.1=.lit (.string s.data.toList):=by rw[rfl']
     simp only[List.map_cons,List.getElem?_cons_zero,List.getElem?_cons_succ] at hst;rw[e] at hst;have:=hst s.data.toList.length (by simp[DataW.weights]);simpa using this
    obtain⟨rfl,_⟩:=List.cons.inj e0;obtain⟨rfl,_⟩:=List.cons.inj e2;obtain⟨rfl,_⟩:=List.cons.inj e3;obtain⟨rfl,_⟩:=List.cons.inj e4;obtain⟨rfl,_⟩:=List.cons.inj e5;obtain⟨rfl,_⟩:=List.cons.inj q0;obtain⟨rfl,_⟩:=List.cons.inj q1;obtain⟨rfl,_⟩:=List.cons.inj q2;obtain⟨rfl,_⟩:=List.cons.inj q3;refine⟨⟨k0,⟨b0,b1,b2,b3⟩,s,k3,k4,ks⟩,aZ (ed _) (aZ (ed _) (aZ (ed _) (aZ (ed _) (aZ (ed _) (aZ (ed _) (aZ (ed _) (aZ (ed _) (aZ hr5 gw)))))))),Lf w0,⟨rH u0,rH u1,rH u2,rH u3⟩,?_,rI w3,rI w4,hw5⟩;show s.size≤140737488355328
    rw[kR] at htx;omega
theorem IK{fuel:Nat}{cs:List Value}{x:DataW H×List MemPlace}(h:DataW.trod enc Tryz.prog w 0 (fun _=>true) true fuel 37 cs=some x)(hs:fI Tryz.prog 37 x.1):∃ns:List Nod,∃u,cs=[u]∧F.rep (mu w) w (.sl (ns.map aX)) u∧ns.length≤bV∧∀n∈ns,n.wf:=by
 obtain⟨ns,A,c,rows,h1,h2,h3,h4,h5,h6⟩:=vX (R:=fun cs (n:Nod)=>F.ah (mu w) w (aX n) cs) (F:=Nod.wf) Tryz.underlying37 Ns (by decide) (fun n cs y hy hys=>Kl hy hys) h hs;rw[NN] at h5;refine⟨ns,_,h1,qf h4 h2 h3 (fun _=>rfl),?_,h6⟩;rw[kR] at h5;unfold bV;omega
set_option maxRecDepth 100000 in
theorem K7{fuel:Nat}{cs:List Value}{x:DataW H×List MemPlace}(h:DataW.trod enc Tryz.prog w 0 (fun _=>true) true fuel 39 cs=some x)(hs:fI Tryz.prog 39 x.1):∃t:Tre,F.ah (mu w) w (dm t) cs∧t.wf:=by
 obtain⟨xs,m,_,rfl,hl,hlen,hf⟩:=DataW.trod_struct Tryz.underlying39 h;have hl:=hl.trans Nj
 match cs,hl with
 | [c0,c1],_=>
  match xs,hlen with
  | [y0,y1],_=>
   unfold fI at hs;simp only[DataW.weights,Tryz.underlying39] at hs;have hse:=fc hs;have f0:=hf 0 _ rfl;have f1:=hf 1 _ rfl;simp only[N5,LQ,List.drop_succ_cons,List.drop_zero,List.take_succ_cons,List.take_zero,List.getElem?_cons_zero,List.getElem?_cons_succ] at f0 f1;obtain⟨ns,u0,e0,hr,hnl,hw⟩:=IK f0 (hse 0 _ _ rfl rfl);obtain⟨k1,e1,_,w1⟩:=DataW.trod_int Tryz.underlying3 f1;obtain⟨rfl,_⟩:=List.cons.inj e0;obtain⟨rfl,_⟩:=List.cons.inj e1;exact⟨⟨ns,k1⟩,aZ hr (aZ (ed _) gw),hnl,hw,rI w1⟩
set_option maxRecDepth 100000 in
theorem Mr{fuel:Nat}{cs:List Value}{x:DataW H×List MemPlace}(h:DataW.trod enc Tryz.prog w 0 (fun _=>true) true fuel 41 cs=some x)(hs:fI Tryz.prog 41 x.1):∃d:Dfn,F.ah (mu w) w (qW d) cs∧d.wf:=by
 obtain⟨xs,m,_,rfl,hl,hlen,hf⟩:=DataW.trod_struct Tryz.underlying41 h;have hl:=hl.trans My
 match cs,hl with
 | [c0,c1,c2],_=>
  match xs,hlen with
  | [y0,y1],_=>
   unfold fI at hs;simp only[DataW.weights,Tryz.underlying41] at hs;have hse:=fc hs;have f0:=hf 0 _ rfl;have f1:=hf 1 _ rfl;simp only[NQ,Nj,List.drop_succ_cons,List.drop_zero,List.take_succ_cons,List.take_zero,List.getElem?_cons_zero,List.getElem?_cons_succ] at f0 f1;obtain⟨s,e0,rfl',_⟩:=DataW.trod_string Tryz.underlying9 f0;obtain⟨t,ht,hw⟩:=K7 f1 (hse 1 _ _ rfl rfl);have hst:=hse 0 _ _ rfl rfl;have htx:s.size≤reachBytes:=by
    have e:y0.1=.lit (.string s.data.toList):=by rw[rfl']
    simp only[List.map_cons,List.getElem?_cons_zero,List.getElem?_cons_succ] at hst;rw[e] at hst;have:=hst s.data.toList.length (by simp[DataW.weights]);simpa using this
   obtain⟨rfl,_⟩:=List.cons.inj e0;refine⟨⟨s,t⟩,aZ (ed _) ht,?_,hw⟩;show s.size≤_
   rw[kR] at htx;omega
theorem LF{fuel:Nat}{cs:List Value}{x:DataW H×List MemPlace}(h:DataW.trod enc Tryz.prog w 0 (fun _=>true) true fuel 22 cs=some x)(hs:fI Tryz.prog 22 x.1):∃l:List Dfn,∃u,cs=[u]∧F.rep (mu w) w (.sl (l.map qW)) u∧l.length≤dF∧∀d∈l,d.wf:=by
 obtain⟨l,A,c,rows,h1,h2,h3,h4,h5,h6⟩:=vX (R:=fun cs (d:Dfn)=>F.ah (mu w) w (qW d) cs) (F:=Dfn.wf) Tryz.underlying22 My (by decide) (fun n cs y hy hys=>Mr hy hys) h hs;rw[NC] at h5;refine⟨l,_,h1,qf h4 h2 h3 (fun _=>rfl),?_,h6⟩;rw[kR] at h5;unfold dF;omega
set_option maxRecDepth 100000 in
theorem Er{fuel:Nat}{cs:List Value}{x:DataW H×List MemPlace}(h:DataW.trod enc Tryz.prog w 0 (fun _=>true) true fuel 24 cs=some x)(hs:fI Tryz.prog 24 x.1):∃g:List Dfn,F.rep (mu w) w (b8 g) (.agg cs.toArray)∧g.length≤dF∧∀d∈g,d.wf:=by
 obtain⟨xs,m,_,rfl,hl,hlen,hf⟩:=DataW.trod_struct Tryz.underlying24 h;have hl:=hl.trans NX
 match cs,hl with
 | [c0],_=>
  match xs,hlen with
  | [y0],_=>
   unfold fI at hs;simp only[DataW.weights,Tryz.underlying24] at hs;have hse:=fc hs;have f0:=hf 0 _ rfl;simp only[N6,List.drop_succ_cons,List.drop_zero,List.take_succ_cons,List.take_zero,List.getElem?_cons_zero,List.getElem?_cons_succ] at f0;obtain⟨l,u0,e0,hr,hnl,hw⟩:=LF f0 (hse 0 _ _ rfl rfl);obtain⟨rfl,_⟩:=List.cons.inj e0;exact⟨l,I6 (aZ hr gw),hnl,hw⟩
end Go.Proofs.YtpbichnnflabdaaGreatDoor
end
section
namespace Go.Km
open Go Go.Sl Go.RowKit Go.Vc
mutual
def flD{H:Type}:DataW H→Option (List Value)
 | .lit (.int k n)=>some [.int k n]
 | .lit (.string b)=>some [.string ⟨b.toArray⟩]
 | .agg ds=>Gp ds
 | _=>none
def Gp{H:Type}:List (DataW H)→Option (List Value)
 | []=>some []
 | d :: ds=>match flD d,Gp ds with
  | some a,some b=>some (a++b)
  | _,_=>none
end
def FlT(H:Type)(P:Program)(w:World)(t:TypeId):Prop:=∀(enc:TypeId×Value→H) (base:Nat) (spare:Nat→Bool) (held:Bool) (m:Nat) (cs:List Value) (y:DataW H×List MemPlace),DataW.trod enc P w base spare held m t cs=some y→∀vs,flD y.1=some vs→cs=vs
section
variable {H:Type} {P:Program} {w:World} {t:TypeId}
theorem AL{k:IntKind}(ht:P.underlying t=some (.int k)):FlT H P w t:=fun enc base spare held m cs y h vs hv=>by
 obtain⟨n,rfl,rfl,_⟩:=DataW.trod_int ht h;rw[flD] at hv;exact Option.some.inj hv
theorem Ly(ht:P.underlying t=some .string):FlT H P w t:=fun enc base spare held m cs y h vs hv=>by
 obtain⟨s,rfl,rfl,_⟩:=DataW.trod_string ht h;rw[flD] at hv;have:=Option.some.inj hv;rw[←this]
theorem chunks{sz:Nat}:∀(l:List (List Value)) (cs:List Value),cs.length=l.length * sz→(∀(i:Nat) (h:i<l.length),(cs.drop (i * sz)).take sz=l[i])→cs=l.flatten
 | [],cs,h,_=>by
  simp at h;rw[h];rfl
 | x :: l,cs,h,k=>by
  have h0:=k 0 (by simp);simp only[Nat.zero_mul,List.drop_zero,List.getElem_cons_zero] at h0;have ih:=chunks (sz:=sz) l (cs.drop sz) (by rw[List.length_drop,h,List.length_cons,Nat.add_mul];omega) fun i hi=>by
   have:=k (i+1) (by simpa using hi);rw[List.getElem_cons_succ] at this;rw[←this,List.drop_drop,Nat.add_mul,Nat.one_mul,Nat.add_comm]
  rw[List.flatten_cons,←ih,←h0,List.take_append_drop]
theorem vV:∀(ds:List (DataW H)) (vs:List Value),Gp ds=some vs→∃l:List (List Value),vs=l.flatten∧l.length=ds.length∧∀(i:Nat) (d:DataW H) (r:List Value),ds[i]?=some d→l[i]?=some r→flD d=some r
 | [],vs,h=>⟨[],by rw[Gp] at h;rw[←Option.some.inj h];rfl,rfl,fun i d r h=>by simp at h⟩
 | d :: ds,vs,h=>by
  rw[Gp] at h
  split at h
  ·rename_i a b ha hb;obtain⟨l,h1,h2,h3⟩:=vV ds b hb;refine⟨a :: l,by rw[←Option.some.inj h,h1];rfl,by simp[h2],fun i d' r hd hr=>?_⟩
   cases i with
   | zero=>
    simp only[List.getElem?_cons_zero,Option.some.injEq] at hd hr;rw[←hd,←hr];exact ha
   | succ i=>exact h3 i d' r (by simpa using hd) (by simpa using hr)
  ·cases h
theorem mY{n e sz:Nat}(ht:P.underlying t=some (.array n e))(hc:P.cellsOf t=n * sz)(hs:P.cellsOf e=sz)(he:FlT H P w e):FlT H P w t:=fun enc base spare held m cs y h vs hv=>by
 obtain⟨xs,m1,_,rfl,hl,hn,hf⟩:=DataW.trod_array ht h;simp only[flD] at hv;obtain⟨l,h1,h2,h3⟩:=vV _ _ hv;rw[List.length_map] at h2;rw[h1];refine chunks (sz:=sz) l cs (by rw[hl,hc,h2,hn]) fun i hi=>?_
 have hi2:i<xs.length:=by omega
 have h4:=hf i (by omega);rw[hs,List.getElem?_eq_getElem hi2] at h4;exact he enc base spare held m1 _ _ h4 _ (h3 i xs[i].1 l[i] (by rw[List.getElem?_map,List.getElem?_eq_getElem hi2];rfl) (List.getElem?_eq_getElem hi))
theorem FK{fs:Array Field}{a b c:Field}(ht:P.underlying t=some (.struct fs))(hfs:fs=#[a,b,c])(hc:P.cellsOf t=3)(oa:a.offset=0∧P.cellsOf a.type=1)(ob:b.offset=1∧P.cellsOf b.type=1)(oc:c.offset=2∧P.cellsOf c.type=1)(ha:FlT H P w a.type)(hb:FlT H P w b.type)(hcc:FlT H P w c.type):FlT H P w t:=fun enc base spare held m cs y h vs hv=>by
 subst hfs;obtain⟨xs,m1,_,rfl,hl,hn,hf⟩:=DataW.trod_struct ht h;have hl:=hl.trans hc
 match cs,hl with
 | [c0,c1,c2],_=>
  match xs,hn with
  | [x0,x1,x2],_=>
   have f0:=hf 0 a rfl;have f1:=hf 1 b rfl;have f2:=hf 2 c rfl;rw[oa.1,oa.2] at f0;rw[ob.1,ob.2] at f1;rw[oc.1,oc.2] at f2;simp only[List.drop_succ_cons,List.drop_zero,List.take_succ_cons,List.take_zero,List.getElem?_cons_zero,List.getElem?_cons_succ] at f0 f1 f2;simp only[flD,List.map_cons,List.map_nil] at hv;obtain⟨l,h1,h2,h3⟩:=vV _ _ hv
   match l,h2 with
   | [r0,r1,r2],_=>
    have e0:=ha enc base spare held m1 _ _ f0 r0 (h3 0 _ _ rfl rfl);have e1:=hb enc base spare held m1 _ _ f1 r1 (h3 1 _ _ rfl rfl);have e2:=hcc enc base spare held m1 _ _ f2 r2 (h3 2 _ _ rfl rfl);rw[h1,←e0,←e1,←e2];rfl
theorem yt{Z:Nat→Prop}:∀vs:List Value,F.ah Z w (vs.map .vl) vs
 | []=>gw
 | v :: vs=>aZ (ed v) (yt vs)
theorem M6{n:String}{g:Nat}{cs:Array Value}{vs:List Value}(hg:P.globalNamed n=some g)(hv:w.var? P n=some cs)(e:cs.toList=vs)(h1:ca vs=true)(h0:0<vs.length):F.rep (fun b=>b<w.heap.size) w (.pt vs.length [vs.map .vl] 0 0) (.pointer (some ⟨g,0,none⟩)):=by
 have hcell:=World.var?_cell hg hv;have hsz:g<w.heap.size:=by
  simp only[World.var?,hg,Option.bind_some] at hv
  split at hv
  ·rename_i hh;exact(Array.getElem?_eq_some_iff.1 hh).1
  ·cases hv
 unfold F.rep;refine⟨⟨g,0,none⟩,[vs],by simp[Addr.add],⟨rfl,by simp,fun _=>⟨⟨g,0,none⟩,rfl,hsz,fun j v hj=>?_⟩⟩,by simpa using h1,?_⟩
 ·simp only[List.flatten_cons,List.flatten_nil,List.append_nil] at hj;rw[add_lit,Nat.zero_add,hcell j,←Array.getElem?_toList,e];exact hj
 ·unfold F.aG;refine⟨vs,[],rfl,yt vs,?_⟩;unfold F.aG;rfl
end
end Go.Km
namespace Go.Proofs.YtpbichnnflabdaaGreatDoor
open Go Go.Sl Go.RowKit Go.Vc Go.Km Go.aa
open Go.ChangeShapes Go.WideShapes Go.ChangeAt
set_option maxRecDepth 100000
theorem NJ:ownKnob Tryz.prog.godebug=none:=by kernel_rfl
theorem EV:laidOutB Tryz.prog=true:=by kernel_rfl
def gj:List (String×DataW Unit):=[("math/bits.deBruijn32tab",Rows.laid_math_bits_deBruijn32tab),("math/bits.deBruijn64tab",Rows.laid_math_bits_deBruijn64tab),("internal/strconv.uint64pow10",Rows.laid_internal_strconv_uint64pow10),("bonsai/tree.counts",Rows.laid_bonsai_tree_counts),("bonsai/print.counts",Rows.laid_bonsai_print_counts),("bonsai/print.signs",Rows.laid_bonsai_print_signs)]
theorem DT(os:Os)(args:Array Value):laidMetH Tryz.prog gj ((World.doorLaid Tryz.prog 400 os).forCall (fun _ _=>0) ⟨#[],args,[]⟩).memory:=
 laidMetH_of_parts3 (fuel:=8) (laidMet_of_run' 8 (by kernel_rfl) (by kernel_rfl)) (by kernel_rfl) (by kernel_rfl)
variable {H:Type} {W:World}
theorem Gw:FlT H Tryz.prog W 3:=AL Tryz.underlying3
theorem B3:FlT H Tryz.prog W 9:=Ly Tryz.underlying9
theorem Nv:FlT H Tryz.prog W 5:=AL Tryz.underlying5
theorem Mf:FlT H Tryz.prog W 42:=AL Tryz.underlying42
theorem flA:FlT H Tryz.prog W 177:=mY (sz:=2) Tryz.underlying177 (by kernel_rfl) (by kernel_rfl) (mY (sz:=1) Tryz.underlying176 (by kernel_rfl) (by kernel_rfl) Gw)
theorem flB:FlT H Tryz.prog W 256:=mY (sz:=1) Tryz.underlying256 (by kernel_rfl) (by kernel_rfl) Nv
theorem flC:FlT H Tryz.prog W 269:=mY (sz:=1) Tryz.underlying269 (by kernel_rfl) (by kernel_rfl) Nv
theorem flE:FlT H Tryz.prog W 264:=mY (sz:=1) Tryz.underlying264 (by kernel_rfl) (by kernel_rfl) Mf
theorem flS:FlT H Tryz.prog W 232:=mY (sz:=3) Tryz.underlying232 (by kernel_rfl) (by kernel_rfl) (FK Tryz.underlying231 rfl (by kernel_rfl) ⟨rfl,by kernel_rfl⟩ ⟨rfl,by kernel_rfl⟩ ⟨rfl,by kernel_rfl⟩ B3 B3 B3)
theorem flN:FlT H Tryz.prog W 246:=mY (sz:=3) Tryz.underlying246 (by kernel_rfl) (by kernel_rfl) (FK Tryz.underlying245 rfl (by kernel_rfl) ⟨rfl,by kernel_rfl⟩ ⟨rfl,by kernel_rfl⟩ ⟨rfl,by kernel_rfl⟩ Gw Gw B3)
theorem DI{W:World}(h:laidMetH Tryz.prog gj W):∀(n:String) (d:DataW Unit),(n,d)∈gj→∃g t cs fuel p,Tryz.prog.globalNamed n=some g∧(Tryz.prog.globals[g]?).map (·.type)=some t∧W.var? Tryz.prog n=some cs∧DataW.trod (fun _=>()) Tryz.prog W 0 (fun _=>true) false fuel t cs.toList=some (d,p):=by
 rw[MakeChecks.laidMetH_plain _ _ _ (by kernel_rfl)] at h;obtain⟨ps,hl,_⟩:=h;have key:∀(l:List (String×DataW Unit)) (ps:List MemPlace),DataW.LaidVars Tryz.prog W l ps→∀n d,(n,d)∈l→∃g t cs fuel p,Tryz.prog.globalNamed n=some g∧(Tryz.prog.globals[g]?).map (·.type)=some t∧W.var? Tryz.prog n=some cs∧DataW.trod (fun _=>()) Tryz.prog W 0 (fun _=>true) false fuel t cs.toList=some (d,p):=by
  intro l
  induction l with
  | nil=>intro ps _ n d hm;cases hm
  | cons x l ih=>
   intro ps hx n d hm;obtain⟨n0,d0⟩:=x;obtain⟨g,t,cs,f,p,q,h1,h2,h3,h4,h5,h6⟩:=hx;rcases List.mem_cons.1 hm with e|hm
   ·cases e;exact⟨g,t,cs,f,p,h1,h2,h3,h4⟩
   ·exact ih _ h5 n d hm
 exact key gj ps hl
theorem Nr{W:World}(h:laidMetH Tryz.prog gj W):∀g cs,X1.Γ g=some cs→F.rep (mu W) W (.pt cs.length [cs] 0 0) (.pointer (some ⟨g,0,none⟩)):=by
 have hv:=DI h;have one:∀(n:String) (d:DataW Unit) (g t:Nat) (vs:List Value),(n,d)∈gj→Tryz.prog.globalNamed n=some g→(Tryz.prog.globals[g]?).map (·.type)=some t→FlT Unit Tryz.prog W t→flD d=some vs→ca vs=true→0<vs.length→F.rep (mu W) W (.pt vs.length [vs.map .vl] 0 0) (.pointer (some ⟨g,0,none⟩)):=fun n d g t vs hm hg ht hf hd h1 h0=>by
  obtain⟨g',t',cs,fuel,p,q1,q2,q3,q4⟩:=hv n d hm;obtain rfl:=Option.some.inj (hg.symm.trans q1);obtain rfl:=Option.some.inj (ht.symm.trans q2);exact M6 hg q3 (hf _ _ _ _ _ _ _ q4 vs hd) h1 h0
 have a0:=one "bonsai/tree.counts" Rows.laid_bonsai_tree_counts 0 177 _ (by simp[gj]) (by kernel_rfl) (by kernel_rfl) flA rfl (by kernel_rfl) (Nat.le_of_ble_eq_true rfl);have a1:=one "bonsai/print.signs" Rows.laid_bonsai_print_signs 1 232 _ (by simp[gj]) (by kernel_rfl) (by kernel_rfl) flS rfl (by kernel_rfl) (Nat.le_of_ble_eq_true rfl);have a2:=one "bonsai/print.counts" Rows.laid_bonsai_print_counts 2 246 _ (by simp[gj]) (by kernel_rfl) (by kernel_rfl) flN rfl (by kernel_rfl) (Nat.le_of_ble_eq_true rfl);have a3:=one "math/bits.deBruijn64tab" Rows.laid_math_bits_deBruijn64tab 3 256 _ (by simp[gj]) (by kernel_rfl) (by kernel_rfl) flB rfl (by kernel_rfl) (Nat.le_of_ble_eq_true rfl);have a5:=one "internal/strconv.uint64pow10" Rows.laid_internal_strconv_uint64pow10 5 264 _ (by simp[gj]) (by kernel_rfl) (by kernel_rfl) flE rfl (by kernel_rfl) (Nat.le_of_ble_eq_true rfl);have a6:=one "math/bits.deBruijn32tab" Rows.laid_math_bits_deBruijn32tab 6 269 _ (by simp[gj]) (by kernel_rfl) (by kernel_rfl) flC rfl (by kernel_rfl) (Nat.le_of_ble_eq_true rfl);intro g cs hg;have key:∀(l:List (Nat×List F)),(∀x∈l,F.rep (mu W) W (.pt x.2.length [x.2] 0 0) (.pointer (some ⟨x.1,0,none⟩)))→Vc.lk l g=some cs→F.rep (mu W) W (.pt cs.length [cs] 0 0) (.pointer (some ⟨g,0,none⟩)):=by
  intro l
  induction l with
  | nil=>intro _ h;cases h
  | cons x l ih=>
   intro hx h;obtain⟨k,v⟩:=x;unfold Vc.lk at h
   cases hk:Nat.beq k g with
   | true=>
    rw[hk,cond_true] at h;have e:=Nat.eq_of_beq_eq_true hk;have e2:=Option.some.inj h;subst e e2;exact hx (_,_) (List.mem_cons_self ..)
   | false=>
    rw[hk,cond_false] at h;exact ih (fun y hy=>hx y (by simp[hy])) h
 exact key Kw (by
  intro x hx;simp only[Kw,List.mem_cons,List.not_mem_nil,or_false] at hx;rcases hx with rfl|rfl|rfl|rfl|rfl|rfl
  ·exact a0
  ·exact a1
  ·exact a2
  ·exact a3
  ·exact a5
  ·exact a6) hg
theorem E7{H:Type}{P:Program}{ts:List TypeId}{ds:List (DataW H)}(h:(DataW.weightsEach P ts ds).all (·≤reachBytes)=true):∀(i:Nat) t d,ts[i]?=some t→ds[i]?=some d→fI P t d:=by
 refine fc fun k hk=>?_;have:=List.all_eq_true.1 h k hk;simpa using this
end Go.Proofs.YtpbichnnflabdaaGreatDoor
end
section
namespace Go.Proofs.YtpbichnnflabdaaGreatDoor
open Go Go.Sl Go.RowKit Go.Vc Go.Km Go.aa
open Go.ChangeShapes Go.WideShapes Go.ChangeAt
theorem wm (W:World) (v1:Value) (g:List Dfn) (h1:F.rep (mu W) W (b8 g) v1) (hL:laidMetH Tryz.prog gj W)
  (hn:g.length≤dF) (hw:∀d∈g,d.wf) :
  Calls Tryz.prog 6 #[v1] W (fun e W'=>e=.returned (.bool true)∧Below W.heap.size W W'):=by
 have hr:=(Ai g hn hw).run (mu W) W [v1] (fun _ h=>h) (Nr hL) (aZ h1 gw);refine hr.mono fun e W' ⟨v,he,hb,hv⟩=>?_
 unfold F.rep at hv;subst hv;exact⟨he,hb⟩
set_option maxRecDepth 100000 in
theorem rl(os:Os)(started:os.Started)(H:Type)(enc:TypeId×Value→H) :
  ReturnsInHanded {} Tryz.checked os 6 .any (fun w args=>(Rows.deadLessSpec.pre enc Tryz.prog Tryz.f6 [] false w args∧laidMetH Tryz.prog gj w)∧sizedMet enc Tryz.prog Tryz.f6 (OpenSpec.ofChange Rows.deadLessSpec) false w args)
   (Rows.deadLessSpec.post enc Tryz.prog Tryz.f6 false true false false):=by
 refine returnsInHanded_of_change_and (C:=Tryz.checked) (X:=fun w _=>laidMetH Tryz.prog gj w) (fun _ _ _ hh h=>h.of_heap hh) NJ started (by kernel_rfl) Tryz.func6
  (ChangeSpec.witness_shaped (enc:=enc) (C:=Tryz.checked) (os:=os) (X:=fun w _=>laidMetH Tryz.prog gj w) false (World.doorLaid Tryz.prog 400 os) #[.agg #[.slice none 0 0]] 8 rfl (World.shaped_of_RefB (by kernel_rfl) (by kernel_rfl)) (by kernel_rfl) (by kernel_rfl) (by kernel_rfl) (DT os _)) ?_
 intro W base args ds gs before hval0 hW _ hsz0 hL _;have hsz:=E7 hsz0;have hlt:∀x∈before,x.block<W.heap.size:=fun x hx=>by simpa using hW.lt x hx
 have hW':=hW;obtain⟨p,q,hA0,hV,rfl,hfz,hnd⟩:=hW;have hA:DataW.TrodAll enc Tryz.prog W 0 (fun _=>true) true Tryz.f6.params.toList args.toList ds p:=hA0;rw[Tryz.params6] at hA hsz hval0;obtain⟨v1,d1,rfl,rfl,h1⟩:=trodAll_one hA;obtain⟨rfl,rfl⟩:=trodVars_none hV;have h1':=h1;obtain⟨a1,rfl,_⟩:=okWide_struct Tryz.underlying24 (hval0 0 _ _ rfl rfl);obtain⟨_,h1⟩:=h1;obtain⟨x1,hr1,hlr1,hw1⟩:=Er h1 (hsz 0 _ _ rfl rfl);simp only[List.append_nil] at hW' hlt;have hb1':∀x∈p,x.block<W.heap.size:=fun x hx=>hlt x (by simp[hx])
 have hxGrammar:∀W':World,Below W.heap.size W W'→∀(v d p),DataW.Trod enc Tryz.prog W 0 (fun _=>true) true 24 v d p→(∀x∈p,x.block<W.heap.size)→DataW.Trod enc Tryz.prog W' 0 (fun b=>decide (b<W.heap.size)) true 24 v d p:=
  fun W' hb v d p h hp=>Below.trod EV (by kernel_rfl) (of_decide_eq_true (by kernel_rfl)) h hb hp
 refine(wm W _ x1 hr1 hL hlr1 hw1).mono fun e W' ⟨he,hb⟩=>?_;subst he;exact⟨_,rfl,_,_,_,[],p,[],hW',trodAll_mk1 (shut_bool Tryz.underlying4 _),trodAll_mk1 (hxGrammar W' hb _ _ _ h1' hb1'),rfl,hb.frame _,fun h=>by cases h⟩
set_option maxRecDepth 100000 in
theorem ue:Rows.DeadLessSaid:=
 OpenClaim.holds_of_wide 6 Tryz.f6 rfl rfl rfl rfl rfl rfl rfl ⟨rfl,rfl,rfl,rfl,rfl⟩ rfl rfl rfl rfl rfl (by kernel_rfl) Tryz.func6 (by kernel_rfl)
  (of_decide_eq_true (by kernel_rfl)) (by unfold Func.isWrapper;first|(rw[if_pos (by decide +kernel)];kernel_rfl)|(rw[if_neg (by decide +kernel)];exact⟨rfl,rfl⟩))
  (fun os started H enc _=>rl os started H enc)
set_option maxRecDepth 100000 in
theorem deadLess_card_holds:Rows.DeadLessCardSaid:=
 Claim7.holds_tied_plain_at .later [] [.data,.data,.data,.data,.data,.data] true (true,"261646ac44af3a5509ab41c83a1ad89ad70877b4f4c8bd133ed783bfceeb2e4e") false
  ue (fun _ h=>by cases h) (by kernel_rfl) (fun _ h=>by cases h) deadLess_row_tie rfl ⟨rfl,rfl⟩ (by kernel_rfl) rfl
  (fun f fn hf hfn=>by
   obtain rfl:f=6:=Option.some.inj ((show Tryz.prog.funcNamed "bonsai/bonsailaw20.DeadLess"=some 6 by kernel_rfl).symm.trans hf) |>.symm;obtain rfl:fn=Tryz.f6:=(Option.some.inj (Tryz.func6.symm.trans hfn)).symm;exact⟨by kernel_rfl,fun j t ht=>by
    rw[Tryz.params6] at ht;have hm:t∈[24]:=by simpa using Array.mem_of_getElem? ht
    have hall:([24].all fun u=>!Tryz.prog.wantsStandIn u)=true:=by kernel_rfl
    exact(show Tryz.prog.wantsStandIn t=false by simpa using List.all_eq_true.1 hall t hm)⟩)
  (by kernel_rfl)
#print axioms deadLess_card_holds
end Go.Proofs.YtpbichnnflabdaaGreatDoor
end
