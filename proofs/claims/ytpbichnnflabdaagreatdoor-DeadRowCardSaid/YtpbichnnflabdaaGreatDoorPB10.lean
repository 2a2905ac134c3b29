/- The texts that the card needs, part 11. -/
import Derived.Test.YtpbichnnflabdaaGreatDoorPB9
set_option linter.all false
section
namespace Go.aa
open Go Go.Sl
theorem vS{t:Tre}(h:ay t){x:Int}(h0:0≤x)(hx:x<t.nodes.length):szN t.nodes x≤t.nodes.length:=by
 rw[szN,iY];exact fc h h0 hx
def fT(ar:List Nod):Prop:=∀n∈ar,({ n with kids:=[] }:Nod).wf∧n.kids.length≤dd
theorem fT.app{a b:List Nod}(h:fT a)(k:fT b):fT (a++b):=fun n hn=>by
 rcases List.mem_append.1 hn with hn|hn
 ·exact h n hn
 ·exact k n hn
theorem fT.gA{ar ns:List Nod}{row:List Int}{m:Nat}(h:fT ar)(hn:∀n∈ns,n.wf):fT (gA ar ns row m):=by
 refine fT.app h fun n hm=>?_;obtain⟨j,_,rfl⟩:=List.mem_map.1 hm;obtain⟨q,hq⟩:=exEq (row.getD (row.length - 1 - j) 0);have hw:(ns.getD q.toNat .zero).wf:=by
  rw[List.getD_eq_getElem?_getD]
  cases e:ns[q.toNat]? with
  | none=>exact Nod.cM
  | some n=>exact hn n (List.mem_of_getElem? e)
 refine⟨?_,?_⟩
 ·show({ ns.getD (row.getD (row.length - 1 - j) 0).toNat .zero with kids:=[] }:Nod).wf
  rw[←hq];exact hw.wf0
 ·show(dh ns row ar.length (row.length - 1 - j)).length≤dd
  rw[dh,List.length_map,List.length_range,←hq,ae]
  split
  ·exact Nat.zero_le _
  ·unfold m4
   split
   ·rename_i n e;exact(hn n (List.mem_of_getElem? e)).kids.1
   ·exact Nat.zero_le _
theorem fT.wf{ar:List Nod}(h:fT ar)(hk:NOk 0 ar)(hl:ar.length≤bT):∀n∈ar,n.wf:=fun n hn=>by
 obtain⟨h1,h2⟩:=h n hn;obtain⟨i,hi⟩:=List.mem_iff_getElem?.1 hn;have h3:=(hk i n hi).2;have h4:=(List.getElem?_eq_some_iff.1 hi).1;unfold bT at hl;exact⟨h1.kind,h1.set,h1.text,h1.min,h1.max,h2,fun x hx=>by have:=h3 x hx;unfold I64;omega⟩
end Go.aa
namespace Go.Km
open Go Go.Vc Go.Proofs Go.aa Go.Proofs.YtpbichnnflabdaaGreatDoor
set_option maxRecDepth 100000
set_option maxHeartbeats 0
theorem Mv(t:Tre):C 126 [aD t] (.tp [aD (kO t).1,boF (kO t).2]) false t.wf:=inferInstance
instance(t x:Tre)(p:List Int):C 119 [aD t,isF p,aD x] (.tp [aD (eO t p x).1,boF (eO t p x).2]) false (t.wf∧x.wf∧t.nodes.length≤100000∧x.nodes.length≤100000∧p.length≤1000000):=⟨fun ⟨hw,hwx,htl,hxl,hp⟩=>by
 cases hr:au t with
 | false=>
  have e:eO t p x=(.zero,false):=by rw[eO,hr];rfl
  rw[e];refine kf rfl rfl ?_;repeat' first|exact k9|refine k2 ?_|apply kA|apply kI;intro hc|(apply Sn.go hX;conv=>whnf)|refine k8 ?_|apply kL;intro hl
  exact ao.i rfl
 | true=>
  cases hrx:au x with
  | false=>
   have e:eO t p x=(.zero,false):=by rw[eO,hr,hrx];rfl
   rw[e];refine kf rfl rfl ?_;repeat' first|exact k9|refine k2 ?_|apply kA|apply kI;intro hc|(apply Sn.go hX;conv=>whnf)|refine k8 ?_|apply kL;intro hl
   exact ao.i rfl
  | true=>
   have hR:=aq hr;have hRx:=aq hrx;have hpre:t.wf∧ay t∧p.length≤1000000:=⟨hw,hR,hp⟩
   cases hd:bP t.nodes t.root p with
   | none=>
    have e:eO t p x=(.zero,false):=by rw[eO,hr,hrx,hd];rfl
    have h1:(bP t.nodes t.root p).isSome=false:=by rw[hd];rfl
    rw[e];refine kf rfl rfl ?_;repeat' first|exact k9|refine k2 ?_|apply kA|apply kI;intro hc|(apply Sn.go hX;conv=>whnf)|refine k8 ?_|apply kL;intro hl
    exact ao.i rfl
   | some y=>
    obtain⟨row,k⟩:=y;have e:eO t p x=(cc (upF t.nodes row (foT x)).norm,true):=by rw[eO,hr,hrx,hd];rfl
    have h1:(bP t.nodes t.root p).isSome=true:=by rw[hd];rfl
    have h2:dnR (bP t.nodes t.root p)=row:=by rw[hd];rfl
    obtain⟨hab,_,_,hrl⟩:=jb hR.kok.ae p t.root hR.root.1 hR.root.2 row k hd;rw[e];refine kf rfl rfl ?_;repeat' first|exact k9|refine k2 ?_|apply kA|apply kI;intro hc|apply kL;intro hl|(apply Sn.go hX;conv=>whnf)|((simp only[h2])<;>conv=>whnf)|refine k8 ?_|fail
    have hrx1:=hRx.root;apply Stp.mz 0 46 9 rfl rfl;obtain⟨ns,hns⟩:=exEq (x.nodes);have hk_:KOk ns:=by rw[hns];exact(hRx).kok
    have hsz:szN ns x.root≤ns.length:=by rw[hns];exact vS hRx (by omega) (by omega)
    have hnl:ns.length≤100000:=by rw[hns];exact hxl
    have hnw:∀n∈ns,n.wf:=by rw[hns];exact(hwx).nodes
    apply kCt [0,4,8,9] [3,6,8];conv=>whnf
    refine Lp.ind (fun z:Nat×List Int=>szN ns x.root - z.1) (fun z=>Bfs ns x.root z.1 z.2) (fun z=>[(9,InD z.1)]) (fun z=>[(2,.ro 0 3 1 (z.2.map ikF))]) (fun _=>_) (0,[x.root]) (Bfs.zero (by omega) (by rw[hns];omega)) rfl rfl rfl ?_
    rintro G1 ⟨i,rw_⟩ ih1 hB
    dsimp only at hB ih1 ⊢;have hBl:=hB.len hk_;have hBi:=hB.le
    by_cases hx1:i<rw_.length
    ·have hst:=hB.step hk_ hx1;have hsl:=hst.len hk_;have hm:=hB.mem _ (List.getElem_mem hx1);obtain⟨q,hq⟩:∃q:Nat,rw_[i]=q:=⟨rw_[i].toNat,by omega⟩
     rw[hq] at hm hst hsl;have hql:q<ns.length:=by omega
     have hqi:∀h:i<rw_.length,rw_[i]'h=(q:Int):=fun _=>hq
     have hch:ae ns (q:Int)=ns[q].kids:=(aH (List.getElem?_eq_getElem hql)).symm;rw[hch] at hst hsl;subst hns;simp only[List.length_append] at hsl
     repeat' first|exact k9|refine k2 ?_|apply kA|apply kI;intro hc|apply kL;intro hl|(apply Sn.go hX;conv=>whnf)|((simp only[hqi])<;>conv=>whnf)|refine k8 ?_|fail
     apply kCt [0,4,8,9] [3,6,8];conv=>whnf
     refine ih1 (i+1,rw_++x.nodes[q].kids) _ _ _ (by dsimp only;omega) hst rfl rfl ?_;dsimp only;rw[List.map_append];rfl
    obtain rfl:i=rw_.length:=by omega
    have hRow:Row ns x.root rw_:=⟨hB⟩
    have hpos:=hRow.pos;have hend:=hRow.end_;clear ih1
    repeat' first|exact k9|refine k2 ?_|apply kA|apply kI;intro hc|(apply Sn.go hX;conv=>whnf)|refine k8 ?_|apply kL;intro hl
    apply kCt [0,4,8,10,11] [3,6,8];conv=>whnf
    refine Lp.ind (fun m:Nat=>rw_.length - m) (fun m=>m≤rw_.length) (fun m=>[(11,InD (((rw_.length:Nat):Int) - 1 - (m:Int))),(10,InD (bE ns rw_ (rw_.length - m)))]) (fun m=>[(0,.ro 0 46 9 ((gA ([]:List Nod) ns rw_ m).map aX))]) (fun _=>_) 0 (Nat.zero_le _) rfl (by rw[Nat.sub_zero,hend];simp only[List.length_map,Int.natCast_zero,Int.sub_zero];rfl) (by simp only[gA,List.range_zero,List.map_nil,List.append_nil];rfl) ?_
    rintro G2 m ih2 hmr
    have hgl:=wX ([]:List Nod) ns rw_ m
    by_cases hx2:m<rw_.length
    ·obtain⟨pp,hpp⟩:=exEq (rw_.length - 1 - m);have hppl:pp<rw_.length:=by omega
     have hpi:((rw_.length:Nat):Int) - 1 - (m:Int)=(pp:Int):=by omega
     have hpe:rw_.length - m=pp+1:=by omega
     have hsu:=re ([]:List Nod) ns rw_ m;rw[←hpp] at hsu;have hE:=ry (ns:=ns) hppl;have hEm:=wg (ns:=ns) (p:=pp+1) (q:=rw_.length) (by omega) (Nat.le_refl _);rw[hend] at hEm;have hmm:=hB.mem _ (List.getElem_mem hppl);obtain⟨q,hq⟩:∃q:Nat,rw_[pp]=q:=⟨rw_[pp].toNat,by omega⟩
     rw[hq] at hmm;have hqi:∀h:pp<rw_.length,rw_[pp]'h=(q:Int):=fun _=>hq
     have hql:q<ns.length:=by omega
     have hgd:rw_.getD pp 0=(q:Int):=(lI hppl).trans hq;have hch:ae ns (q:Int)=ns[q].kids:=(aH (List.getElem?_eq_getElem hql)).symm;rw[hgd,hch] at hE;rw[hE] at hEm;obtain⟨nn,hnn⟩:=exEq (ns[q]);rw[←hnn] at hE hEm hch;have hnq:ns.getD (rw_.getD pp 0).toNat .zero=nn:=by rw[hgd,Int.toNat_natCast,hnn];simp[List.getD_eq_getElem?_getD,hql]
     obtain⟨gk,hgk⟩:=exEq (dh ns rw_ ([]:List Nod).length pp);have hgkl:gk.length=nn.kids.length:=by rw[hgk,dh,List.length_map,List.length_range,hgd,hch]
     have hgka:∀(j:Nat) (h:j<gk.length),gk[j]=((([]:List Nod).length+rw_.length:Nat):Int) - 1 - ((bE ns rw_ pp+j:Nat):Int):=fun j h=>by simp only[hgk,dh,List.getElem_map,List.getElem_range]
     have hgn:gN ns rw_ ([]:List Nod).length pp={ nn with kids:=gk }:=by rw[gN,hnq,hgk]
     obtain⟨A,hA⟩:=exEq (gA ([]:List Nod) ns rw_ m);rw[←hA] at hgl hsu ⊢;obtain⟨Ep,hEp⟩:=exEq (bE ns rw_ pp);rw[hpi,hpe,hE];rw[←hEp] at hgka hE hEm ⊢;have hnr:ns.length=x.nodes.length:=by rw[hns]
     have hkq:=(hnw _ (List.getElem_mem hql)).kids.1;simp only[dd] at hkq;rw[←hnn] at hkq;have hnsq:∀h:((q:Nat):Int).toNat<x.nodes.length,x.nodes[((q:Nat):Int).toNat]'h=nn:=fun h=>by simp only[hnn,hns,Int.toNat_natCast]
     have hARb:([]:List Nod).length≤1000000000000:=(by simp)
     rw[hgn] at hsu
     repeat' first|exact k9|refine k2 ?_|apply kA|apply kI;intro hc|apply kL;intro hl|(apply Sn.go hX;conv=>whnf)|((simp only[hqi])<;>conv=>whnf)|((simp only[hnsq])<;>conv=>whnf)|refine k8 ?_|fail
     simp only[List.length_replicate,List.length_map];rw[show(((Ep+nn.kids.length:Nat):Int) - ((nn.kids.length:Nat):Int))=(Ep:Int) by omega];apply kCt [0,4,8,10,11,12,13,60,61] [3,6,8];conv=>whnf
     refine Lp.ind (fun j:Nat=>nn.kids.length - j) (fun j=>j≤nn.kids.length) (fun j=>[(61,InD j)]) (fun j=>[(4,.ro 0 3 1 ((gk.take j++List.replicate (nn.kids.length - j) 0).map ikF))]) (fun _=>_) 0 (Nat.zero_le _) rfl rfl (by simp only[List.take_zero,List.nil_append,Nat.sub_zero,List.map_replicate];rfl) ?_
     rintro G3 j ih3 hj
     have hfl:(gk.take j++List.replicate (nn.kids.length - j) 0).length=nn.kids.length:=by rw[List.length_append,List.length_take,List.length_replicate];omega
     by_cases hx3:j<nn.kids.length
     ·have hval:=hgka j (by omega);have hstep:((gk.take j++List.replicate (nn.kids.length - j) 0).map ikF).set j (ikF gk[j])=(gk.take (j+1)++List.replicate (nn.kids.length - (j+1)) 0).map ikF:=by
       rw[←List.map_set]
       congr 1
       rw[List.set_append_right _ _ (by rw[List.length_take];omega),List.length_take,show j - min j gk.length=0 by omega,List.take_succ_eq_append_getElem (by omega),show nn.kids.length - j=(nn.kids.length - (j+1))+1 by omega,List.replicate_succ,List.append_assoc];rfl
      obtain⟨X,hX⟩:=exEq (gk.take j++List.replicate (nn.kids.length - j) 0);rw[←hX] at hfl hstep ⊢;have hvv:(((A.map aX).length:Nat):Int)+(pp:Int) - ((Ep:Int)+(j:Int))=gk[j]:=by rw[List.length_map,hval];omega
      repeat' first|exact k9|refine k2 ?_|apply kA|apply kI;intro hc|(apply Sn.go hX;conv=>whnf)|refine k8 ?_|apply kL;intro hl
      rw[hvv];apply kCt [0,4,8,10,11,12,13,60,61] [3,6,8];conv=>whnf
      refine ih3 (j+1) _ _ _ (by omega) (by omega) rfl rfl ?_;rw[←hstep];rfl
     obtain rfl:j=nn.kids.length:=by omega
     rw[Nat.sub_self,List.replicate_zero,List.append_nil,List.take_of_length_le (by omega)];clear ih3
     repeat' first|exact k9|refine k2 ?_|apply kA|apply kI;intro hc|(apply Sn.go hX;conv=>whnf)|refine k8 ?_|apply kL;intro hl
     apply kCt [0,4,8,10,11] [3,6,8];conv=>whnf
     refine ih2 (m+1) _ _ _ (by omega) (by omega) rfl ?_ ?_
     ·rw[show((rw_.length:Nat):Int) - 1 - ((m+1:Nat):Int)=(pp:Int) - 1 by omega,show rw_.length - (m+1)=pp by omega,←hEp];rfl
     ·rw[hsu,List.map_append];rfl
    obtain rfl:m=rw_.length:=by omega
    clear ih2 hB;have hgl3:=hgl;simp only[List.length_nil,Nat.zero_add] at hgl3;obtain⟨hg1,hg2'⟩:=xv WA.nil hRx (by rw[←hns];exact hRow:Row x.nodes x.root rw_);have hg5:fT (gA [] ns rw_ rw_.length):=by rw[hns];exact fT.gA (fun n h=>by cases h) hwx.nodes
    rw[←hns] at hg1;have hg2:Den (gA [] ns rw_ rw_.length) (((gA [] ns rw_ rw_.length).length:Int) - 1) (foT x):=by rw[foT,hns];exact hg2'
    clear hg2';have hg3:(((gA [] ns rw_ rw_.length).length - 1:Nat):Int)=(((gA [] ns rw_ rw_.length).length:Nat):Int) - 1:=by omega
    have hg4:(((List.map aX (gA [] ns rw_ rw_.length)).length:Nat):Int) - 1=(((gA [] ns rw_ rw_.length).length - 1:Nat):Int):=by rw[List.length_map];omega
    repeat' first|exact k9|refine k2 ?_|apply kA|apply kI;intro hc|(apply Sn.go hX;conv=>whnf)|refine k8 ?_|apply kL;intro hl
    rw[hg4];apply kCt [0,2,3,5] [6];conv=>whnf
    refine Lp.ind (fun z:Nat×List Nod×Nat=>z.1) (fun z=>z.1≤row.length∧WA z.2.1 [(z.2.2:Int)]∧Den z.2.1 (z.2.2:Int) (upF t.nodes (row.drop z.1) (foT x))∧z.2.1.length≤100000+(row.length - z.1) * 100001∧fT z.2.1) (fun z=>[(2,.fr (.sl ((row.take z.1).map wk))),(3,InD z.2.2)]) (fun z=>[(0,.ro 0 46 9 (z.2.1.map aX))]) (fun _=>_) (row.length,gA [] ns rw_ rw_.length,(gA [] ns rw_ rw_.length).length - 1) ⟨Nat.le_refl _,by dsimp only;rw[hg3];exact hg1,by dsimp only;rw[hg3,List.drop_length];exact hg2,by dsimp only;omega,hg5⟩ rfl (by dsimp only;rw[List.take_length];rfl) rfl ?_;clear hg1 hg2 hg3 hg4 hg5 hgl3 hRow hend hpos hBl hBi
    rintro G4 ⟨lv,ar,rt⟩ ih4 ⟨hlv,hwa,hden,hal,hdat⟩
    dsimp only at hlv hwa hden hal hdat ih4 ⊢
    by_cases hx4:0<lv
    ·have hlr:(row.take lv).length=lv:=by rw[List.length_take];omega
     have hlp:0<(row.take lv).length∧(row.take lv).length≤1000000:=by omega
     obtain⟨a,ha⟩:=exEq (row[lv - 1]);have hdl:(row.take lv).dropLast=row.take (lv - 1):=by rw[List.dropLast_eq_take,hlr,List.take_take,Nat.min_eq_left (by omega)]
     have hgl4:(row.take lv).getLastD (0,0)=a:=by
      have:row.take lv=row.take (lv - 1)++[a]:=by
       rw[ha,←List.take_succ_eq_append_getElem (by omega),show lv - 1+1=lv by omega]
      rw[this];simp
     have haok:=hab a (by rw[ha];exact List.getElem_mem _);obtain⟨a1,ha1⟩:∃a1:Nat,a.1=a1:=⟨a.1.toNat,by omega⟩
     obtain⟨a2,ha2⟩:∃a2:Nat,a.2=a2:=⟨a.2.toNat,by omega⟩
     have ha1l:a1<t.nodes.length:=by omega
     obtain⟨an,han⟩:=exEq (t.nodes[a1]);have hani:∀h:((a1:Nat):Int).toNat<t.nodes.length,t.nodes[((a1:Nat):Int).toNat]'h=an:=fun h=>by simp only[han,Int.toNat_natCast]
     have hach:ae t.nodes a.1=an.kids:=by rw[ha1,han];exact(aH (List.getElem?_eq_getElem ha1l)).symm
     have hanw:=(hw.nodes an (by rw[han];exact List.getElem_mem _)).kids.1;simp only[dd] at hanw;obtain⟨P,hP⟩:=exEq (row.take lv);rw[←hP] at hlr hlp hdl hgl4 ⊢
     repeat' first|exact k9|refine k2 ?_|apply kA|apply kI;intro hc|apply kL;intro hl|(apply Sn.go hX;conv=>whnf)|((simp only[hgl4,hdl])<;>conv=>whnf)|((simp only[ha1])<;>conv=>whnf)|((simp only[hani])<;>conv=>whnf)|refine k8 ?_|fail
     simp only[List.length_map];apply kCt [0,2,3,5,10,11,12,34,35,36] [6];conv=>whnf
     have hsa:szN t.nodes a.1=(an.kids.map (szN t.nodes)).sum+1:=by rw[wv hR.kok.ae (by omega) (by omega),hach]
     have hsb:szN t.nodes a.1≤t.nodes.length:=vS hR (by omega) (by omega);refine Lp.ind (fun z:Nat×List Nod×List Int=>an.kids.length - z.1) (fun z=>z.1≤an.kids.length∧UpI t.nodes z.2.1 a (rt:Int) (upF t.nodes (row.drop lv) (foT x)) z.2.2 z.1∧z.2.1.length+((an.kids.drop z.1).map (szN t.nodes)).sum≤ar.length+100000∧fT z.2.1) (fun z=>[(36,InD z.1)]) (fun z=>[(0,.ro 0 46 9 (z.2.1.map aX)),(4,.ro 0 3 1 ((z.2.2++List.replicate (an.kids.length - z.1) 0).map ikF))]) (fun _=>_) (0,ar,[]) ⟨Nat.zero_le _,IA hwa hden haok.2.1,by dsimp only;rw[List.drop_zero];omega,hdat⟩ rfl rfl (by simp only[List.nil_append,Nat.sub_zero,List.map_replicate];rfl) ?_
     rintro G5 ⟨i,br,ks⟩ ih5 ⟨hi5,hU,hbl,hdb⟩
     dsimp only at hi5 hU hbl hdb ih5 ⊢;have hksl:=hU.len;have hfl5:(ks++List.replicate (an.kids.length - i) 0).length=an.kids.length:=by rw[List.length_append,List.length_replicate];omega
     by_cases hx5:i<an.kids.length
     ·have hset5:∀v:Int,((ks++List.replicate (an.kids.length - i) 0).map ikF).set i (ikF v)=(ks++[v]++List.replicate (an.kids.length - (i+1)) 0).map ikF:=fun v=>by
       rw[←List.map_set]
       congr 1
       rw[List.set_append_right _ _ (by omega),hksl,Nat.sub_self,show an.kids.length - i=(an.kids.length - (i+1))+1 by omega,List.replicate_succ,List.append_assoc];rfl
      have hkm:an.kids[i]∈an.kids:=List.getElem_mem hx5;have hko:=hR.kok.ae a.1 an.kids[i] (by rw[hach];exact hkm);obtain⟨q5,hq5⟩:∃q5:Nat,an.kids[i]=q5:=⟨an.kids[i].toNat,by omega⟩
      have hq5i:∀h:i<an.kids.length,an.kids[i]'h=(q5:Int):=fun _=>hq5
      have hach5:∀h:i<(ae t.nodes a.1).length,(ae t.nodes a.1)[i]'h=(q5:Int):=fun h=>by simp only[hach,hq5]
      rw[List.drop_eq_getElem_cons hx5,List.map_cons,List.sum_cons,hq5] at hbl;rw[hq5] at hko;obtain⟨KS,hKS⟩:=exEq (ks++List.replicate (an.kids.length - i) 0);rw[←hKS] at hfl5 hset5 ⊢
      by_cases hhit:(i:Int)=a.2
      ·repeat' first|exact k9|refine k2 ?_|apply kA|apply kI;intro hc|apply kL;intro hl|(apply Sn.go hX;conv=>whnf)|((simp only[hq5i])<;>conv=>whnf)|refine k8 ?_|fail
       apply kCt [0,2,3,5,10,11,12,34,35,36] [6];conv=>whnf
       refine ih5 (i+1,br,ks++[(rt:Int)]) _ _ _ (by dsimp only;omega) ⟨by dsimp only;omega,J9 hU hhit,by dsimp only;omega,hdb⟩ rfl rfl ?_;dsimp only;rw[←hset5];rfl
      ·repeat' first|exact k9|refine k2 ?_|apply kA|apply kI;intro hc|apply kL;intro hl|(apply Sn.go hX;conv=>whnf)|((simp only[hq5i])<;>conv=>whnf)|refine k8 ?_|fail
       obtain⟨ns,hns⟩:=exEq (t.nodes);have hk_:KOk ns:=by rw[hns];exact(hR).kok
       have hsz:szN ns (q5:Int)≤ns.length:=by rw[hns];exact vS hR (by omega) (by omega)
       have hnl:ns.length≤100000:=by rw[hns];exact htl
       have hnw:∀n∈ns,n.wf:=by rw[hns];exact(hw).nodes
       apply kCt [0,4,8,9] [2,3,5,6,10,11,12,34,35,36,50,51];conv=>whnf
       refine Lp.ind (fun z:Nat×List Int=>szN ns (q5:Int) - z.1) (fun z=>Bfs ns (q5:Int) z.1 z.2) (fun z=>[(9,InD z.1)]) (fun z=>[(2,.ro 0 3 1 (z.2.map ikF))]) (fun _=>_) (0,[(q5:Int)]) (Bfs.zero (by omega) (by rw[hns];omega)) rfl rfl rfl ?_
       rintro G1 ⟨i,rw_⟩ ih1 hB
       dsimp only at hB ih1 ⊢;have hBl:=hB.len hk_;have hBi:=hB.le
       by_cases hx1:i<rw_.length
       ·have hst:=hB.step hk_ hx1;have hsl:=hst.len hk_;have hm:=hB.mem _ (List.getElem_mem hx1);obtain⟨q,hq⟩:∃q:Nat,rw_[i]=q:=⟨rw_[i].toNat,by omega⟩
        rw[hq] at hm hst hsl;have hql:q<ns.length:=by omega
        have hqi:∀h:i<rw_.length,rw_[i]'h=(q:Int):=fun _=>hq
        have hch:ae ns (q:Int)=ns[q].kids:=(aH (List.getElem?_eq_getElem hql)).symm;rw[hch] at hst hsl;subst hns;simp only[List.length_append] at hsl
        repeat' first|exact k9|refine k2 ?_|apply kA|apply kI;intro hc|apply kL;intro hl|(apply Sn.go hX;conv=>whnf)|((simp only[hqi])<;>conv=>whnf)|refine k8 ?_|fail
        apply kCt [0,4,8,9] [2,3,5,6,10,11,12,34,35,36,50,51];conv=>whnf
        refine ih1 (i+1,rw_++t.nodes[q].kids) _ _ _ (by dsimp only;omega) hst rfl rfl ?_;dsimp only;rw[List.map_append];rfl
       obtain rfl:i=rw_.length:=by omega
       have hRow:Row ns (q5:Int) rw_:=⟨hB⟩
       have hpos:=hRow.pos;have hend:=hRow.end_;clear ih1
       repeat' first|exact k9|refine k2 ?_|apply kA|apply kI;intro hc|(apply Sn.go hX;conv=>whnf)|refine k8 ?_|apply kL;intro hl
       apply kCt [0,4,8,10,11] [2,3,5,6,10,11,12,34,35,36,50,51];conv=>whnf
       refine Lp.ind (fun m:Nat=>rw_.length - m) (fun m=>m≤rw_.length) (fun m=>[(11,InD (((rw_.length:Nat):Int) - 1 - (m:Int))),(10,InD (bE ns rw_ (rw_.length - m)))]) (fun m=>[(0,.ro 0 46 9 ((gA br ns rw_ m).map aX))]) (fun _=>_) 0 (Nat.zero_le _) rfl (by rw[Nat.sub_zero,hend];simp only[List.length_map,Int.natCast_zero,Int.sub_zero];rfl) (by simp only[gA,List.range_zero,List.map_nil,List.append_nil];rfl) ?_
       rintro G2 m ih2 hmr
       have hgl:=wX br ns rw_ m
       by_cases hx2:m<rw_.length
       ·obtain⟨pp,hpp⟩:=exEq (rw_.length - 1 - m);have hppl:pp<rw_.length:=by omega
        have hpi:((rw_.length:Nat):Int) - 1 - (m:Int)=(pp:Int):=by omega
        have hpe:rw_.length - m=pp+1:=by omega
        have hsu:=re br ns rw_ m;rw[←hpp] at hsu;have hE:=ry (ns:=ns) hppl;have hEm:=wg (ns:=ns) (p:=pp+1) (q:=rw_.length) (by omega) (Nat.le_refl _);rw[hend] at hEm;have hmm:=hB.mem _ (List.getElem_mem hppl);obtain⟨q,hq⟩:∃q:Nat,rw_[pp]=q:=⟨rw_[pp].toNat,by omega⟩
        rw[hq] at hmm;have hqi:∀h:pp<rw_.length,rw_[pp]'h=(q:Int):=fun _=>hq
        have hql:q<ns.length:=by omega
        have hgd:rw_.getD pp 0=(q:Int):=(lI hppl).trans hq;have hch:ae ns (q:Int)=ns[q].kids:=(aH (List.getElem?_eq_getElem hql)).symm;rw[hgd,hch] at hE;rw[hE] at hEm;obtain⟨nn,hnn⟩:=exEq (ns[q]);rw[←hnn] at hE hEm hch;have hnq:ns.getD (rw_.getD pp 0).toNat .zero=nn:=by rw[hgd,Int.toNat_natCast,hnn];simp[List.getD_eq_getElem?_getD,hql]
        obtain⟨gk,hgk⟩:=exEq (dh ns rw_ br.length pp);have hgkl:gk.length=nn.kids.length:=by rw[hgk,dh,List.length_map,List.length_range,hgd,hch]
        have hgka:∀(j:Nat) (h:j<gk.length),gk[j]=((br.length+rw_.length:Nat):Int) - 1 - ((bE ns rw_ pp+j:Nat):Int):=fun j h=>by simp only[hgk,dh,List.getElem_map,List.getElem_range]
        have hgn:gN ns rw_ br.length pp={ nn with kids:=gk }:=by rw[gN,hnq,hgk]
        obtain⟨A,hA⟩:=exEq (gA br ns rw_ m);rw[←hA] at hgl hsu ⊢;obtain⟨Ep,hEp⟩:=exEq (bE ns rw_ pp);rw[hpi,hpe,hE];rw[←hEp] at hgka hE hEm ⊢;have hnr:ns.length=t.nodes.length:=by rw[hns]
        have hkq:=(hnw _ (List.getElem_mem hql)).kids.1;simp only[dd] at hkq;rw[←hnn] at hkq;have hnsq:∀h:((q:Nat):Int).toNat<t.nodes.length,t.nodes[((q:Nat):Int).toNat]'h=nn:=fun h=>by simp only[hnn,hns,Int.toNat_natCast]
        have hARb:br.length≤1000000000000:=(by omega)
        rw[hgn] at hsu
        repeat' first|exact k9|refine k2 ?_|apply kA|apply kI;intro hc|apply kL;intro hl|(apply Sn.go hX;conv=>whnf)|((simp only[hqi])<;>conv=>whnf)|((simp only[hnsq])<;>conv=>whnf)|refine k8 ?_|fail
        simp only[List.length_replicate,List.length_map];rw[show(((Ep+nn.kids.length:Nat):Int) - ((nn.kids.length:Nat):Int))=(Ep:Int) by omega];apply kCt [0,4,8,10,11,12,13,60,61] [2,3,5,6,10,11,12,34,35,36,50,51];conv=>whnf
        refine Lp.ind (fun j:Nat=>nn.kids.length - j) (fun j=>j≤nn.kids.length) (fun j=>[(61,InD j)]) (fun j=>[(4,.ro 0 3 1 ((gk.take j++List.replicate (nn.kids.length - j) 0).map ikF))]) (fun _=>_) 0 (Nat.zero_le _) rfl rfl (by simp only[List.take_zero,List.nil_append,Nat.sub_zero,List.map_replicate];rfl) ?_
        rintro G3 j ih3 hj
        have hfl:(gk.take j++List.replicate (nn.kids.length - j) 0).length=nn.kids.length:=by rw[List.length_append,List.length_take,List.length_replicate];omega
        by_cases hx3:j<nn.kids.length
        ·have hval:=hgka j (by omega);have hstep:((gk.take j++List.replicate (nn.kids.length - j) 0).map ikF).set j (ikF gk[j])=(gk.take (j+1)++List.replicate (nn.kids.length - (j+1)) 0).map ikF:=by
          rw[←List.map_set]
          congr 1
          rw[List.set_append_right _ _ (by rw[List.length_take];omega),List.length_take,show j - min j gk.length=0 by omega,List.take_succ_eq_append_getElem (by omega),show nn.kids.length - j=(nn.kids.length - (j+1))+1 by omega,List.replicate_succ,List.append_assoc];rfl
         obtain⟨X,hX⟩:=exEq (gk.take j++List.replicate (nn.kids.length - j) 0);rw[←hX] at hfl hstep ⊢;have hvv:(((A.map aX).length:Nat):Int)+(pp:Int) - ((Ep:Int)+(j:Int))=gk[j]:=by rw[List.length_map,hval];omega
         repeat' first|exact k9|refine k2 ?_|apply kA|apply kI;intro hc|(apply Sn.go hX;conv=>whnf)|refine k8 ?_|apply kL;intro hl
         rw[hvv];apply kCt [0,4,8,10,11,12,13,60,61] [2,3,5,6,10,11,12,34,35,36,50,51];conv=>whnf
         refine ih3 (j+1) _ _ _ (by omega) (by omega) rfl rfl ?_;rw[←hstep];rfl
        obtain rfl:j=nn.kids.length:=by omega
        rw[Nat.sub_self,List.replicate_zero,List.append_nil,List.take_of_length_le (by omega)];clear ih3
        repeat' first|exact k9|refine k2 ?_|apply kA|apply kI;intro hc|(apply Sn.go hX;conv=>whnf)|refine k8 ?_|apply kL;intro hl
        apply kCt [0,4,8,10,11] [2,3,5,6,10,11,12,34,35,36,50,51];conv=>whnf
        refine ih2 (m+1) _ _ _ (by omega) (by omega) rfl ?_ ?_
        ·rw[show((rw_.length:Nat):Int) - 1 - ((m+1:Nat):Int)=(pp:Int) - 1 by omega,show rw_.length - (m+1)=pp by omega,←hEp];rfl
        ·rw[hsu,List.map_append];rfl
       obtain rfl:m=rw_.length:=by omega
       subst hns;have hrs:rw_.length=szN t.nodes (q5:Int):=by have:=hRow.b.sum;rw[List.drop_length] at this;simpa using this
       have hg6:=KY hR hU hhit (by rw[hach];exact hx5) (row:=rw_) (by rw[hach5];exact hRow);have hg7:(((List.map aX (gA br t.nodes rw_ rw_.length)).length:Nat):Int) - 1=(((gA br t.nodes rw_ rw_.length).length:Nat):Int) - 1:=by rw[List.length_map]
       clear ih2 hB
       repeat' first|exact k9|refine k2 ?_|apply kA|apply kI;intro hc|(apply Sn.go hX;conv=>whnf)|refine k8 ?_|apply kL;intro hl
       rw[hg7];apply kCt [0,2,3,5,10,11,12,34,35,36] [6];conv=>whnf
       refine ih5 (i+1,gA br t.nodes rw_ rw_.length,ks++[(((gA br t.nodes rw_ rw_.length).length:Nat):Int) - 1]) _ _ _ (by dsimp only;omega) ⟨by dsimp only;omega,hg6,by dsimp only;omega,fT.gA hdb hw.nodes⟩ rfl rfl ?_;dsimp only;rw[←hset5];rfl
     ·obtain rfl:i=an.kids.length:=by omega
      rw[Nat.sub_self,List.replicate_zero,List.append_nil];rw[List.drop_length] at hbl;simp only[List.map_nil,List.sum_nil,Nat.add_zero] at hbl;have hU2:UpI t.nodes br a (rt:Int) (upF t.nodes (row.drop lv) (foT x)) ks (ae t.nodes a.1).length:=by rw[hach];exact hU
      obtain⟨hw6,hd6⟩:=Iv hR (by rw[hach] at haok ⊢;exact haok) hU2 an (by rw[ha1,Int.toNat_natCast,han];simp[List.getD_eq_getElem?_getD,ha1l]);have hup:upS t.nodes a (upF t.nodes (row.drop lv) (foT x))=upF t.nodes (row.drop (lv - 1)) (foT x):=by
       rw[List.drop_eq_getElem_cons (show lv - 1<row.length by omega),←ha,show lv - 1+1=lv by omega];rfl
      rw[hup] at hd6;clear ih5
      repeat' first|exact k9|refine k2 ?_|apply kA|apply kI;intro hc|(apply Sn.go hX;conv=>whnf)|refine k8 ?_|apply kL;intro hl
      simp only[List.length_append,List.length_map,List.length_cons,List.length_nil];rw[show(((br.length+(0+1):Nat):Int) - 1)=(br.length:Int) by omega];apply kCt [0,2,3,5] [6];conv=>whnf
      refine ih4 (lv - 1,br++[{ an with kids:=ks }],br.length) _ _ _ (by dsimp only;omega) ⟨by dsimp only;omega,hw6,hd6,by simp only[List.length_append,List.length_cons,List.length_nil];omega,fT.app hdb fun n hn=>by
       simp only[List.mem_singleton] at hn;subst hn;refine⟨(hw.nodes an (by rw[han];exact List.getElem_mem _)).wf0,?_⟩;simp only[hksl,dd];omega⟩ rfl rfl ?_
      dsimp only;rw[List.map_append];rfl
    ·obtain rfl:lv=0:=by omega
     have hwf:(⟨ar,(rt:Int)⟩:Tre).wf:=⟨by simp only[bT];omega,hdat.wf hwa.ok (by simp only[bT];omega),by have:=hwa.rng (rt:Int) (by simp);unfold Go.Sl.I64;dsimp only;omega⟩
     have hmk:=Ek hwa hden;rw[List.drop_zero] at hmk
     repeat' first|exact k9|refine k2 ?_|apply kA|apply kI;intro hc|(apply Sn.go hX;conv=>whnf)|((refine jJ.i (Mv ⟨ar,(rt:Int)⟩) hwf ?_)<;>conv=>whnf)|refine k8 ?_|apply kL;intro hl
     rw[hmk];exact ao.i rfl⟩
end Go.Km
end
section
namespace Go.Proofs.YtpbichnnflabdaaGreatDoor
open Go Go.Sl Go.RowKit
theorem yw:Tryz.prog.underlying 30=some (.slice 3):=by kernel_rfl
set_option maxHeartbeats 4000000 in
set_option maxRecDepth 100000 in
theorem Be(A:Option Addr)(c:Nat)(w:World) :
  Calls Tryz.prog 90 #[.slice A 0 c] w fun e w'=>(∃A' c',e=.returned (.slice A' 0 c'))∧Below w.heap.size w w':=by
 have heq:∀W,(binOp .eql 30 (.slice A 0 c) (.slice none 0 0)).run Tryz.prog W=.ok (.bool A.isNone) W:=by
  intro W;have h1:(Op.equal 30 (.slice A 0 c) (.slice none 0 0)).run Tryz.prog W=.ok A.isNone W:=by
   show(Op.equalIn (9999+1) _ _ _).run Tryz.prog W=_
   rw[Op.equalIn]
   cases A<;>simp[run_underlying yw]
  have h2:binOp .eql 30 (.slice A 0 c) (.slice none 0 0)=(do pure (.bool (←Op.equal 30 (.slice A 0 c) (.slice none 0 0)))):=rfl;rw[h2];simp[h1]
 cases A with
 | none=>
  go_enter Tryz.func90,Tryz.ntmps90
  go_wp2
  go_ret
  exact⟨⟨_,_,rfl⟩,Below.refl _ _⟩
 | some a=>
  have hb:∀W:World,(Instr.buildSlice 30 0 #[]).run Tryz.prog W=.ok (.slice (some ⟨W.heap.size,0,none⟩) 0 0) (W.alloc (.cells #[] 3)):=fun W=>by
   have ht:SlT Tryz.prog 30 3 _ _ _:=inferInstance;obtain⟨i,i1,i2,i3,i4⟩:=ht.info;simp[Instr.buildSlice,run_underlying yw,sizeOf,typeInfo,i1,i3,zeroValue,i2,newRow,iU,Instr.fill,show Array.range 0=#[] from rfl]
  go_enter Tryz.func90,Tryz.ntmps90
  go_wp2
  go_ret
  exact⟨⟨_,_,rfl⟩,(Below.refl _ _).alloc (Nat.le_refl _) _⟩
end Go.Proofs.YtpbichnnflabdaaGreatDoor
namespace Go.Km
open Go Go.Vc Go.Proofs Go.aa Go.Proofs.YtpbichnnflabdaaGreatDoor
set_option maxRecDepth 100000
set_option maxHeartbeats 0
theorem xo:Pure Tryz.prog X1.Γ 90 [.sl []] (.sl []) false:=
 ⟨inferInstance,fun Z w vs hZ hG hr=>by
  unfold F.ah F.rep at hr;obtain⟨u,us,rfl,⟨A,c,vr,sz,rfl,_,har,_,hr2⟩,hus⟩:=hr;unfold F.ah at hus;subst hus;refine(Be A c w).mono fun e w' ⟨⟨A',c',h1⟩,h2⟩=>⟨_,h1,h2,?_⟩
  unfold F.rep;exact⟨A',c',[],sz,rfl,Nat.zero_le _,⟨rfl,by simp,fun h=>absurd h (by simp)⟩,by simp,by unfold F.aG;rfl⟩⟩
instance(l:List Int):C 90 [isF l] (isF l) false (l.length≤17592186044416):=⟨fun h=>by
 cases l with
 | nil=>exact xo
 | cons a l=>
  obtain⟨L,hL⟩:=exEq (a :: l);rw[←hL] at h ⊢;have h0:0<(L.map ikF).length:=by rw[hL];simp
  refine kf rfl rfl ?_;repeat' first|exact k9|refine k2 ?_|apply kA|apply kI;intro hc|(apply Sn.go hX;conv=>whnf)|refine k8 ?_|apply kL;intro hl
  exact ao.i (by simp)⟩
theorem zq{α:Type}(f:α→List F)(l:List α)(i:Nat)(h:i<l.length):(l.map f).set i (f l[i])=l.map f:=by
 rw[←List.map_set,List.set_getElem_self]
instance(t:Tre):C 144 [aD t] (aD t) false (t.wf∧0<t.nodes.length):=⟨fun ⟨ht,h0⟩=>by
 have hl:=ht.len;simp only[bT] at hl;have h0:0<(t.nodes.map aX).length:=by simpa using h0
 have hX:=qs [157] [];refine fC hX rfl rfl ?_;repeat' first|exact k9|refine k2 ?_|apply kA|apply kI;intro hc|(apply Sn.go hX;conv=>whnf)|refine k8 ?_|apply kL;intro hl
 rw[List.nil_append];apply kCt [1,2,10,11,12] [];conv=>whnf
 refine Lp.ind (fun z:Nat=>t.nodes.length - z) (fun z=>z≤t.nodes.length) (fun z=>[(12,InD z)]) (fun _=>[]) (fun _=>_) 0 (Nat.zero_le _) rfl rfl rfl ?_
 rintro G i ih hi
 by_cases hx:i<t.nodes.length
 ·have hw:=(ht.nodes _ (List.getElem_mem hx)).kids.1;simp only[dd] at hw;apply Sn.go hX;repeat' first|exact k9|refine k2 ?_|apply kA|apply kI;intro hc|(apply Sn.go hX;conv=>whnf)|refine k8 ?_|apply kL;intro hl
  apply kCt [1,2,10,11,12] [];conv=>whnf
  refine ih (i+1) _ _ _ (by omega) (by omega) rfl rfl ?_;exact congrArg (fun z=>iO [(1,B.ro 0 46 9 z)] G.h) (zq aX t.nodes i hx)
 ·apply Sn.go hX;repeat' (first|exact k9|refine k2 ?_|apply kA|apply kI;intro hc|(apply Sn.go hX;conv=>whnf)|refine k8 ?_|apply kL;intro hl)⟩
def mh(g:List Dfn)(r:Int)(t:Tre):List Dfn×Bool:=if h:0≤r∧r<g.length then (g.set r.toNat { g[r.toNat]'(by omega) with body:=t },true) else ([],false)
instance(g:List Dfn)(r:Int)(t:Tre):C 120 [cg g,inF r,aD t] (.tp [cg (mh g r t).1,boF (mh g r t).2]) false (g.length≤1000∧0<g.length∧(∀d∈g,d.wf∧0<d.body.nodes.length)∧t.wf∧0<t.nodes.length):=⟨fun ⟨hn,h0,hw,ht,ht0⟩=>by
 have h0:0<(g.map ti).length:=by simpa using h0
 have hX:=qs [156,143] [];refine fC hX rfl rfl ?_;repeat' first|exact k9|refine k2 ?_|apply kA|apply kI;intro hc|(apply Sn.go hX;conv=>whnf)|refine k8 ?_|apply kL;intro hl
 ·exact ao.i (by rw[mh,dif_neg (by omega)];rfl)
 ·exact ao.i (by rw[mh,dif_neg (by omega)];rfl)
 ·rename_i hr0;rw[List.nil_append];apply kCt [1,2,10,11,12] [1,3,5,6,18];conv=>whnf
  refine Lp.ind (fun z:Nat=>g.length - z) (fun z=>z≤g.length) (fun z=>[(12,InD z)]) (fun _=>[]) (fun _=>_) 0 (Nat.zero_le _) rfl rfl rfl ?_
  rintro G i ih hi
  by_cases hx:i<g.length
  ·obtain⟨hwi,h0i⟩:=hw _ (List.getElem_mem hx);have hwb:=hwi.body;have hp:g[i].body.wf∧0<g[i].body.nodes.length:=⟨hwb,h0i⟩
   apply Sn.go hX;repeat' first|exact k9|refine k2 ?_|apply kA|apply kI;intro hc|(apply Sn.go hX;conv=>whnf)|refine k8 ?_|apply kL;intro hl
   apply kCt [1,2,10,11,12] [1,3,5,6,18];conv=>whnf
   refine ih (i+1) _ _ _ (by omega) (by omega) rfl rfl ?_;exact congrArg (fun z=>iO [(1,B.ro 0 41 3 z)] G.h) (zq ti g i hx)
  ·have hp:t.wf∧0<t.nodes.length:=⟨ht,ht0⟩
   apply Sn.go hX;repeat' first|exact k9|refine k2 ?_|apply kA|apply kI;intro hc|(apply Sn.go hX;conv=>whnf)|refine k8 ?_|apply kL;intro hl
   refine ao.i ?_;rw[mh,dif_pos (by omega)];dsimp only;rw[cg,List.map_set];rfl⟩
end Go.Km
end
section
namespace Go.aa
open Go Go.Km
def aB(g:List Dfn)(r:Int)(p:List Int):Tre×Bool:=if h:0≤r∧r<g.length then eN (g[r.toNat]'(by omega)).body p else (.zero,false)
def cu(g:List Dfn)(r:Int)(p:List Int)(x:Tre):List Dfn×Bool:=if h:0≤r∧r<g.length then (if (eO (g[r.toNat]'(by omega)).body p x).2=true then mh g r (eO (g[r.toNat]'(by omega)).body p x).1 else ([],false)) else ([],false)
theorem Fo.se:∀(i:Nat) (G F:Fo),(Fo.setAt i G F).size≤F.size+G.size
 | i,G,.nil=>by cases i<;>simp[Fo.setAt,Fo.size]
 | 0,G,.cons n k r=>by simp only[Fo.setAt,Fo.dO,Fo.size];omega
 | i+1,G,.cons n k r=>by
  have:=Fo.se i G r;simp only[Fo.setAt,Fo.size];omega
theorem Fo.vz:∀(i:Nat) {G F:Fo},G.dwf→F.dwf→(Fo.setAt i G F).dwf
 | i,G,.nil,h,k=>by cases i<;>exact k
 | 0,G,.cons n a r,h,k=>(Fo.nY _ _).2 ⟨h,k.2.2⟩
 | i+1,G,.cons n a r,h,k=>⟨k.1,k.2.1,Fo.vz i h k.2.2⟩
theorem G8{t:Tre}(hR:ay t){a:Int×Int}(h0:0≤a.1)(h1:a.1<t.nodes.length)(F:Fo):(upS t.nodes a F).size≤t.nodes.length+F.size:=by
 have h2:=vS hR h0 h1;rw[szN,dm hR.kok.ae h0 h1,Fo.size] at h2;have h3:=Fo.se a.2.toNat F (aE t.nodes t.nodes.length (ae t.nodes a.1));simp only[Fo.size] at h2;simp only[upS,Fo.size];omega
theorem zc{t:Tre}(hR:ay t)(X:Fo):∀row:List (Int×Int),Hj t.nodes row→(upF t.nodes row X).size≤row.length * t.nodes.length+X.size
 | [],_=>by simp[upF]
 | a :: row,h=>by
  have h1:=h a (by simp);have h2:=G8 hR h1.1.1 h1.1.2 (upF t.nodes row X);have h3:=zc hR X row fun b hb=>h b (by simp[hb])
  show(upS t.nodes a (upF t.nodes row X)).size≤_
  rw[List.length_cons,Nat.add_mul];omega
theorem K1{ns:List Nod}(hn:∀n∈ns,n.wf)(k:Int):(dat ns k).wf:=by
 rw[dat,List.getD_eq_getElem?_getD]
 cases e:ns[k.toNat]? with
 | none=>exact Nod.cM
 | some n=>exact(hn n (List.mem_of_getElem? e)).wf0
theorem CA{ns:List Nod}(hn:∀n∈ns,n.wf){X:Fo}(hX:X.dwf):∀row:List (Int×Int),(upF ns row X).dwf
 | []=>hX
 | a :: row=>⟨K1 hn _,Fo.vz _ (CA hn hX row) (ku hn _ _),trivial⟩
theorem Iu{ns:List Nod}{X:Fo}(hX:X.len=1):∀row:List (Int×Int),(upF ns row X).len=1
 | []=>hX
 | a :: row=>rfl
theorem yg{t x:Tre}{p:List Int}(ht:t.wf)(hx:x.wf)(hl:t.nodes.length≤100000)(hl2:x.nodes.length≤100000)(hp:p.length≤1000000)(h:(eO t p x).2=true):(eO t p x).1.wf∧0<(eO t p x).1.nodes.length:=by
 unfold eO at h ⊢
 split at h
 ·rename_i hr;rw[Bool.and_eq_true] at hr;have hR:=aq hr.1;have hRx:=aq hr.2
  split at h
  ·rename_i row k hd;obtain⟨hab,_,_,hrl⟩:=jb hR.kok.ae p t.root hR.root.1 hR.root.2 row k hd;rw[if_pos (by rw[hr.1,hr.2];rfl)];simp only[hd];have hs:=zc hR (foT x) row hab;have hm:row.length * t.nodes.length≤1000000 * 100000:=Nat.mul_le_mul (by omega) hl;rw[ft hRx] at hs;have hsn:=Fo.jf (upF t.nodes row (foT x));refine⟨rl (Fo.nZ (CA ht.nodes (ku hx.nodes _ _) row)) (by unfold bT;omega),?_⟩;rw[yx];have h1:=Fo.wG (upF t.nodes row (foT x)).norm;rw[Fo.nD,Iu (vV hr.2).2] at h1;exact h1
  ·cases h
 ·cases h
end Go.aa
namespace Go.Km
open Go Go.Vc Go.Proofs Go.aa Go.Proofs.YtpbichnnflabdaaGreatDoor
set_option maxRecDepth 100000
set_option maxHeartbeats 0
instance(g:List Dfn)(r:Int)(p:List Int):C 78 [cg g,.ag [inF r,isF p]] (.tp [aD (aB g r p).1,boF (aB g r p).2]) false (g.length≤1000∧(∀d∈g,d.wf)∧p.length≤1000000):=⟨fun ⟨hn,hw,hp⟩=>by
 by_cases hr:0≤r∧r<g.length
 ·obtain⟨q,rfl⟩:∃q:Nat,r=q:=⟨r.toNat,by omega⟩
  have hql:q<g.length:=by omega
  have hpre:g[q].body.wf∧p.length≤1000000:=⟨(hw _ (List.getElem_mem hql)).body,hp⟩
  have e:aB g (q:Int) p=eN g[q].body p:=by rw[aB,dif_pos hr];rfl
  rw[e];refine kf rfl rfl ?_;repeat' first|exact k9|refine k2 ?_|apply kA|apply kI;intro hc|(apply Sn.go hX;conv=>whnf)|refine k8 ?_|apply kL;intro hl
 ·have e:aB g r p=(.zero,false):=by rw[aB,dif_neg hr]
  rw[e];refine kf rfl rfl ?_;repeat' first|exact k9|refine k2 ?_|apply kA|apply kI;intro hc|(apply Sn.go hX;conv=>whnf)|refine k8 ?_|apply kL;intro hl
  all_goals exact ao.i rfl⟩
instance(g:List Dfn)(r:Int)(p:List Int)(x:Tre):C 82 [cg g,.ag [inF r,isF p],aD x] (.tp [cg (cu g r p x).1,boF (cu g r p x).2]) false (g.length≤1000∧(∀d∈g,d.wf∧0<d.body.nodes.length∧d.body.nodes.length≤100000)∧p.length≤1000000∧x.wf∧x.nodes.length≤100000):=⟨fun ⟨hn,hw,hp,hx,hxl⟩=>by
 by_cases hr:0≤r∧r<g.length
 ·obtain⟨q,rfl⟩:∃q:Nat,r=q:=⟨r.toNat,by omega⟩
  have hql:q<g.length:=by omega
  obtain⟨hwq,hq0,hql2⟩:=hw _ (List.getElem_mem hql);have hpre:g[q].body.wf∧x.wf∧g[q].body.nodes.length≤100000∧x.nodes.length≤100000∧p.length≤1000000:=⟨hwq.body,hx,hql2,hxl,hp⟩
  have e:cu g (q:Int) p x=if (eO g[q].body p x).2=true then mh g (q:Int) (eO g[q].body p x).1 else ([],false):=by rw[cu,dif_pos hr];rfl
  refine kf rfl rfl ?_;repeat' first|exact k9|refine k2 ?_|apply kA|apply kI;intro hc|(apply Sn.go hX;conv=>whnf)|refine k8 ?_|apply kL;intro hl
  ·obtain⟨h1,h2⟩:=yg hwq.body hx hql2 hxl hp hc;exact⟨hn,by omega,fun d hd=>⟨(hw d hd).1,(hw d hd).2.1⟩,h1,h2⟩
  ·rw[e,if_pos hc];exact ao.i rfl
  ·rw[e,if_neg (by rw[hc];decide)];exact ao.i rfl
 ·have e:cu g r p x=([],false):=by rw[cu,dif_neg hr]
  rw[e];refine kf rfl rfl ?_;repeat' first|exact k9|refine k2 ?_|apply kA|apply kI;intro hc|(apply Sn.go hX;conv=>whnf)|refine k8 ?_|apply kL;intro hl
  all_goals exact ao.i rfl⟩
end Go.Km
end
section
namespace Go.aa
open Go Go.Km
theorem BD{lo hi:Int}(h:-1000000≤lo∧lo≤1000000)(k:-1000000≤hi∧hi≤1000000):(⟨6,.zero,⟨#[]⟩,lo,hi,[]⟩:Nod).wf:=⟨by dsimp only;omega,by unfold Bts.wf Bts.zero;dsimp only;omega,Nat.zero_le _,by unfold Go.Sl.I64;dsimp only;omega,by unfold Go.Sl.I64;dsimp only;omega,⟨Nat.zero_le _,fun x hx=>by cases hx⟩⟩
end Go.aa
namespace Go.Km
open Go Go.Vc Go.Proofs Go.aa Go.Proofs.YtpbichnnflabdaaGreatDoor
set_option maxRecDepth 100000
set_option maxHeartbeats 0
theorem bfF{x:Bool}(h:x=true)(k:x=false):False:=by rw[h] at k;cases k
end Go.Km
end
section
namespace Go.aa
open Go Go.Km
theorem x8{n:Nod}(h:n.wf):(qf n).wf:=⟨by show 1≤bT;decide,by simp only[qf,List.mem_singleton];rintro m rfl;exact h,by show Go.Sl.I64 0;unfold Go.Sl.I64;decide⟩
end Go.aa
namespace Go.Km
open Go Go.Vc Go.Proofs Go.aa Go.Proofs.YtpbichnnflabdaaGreatDoor
set_option maxRecDepth 100000
set_option maxHeartbeats 0
abbrev Jx:F:=.vl .nilFunc
end Go.Km
end
section
namespace Go.aa
open Go Go.Km
theorem GH{g:List Dfn}{r:Int}{t:Tre}(hg:∀d∈g,d.wf)(ht:t.wf)(hn:g.length≤1000):(mh g r t).1.length≤1000∧∀d∈(mh g r t).1,d.wf:=by
 unfold mh
 split
 ·rename_i h;refine⟨by simpa using hn,fun d hd=>?_⟩;rcases List.mem_or_eq_of_mem_set hd with hd|rfl
  ·exact hg d hd
  ·exact⟨(hg _ (List.getElem_mem _)).name,ht⟩
 ·exact⟨Nat.zero_le _,fun d hd=>by cases hd⟩
theorem lL{g:List Dfn}{r:Int}{p:List Int}{x:Tre}(hn:g.length≤1000)(hg:∀d∈g,d.wf∧0<d.body.nodes.length∧d.body.nodes.length≤100000)(hp:p.length≤1000000)(hx:x.wf)(hxl:x.nodes.length≤100000):(cu g r p x).1.length≤1000∧∀d∈(cu g r p x).1,d.wf:=by
 unfold cu
 split
 ·rename_i h
  split
  ·rename_i h2;obtain⟨h3,h4,h5⟩:=hg _ (List.getElem_mem (show r.toNat<g.length by omega));exact GH (fun d hd=>(hg d hd).1) (yg h3.body hx h5 hxl hp h2).1 hn
  ·exact⟨Nat.zero_le _,fun d hd=>by cases hd⟩
 ·exact⟨Nat.zero_le _,fun d hd=>by cases hd⟩
theorem H6{t:Tre}{p:List Int}(ht:t.wf):(eN t p).1.wf∧(eN t p).1.nodes.length≤t.nodes.length:=by
 unfold eN
 split
 ·rename_i hr;have hR:=aq hr
  split
  ·rename_i l k hd;obtain⟨_,h1,h2,_⟩:=jb hR.kok.ae p t.root hR.root.1 hR.root.2 l k hd;exact⟨(gn ht hR h1 h2).1,nb hR h1 h2⟩
  ·exact⟨Tre.cM,Nat.zero_le _⟩
 ·exact⟨Tre.cM,Nat.zero_le _⟩
theorem iQ{g:List Dfn}{r:Int}{p:List Int}(hg:∀d∈g,d.wf∧d.body.nodes.length≤20000):(aB g r p).1.wf∧(aB g r p).1.nodes.length≤20000:=by
 unfold aB
 split
 ·rename_i h;obtain⟨h1,h2⟩:=hg _ (List.getElem_mem (show r.toNat<g.length by omega));have:=H6 (p:=p) h1.body;exact⟨this.1,Nat.le_trans this.2 h2⟩
 ·exact⟨Tre.cM,Nat.zero_le _⟩
end Go.aa
namespace Go.Km
open Go Go.Vc Go.Proofs Go.aa Go.Proofs.YtpbichnnflabdaaGreatDoor
set_option maxRecDepth 100000
set_option maxHeartbeats 0
end Go.Km
end
section
namespace Go.aa
open Go Go.Km
theorem en{g:List Dfn}(h:bC g=0):cS g=0:=by
 unfold bC jj at h
 split at h
 ·assumption
 ·exact h
end Go.aa
namespace Go.Km
open Go Go.Vc Go.Proofs Go.aa Go.Proofs.YtpbichnnflabdaaGreatDoor
set_option maxRecDepth 100000
set_option maxHeartbeats 0
end Go.Km
end
section
namespace Go.aa
open Go Go.Km
def oh(n:Nod):Nat:=1+min 220 n.kids.length+min 220 n.text.size / 20
def qN:Nat→List Nod→Nat
 | a,[]=>a
 | a,n :: l=>if a<220 then qN (a+oh n) l else a
def oK:Nat→List Dfn→Nat
 | a,[]=>a
 | a,d :: g=>if a<220 then oK (qN (a+5+min 220 d.name.size) d.body.nodes) g else a
def qt(g:List Dfn):Bool:=decide (220≤oK 0 g)
theorem Ca:∀(l:List Nod) (a:Nat),a≤qN a l
 | [],a=>Nat.le_refl _
 | n :: l,a=>by
  rw[qN]
  split
  ·have:=Ca l (a+oh n);omega
  ·exact Nat.le_refl _
theorem yv:∀(l:List Nod) (a:Nat),qN a l<220→a+l.length≤qN a l
 | [],a,_=>Nat.le_refl _
 | n :: l,a,h=>by
  rw[qN] at h ⊢
  split at h
  ·rename_i hc;rw[if_pos hc];have:=yv l (a+oh n) h;have h1:1≤oh n:=by unfold oh;omega
   rw[List.length_cons];omega
  ·omega
theorem BI:∀(g:List Dfn) (a:Nat),a≤oK a g
 | [],a=>Nat.le_refl _
 | d :: g,a=>by
  rw[oK]
  split
  ·have h1:=BI g (qN (a+5+min 220 d.name.size) d.body.nodes);have h2:=Ca d.body.nodes (a+5+min 220 d.name.size);omega
  ·exact Nat.le_refl _
theorem yp:∀(g:List Dfn) (a:Nat),oK a g<220→a+5 * g.length≤oK a g∧∀d∈g,d.body.nodes.length<220
 | [],a,_=>⟨Nat.le_refl _,fun d h=>by cases h⟩
 | d :: g,a,h=>by
  rw[oK] at h ⊢
  split at h
  ·rename_i hc;rw[if_pos hc];obtain⟨h1,h2⟩:=yp g _ h;have h3:=BI g (qN (a+5+min 220 d.name.size) d.body.nodes);have h4:=yv d.body.nodes (a+5+min 220 d.name.size) (by omega);refine⟨by rw[List.length_cons];omega,fun x hx=>?_⟩;rcases List.mem_cons.1 hx with rfl|hx
   ·omega
   ·exact h2 x hx
  ·omega
theorem Iw{g:List Dfn}(h:qt g=false):g.length≤44∧∀d∈g,d.body.nodes.length<220:=by
 have h1:oK 0 g<220:=by
  unfold qt at h;have:=of_decide_eq_false h;omega
 obtain⟨h2,h3⟩:=yp g 0 h1;exact⟨by omega,h3⟩
theorem vQ(a b:Nat):(bif leI (a:Int) (b:Int) then (a:Int) else (b:Int))=((min a b:Nat):Int):=by
 rw[dw]
 by_cases h:a≤b
 ·rw[decide_eq_true (by omega),Nat.min_eq_left h];rfl
 ·rw[decide_eq_false (by omega),Nat.min_eq_right (by omega)];rfl
end Go.aa
namespace Go.Km
open Go Go.Vc Go.Proofs Go.aa Go.Proofs.YtpbichnnflabdaaGreatDoor
set_option maxRecDepth 100000
set_option maxHeartbeats 0
end Go.Km
end
section
namespace Go.aa
open Go Go.Sl
end Go.aa
namespace Go.Km
open Go Go.Vc Go.Proofs Go.aa
set_option maxRecDepth 100000
set_option maxHeartbeats 0
end Go.Km
end
section
namespace Go.aa
open Go Go.Sl
end Go.aa
namespace Go.Km
open Go Go.Vc Go.Proofs Go.aa
set_option maxRecDepth 100000
set_option maxHeartbeats 0
end Go.Km
end
section
namespace Go.aa
open Go Go.Sl
end Go.aa
namespace Go.Km
open Go Go.Vc Go.Proofs Go.aa
set_option maxRecDepth 100000
set_option maxHeartbeats 0
end Go.Km
end
section
namespace Go.aa
open Go Go.Km
end Go.aa
namespace Go.Km
open Go Go.Vc Go.Proofs Go.aa Go.Proofs.YtpbichnnflabdaaGreatDoor
set_option maxRecDepth 100000
set_option maxHeartbeats 0
end Go.Km
end
section
namespace Go.aa
open Go Go.Sl
theorem uz(ns:List Nod)(f:Nat):∀l:List Int,(aE ns (f+1) l).len=l.length
 | []=>by rw[aA];rfl
 | k :: l=>by rw[aM,Fo.len,uz ns f l,List.length_cons]
end Go.aa
end
section
namespace Go.aa
open Go Go.Sl Go.Km
theorem AS{t:Tre}(h:au t=true):foT t=.cons (qj t) (foL (aQ t)) .nil∧(∀x∈aQ t,au x=true)∧fits (qj t) (aQ t).length=true:=by
 obtain⟨F,h1,h2,h3,h4,h5⟩:=Dh h;obtain⟨h6,h7⟩:=kY h2.1 h2.2;rw[h5,h7];exact⟨h1,h6,by rw[Fo.iH];exact h4⟩
end Go.aa
end
section
namespace Go.Km
open Go Go.RowKit Go.Vc
open Go.Sl hiding lk
theorem cQ.pure{P:Program}{Γ:Nat→Option (List F)}{η:Env}{f:FuncId}{l:List D}{fl:List F}{is:List Nat}{r:F}{fr:Bool}(hm:cj (D.toF η 6) l=some (fl,is))(h:Pure P Γ f fl r fr):cQ P Γ η f l r.toD is (aS η is):=by
 refine⟨fun η' hη' W c O w vs g1 g2 g3 g4=>?_⟩;have hm':cj (D.toF η' 6) l=some (fl,is):=fe (fun d x is' h3 h4=>eR 6 d x is' h3 (fun b' hb'=>hη' b' (h4 b' hb'))) hm;have hg:=cU (η:=η) (η':=η') is hη';exact(qP.mg (k:=Is3 r.toD is (aS η is)) hm' h ⟨rfl,rfl,hg⟩).go W c O w vs g1 g2 g3 g4
theorem lP{P:Program}{Γ:Nat→Option (List F)}{t f:Nat}{η:Env}{l:List D}{k:Kr Prop}{fl fl':List F}{is:List Nat}{r:F}{b:Bool}{pre:Prop}(h:KC P Γ f fl' r b pre)(hm:cj (D.toF η 6) l=some (fl,is))(e:fl=fl')(hp:pre)(hk:k r.toD is (aS η is)):cX P Γ t η f l k:=by
 subst e;exact cX.i (cQ.pure hm (h.h hp)) hk
end Go.Km
end
section
namespace Go.aa
open Go Go.Sl
def cK(ch:Int→List Int):Nat→Int→List Int→List (List Int)
 | 0,_,_=>[]
 | n+1,k,p=>p :: ((ch k).zipIdx.flatMap fun x=>cK ch n x.1 (p++[(x.2:Int)]))
theorem j8{α β:Type}{l:List α}{f g:α→List β}(h:∀a∈l,f a=g a):l.flatMap f=l.flatMap g:=by
 rw[List.flatMap_def,List.flatMap_def,List.map_congr_left h]
theorem jB{ch:Int→List Int}(hc:bz ch):∀(n m:Nat) (k:Int) (p:List Int),0≤k→k<n→k<m→cK ch n k p=cK ch m k p
 | 0,m,k,p,h0,h1,h2=>by omega
 | n+1,0,k,p,h0,h1,h2=>by omega
 | n+1,m+1,k,p,h0,h1,h2=>by
  simp only[cK]
  congr 1
  refine j8 fun x hx=>?_;have:=hc k x.1 (List.fst_mem_of_mem_zipIdx hx);exact jB hc n m x.1 _ (by omega) (by omega) (by omega)
theorem FH{β:Type}(f:Int×Nat→List β)(l:List Int):l.zipIdx.flatMap f=(List.range l.length).flatMap fun i=>match l[i]? with|some x=>f (x,i)|none=>[]:=by
 have h:l.zipIdx=(List.range l.length).map fun i=>(l.getD i 0,i):=by
  refine List.ext_getElem (by simp) fun i h1 h2=>?_;simp at h1 h2;simp[List.getD_eq_getElem?_getD,List.getElem?_eq_getElem h1]
 rw[h,List.flatMap_map];refine j8 fun i hi=>?_
 have hi:=List.mem_range.1 hi;simp[List.getD_eq_getElem?_getD,List.getElem?_eq_getElem hi]
abbrev su(ch:Int→List Int)(k:Int)(p:List Int):List (List Int):=cK ch (k.toNat+1) k p
def jY(ch:Int→List Int)(k:Int)(p:List Int)(i:Nat):List (List Int):=match (ch k)[i]? with
 | some x=>su ch x (p++[(i:Int)])
 | none=>[]
def rZ(ch:Int→List Int)(k:Int)(p:List Int)(i:Nat):Nat:=1+((List.range i).flatMap (jY ch k p)).length
theorem rz{ch:Int→List Int}(hc:bz ch){k:Int}(h0:0≤k)(p:List Int):su ch k p=p :: (List.range (ch k).length).flatMap (jY ch k p):=by
 show p :: ((ch k).zipIdx.flatMap fun x=>cK ch k.toNat x.1 (p++[(x.2:Int)]))=_
 rw[FH]
 congr 1
 refine j8 fun i hi=>?_;have hi:=List.mem_range.1 hi;unfold jY;rw[List.getElem?_eq_getElem hi];have:=hc k _ (List.getElem_mem hi);exact jB hc _ _ _ _ (by omega) (by omega) (by omega)
theorem DO(ch:Int→List Int)(k:Int)(p:List Int)(i:Nat):rZ ch k p (i+1)=rZ ch k p i+(jY ch k p i).length:=by
 unfold rZ;rw[List.range_succ,List.flatMap_append,List.length_append];simp;omega
theorem Hk{ch:Int→List Int}(hc:bz ch){k:Int}(h0:0≤k)(p:List Int):(su ch k p).length=rZ ch k p (ch k).length:=by
 rw[rz hc h0,rZ,List.length_cons];omega
theorem He{ch:Int→List Int}(hc:bz ch){k:Int}(h0:0≤k)(p:List Int){i j:Nat}(hi:i<(ch k).length)(hj:j<(jY ch k p i).length) :
  (su ch k p).getD (rZ ch k p i+j) []=(jY ch k p i).getD j []∧rZ ch k p i+j<(su ch k p).length:=by
 have hs:(List.range (ch k).length).flatMap (jY ch k p)=(List.range i).flatMap (jY ch k p)++(jY ch k p i++(List.range' (i+1) ((ch k).length - (i+1))).flatMap (jY ch k p)):=by
  have:List.range (ch k).length=List.range i++(i :: List.range' (i+1) ((ch k).length - (i+1))):=by
   have h:=List.range'_append_1 (s:=0) (m:=i) (n:=(ch k).length - (i+1)+1);rw[Nat.zero_add] at h;rw[List.range_eq_range',List.range_eq_range',←List.range'_succ,h]
   congr 1
   omega
  rw[this,List.flatMap_append,List.flatMap_cons]
 refine⟨?_,?_⟩
 ·rw[rz hc h0,hs,rZ,List.getD_eq_getElem?_getD,List.getD_eq_getElem?_getD,show 1+((List.range i).flatMap (jY ch k p)).length+j=(((List.range i).flatMap (jY ch k p)).length+j)+1 by omega,List.getElem?_cons_succ,
   List.getElem?_append_right (by omega),Nat.add_sub_cancel_left,List.getElem?_append_left hj]
 ·rw[rz hc h0,hs,rZ];simp only[List.length_cons,List.length_append];omega
def jR(a b:Int):Int:=if a<b then -1 else if b<a then 1 else 0
def cmpL:List Int→List Int→Int
 | [],[]=>0
 | [],_ :: _=>-1
 | _ :: _,[]=>1
 | a :: l,b :: m=>if a<b then -1 else if b<a then 1 else cmpL l m
theorem lH{a b:Int}:jR a b=0↔a=b:=by
 unfold jR
 constructor
 ·intro h
  split at h
  ·omega
  split at h<;>omega
 ·rintro rfl
  simp
theorem uT:∀{a b:List Int},cmpL a b=0↔a=b
 | [],[]=>by simp[cmpL]
 | [],_ :: _=>by simp[cmpL]
 | _ :: _,[]=>by simp[cmpL]
 | a :: l,b :: m=>by
  simp only[cmpL]
  split
  ·simp;omega
  split
  ·simp;omega
  ·rw[uT];simp;omega
theorem nX:∀(p a b:List Int),cmpL (p++a) (p++b)=cmpL a b
 | [],a,b=>rfl
 | x :: p,a,b=>by simp[cmpL,nX p a b]
theorem EP(p:List Int)(x:Int)(l:List Int):cmpL p (p++x :: l)=-1:=by
 have:=nX p [] (x :: l);rw[List.append_nil] at this;rw[this];rfl
theorem C0(a b:Int):jR b a=- jR a b:=by
 unfold jR;rcases Int.lt_trichotomy a b with h|h|h
 ·have h':¬b<a:=by omega
  simp[h,h']
 ·subst h;simp
 ·have h':¬a<b:=by omega
  simp[h,h']
theorem uL:∀(a b:List Int),cmpL b a=- cmpL a b
 | [],[]=>rfl
 | [],_ :: _=>rfl
 | _ :: _,[]=>rfl
 | a :: l,b :: m=>by
  simp only[cmpL];rcases Int.lt_trichotomy a b with h|h|h
  ·have h':¬b<a:=by omega
   simp[h,h']
  ·subst h;simpa using uL l m
  ·have h':¬a<b:=by omega
   simp[h,h']
theorem fE{ch:Int→List Int}:∀(n:Nat) (k:Int) (p q:List Int),q∈cK ch n k p→∃r,q=p++r
 | 0,k,p,q,h=>by cases h
 | n+1,k,p,q,h=>by
  simp only[cK,List.mem_cons,List.mem_flatMap] at h;rcases h with rfl|⟨x,hx,h⟩
  ·exact⟨[],by simp⟩
  ·obtain⟨r,rfl⟩:=fE n _ _ q h;exact⟨(x.2:Int) :: r,by simp⟩
theorem qn{ch:Int→List Int}:∀(n:Nat) (k:Int) (p q:List Int),q∈cK ch n k p→q.length≤p.length+n
 | 0,k,p,q,h=>by cases h
 | n+1,k,p,q,h=>by
  simp only[cK,List.mem_cons,List.mem_flatMap] at h;rcases h with rfl|⟨x,hx,h⟩
  ·omega
  ·have:=qn n _ _ q h;rw[List.length_append,List.length_singleton] at this;omega
theorem cw{α β:Type}{R:β→β→Prop}{f:α→List β}:∀{l:List α},(∀a∈l,(f a).Pairwise R)→l.Pairwise (fun a b=>∀x∈f a,∀y∈f b,R x y)→(l.flatMap f).Pairwise R
 | [],_,_=>by simp
 | a :: l,h1,h2=>by
  rw[List.flatMap_cons,List.pairwise_append];rw[List.pairwise_cons] at h2;refine⟨h1 a (by simp),cw (fun b hb=>h1 b (by simp[hb])) h2.2,fun x hx y hy=>?_⟩;obtain⟨b,hb,hy⟩:=List.mem_flatMap.1 hy;exact h2.1 b hb x hx y hy
theorem mf{α:Type}(l:List α)(n:Nat):(l.zipIdx n).Pairwise (fun a b=>a.2<b.2):=by
 rw[List.pairwise_iff_getElem];intro i j hi hj hij;simp;omega
theorem kD{ch:Int→List Int}:∀(n:Nat) (k:Int) (p:List Int),(cK ch n k p).Pairwise (fun a b=>cmpL a b=-1)
 | 0,k,p=>List.Pairwise.nil
 | n+1,k,p=>by
  simp only[cK];rw[List.pairwise_cons];refine⟨fun q hq=>?_,cw (fun x _=>kD n _ _) ?_⟩
  ·obtain⟨x,hx,hq⟩:=List.mem_flatMap.1 hq;obtain⟨r,rfl⟩:=fE n _ _ q hq;rw[List.append_assoc];exact EP p _ _
  ·refine(mf (ch k) 0).imp fun {a b} hab x hx y hy=>?_;obtain⟨r,rfl⟩:=fE n _ _ x hx;obtain⟨s,rfl⟩:=fE n _ _ y hy;rw[List.append_assoc,List.append_assoc,nX];show(if (a.2:Int)<(b.2:Int) then (-1:Int) else _)=-1
   rw[if_pos (by omega)]
theorem qc{ns:List Nod}(hc:bz (ae ns)):∀(n:Nat) (k:Int) (p q:List Int),0≤k→k<n→((p++q)∈cK (ae ns) n k p↔(bP ns k q).isSome=true)
 | 0,k,p,q,h0,h1=>by omega
 | n+1,k,p,q,h0,h1=>by
  simp only[cK,List.mem_cons,List.mem_flatMap]
  cases q with
  | nil=>simp[bP]
  | cons a q=>
   have hne:¬p++a :: q=p:=by simp
   simp only[hne,false_or];have hin:∀(x:Int) (i:Nat),x∈ae ns k→((p++(i:Int) :: q)∈cK (ae ns) n x (p++[(i:Int)])↔(bP ns x q).isSome=true):=fun x i hx=>by
    have:=hc k x hx;have h:=qc hc n x (p++[(i:Int)]) q (by omega) (by omega)
    rwa [List.append_assoc] at h
   constructor
   ·rintro⟨⟨x,i⟩,hx,hq⟩
    have hxi:=List.mem_zipIdx' hx;obtain⟨r,hr⟩:=fE n _ _ _ hq;rw[List.append_assoc,List.append_cancel_left_eq] at hr;simp only[List.cons_append,List.nil_append,List.cons.injEq] at hr;obtain⟨rfl,rfl⟩:=hr;have hm:x∈ae ns k:=List.fst_mem_of_mem_zipIdx hx;have h2:=(hin x i hm).1 hq;have hg:(ae ns k)[i]?=some x:=by
     rw[List.getElem?_eq_getElem hxi.1,←hxi.2]
    rw[bP,if_neg (by omega),Int.toNat_natCast,hg];simp only
    cases hd:bP ns x q with
    | none=>rw[hd] at h2;cases h2
    | some y=>obtain⟨l,e⟩:=y;rfl
   ·intro h;rw[bP] at h
    split at h
    ·cases h
    ·rename_i h3
     cases hg:(ae ns k)[a.toNat]? with
     | none=>rw[hg] at h;cases h
     | some x=>
      rw[hg] at h;simp only at h;have hm:x∈ae ns k:=List.mem_of_getElem? hg;have ha:((a.toNat:Nat):Int)=a:=by omega
      refine⟨(x,a.toNat),List.mk_mem_zipIdx_iff_getElem?.2 hg,?_⟩;have h2:=(hin x a.toNat hm).2 (by
       cases hd:bP ns x q with
       | none=>rw[hd] at h;cases h
       | some y=>rfl)
      simp only[ha] at h2 ⊢;exact h2
def wy(t:Tre):List (List Int):=cK (ae t.nodes) t.nodes.length t.root []
theorem yz{t:Tre}(h:ay t)(q:List Int):q∈wy t↔(eN t q).2=true:=by
 have:=qc h.kok.ae t.nodes.length t.root [] q h.root.1 h.root.2;rw[List.nil_append] at this;rw[wy,this,eN,if_pos h.right]
 cases hd:bP t.nodes t.root q with
 | none=>simp
 | some x=>obtain⟨l,k⟩:=x;simp
theorem xT(t:Tre):(wy t).Pairwise (fun a b=>cmpL a b=-1):=kD _ _ _
structure Sto where
 pass:Int
 way:Int
 r:Int
 p:List Int
 at_:Int
def mb(r:Int)(p:List Int)(r':Int)(p':List Int):Int:=if jR r r'≠0 then jR r r' else cmpL p p'
def cE(a b:Sto):Bool:=decide (mb a.r a.p b.r b.p<0)||(decide (mb a.r a.p b.r b.p=0)&&(decide (a.way<b.way)||(decide (a.way=b.way)&&decide (a.at_<b.at_))))
theorem CY(r:Int)(p:List Int)(r':Int)(p':List Int):mb r' p' r p=- mb r p r' p':=by
 have:=C0 r r';unfold mb
 by_cases h:jR r r'≠0
 ·rw[if_pos h,if_pos (by omega)];exact this
 ·rw[if_neg h,if_neg (by omega)];exact uL p p'
theorem pr{r:Int}{p:List Int}{r':Int}{p':List Int}:mb r p r' p'=0↔r=r'∧p=p':=by
 unfold mb
 by_cases h:jR r r'≠0
 ·rw[if_pos h]
  constructor
  ·exact fun e=>absurd e h
  ·rintro⟨e,_⟩
   exact absurd (lH.2 e) h
 ·rw[if_neg h,uT];have:=lH.1 (show jR r r'=0 by omega);simp[this]
theorem Ee{a b:Sto}(h1:cE a b=false)(h2:cE b a=false):a.r=b.r∧a.p=b.p∧a.way=b.way∧a.at_=b.at_:=by
 have hf:=CY a.r a.p b.r b.p;simp only[cE,Bool.or_eq_false_iff,Bool.and_eq_false_iff,decide_eq_false_iff_not] at h1 h2;obtain⟨h1,h3⟩:=h1;obtain⟨h2,h4⟩:=h2;have h0:mb a.r a.p b.r b.p=0:=by omega
 obtain⟨e1,e2⟩:=pr.1 h0;refine⟨e1,e2,?_⟩;omega
theorem zT(a:Sto):cE a a=false:=by
 have:mb a.r a.p a.r a.p=0:=pr.2 ⟨rfl,rfl⟩;simp[cE,this]
end Go.aa
end
section
namespace Go.Km
open Go Go.Vc Go.Proofs Go.aa Go.Proofs.YtpbichnnflabdaaGreatDoor
set_option maxRecDepth 100000
set_option maxHeartbeats 0
abbrev EE(t:Tre)(k:Int)(p:List Int):List F:=[.pt 1 [[isF p]] 0 0,.pt 2 [[.sl (t.nodes.map aX),inF t.root]] 0 0,.pt 1 [[inF k]] 0 0]
instance(t:Tre)(k:Int)(p:List Int):C 112 [aD t,inF k,isF p] (.cl 138 (EE t k p)) false True:=⟨fun _=>by
 refine kf rfl rfl ?_;repeat' first|exact k9|refine k2 ?_|apply kA|apply kI;intro hc|(apply Sn.go hX;conv=>whnf)|refine k8 ?_|apply kL;intro hl
 exact ao.i rfl⟩
theorem nM(t:Tre)(ht:t.wf)(hR:ay t):∀(N:Nat) (k:Int) (p:List Int),0≤k→k<N→k<t.nodes.length→p.length+N≤1000000→
  CE Tryz.prog X1.Γ 138 ((EE t k p).map F.toD) (su (ae t.nodes) k p).length (fun i=>[isF ((su (ae t.nodes) k p).getD i [])].map D.fr)
 | 0,k,p,h0,h1,h2,h3=>by omega
 | N+1,k,p,h0,h1,h2,h3=>by
  have hX:=qs [] [112];refine Dt hX rfl rfl ?_;intro A hA vs;obtain⟨q,rfl⟩:∃q:Nat,k=(q:Int):=⟨k.toNat,by omega⟩
  have hq:q<t.nodes.length:=by omega
  obtain⟨n,hn⟩:=exEq (t.nodes[q]);have hget:t.nodes[q]?=some n:=by rw[hn];exact List.getElem?_eq_getElem hq
  have hc:=hR.kok.ae;have hkl:n.kids.length≤17592186044416:=(ht.nodes n (by rw[hn];exact List.getElem_mem hq)).kids.1;obtain⟨ks,hks⟩:=exEq (t.nodes[q].kids);have hck:ae t.nodes (q:Int)=ks:=by rw[hks,←hn];exact(aH hget).symm
  have hkl2:ks.length≤17592186044416:=by rw[hks,←hn];exact hkl
  have hkk:∀x∈ks,0≤x∧x<(q:Int):=fun x hx=>hc q x (by rw[hck];exact hx)
  have hlen:=Hk hc h0 p;have hget2:∀{i j:Nat},i<ks.length→j<(jY (ae t.nodes) q p i).length→_:=fun {i j} hi hj=>He hc h0 p (i:=i) (j:=j) (by rw[hck];exact hi) hj
  have hsub:∀(i:Nat) (hi:i<ks.length),jY (ae t.nodes) q p i=su (ae t.nodes) ks[i] (p++[(i:Int)]):=fun i hi=>by rw[jY,hck,List.getElem?_eq_getElem hi]
  have hsucc:=DO (ae t.nodes) q p;have ho0:rZ (ae t.nodes) q p 0=1:=rfl;rw[hck] at hlen;have hA0:∀(η:Env) b v,η b=some (.ab v (A 0))→vE Tryz.prog X1.Γ η b v [D.fr (isF p)] (Bo true) [b] [(b,.ab v (A 1))]:=fun η b v h=>hA 0 (by show 0<(p :: _:List (List Int)).length;simp) η b v h
  obtain⟨off,hoff⟩:=exEq (rZ (ae t.nodes) q p);rw[←hoff] at hsucc hlen ho0;apply Sn.go hX;repeat' first|exact k9|refine k2 ?_|apply kA|apply kI;intro hc|(apply Sn.go hX;conv=>whnf)|((refine uE.i (hA0 _ 0 0 rfl) ?_)<;>conv=>whnf)|refine k8 ?_|apply kL;intro hl
  refine Stp.GB (by rfl) ?_;apply kCt [1,2,4,17,18,19] [];conv=>whnf
  rw[←hks];refine Lp.ind (fun x:Nat=>ks.length - x) (fun x=>x≤ks.length) (fun x=>[(19,InD x)]) (fun x=>[(1,.ab 0 (A (off x)))]) (fun _=>_) 0 (Nat.zero_le _) rfl rfl (by rw[ho0];rfl) ?_
  rintro G x ih hx
  by_cases hxl:x<ks.length
  ·have hki:=hkk _ (List.getElem_mem hxl);have happ:List.drop 0 (List.take (List.map ikF p).length (List.map ikF p))++[[(F.vl (Value.int IntKind.i64 (x:Int))).nz]]=List.map ikF (p++[(x:Int)]):=by rw[List.drop_zero,List.take_length,List.map_append];rfl
   have hkc:KC Tryz.prog X1.Γ 112 [aD t,inF ks[x],isF (p++[(x:Int)])] (.cl 138 (EE t ks[x] (p++[(x:Int)]))) false True:=inferInstance;have hlx:oQ 1 (List.drop 0 (List.take (List.map ikF p).length (List.map ikF p)))=true:=by simp only[List.drop_zero,List.take_length];exact r7 p
   have hsx:=hsub x hxl;have ihx:=nM t ht hR N ks[x] (p++[(x:Int)]) hki.1 (by omega) (by omega) (by rw[List.length_append,List.length_singleton];omega);rw[←hsx] at ihx;obtain⟨sb,hsb⟩:=exEq (jY (ae t.nodes) q p x);have hs1:=hsucc x;rw[←hsb] at ihx hs1;have hAj:∀j,j<sb.length→∀(η:Env) b v,η b=some (.ab v (A (off x+j)))→vE Tryz.prog X1.Γ η b v [D.fr (isF (sb.getD j []))] (Bo true) [b] [(b,.ab v (A (off x+(j+1))))]:=fun j hj η b v h=>by
    obtain⟨e1,e2⟩:=hget2 (i:=x) (j:=j) hxl (by rw[←hsb];exact hj);rw[←hoff] at e1 e2;rw[←hsb] at e1;have:=hA (off x+j) e2 η b v h;rw[e1] at this;exact this
   apply Sn.go hX;repeat' first|exact k9|refine k2 ?_|apply kA|apply kI;intro hc|(apply Sn.go hX;conv=>whnf)|(((refine lP hkc rfl (congrArg (fun z=>[aD t,inF ks[x],F.sl z]) happ) trivial ?_))<;>conv=>whnf)|refine k8 ?_|apply kL;intro hl
   refine cX.i (u4 (b0:=53) (v0:=0) (bs:=[52,0,1]) (kc:=[4]) (m:=4) (nx:=5) (x:=[.ptr 0 0 0,.yl 1 0]) (x0:=[.ptr 1 0 0,.ptr 2 0 0,.yl 3 0]) (T:=fun j=>[(1,.df 0),(2,.va 0 181 [.yl 3 0]),(3,.ab 0 (A (off x+j)))]) (e:=[(52,.df 0),(0,.va 0 181 [.yl 1 0]),(1,.ab 0 (A (off x+sb.length)))]) ihx rfl rfl rfl rfl rfl rfl rfl rfl rfl rfl rfl (fun _ _=>rfl) rfl (fun _ _=>rfl) ?_) ?_
   ·intro vs j hj
    repeat' first|exact k9|refine k2 ?_|apply kA|apply kI;intro hc|(apply Sn.go hX;conv=>whnf)|(((refine uE.i (hAj j hj _ _ _ rfl) ?_))<;>conv=>whnf)|refine k8 ?_|apply kL;intro hl
    exact⟨rfl,rfl⟩
   ·(conv=>whnf);repeat' first|exact k9|refine k2 ?_|apply kA|apply kI;intro hc|(apply Sn.go hX;conv=>whnf)|refine k8 ?_|apply kL;intro hl
    refine Stp.EB (by rfl) (by rfl) (by rfl) ?_;apply kCt [1,2,4,17,18,19] [];conv=>whnf
    exact ih (x+1) _ _ _ (by omega) (by omega) rfl rfl (by rw[hs1];rfl)
  ·obtain rfl:x=ks.length:=by omega
   apply Sn.go hX;repeat' first|exact k9|refine k2 ?_|apply kA|apply kI;intro hc|(apply Sn.go hX;conv=>whnf)|refine k8 ?_|apply kL;intro hl
   exact cJ.i rfl (by rw[hlen];rfl)
end Go.Km
end
section
namespace Go.aa
open Go Go.Km
def jv(g:List Dfn):List (Int×List Int):=if cS g=0 then g.zipIdx.flatMap (fun x=>(wy x.1.body).map fun p=>((x.2:Int),p)) else []
theorem A7{t:Tre}(h:ay t):wy t=su (ae t.nodes) t.root []:=jB h.kok.ae _ _ _ _ h.root.1 h.root.2 (by have:=h.root.1;omega)
def eP(g:List Dfn)(i:Nat):List (Int×List Int):=(g.zipIdx.take i).flatMap fun x=>(wy x.1.body).map fun p=>((x.2:Int),p)
theorem pQ(g:List Dfn)(h:cS g=0):jv g=eP g g.length:=by
 rw[jv,if_pos h,eP,List.take_of_length_le (by simp)]
theorem sg{g:List Dfn}{i:Nat}(h:i<g.length):eP g (i+1)=eP g i++(wy g[i].body).map fun p=>((i:Int),p):=by
 rw[eP,List.take_succ_eq_append_getElem (by simpa using h),List.flatMap_append,List.flatMap_singleton];simp[eP]
theorem yA{ns:List Nod}(hc:bz (ae ns)):∀(N:Nat) (k:Int) (p:List Int),0≤k→k<N→k<ns.length→(su (ae ns) k p).length=szN ns k
 | 0,k,p,h0,h1,h2=>by omega
 | N+1,k,p,h0,h1,h2=>by
  rw[rz hc h0,List.length_cons,List.length_flatMap,wv hc h0 h2]
  congr 2
  refine List.ext_getElem (by simp) fun i hi hi2=>?_;simp only[List.length_map,List.length_range] at hi;simp only[List.getElem_map,List.getElem_range];have hx:=hc k _ (List.getElem_mem hi);rw[jY,List.getElem?_eq_getElem hi];exact yA hc N _ _ hx.1 (by omega) (by omega)
theorem oP{t:Tre}(h:ay t):(wy t).length≤t.nodes.length:=by
 rw[A7 h,yA h.kok.ae (t.root.toNat+1) t.root [] h.root.1 (by have:=h.root.1;omega) h.root.2];exact Nat.le_of_eq (ft h)
theorem ln{g:List Dfn}:∀(i:Nat),i≤g.length→(∀d∈g,(wy d.body).length≤2000)→(eP g i).length≤i * 2000
 | 0,_,_=>by simp[eP]
 | i+1,h,hd=>by
  have:=ln i (by omega) hd;rw[sg (by omega),List.length_append,List.length_map];have:=hd _ (List.getElem_mem (show i<g.length by omega));omega
end Go.aa
namespace Go.Km
open Go Go.Vc Go.Proofs Go.aa Go.Proofs.YtpbichnnflabdaaGreatDoor
set_option maxRecDepth 100000
set_option maxHeartbeats 0
abbrev vZ(x:Int×List Int):List F:=[inF x.1,isF x.2]
instance(g:List Dfn):C 67 [cg g] (.sl ((jv g).map vZ)) false (g.length≤1000∧(∀d∈g,d.wf)∧(cS g=0→∀d∈g,ay d.body∧d.body.nodes.length≤2000)):=⟨fun ⟨hn,hw,hr⟩=>by
 have hp:g.length≤1000∧∀d∈g,d.wf:=⟨hn,hw⟩
 by_cases hm:cS g=0
 ·have hr:=hr hm;rw[pQ g hm];refine kf rfl rfl ?_;repeat' first|exact k9|refine k2 ?_|apply kA|apply kI;intro hc|refine k8 ?_|apply kL;intro hl
  refine Stp.AK 5 119 71 2 rfl rfl ?_;refine Stp.GB (by rfl) ?_;apply kCt [3,11,12,13] [];conv=>whnf
  refine Lp.ind (fun x:Nat=>g.length - x) (fun x=>x≤g.length) (fun x=>[(13,InD x)]) (fun x=>[(1,.ro 0 71 2 ((eP g x).map vZ))]) (fun _=>_) 0 (Nat.zero_le _) rfl rfl rfl ?_
  rintro G x ih hx
  by_cases hxl:x<g.length
  ·have hwx:=hw _ (List.getElem_mem hxl);have hrx:=hr _ (List.getElem_mem hxl);obtain⟨t,ht⟩:=exEq (g[x].body);have hkc:KC Tryz.prog X1.Γ 112 [aD g[x].body,inF g[x].body.root,.sl []] (.cl 138 (EE g[x].body g[x].body.root [])) false True:=(inferInstance:C 112 [aD g[x].body,inF g[x].body.root,isF []] (.cl 138 (EE g[x].body g[x].body.root [])) false True)
   have hit:=nM g[x].body hwx.body hrx.1 (g[x].body.root.toNat+1) g[x].body.root [] hrx.1.root.1 (by have:=hrx.1.root;omega) hrx.1.root.2 (by simp only[List.length_nil];have:=hrx.1.root;omega);have hall:=sg hxl;rw[A7 hrx.1] at hall;obtain⟨ps,hps⟩:=exEq (su (ae g[x].body.nodes) g[x].body.root []);rw[←hps] at hit hall
   repeat' first|exact k9|refine k2 ?_|apply kA|apply kI;intro hc|(((refine jJ.e hkc trivial ?_))<;>conv=>whnf)|refine k8 ?_|apply kL;intro hl
   have hpl:ps.length≤2000:=by rw[hps,←A7 hrx.1];exact Nat.le_trans (oP hrx.1) hrx.2
   have hal:(eP g x).length≤x * 2000:=ln x (by omega) fun d hd=>Nat.le_trans (oP (hr d hd).1) (hr d hd).2
   have hrow:∀j,j<ps.length→((eP g x++(ps.take (j+1)).map fun p=>((x:Int),p)).map vZ)=(eP g x++(ps.take j).map fun p=>((x:Int),p)).map vZ++[[inF (x:Int),isF (ps.getD j [])]]:=fun j hj=>by
    rw[List.take_succ_eq_append_getElem hj,List.map_append,List.map_append,List.map_append,List.map_append,List.getD_eq_getElem?_getD,List.getElem?_eq_getElem hj,List.append_assoc];rfl
   have hl2:∀j,(eP g x++(ps.take j).map fun p=>((x:Int),p)).length≤2002000:=fun j=>by rw[List.length_append,List.length_map,List.length_take];omega
   have hl3:∀j,((eP g x++(ps.take j).map fun p=>((x:Int),p)).map vZ).length≤2002000:=fun j=>by rw[List.length_map];exact hl2 j
   have hrow0:(eP g x++(ps.take 0).map fun p=>((x:Int),p)).map vZ=(eP g x).map vZ:=by simp
   refine cX.i (u4 (b0:=18) (v0:=0) (bs:=[17,0,1,7]) (kc:=[3,4]) (m:=5) (nx:=6) (x:=[.ptr 0 0 0,.ptr 7 0 0]) (x0:=[.ptr 1 0 0,.ptr 2 0 0,.ptr 4 0 0])
    (T:=fun j=>[(1,.df 0),(2,.va 0 119 [.own 3 0]),(3,.ro 0 71 2 ((eP g x++(ps.take j).map fun p=>((x:Int),p)).map vZ)),(4,.va 0 3 [.fr (inF (x:Int))])])
    (e:=[(17,.df 0),(0,.va 0 119 [.own 1 1]),(1,.ro 1 71 2 ((eP g x++(ps.take ps.length).map fun p=>((x:Int),p)).map vZ)),(7,.va 0 3 [.fr (inF (x:Int))])]) hit rfl rfl rfl rfl rfl rfl (by rw[hrow0];rfl) rfl rfl rfl rfl (fun _ _=>rfl) rfl (fun _ _=>rfl) ?_) ?_
   ·intro vs j hj;have hl4:=hl3 j
    repeat' first|exact k9|refine k2 ?_|apply kA|apply kI;intro hc|refine k8 ?_|apply kL;intro hl
    exact⟨rfl,by dsimp only;rw[hrow j hj];rfl⟩
   ·rw[List.take_length,←hall]
    (conv=>whnf);repeat' first|exact k9|refine k2 ?_|apply kA|apply kI;intro hc|refine k8 ?_|apply kL;intro hl
    refine Stp.EB (by rfl) (by rfl) (by rfl) ?_;apply kCt [3,11,12,13] [];conv=>whnf
    exact ih (x+1) _ _ _ (by omega) (by omega) rfl rfl rfl
  ·obtain rfl:x=g.length:=by omega
   repeat' first|exact k9|refine k2 ?_|apply kA|apply kI;intro hc|refine k8 ?_|apply kL;intro hl
 ·rw[show jv g=[] from by rw[jv,if_neg hm]];refine kf rfl rfl ?_;repeat' first|exact k9|refine k2 ?_|apply kA|apply kI;intro hc|refine k8 ?_|apply kL;intro hl
  exact ao.i rfl⟩
end Go.Km
end
section
namespace Go.aa
open Go Go.Sl Go.Km
theorem s9{g:List Dfn}(h:cS g=0)(r:Int)(p:List Int):(r,p)∈jv g↔(aB g r p).2=true:=by
 have ok:=fa h;rw[jv,if_pos h,List.mem_flatMap,aB]
 constructor
 ·rintro⟨⟨d,i⟩,hx,hp⟩
  have hxi:=List.mem_zipIdx' hx;obtain⟨q,hq,e⟩:=List.mem_map.1 hp;simp only[Prod.mk.injEq] at e;obtain⟨rfl,rfl⟩:=e;rw[dif_pos ⟨by omega,by have:=hxi.1;omega⟩];have hd:g[i]'hxi.1=d:=hxi.2.symm;have:=(yz (ok.right (List.getElem_mem hxi.1)) q).1 (by rw[hd];exact hq);exact this
 ·intro hh
  split at hh
  ·rename_i hr;obtain⟨i,rfl⟩:∃i:Nat,r=(i:Int):=⟨r.toNat,by omega⟩
   have hi:i<g.length:=by omega
   have h2:=(yz (ok.right (List.getElem_mem hi)) p).2 hh;exact⟨(g[i],i),List.mk_mem_zipIdx_iff_getElem?.2 (List.getElem?_eq_getElem hi),List.mem_map.2 ⟨p,h2,rfl⟩⟩
  ·cases hh
theorem yM(g:List Dfn):(jv g).Pairwise (fun a b=>mb a.1 a.2 b.1 b.2=-1):=by
 unfold jv
 split
 ·refine cw (fun x _=>?_) ?_
  ·rw[List.pairwise_map];refine(xT x.1.body).imp fun {a b} h=>?_
   unfold mb;rw[if_neg (by simp[lH]),h]
  ·refine(mf g 0).imp fun {a b} hab x hx y hy=>?_;obtain⟨p,_,rfl⟩:=List.mem_map.1 hx;obtain⟨q,_,rfl⟩:=List.mem_map.1 hy;have:jR (a.2:Int) (b.2:Int)=-1:=by
    unfold jR;rw[if_pos (by omega)]
   unfold mb;rw[if_pos (by dsimp only;omega),this]
 ·exact List.Pairwise.nil
end Go.aa
end
section
namespace Go.Km
open Go Go.Vc Go.Proofs Go.aa Go.Proofs.YtpbichnnflabdaaGreatDoor
set_option maxRecDepth 100000
set_option maxHeartbeats 0
end Go.Km
end
section
namespace Go.aa
open Go
end Go.aa
namespace Go.Km
open Go Go.Vc Go.Proofs Go.aa Go.Proofs.YtpbichnnflabdaaGreatDoor
set_option maxRecDepth 100000
set_option maxHeartbeats 0
set_option maxRecDepth 100000
set_option maxHeartbeats 0
set_option maxRecDepth 100000
set_option maxHeartbeats 0
set_option maxRecDepth 100000
set_option maxHeartbeats 0
set_option maxRecDepth 100000
set_option maxHeartbeats 0
theorem bI(g:List Dfn)(l:List Fl)(ns:List Nod):(aI g l ns).length=ns.length:=by
 have key:∀(ns:List Nod) (a:List Fl),(ns.foldl (jd g l) a).length=a.length+ns.length:=by
  intro ns
  induction ns with
  | nil=>intro a;rfl
  | cons n ns ih=>
   intro a;rw[List.foldl_cons,ih];simp[jd];omega
 rw[aI,key];simp
set_option maxRecDepth 100000
set_option maxHeartbeats 0
end Go.Km
end
section
namespace Go.aa
open Go Go.Km
end Go.aa
namespace Go.Km
open Go Go.Vc Go.Proofs Go.aa Go.Proofs.YtpbichnnflabdaaGreatDoor
set_option maxRecDepth 100000
set_option maxHeartbeats 0
end Go.Km
end
section
namespace Go.aa
open Go Go.Km
end Go.aa
namespace Go.Km
open Go Go.Vc Go.Proofs Go.aa Go.Proofs.YtpbichnnflabdaaGreatDoor
set_option maxRecDepth 100000
set_option maxHeartbeats 0
set_option maxRecDepth 100000
set_option maxHeartbeats 0
set_option maxRecDepth 100000
set_option maxHeartbeats 0
end Go.Km
end
section
namespace Go.aa
open Go Go.Km
end Go.aa
namespace Go.Km
open Go Go.Vc Go.Proofs Go.aa Go.Proofs.YtpbichnnflabdaaGreatDoor
set_option maxRecDepth 100000
set_option maxHeartbeats 0
end Go.Km
end
section
namespace Go.aa
open Go Go.Km
end Go.aa
end
section
namespace Go.aa
open Go Go.Sl Go.Km
end Go.aa
end
section
namespace Go.aa
open Go Go.Sl Go.Km
def iB(ns:List Nod):Int→List Int→Int×Bool
 | k,[]=>(k,true)
 | k,i :: p=>if i<0∨((ae ns k).length:Int)≤i then (0,false) else iB ns ((ae ns k).getD i.toNat 0) p
def bf(g:List Dfn):List (List Fl):=g.map fun d=>aI g (cG g) d.body.nodes
def yE(k:Nat):Nat:=if k=3 then 4 else 5
def sh(k:Nat)(f:Fl)(last:Bool):Bool:=if k=1 then !f.fail && !last else if k=2 then !f.succ else !f.succ && !last
def bu(k:Nat)(ns:List Nod)(l:List Fl)(n at_:Int):Bool:=
 decide ((dat ns n).kind=yE k)&&(decide (0≤at_)&&decide (at_<(ae ns n).length))&&sh k (l.getD ((ae ns n).getD at_.toNat 0).toNat .bot) (decide (at_=((ae ns n).length:Int) - 1))
def j7(k:Nat)(l:List Tre)(at_:Int):List Tre:=if k=2 then l.eraseIdx at_.toNat else l.take (at_+1).toNat
def JE(k:Nat):Nod:=if k=3 then ep else du
def iW(k:Nat)(x:Tre)(at_:Int):Tre×Bool:=fY (JE k) (j7 k (aQ x) at_)
def cW(k:Nat)(g:List Dfn)(r:Int)(p:List Int)(at_:Int):List Dfn×Bool:=
 if (aB g r p).2=false∨(iW k (aB g r p).1 at_).2=false∨(cu g r p (iW k (aB g r p).1 at_).1).2=false∨bC (cu g r p (iW k (aB g r p).1 at_).1).1≠0 then ([],false) else ((cu g r p (iW k (aB g r p).1 at_).1).1,true)
def gS(g:List Dfn)(r:Int):Tre:=(g.getD r.toNat ⟨ByteArray.empty,.zero⟩).body
def jl(g:List Dfn)(r:Int)(p:List Int):Int×Bool:=iB (gS g r).nodes (gS g r).root p
def okD(k:Nat)(g:List Dfn)(r:Int)(p:List Int)(at_:Int):Bool:=
 bu k (gS g r).nodes ((bf g).getD r.toNat []) (jl g r p).1 at_&&(cW k g r p at_).2
def a7(g:List Dfn)(pass way r:Int)(p:List Int)(at_:Int):List Dfn×Int:=
 if bC g≠0 then ([],bC g) else if pass≠2∨way<1∨4≤way∨r<0∨(g.length:Int)≤r∨(jl g r p).2=false∨okD way.toNat g r p at_=false then ([],47) else ((cW way.toNat g r p at_).1,0)
def gB(g:List Dfn)(x:Int×List Int):Nat:=(ae (gS g x.1).nodes (jl g x.1 x.2).1).length
def gI(g:List Dfn)(x:Int×List Int):List Sto:=(List.range 4).flatMap fun k=>if k=0 then [] else ((List.range (gB g x)).filter fun (a:Nat)=>okD k g x.1 x.2 (a:Int)).map fun (a:Nat)=>⟨2,(k:Int),x.1,x.2,(a:Int)⟩
def aN(g:List Dfn):List Sto:=if bC g=0 then (jv g).flatMap (gI g) else []
theorem lZ(ns:List Nod):∀(p:List Int) (k:Int),(iB ns k p).2=(bP ns k p).isSome∧∀row e,bP ns k p=some (row,e)→(iB ns k p).1=e
 | [],k=>⟨rfl,fun row e h=>by simp only[bP,Option.some.injEq,Prod.mk.injEq] at h;exact h.2⟩
 | i :: p,k=>by
  rw[iB,bP]
  by_cases hi:i<0
  ·rw[if_pos (.inl hi),if_pos hi];exact⟨rfl,fun row e h=>by cases h⟩
  ·rw[if_neg hi]
   by_cases hl:i.toNat<(ae ns k).length
   ·have ih:=lZ ns p (ae ns k)[i.toNat];rw[if_neg (by omega),List.getD_eq_getElem?_getD,List.getElem?_eq_getElem hl];dsimp only[Option.getD_some]
    cases hd:bP ns (ae ns k)[i.toNat] p with
    | none=>
     rw[hd] at ih;exact⟨ih.1,fun row e h=>by cases h⟩
    | some x=>
     obtain⟨row,e⟩:=x;rw[hd] at ih;refine⟨ih.1,fun row' e' h=>?_⟩;simp only[Option.some.injEq,Prod.mk.injEq] at h;rw[←h.2];exact ih.2 row e rfl
   ·rw[if_pos (by omega),List.getElem?_eq_none (by omega)];exact⟨rfl,fun row e h=>by cases h⟩
theorem fj{g:List Dfn}{x:Int×List Int}{s:Sto}:s∈gI g x↔s.pass=2∧s.r=x.1∧s.p=x.2∧1≤s.way∧s.way<4∧okD s.way.toNat g x.1 x.2 s.at_=true:=by
 unfold gI;simp only[List.mem_flatMap,List.mem_range]
 constructor
 ·rintro⟨k,hk,h⟩
  split at h
  ·cases h
  ·simp only[List.mem_map,List.mem_filter,List.mem_range] at h;obtain⟨a,⟨ha,hr⟩,rfl⟩:=h;exact⟨rfl,rfl,rfl,by dsimp only;omega,by dsimp only;omega,by simpa using hr⟩
 ·rintro⟨h1,h2,h3,h4,h5,h6⟩
  have hr:0≤s.at_∧s.at_<(gB g x:Int):=by
   unfold okD bu at h6;simp only[Bool.and_eq_true,decide_eq_true_eq] at h6;exact h6.1.1.2
  refine⟨s.way.toNat,by omega,?_⟩;rw[if_neg (by omega)];simp only[List.mem_map,List.mem_filter,List.mem_range];refine⟨s.at_.toNat,⟨by omega,?_⟩,?_⟩
  ·rw[show((s.at_.toNat:Nat):Int)=s.at_ by omega];exact h6
  ·obtain⟨pass,way,r,p,at_⟩:=s;simp only at *;subst h1;subst h2;subst h3
   congr 1<;>omega
theorem tL(g:List Dfn)(x:Int×List Int):(gI g x).Pairwise (fun a b=>cE a b=true):=by
 have h0:mb x.1 x.2 x.1 x.2=0:=pr.2 ⟨rfl,rfl⟩;refine cw (fun k _=>?_) ?_
 ·split
  ·exact List.Pairwise.nil
  ·rw[List.pairwise_map];refine List.Pairwise.filter _ ((List.pairwise_lt_range (n:=gB g x)).imp fun {a b} h=>?_);simp only[cE,h0];simp;exact h
 ·refine(List.pairwise_lt_range (n:=4)).imp fun {a b} h x1 hx y hy=>?_
  split at hx
  ·cases hx
  split at hy
  ·cases hy
  obtain⟨c,_,rfl⟩:=List.mem_map.1 hx;obtain⟨d,_,rfl⟩:=List.mem_map.1 hy;simp only[cE,h0];have:(a:Int)<(b:Int):=by omega
  simp[this]
theorem pW(g:List Dfn):(aN g).Pairwise (fun a b=>cE a b=true):=by
 unfold aN
 split
 ·refine cw (fun x _=>tL g x) ((yM g).imp fun {a b} h x hx y hy=>?_);obtain⟨_,h1,h2,_⟩:=fj.1 hx;obtain⟨_,h3,h4,_⟩:=fj.1 hy;simp only[cE,h1,h2,h3,h4,h];simp
 ·exact List.Pairwise.nil
theorem gr{g:List Dfn}{s:Sto}(h:s∈aN g):s.pass=2:=by
 unfold aN at h
 split at h
 ·obtain⟨x,_,hx⟩:=List.mem_flatMap.1 h;exact(fj.1 hx).1
 ·cases h
theorem yJ{k:Nat}{g:List Dfn}{r:Int}{p:List Int}{at_:Int}(h:(cW k g r p at_).2=true):(aB g r p).2=true∧(iW k (aB g r p).1 at_).2=true∧(cu g r p (iW k (aB g r p).1 at_).1).2=true∧cW k g r p at_=((cu g r p (iW k (aB g r p).1 at_).1).1,true)∧bC (cW k g r p at_).1=0:=by
 unfold cW at h
 split at h
 ·cases h
 ·rename_i q;have e:cW k g r p at_=((cu g r p (iW k (aB g r p).1 at_).1).1,true):=by rw[cW,if_neg q]
  simp only[not_or,Bool.not_eq_false,Decidable.not_not] at q;exact⟨q.1,q.2.1,q.2.2.1,e,by rw[e];exact q.2.2.2⟩
theorem uy{g:List Dfn}{r:Int}{p:List Int}(h:(aB g r p).2=true):∃(q:Nat) (hq:q<g.length),r=(q:Int)∧aB g r p=eN g[q].body p:=by
 have h':=h;unfold aB at h
 split at h
 ·rename_i hr;refine⟨r.toNat,by omega,by omega,?_⟩;unfold aB;rw[dif_pos hr]
 ·cases h
theorem mq{g:List Dfn}(hc:bC g=0){s:Sto}:s∈aN g↔(a7 g s.pass s.way s.r s.p s.at_).2=0:=by
 have hm:=en hc;rw[aN,if_pos hc,List.mem_flatMap,a7,if_neg (by simpa using hc)]
 constructor
 ·rintro⟨x,hx,h⟩
  obtain⟨h1,h2,h3,h4,h5,h6⟩:=fj.1 h;have hf:=(s9 hm x.1 x.2).1 hx;obtain⟨q,hq,e1,e2⟩:=uy hf;have hn:(jl g s.r s.p).2=true:=by
   rw[e2] at hf;unfold eN at hf
   split at hf
   ·rw[jl,h2,h3,e1,gS,Int.toNat_natCast,List.getD_eq_getElem?_getD,List.getElem?_eq_getElem hq,Option.getD_some,(lZ _ _ _).1]
    split at hf
    ·rename_i hd;rw[hd];rfl
    ·cases hf
   ·cases hf
  rw[if_neg]
  rintro(a|a|a|a|a|a|a)
  ·exact a h1
  ·omega
  ·omega
  ·omega
  ·omega
  ·rw[hn] at a;cases a
  ·rw[h2,h3,h6] at a;cases a
 ·intro h
  split at h
  ·cases h
  ·rename_i q;simp only[not_or,Bool.not_eq_false,Decidable.not_not] at q;obtain⟨q1,q2,q3,q4,q5,q6,q7⟩:=q;have hp:=yJ (k:=s.way.toNat) (g:=g) (r:=s.r) (p:=s.p) (at_:=s.at_) (by rw[okD,Bool.and_eq_true] at q7;exact q7.2);exact⟨(s.r,s.p),(s9 hm _ _).2 hp.1,fj.2 ⟨q1,rfl,rfl,by omega,by omega,q7⟩⟩
theorem qg(g:List Dfn)(pass way r:Int)(p:List Int)(at_:Int)(hc:bC g=0):((a7 g pass way r p at_).2=0∧bC (a7 g pass way r p at_).1=0)∨a7 g pass way r p at_=([],47):=by
 rw[a7,if_neg (by simpa using hc)]
 split
 ·exact .inr rfl
 ·rename_i q;simp only[not_or,Bool.not_eq_false,Decidable.not_not] at q;have q7:=q.2.2.2.2.2.2;rw[okD,Bool.and_eq_true] at q7;exact .inl ⟨rfl,(yJ q7.2).2.2.2.2⟩
theorem xk{t:Tre}(hR:ay t){p:List Int}(h:(eN t p).2=true):au (eN t p).1=true∧∃row e,bP t.nodes t.root p=some (row,e)∧(0≤e∧e<t.nodes.length)∧foT (eN t p).1=aE t.nodes t.nodes.length [e]:=by
 unfold eN at h ⊢;rw[if_pos hR.right] at h ⊢
 split at h
 ·rename_i row e hd;obtain⟨_,e1,e2,_⟩:=jb hR.kok.ae p _ hR.root.1 hR.root.2 row e hd;have hk:(aE t.nodes t.nodes.length [e]).fit=true:=sH hR _ _ (fun y hy=>by simp at hy;subst hy;exact⟨e1,e2⟩) (Nat.le_refl _);refine⟨?_,row,e,hd,⟨e1,e2⟩,?_⟩
  ·show au (aC t e)=true
   rw[pA hR e1 e2,dm hR.kok.ae e1 e2];rw[dm hR.kok.ae e1 e2] at hk;exact jE hk
  ·show foT (aC t e)=_
   rw[pA hR e1 e2];exact Hv (by rw[dm hR.kok.ae e1 e2];rfl) (pT _ _ _)
 ·cases h
theorem IZ{t:Tre}(hR:ay t){p:List Int}(h:(eN t p).2=true):au (eN t p).1=true∧(iB t.nodes t.root p).2=true∧(0≤(iB t.nodes t.root p).1∧(iB t.nodes t.root p).1<t.nodes.length)∧qj (eN t p).1=dat t.nodes (iB t.nodes t.root p).1∧(aQ (eN t p).1).length=(ae t.nodes (iB t.nodes t.root p).1).length:=by
 obtain⟨h1,row,e,hd,h2,h3⟩:=xk hR h;obtain⟨n1,n2⟩:=lZ t.nodes p t.root;rw[n2 row e hd];obtain⟨t1,t2,t3⟩:=AS h1;rw[h3,dm hR.kok.ae h2.1 h2.2] at t1;simp only[Fo.cons.injEq,and_true] at t1;refine⟨h1,by rw[n1,hd];rfl,h2,t1.1.symm,?_⟩;have hf:(foL (aQ (eN t p).1)).len=(aQ (eN t p).1).length:=(K5 t2).2;obtain⟨f,hf2⟩:∃f,t.nodes.length=f+1:=⟨t.nodes.length - 1,by omega⟩
 rw[←hf,←t1.2,hf2,uz]
end Go.aa
end
section
namespace Go.Km
open Go Go.Vc Go.Proofs Go.aa Go.Proofs.YtpbichnnflabdaaGreatDoor
set_option maxRecDepth 100000
set_option maxHeartbeats 0
instance(f:Fl)(l:Bool):C 91 [flF f,boF l] (boF (sh 1 f l)) true True:=⟨fun _=>by
 obtain⟨a,b,c⟩:=f
 cases a<;>cases b<;>cases c<;>cases l<;>(refine kf rfl rfl ?_;repeat' (first|exact k9|refine k2 ?_|apply kA|apply kI;intro hc|refine k8 ?_|apply kL;intro hl))
 all_goals exact ao.b rfl rfl⟩
instance(f:Fl)(l:Bool):C 93 [flF f,boF l] (boF (sh 2 f l)) true True:=⟨fun _=>by
 obtain⟨a,b,c⟩:=f
 cases a<;>cases b<;>cases c<;>cases l<;>(refine kf rfl rfl ?_;repeat' (first|exact k9|refine k2 ?_|apply kA|apply kI;intro hc|refine k8 ?_|apply kL;intro hl))
 all_goals exact ao.b rfl rfl⟩
instance(f:Fl)(l:Bool):C 95 [flF f,boF l] (boF (sh 3 f l)) true True:=⟨fun _=>by
 obtain⟨a,b,c⟩:=f
 cases a<;>cases b<;>cases c<;>cases l<;>(refine kf rfl rfl ?_;repeat' (first|exact k9|refine k2 ?_|apply kA|apply kI;intro hc|refine k8 ?_|apply kL;intro hl))
 all_goals exact ao.b rfl rfl⟩
instance:C 47 [] (.ag [byF 0,Jx,Jx,byF 5,.cl 91 [],.cl 92 [],byF 5,.cl 93 [],.cl 94 [],byF 4,.cl 95 [],.cl 92 []]) true True:=⟨fun _=>by
 refine kf rfl rfl ?_;repeat' (first|exact k9|refine k2 ?_|apply kA|apply kI;intro hc|refine k8 ?_|apply kL;intro hl)⟩
instance(l:List Tre)(q:Int):C 92 [j6 l,inF q] (j6 (l.take (q+1).toNat)) false (0≤q∧q<l.length∧l.length≤1000000):=⟨fun ⟨h0,h,hl⟩=>by
 refine kf rfl rfl ?_;repeat' first|exact k9|refine k2 ?_|apply kA|apply kI;intro hc|refine k8 ?_|apply kL;intro hl
 exact ao.i (by rw[List.drop_zero,←List.map_take])⟩
abbrev wS(l:List Fl):List F:=[iy l]
abbrev LU(l:List (List Fl)):F:=.sl (l.map wS)
def qM(g:List Dfn)(i:Nat):List (List F):=((bf g).take i).map wS++List.replicate (g.length - i) (wS [])
theorem Ld(g:List Dfn):qM g 0=List.replicate g.length (wS []):=by simp[qM]
theorem Gu{g:List Dfn}{i:Nat}(h:i≤g.length):(qM g i).length=g.length:=by simp[qM,bf];omega
theorem Es(g:List Dfn):qM g g.length=(bf g).map wS:=by
 rw[qM,Nat.sub_self,List.replicate_zero,List.append_nil,List.take_of_length_le (by simp[bf])]
theorem Gb{g:List Dfn}{i:Nat}(h:i<g.length):(qM g i)[i]?=some (wS []):=by
 have hl:(((bf g).take i).map wS).length=i:=by simp[bf];omega
 unfold qM;rw[List.getElem?_append_right (by omega),hl,Nat.sub_self,show g.length - i=(g.length - (i+1))+1 by omega,List.replicate_succ];rfl
theorem FY{g:List Dfn}{i:Nat}(h:i<g.length):(qM g i).set i (wS (aI g (cG g) g[i].body.nodes))=qM g (i+1):=by
 have hl:(bf g).length=g.length:=by simp[bf]
 have hg:(bf g)[i]'(by omega)=aI g (cG g) g[i].body.nodes:=by simp[bf]
 have hll:(((bf g).take i).map wS).length=i:=by simp;omega
 unfold qM;rw[List.set_append_right _ _ (by omega),hll,Nat.sub_self,show g.length - i=(g.length - (i+1))+1 by omega,List.replicate_succ,List.set_cons_zero,List.take_succ_eq_append_getElem (by omega:i<(bf g).length),List.map_append,hg,List.append_assoc];rfl
instance(g:List Dfn):C 44 [cg g] (.tp [LU (bf g),boF true]) false ((g.length≤1000∧∀d∈g,d.wf)∧cS g=0):=⟨fun ⟨hp,hm⟩=>by
 have ok:=fa hm;have hn:=hp.1;have hof:eJ g=(cG g,0):=by rw[eJ,if_pos hm]
 have hfl:=pG g;refine kf rfl rfl ?_;repeat' first|exact k9|refine k2 ?_|apply kA|apply kI;intro hc|apply kL;intro hl|((simp only[hof])<;>conv=>whnf)|refine k8 ?_|fail
 ·apply kCt [1,4,6,23,24,25] [];conv=>whnf
  refine Lp.ind (fun z:Nat=>g.length - z) (fun z=>z≤g.length) (fun z=>[(25,InD z)]) (fun z=>[(1,.ro 0 86 1 (qM g z))]) (fun _=>_) 0 (Nat.zero_le _) rfl rfl ?_ ?_
  ·rw[Ld,List.length_map];rfl
  rintro G i ih hi
  have hZl:=Gu hi
  by_cases hx:i<g.length
  ·have hset:=FY hx;have hgi:=Gb hx;have hd:=List.getElem_mem hx;have hpre:(g.length≤1000∧eY g=false)∧(cG g).length=g.length∧g[i].body.wf∧ay g[i].body∧so g g[i].body.nodes:=⟨⟨hn,ok.FB⟩,hfl,(hp.2 _ hd).body,ok.right hd,ok.named _ hd⟩
   repeat' first|exact k9|refine k2 ?_|apply kA|apply kI;intro hc|refine k8 ?_|apply kL;intro hl
   apply kCt [1,4,6,23,24,25] [];conv=>whnf
   exact ih (i+1) _ _ _ (by omega) (by omega) rfl rfl (by rw[←hset];rfl)
  ·obtain rfl:i=g.length:=by omega
   rw[Es] at *
   repeat' first|exact k9|refine k2 ?_|apply kA|apply kI;intro hc|refine k8 ?_|apply kL;intro hl
   all_goals exact ao.i rfl
 ·rw[hof] at hc;exact absurd rfl hc⟩
instance(t:Tre)(p:List Int):C 48 [aD t,isF p] (.tp [inF (iB t.nodes t.root p).1,boF (iB t.nodes t.root p).2]) true (t.wf∧ay t∧p.length≤1000000):=⟨fun ⟨hw,hR,hp⟩=>by
 have hlen:=hw.len;simp only[bT] at hlen;obtain⟨r,hr⟩:∃r:Nat,t.root=r:=⟨t.root.toNat,by have:=hR.root;omega⟩
 have hrl:=hR.root.2;refine kf rfl rfl ?_;repeat' first|exact k9|refine k2 ?_|apply kA|apply kI;intro hc|refine k8 ?_|apply kL;intro hl
 apply kCt [2,6,11,12,13] [];conv=>whnf
 rw[hr] at hrl ⊢;obtain⟨N,hN⟩:=exEq (iB t.nodes (r:Int) p);rw[←hN];refine Lp.ind (fun x:Nat×Nat=>p.length - x.1) (fun x=>x.1≤p.length∧x.2<t.nodes.length∧N=iB t.nodes (x.2:Int) (p.drop x.1)) (fun x=>[(13,InD x.1),(6,InD x.2)]) (fun _=>[]) (fun _=>_) (0,r) ⟨Nat.zero_le _,by dsimp only;omega,hN⟩ rfl rfl rfl ?_
 rintro G ⟨i,q⟩ ih ⟨hi,hq,hT⟩
 dsimp only at hi hq hT ih ⊢
 by_cases hx:i<p.length
 ·rw[List.drop_eq_getElem_cons hx,iB] at hT;have hch:ae t.nodes (q:Int)=t.nodes[q].kids:=(aH (List.getElem?_eq_getElem hq)).symm;rw[hch] at hT;have hko:=hR.kok q t.nodes[q] (List.getElem?_eq_getElem hq);have hkl:=(hw.nodes _ (List.getElem_mem hq)).kids.1;simp only[dd] at hkl
  by_cases h0:p[i]<0∨(t.nodes[q].kids.length:Int)≤p[i]
  ·rw[if_pos h0] at hT;subst hT
   repeat' first|exact k9|refine k2 ?_|apply kA|apply kI;intro hc|refine k8 ?_|apply kL;intro hl
   all_goals exact ao.i rfl
  ·rw[if_neg h0] at hT;have h1:p[i].toNat<t.nodes[q].kids.length:=by omega
   rw[List.getD_eq_getElem?_getD,List.getElem?_eq_getElem h1,Option.getD_some] at hT;obtain⟨y,hy⟩:∃y:Nat,t.nodes[q].kids[p[i].toNat]=y:=⟨t.nodes[q].kids[p[i].toNat].toNat,by have:=hko _ (List.getElem_mem h1);omega⟩
   have hyl:=hko _ (List.getElem_mem h1);rw[hy] at hyl hT;have hyi:∀h:p[i].toNat<t.nodes[q].kids.length,t.nodes[q].kids[p[i].toNat]'h=(y:Int):=fun _=>hy
   repeat' first|exact k9|refine k2 ?_|apply kA|apply kI;intro hc|apply kL;intro hl|((simp only[hyi])<;>conv=>whnf)|refine k8 ?_|fail
   apply kCt [2,6,11,12,13] [];conv=>whnf
   exact ih (i+1,y) _ _ _ (by dsimp only;omega) ⟨by dsimp only;omega,by dsimp only;omega,hT⟩ rfl rfl rfl
 ·obtain rfl:i=p.length:=by omega
  rw[List.drop_length,iB] at hT;subst hT
  repeat' (first|exact k9|refine k2 ?_|apply kA|apply kI;intro hc|refine k8 ?_|apply kL;intro hl)⟩
theorem pU{k:Nat}{ns:List Nod}{l:List Fl}{n at_:Int}(h:(dat ns n).kind≠yE k∨at_<0∨((ae ns n).length:Int)≤at_):bu k ns l n at_=false:=by
 unfold bu;rcases h with h|h|h
 ·rw[decide_eq_false h];rfl
 ·rw[decide_eq_false (by omega:¬0≤at_)];simp
 ·rw[decide_eq_false (by omega:¬at_<_)];simp
theorem rV{ns:List Nod}{q:Nat}(h:q<ns.length):(dat ns (q:Int)).kind=ns[q].kind:=by
 unfold dat;rw[Int.toNat_natCast,List.getD_eq_getElem?_getD,List.getElem?_eq_getElem h];rfl
instance(t:Tre)(l:List Fl)(n at_:Int):C 49 [.ag [byF 5,.cl 91 [],.cl 92 []],aD t,iy l,inF n,inF at_] (boF (bu 1 t.nodes l n at_)) true (t.wf∧ay t∧l.length=t.nodes.length∧0≤n∧n<t.nodes.length):=⟨fun ⟨hw,hR,hl,hn0,hn1⟩=>by
 have hlen:=hw.len;simp only[bT] at hlen;obtain⟨q,rfl⟩:∃q:Nat,n=q:=⟨n.toNat,by omega⟩
 have hq:q<t.nodes.length:=by omega
 have hch:ae t.nodes (q:Int)=t.nodes[q].kids:=(aH (List.getElem?_eq_getElem hq)).symm;have hdk:=rV hq;have hko:=hR.kok q t.nodes[q] (List.getElem?_eq_getElem hq);have hkl:=(hw.nodes _ (List.getElem_mem hq)).kids.1;simp only[dd] at hkl
 by_cases h0:t.nodes[q].kind≠5∨at_<0∨(t.nodes[q].kids.length:Int)≤at_
 ·rw[pU (by rw[hdk,hch];exact h0)];refine kf rfl rfl ?_;repeat' first|exact k9|refine k2 ?_|apply kA|apply kI;intro hc|refine k8 ?_|apply kL;intro hl
  all_goals first|exact ao.b rfl rfl|(exfalso;omega)|exact⟨by exfalso;omega⟩
 ·simp only[not_or,Decidable.not_not] at h0;obtain⟨a1,a2,a3⟩:=h0;have ha:at_.toNat<t.nodes[q].kids.length:=by omega
  have e:bu 1 t.nodes l (q:Int) at_=sh 1 (l.getD (t.nodes[q].kids[at_.toNat]).toNat .bot) (decide (at_=(t.nodes[q].kids.length:Int) - 1)):=by
   unfold bu;rw[hdk,hch,decide_eq_true (show t.nodes[q].kind=yE 1 from a1),decide_eq_true (by omega:0≤at_),decide_eq_true (by omega:at_<_),List.getD_eq_getElem?_getD (l:=t.nodes[q].kids),List.getElem?_eq_getElem ha];rfl
  have hyl:=hko _ (List.getElem_mem ha);obtain⟨y,hy⟩:∃y:Nat,t.nodes[q].kids[at_.toNat]=y:=⟨t.nodes[q].kids[at_.toNat].toNat,by omega⟩
  rw[hy] at hyl e;have hyn:y<l.length:=by omega
  rw[Int.toNat_natCast,List.getD_eq_getElem?_getD,List.getElem?_eq_getElem hyn,Option.getD_some] at e;rw[e];have hyi:∀h:at_.toNat<t.nodes[q].kids.length,t.nodes[q].kids[at_.toNat]'h=(y:Int):=fun _=>hy
  refine kf rfl rfl ?_;repeat' first|exact k9|refine k2 ?_|apply kA|apply kI;intro hc|apply kL;intro hl|((simp only[hyi])<;>conv=>whnf)|refine k8 ?_|fail
  all_goals first|(exfalso;omega)|(refine ao.b ?_ rfl;rw[cC,List.length_map];rfl)⟩
instance(t:Tre)(l:List Fl)(n at_:Int):C 49 [.ag [byF 5,.cl 93 [],.cl 94 []],aD t,iy l,inF n,inF at_] (boF (bu 2 t.nodes l n at_)) true (t.wf∧ay t∧l.length=t.nodes.length∧0≤n∧n<t.nodes.length):=⟨fun ⟨hw,hR,hl,hn0,hn1⟩=>by
 have hlen:=hw.len;simp only[bT] at hlen;obtain⟨q,rfl⟩:∃q:Nat,n=q:=⟨n.toNat,by omega⟩
 have hq:q<t.nodes.length:=by omega
 have hch:ae t.nodes (q:Int)=t.nodes[q].kids:=(aH (List.getElem?_eq_getElem hq)).symm;have hdk:=rV hq;have hko:=hR.kok q t.nodes[q] (List.getElem?_eq_getElem hq);have hkl:=(hw.nodes _ (List.getElem_mem hq)).kids.1;simp only[dd] at hkl
 by_cases h0:t.nodes[q].kind≠5∨at_<0∨(t.nodes[q].kids.length:Int)≤at_
 ·rw[pU (by rw[hdk,hch];exact h0)];refine kf rfl rfl ?_;repeat' first|exact k9|refine k2 ?_|apply kA|apply kI;intro hc|refine k8 ?_|apply kL;intro hl
  all_goals first|exact ao.b rfl rfl|(exfalso;omega)|exact⟨by exfalso;omega⟩
 ·simp only[not_or,Decidable.not_not] at h0;obtain⟨a1,a2,a3⟩:=h0;have ha:at_.toNat<t.nodes[q].kids.length:=by omega
  have e:bu 2 t.nodes l (q:Int) at_=sh 2 (l.getD (t.nodes[q].kids[at_.toNat]).toNat .bot) (decide (at_=(t.nodes[q].kids.length:Int) - 1)):=by
   unfold bu;rw[hdk,hch,decide_eq_true (show t.nodes[q].kind=yE 2 from a1),decide_eq_true (by omega:0≤at_),decide_eq_true (by omega:at_<_),List.getD_eq_getElem?_getD (l:=t.nodes[q].kids),List.getElem?_eq_getElem ha];rfl
  have hyl:=hko _ (List.getElem_mem ha);obtain⟨y,hy⟩:∃y:Nat,t.nodes[q].kids[at_.toNat]=y:=⟨t.nodes[q].kids[at_.toNat].toNat,by omega⟩
  rw[hy] at hyl e;have hyn:y<l.length:=by omega
  rw[Int.toNat_natCast,List.getD_eq_getElem?_getD,List.getElem?_eq_getElem hyn,Option.getD_some] at e;rw[e];have hyi:∀h:at_.toNat<t.nodes[q].kids.length,t.nodes[q].kids[at_.toNat]'h=(y:Int):=fun _=>hy
  refine kf rfl rfl ?_;repeat' first|exact k9|refine k2 ?_|apply kA|apply kI;intro hc|apply kL;intro hl|((simp only[hyi])<;>conv=>whnf)|refine k8 ?_|fail
  all_goals first|(exfalso;omega)|(refine ao.b ?_ rfl;rw[cC,List.length_map];rfl)⟩
instance(t:Tre)(l:List Fl)(n at_:Int):C 49 [.ag [byF 4,.cl 95 [],.cl 92 []],aD t,iy l,inF n,inF at_] (boF (bu 3 t.nodes l n at_)) true (t.wf∧ay t∧l.length=t.nodes.length∧0≤n∧n<t.nodes.length):=⟨fun ⟨hw,hR,hl,hn0,hn1⟩=>by
 have hlen:=hw.len;simp only[bT] at hlen;obtain⟨q,rfl⟩:∃q:Nat,n=q:=⟨n.toNat,by omega⟩
 have hq:q<t.nodes.length:=by omega
 have hch:ae t.nodes (q:Int)=t.nodes[q].kids:=(aH (List.getElem?_eq_getElem hq)).symm;have hdk:=rV hq;have hko:=hR.kok q t.nodes[q] (List.getElem?_eq_getElem hq);have hkl:=(hw.nodes _ (List.getElem_mem hq)).kids.1;simp only[dd] at hkl
 by_cases h0:t.nodes[q].kind≠4∨at_<0∨(t.nodes[q].kids.length:Int)≤at_
 ·rw[pU (by rw[hdk,hch];exact h0)];refine kf rfl rfl ?_;repeat' first|exact k9|refine k2 ?_|apply kA|apply kI;intro hc|refine k8 ?_|apply kL;intro hl
  all_goals first|exact ao.b rfl rfl|(exfalso;omega)|exact⟨by exfalso;omega⟩
 ·simp only[not_or,Decidable.not_not] at h0;obtain⟨a1,a2,a3⟩:=h0;have ha:at_.toNat<t.nodes[q].kids.length:=by omega
  have e:bu 3 t.nodes l (q:Int) at_=sh 3 (l.getD (t.nodes[q].kids[at_.toNat]).toNat .bot) (decide (at_=(t.nodes[q].kids.length:Int) - 1)):=by
   unfold bu;rw[hdk,hch,decide_eq_true (show t.nodes[q].kind=yE 3 from a1),decide_eq_true (by omega:0≤at_),decide_eq_true (by omega:at_<_),List.getD_eq_getElem?_getD (l:=t.nodes[q].kids),List.getElem?_eq_getElem ha];rfl
  have hyl:=hko _ (List.getElem_mem ha);obtain⟨y,hy⟩:∃y:Nat,t.nodes[q].kids[at_.toNat]=y:=⟨t.nodes[q].kids[at_.toNat].toNat,by omega⟩
  rw[hy] at hyl e;have hyn:y<l.length:=by omega
  rw[Int.toNat_natCast,List.getD_eq_getElem?_getD,List.getElem?_eq_getElem hyn,Option.getD_some] at e;rw[e];have hyi:∀h:at_.toNat<t.nodes[q].kids.length,t.nodes[q].kids[at_.toNat]'h=(y:Int):=fun _=>hy
  refine kf rfl rfl ?_;repeat' first|exact k9|refine k2 ?_|apply kA|apply kI;intro hc|apply kL;intro hl|((simp only[hyi])<;>conv=>whnf)|refine k8 ?_|fail
  all_goals first|(exfalso;omega)|(refine ao.b ?_ rfl;rw[cC,List.length_map];rfl)⟩
end Go.Km
end
section
namespace Go.Sl
open Go Go.RowKit
theorem oz{sz:Nat}:∀{rows:List (List Value)} (_:∀r∈rows,r.length=sz) (i:Nat),rows.flatten.take (i * sz)=(rows.take i).flatten
 | _,_,0=>by simp
 | [],_,i+1=>by simp
 | r :: rows,h,i+1=>by
  have hr:=h r (by simp);rw[List.flatten_cons,List.take_succ_cons,List.flatten_cons,List.take_append,List.take_of_length_le (by rw[hr,Nat.add_mul];omega),←oz (rows:=rows) (fun x hx=>h x (by simp[hx])) i,hr]
  congr 2
  rw[Nat.add_mul];omega
theorem nG{sz:Nat}:∀{rows:List (List Value)} (_:∀r∈rows,r.length=sz) (i:Nat),rows.flatten.drop (i * sz)=(rows.drop i).flatten
 | _,_,0=>by simp
 | [],_,i+1=>by simp
 | r :: rows,h,i+1=>by
  have hr:=h r (by simp);rw[List.flatten_cons,List.drop_succ_cons,List.drop_append,List.drop_of_length_le (by rw[hr,Nat.add_mul];omega),List.nil_append,←nG (rows:=rows) (fun x hx=>h x (by simp[hx])) i,hr]
  congr 1
  rw[Nat.add_mul];omega
section
variable {P:Program} {w:World}
theorem yD{e sz m c:Nat}{A:Option Addr}{rows:List (List Value)}{S0:Nat→Prop}(g2:(own e sz A m c rows).on S0 w):m≤c:=by
 rcases g2.1.2 with ⟨hv,h0⟩|⟨g,cap,cur,hv,_,_,hr1,_⟩
 ·injection hv with _ _ hc;omega
 ·injection hv with _ _ hc;omega
theorem Ii{t' e sz by_ m c i j c':Nat}{ty:TypeId}{z:Value}{A A':Option Addr}{rows:List (List Value)}{S0:Nat→Prop}(ht:SlT P t' e sz by_ z)(g2:(own e sz A m c rows).on S0 w)(hij:i≤j)(hj:j≤m)(hone:∀r∈rows,b6 r=true)(hA:j<m→A'=A.map (·.add (j * sz))) :
  ∃w',(Builtin.append_ #[t',t'] ty #[.slice A i c,.slice A' (m - j) c']).run P w=.ok (.slice A (i+(m - j)) c) w'∧Chg w w' S0∧(own e sz A (i+(m - j)) c (rows.take i++rows.drop j)).on S0 w':=by
 obtain⟨inf,i1,i2,i3,i4⟩:=ht.info;have hcap:=yD g2;have harr:=own.arr g2;obtain⟨h1,h2,h3,h4⟩:=g2;have hfl:=length_flatten h3;have hft:=oz h3 i;have hfd:=nG h3 j;have hrl:∀r∈rows.take i++rows.drop j,r.length=sz:=fun r hr=>by
  rcases List.mem_append.1 hr with hr|hr
  ·exact h3 r (List.mem_of_mem_take hr)
  ·exact h3 r (List.mem_of_mem_drop hr)
 have hrn:(rows.take i++rows.drop j).length=i+(m - j):=by simp only[List.length_append,List.length_take,List.length_drop];omega
 rcases Nat.eq_or_lt_of_le hj with hjm|hjm
 ·subst hjm;have hd:rows.drop j=[]:=List.drop_of_length_le (by omega);rw[Nat.sub_self,Nat.add_zero,hd,List.append_nil] at hrn ⊢;rw[hd,List.append_nil] at hrl;refine⟨w,?_,Chg.refl,⟨⟨?_,?_⟩,hrn,hrl,fun g hg=>h4 g (by cases A<;>simpa [Value.ownBlock] using hg)⟩⟩
  ·have hfc:(Builtin.firstCells inf.size 0 (.slice A' 0 c')).run P w=.ok #[] w:=by
    cases A'<;>simp[Builtin.firstCells,loadCells,loadCellsFrom]
   have hic:i≤c:=by omega
   cases A<;>simp[Builtin.append_,run_underlying ht.und,sizeOf,typeInfo,i1,Builtin.lenOf,hic,hfc,storeCells]
  ·rw[length_flatten hrl,hrn]
  ·rcases h1.2 with ⟨hv,h0⟩|⟨g,cap,cur,hv,hg,hw,k1,k2,k3,k4⟩
   ·injection hv with a1 a2 a3
    subst a1 a3;exact .inl ⟨by rw[show i=0 by omega],by omega⟩
   ·injection hv with a1 a2 a3
    subst a1 a3;refine .inr ⟨g,c,cur,rfl,hg,hw,by omega,k2,k3,?_⟩;rw[←hft,←k4,List.take_take]
    congr 1
    exact(Nat.min_eq_left (Nat.mul_le_mul_right _ (by omega))).symm
 ·rcases h1.2 with ⟨hv,h0⟩|⟨g,cap,cur,hv,hg,hw,k1,k2,k3,k4⟩
  ·omega
  ·injection hv with a1 a2 a3
   subst a1 a3;rw[hA hjm];have hnl:(rows.drop j).flatten.length=(m - j) * inf.size:=by
    rw[length_flatten (sz:=sz) (fun r hr=>h3 r (List.mem_of_mem_drop hr)),i3,List.length_drop,h2]
   have hns:∀q u,(rows.drop j).flatten[q]?=some u→w.cell? (((⟨g,0,none⟩:Addr).add (j * sz)).add q)=some u:=fun q u hu=>by
    rw[←hfd,List.getElem?_drop] at hu;rw[add_add];obtain⟨ad,e1,_,e2⟩:=harr.2.2 (by omega)
    cases e1;exact e2 _ _ hu
   have h1c:∀u∈(rows.drop j).flatten,u.oneCell'=true:=fun u hu=>by
    obtain⟨r,hr,hu⟩:=List.mem_flatten.1 hu;exact gp (hone r (List.mem_of_mem_drop hr)) u hu
   have hfit:i * inf.size+(rows.drop j).flatten.length≤cur.size:=by
    rw[hnl,k3,i3,←Nat.add_mul];exact Nat.mul_le_mul_right _ (by omega)
   have hr:=run_append_room (P:=P) w t' ty e inf ht.und i1 g i c cur hw ((⟨g,0,none⟩:Addr).add (j * sz)) (m - j) c' (rows.drop j).flatten hnl hns h1c (by omega) hfit;refine⟨_,hr,?_,⟨⟨?_,?_⟩,hrn,hrl,fun g' hg'=>h4 g' hg'⟩⟩
   ·exact⟨rfl,rfl,rfl,by simp,fun b _ hn=>setRow_other w g b _ (fun e=>hn (by cases e;exact h4 _ rfl))⟩
   ·rw[length_flatten hrl,hrn]
   ·refine .inr ⟨g,c,_,rfl,hg,setRow_heap w g cur _ e _ hw,by omega,k2,?_,?_⟩
    ·simp only[List.size_toArray,List.length_append,List.length_take,List.length_drop,Array.length_toList];omega
    ·have e0:i * sz≤m * sz:=Nat.mul_le_mul_right _ (by omega);have e1:cur.toList.take (i * sz)=(rows.take i).flatten:=by
      rw[←hft,←k4,List.take_take,Nat.min_eq_left e0]
     rw[i3] at *;rw[e1];rw[List.flatten_append];exact List.take_left' (by
      rw[List.length_append,length_flatten (sz:=sz) (fun r hr=>h3 r (List.mem_of_mem_take hr)),hnl,List.length_take,Nat.min_eq_left (by omega),Nat.add_mul])
theorem FP{z:Value}(hz:z.cells.all (·.oneCell')=true)(n:Nat):∀v∈(Builtin.zeroCells z.cells n).toList,v.oneCell'=true:=by
 intro v hv;rw[Builtin.zeroCells,Array.toList_map] at hv;obtain⟨i,hi,rfl⟩:=List.mem_map.1 hv;have hi:=Array.mem_range.1 (Array.mem_toList_iff.1 hi);have hp:0<z.cells.size:=by
  rcases Nat.eq_zero_or_pos z.cells.size with h|h
  ·rw[h] at hi;simp at hi
  ·exact h
 have hl:i % z.cells.size<z.cells.size:=Nat.mod_lt _ hp;rw[getElem!_pos z.cells _ hl];exact Array.all_eq_true.1 hz _ hl
theorem D2{t' e sz by_ m c d c'':Nat}{ty:TypeId}{z:Value}{A A'':Option Addr}{rows:List (List Value)}{S0:Nat→Prop}(ht:SlT P t' e sz by_ z)(g2:(own e sz A m c rows).on S0 w)(hz:z.cells.all (·.oneCell')=true)(hd:m+d≤c)(hA:0<d→A''=A.map (·.add (m * sz))) :
  ∃w',(Builtin.clear_ #[t'] ty #[.slice A'' d c'']).run P w=.ok (.tuple #[]) w'∧Chg w w' S0∧(own e sz A m c rows).on S0 w':=by
 obtain⟨inf,i1,i2,i3,i4⟩:=ht.info;rcases Nat.eq_zero_or_pos d with h0|hp
 ·subst h0;refine⟨w,?_,Chg.refl,g2⟩
  cases A''<;>simp[Builtin.clear_,run_underlying ht.und]
 ·obtain⟨h1,h2,h3,h4⟩:=g2;rcases h1.2 with ⟨hv,h0⟩|⟨g,cap,cur,hv,hg,hw,k1,k2,k3,k4⟩
  ·injection hv with a1 a2 a3
   omega
  ·injection hv with a1 a2 a3
   subst a1 a3;rw[hA hp];obtain⟨q,rfl⟩:∃q,d=q+1:=⟨d - 1,by omega⟩
   obtain⟨vs,hvs⟩:=exEq ((Builtin.zeroCells z.cells (q+1)).toList);have hvl:vs.length=(q+1) * sz:=by rw[hvs,Array.length_toList,size_zeroCells,ht.zsz]
   have hfit:m * sz+0+vs.length≤cur.size:=by
    rw[hvl,k3,Nat.add_zero,←Nat.add_mul];exact Nat.mul_le_mul_right _ hd
   have hst:=run_storeCells_at P g (m * sz) e vs 0 cur w hw hfit (by rw[hvs];exact FP hz _);simp only[Nat.add_zero] at hst;have hzv:∀w,(zeroValue e).run P w=.ok z w:=fun w=>by simp[zeroValue,typeInfo,i1,i2]
   have ha:(⟨g,0,none⟩:Addr).add (m * sz)=⟨g,m * sz,none⟩:=by rw[add_lit,Nat.zero_add]
   refine⟨w.setRow g (cur.toList.take (m * sz)++vs++cur.toList.drop (m * sz+vs.length)).toArray,?_,?_,⟨⟨h1.1,?_⟩,h2,h3,h4⟩⟩
   ·simp only[Option.map_some,ha];simp[Builtin.clear_,run_underlying ht.und,hzv,←hvs,hst]
   ·exact⟨rfl,rfl,rfl,by simp,fun b _ hn=>setRow_other w g b _ (fun e=>hn (by cases e;exact h4 _ rfl))⟩
   ·refine .inr ⟨g,c,_,rfl,hg,setRow_heap w g cur _ e _ hw,k1,k2,?_,?_⟩
    ·simp only[List.size_toArray,List.length_append,List.length_take,List.length_drop,Array.length_toList];omega
    ·rw[←k4];show((cur.toList.take (m * sz)++vs++cur.toList.drop (m * sz+vs.length))).take (m * sz)=_
     have e1:m * sz≤cur.size:=by omega
     rw[List.append_assoc];exact List.take_left' (by rw[List.length_take,Array.length_toList];omega)
end
section
variable {P:Program} {n:FD} {s:Sg} {ty:TypeId} {w0:World} {L L':List HP} {M:World→Prop}
theorem Ac.cut {x y:Operand} {t e sz by_ m c i j c':Nat} {z:Value} {A A':Option Addr} {rows:List (List Value)} [ht:SlT P t e sz by_ z] (hx:ev s x=some (.slice A i c)) (hy:ev s y=some (.slice A' (m - j) c')) (hu:Upd L (own e sz A m c rows) (own e sz A (i+(m - j)) c (rows.take i++rows.drop j)) L')
  (hij:i≤j) (hj:j≤m) (hone:∀r∈rows,b6 r=true) (hA:j<m→A'=A.map (·.add (j * sz))) :
  Ac P n s (St w0 L) (.call { callee:=.builtin .append,args:=#[x,y],argTypes:=#[t,t] }) ty (ι:=Unit) (fun _=>.slice A (i+(m - j)) c) (fun _=>St w0 L'):=by
 refine⟨fun a w o ho ht' hf hm=>?_⟩;obtain⟨S1,g1,g2,g3⟩:=hm.upd hu;obtain⟨w',r1,r2,r3⟩:=Ii (P:=P) (ty:=ty) (c':=c') (A':=A') ht g2 hij hj hone hA;refine⟨(),w',?_,g3 S1 w' r2 (fun b hb=>.inl hb) r3⟩;simp[execOp,ho,resolve,hf.ev hx,hf.ev hy,invoke,builtin,ht',r1]
theorem Ac.clear {x:Operand} {t e sz by_ m c d c'':Nat} {z:Value} {A A'':Option Addr} {rows:List (List Value)} [ht:SlT P t e sz by_ z] (hx:ev s x=some (.slice A'' d c'')) (hu:Upd L (own e sz A m c rows) (own e sz A m c rows) L')
  (hz:z.cells.all (·.oneCell')=true) (hd:m+d≤c) (hA:0<d→A''=A.map (·.add (m * sz))) :
  Ac P n s (St w0 L) (.call { callee:=.builtin .clear,args:=#[x],argTypes:=#[t] }) ty (ι:=Unit) (fun _=>.tuple #[]) (fun _=>St w0 L'):=by
 refine⟨fun a w o ho ht' hf hm=>?_⟩;obtain⟨S1,g1,g2,g3⟩:=hm.upd hu;obtain⟨w',r1,r2,r3⟩:=D2 (P:=P) (ty:=ty) (c'':=c'') (A'':=A'') ht g2 hz hd hA;refine⟨(),w',?_,g3 S1 w' r2 (fun b hb=>.inl hb) r3⟩;simp[execOp,ho,resolve,hf.ev hx,invoke,builtin,ht',r1]
theorem Ev.I5{x y y' y'':Operand}{t e sz by_:Nat}{z:Value}{A:Option Addr}{m c l h h2:Nat}{k k' k'':IntKind}[ht:SlT P t e sz by_ z](hx:ev s x=some (.slice A m c))(hl:ev s y=some (.int k (l:Int)))(hh:ev s y'=some (.int k' (h:Int)))(hh2:ev s y''=some (.int k'' (h2:Int)))(hlh:l≤h)(hha:h≤h2)(hhc:h2≤c) :
  Ev P n s M (.slice t x (some y) (some y') (some y'')) ty (.slice (if h2=l then A else A.map (·.add (l * sz))) (h - l) (h2 - l)):=by
 refine⟨fun a w o ho ht' hf hm=>?_⟩;obtain⟨inf,h1,_,h3,_⟩:=ht.info;simp[execOp,ho,hf.ev hx,hf.ev hl,hf.ev hh,hf.ev hh2,Instr.sliceAt,Instr.slice,Instr.sliceBounds,Instr.sliceBound,asIntOf,run_underlying ht.und,hlh,hha,hhc,sizeOf,typeInfo,h1,h3]
end
end Go.Sl
end
section
namespace Go.Sl
open Go
theorem Ac.toN{P:Program}{n:FD}{s:Sg}{M:World→Prop}{op:Op}{ty:TypeId}{ι:Sort _}{val:ι→Value}{M':ι→World→Prop}(h:Ac P n s M op ty val M'):AcN P n s M op ty M':=⟨fun a w o ho ht hf hm=>by
 obtain⟨x,w',h1,h2⟩:=h.go a w o ho ht hf hm;exact⟨x,w',.inr ⟨_,h1⟩,h2⟩⟩
end Go.Sl
namespace Go.Proofs.YtpbichnnflabdaaGreatDoor
open Go Go.Sl Go.RowKit
set_option maxRecDepth 20000 in
theorem Bc{w0:World}{L0:List HP}(A:Option Addr)(m c i j:Nat)(rows:List (List Value))(w:World)(hij:i<j)(hj:j≤m)(hone:∀r∈rows,b6 r=true)(hw:St w0 (own 39 2 A m c rows :: L0) w) :
  Calls Tryz.prog 125 #[.slice A m c,.int .i64 (i:Int),.int .i64 (j:Int)] w (fun e w'=>∃x:Unit,e=.returned (.slice A (i+(m - j)) c)∧St w0 (own 39 2 A (i+(m - j)) c (rows.take i++rows.drop j) :: L0) w'):=by
 have hmc:m≤c:=yD (hw.Ar (H:=own 39 2 A m c rows) .here);have hne:decide ((i:Int)=(j:Int))=false:=decide_eq_false (by omega);refine TC.calls (l:=[.slice A m c,.int .i64 (i:Int),.int .i64 (j:Int)]) (M:=St w0 (own 39 2 A m c rows :: L0)) Tryz.func125 rfl Tryz.ntmps125 rfl hw ?_
 repeat' (first|((apply T.ev_;exact rfl;apply Ev.I5;exact rfl;exact rfl;exact rfl;exact rfl;omega;omega;omega))|((apply TL.mg;exact rfl;exact rfl;apply Ev.Gh (h:=i);exact rfl;exact rfl;omega))|((apply TL.mg;exact rfl;exact rfl;apply Ev.lg (l:=j) (h:=m);exact rfl;exact .inr ⟨_,_,rfl,rfl⟩;exact .inl ⟨rfl,rfl⟩;omega;omega))|(refine W1 ?_)|(refine W2 (fun hc=>?_) (fun hc=>?_))|(intro _))
 refine TL.ud rfl rfl (Ac.cut (j:=j) (m:=m) (rows:=rows) rfl rfl .here (Nat.le_of_lt hij) hj hone (fun h=>if_neg (by omega))) (fun _=>?_)
 repeat' (first|((apply T.ev_;exact rfl;apply Ev.lg (l:=i+(m - j)) (h:=m);exact rfl;exact .inr ⟨_,_,rfl,rfl⟩;exact .inr ⟨_,_,rfl,rfl⟩;omega;omega))|(refine W1 ?_)|(refine W2 (fun hc=>?_) (fun hc=>?_))|(intro _))
 refine T.MA (Ac.toN (Ac.clear (m:=i+(m - j)) (A:=A) (c:=c) (rows:=rows.take i++rows.drop j) rfl .here (by kernel_rfl) (by omega) (fun h=>if_neg (by omega)))) (fun _=>?_)
 repeat' (first|(refine W1 ?_)|(refine W2 (fun hc=>?_) (fun hc=>?_))|(intro _))
 exact TX.oN rfl rfl (fun w' hw=>⟨(),rfl,hw⟩)
set_option maxRecDepth 20000 in
theorem zB{w0:World}{L0:List HP}(A:Option Addr)(m c i:Nat)(rows:List (List Value))(w:World)(hi:i<m)(hm:m≤1000000000)(hone:∀r∈rows,b6 r=true)(hw:St w0 (own 39 2 A m c rows :: L0) w) :
  Calls Tryz.prog 94 #[.slice A m c,.int .i64 (i:Int)] w (fun e w'=>∃x:Unit,e=.returned (.slice A (i+(m - (i+1))) c)∧St w0 (own 39 2 A (i+(m - (i+1))) c (rows.take i++rows.drop (i+1)) :: L0) w'):=by
 refine TC.calls (l:=[.slice A m c,.int .i64 (i:Int)]) (M:=St w0 (own 39 2 A m c rows :: L0)) Tryz.func94 rfl Tryz.ntmps94 rfl hw ?_
 repeat' (first|(refine W1 ?_)|(refine W2 (fun hc=>?_) (fun hc=>?_))|(intro _))
 refine T.F7 (f:=125) (vs:=[.slice A m c,.int .i64 (i:Int),.int .i64 ((i+1:Nat):Int)]) (val:=fun _:Unit=>.slice A (i+(m - (i+1))) c) (LL:=fun _:Unit=>own 39 2 A (i+(m - (i+1))) c (rows.take i++rows.drop (i+1)) :: L0) rfl rfl (fun w' hw'=>Bc A m c i (i+1) rows w' (Nat.lt_succ_self i) hi hone hw') (fun _=>?_)
 repeat' (first|(refine W1 ?_)|(refine W2 (fun hc=>?_) (fun hc=>?_))|(intro _))
 exact TX.oN rfl rfl (fun w' hw=>⟨(),rfl,hw⟩)
end Go.Proofs.YtpbichnnflabdaaGreatDoor
namespace Go.Km
open Go Go.RowKit Go.Vc Go.Proofs Go.Proofs.YtpbichnnflabdaaGreatDoor
open Go.Sl hiding lk
theorem rY{Z:Nat→Prop}{w:World}{rows:List (List F)}{vr:List (List Value)}(h:F.aG Z w rows vr)(i j:Nat):F.aG Z w (rows.take i++rows.drop j) (vr.take i++vr.drop j):=F.eK (F.cv i h) (F.cZ j h)
theorem z5{η:Env}{b v i:Nat}{rows:List (List F)}(h1:η b=some (.ro v 39 2 rows))(hi:i<rows.length)(hm:rows.length≤1000000000)(Γ:Nat→Option (List F)) :
  cQ Tryz.prog Γ η 94 [.own b v,.fr (.vl (.int .i64 (i:Int)))] (.own b (nv η b)) [b] [(b,.ro (nv η b) 39 2 (rows.take i++rows.drop (i+1)))]:=by
 refine⟨fun η' hη W c O w vs hΓ hp ho hvs=>⟨inferInstance,?_⟩⟩;have hb:η' b=some (.ro v 39 2 rows):=(hη b (by simp)).trans h1;have hnv:nv η b=nv η' b:=by unfold nv;rw[h1,hb]
 obtain⟨A,k,vr,j1,j2,j3,j4⟩:=hp.pc b _ hb;have hrl:=F.gO j2;unfold D.ah at hvs;obtain⟨y,ys,rfl,n1,n2⟩:=hvs;unfold D.ah at n2;obtain⟨y2,ys2,rfl,n3,n4⟩:=n2;unfold D.ah at n4;subst n4;unfold D.rep at n1;obtain⟨A',m',k',n7,rfl⟩:=n1;rw[j1] at n7
 cases n7;have hx:=aK n3;subst hx;have hgA:∃g,A=some ⟨g,0,none⟩:=by
  rcases j4.1.2 with ⟨hv,h0⟩|⟨g,cap,cur,hv,_⟩
  ·omega
  ·injection hv with a1
   exact⟨g,a1⟩
 obtain⟨g,rfl⟩:=hgA;have hg:O b g:=j4.2.2.2 g rfl;have hlt:g<w.heap.size:=hp.lt b g hg;have j5:(own 39 2 (some ⟨g,0,none⟩) rows.length k vr).on (fun x=>x=g) w:=⟨j4.1,j4.2.1,j4.2.2.1,fun x hx=>by simpa [Value.ownBlock] using hx.symm⟩
 have hst:St (oU w) [own 39 2 (some ⟨g,0,none⟩) rows.length k vr,hFr w fun x=>x<w.heap.size∧x≠g] w:=
  ⟨⟨rfl,rfl,rfl,by simp[oU],fun x hx=>absurd hx (Nat.not_lt_zero _)⟩,fun x=>x=g,fun x hx=>⟨Nat.zero_le _,by subst hx;exact hlt⟩,j5,fun x=>x<w.heap.size∧x≠g,fun x hx=>⟨⟨Nat.zero_le _,hx.1⟩,hx.2⟩,fun x hx=>⟨hx,rfl⟩,trivial⟩
 refine(zB (some ⟨g,0,none⟩) rows.length k i vr w hi hm j3 hst).mono fun e w' ⟨_,he,hst'⟩=>⟨_,he,?_⟩;obtain⟨hbl,S1,hS1,hb1,S2,hS2,hfr,_⟩:=hst';have hgS:S1 g:=hb1.2.2.2 g rfl;have hsz:w.heap.size≤w'.heap.size:=by
  by_cases hm:w.heap.size - 1=g
  ·have:=(hS1 g hgS).2;omega
  ·have:=(hS2 _ (hfr (w.heap.size - 1) ⟨by omega,hm⟩).1).1.2;omega
 have hch:Chg w w' (O b):=⟨hbl.os,hbl.tape,hbl.output,hsz,fun x hx hn=>(hfr x ⟨hx,fun e=>hn (by rw[e];exact hg)⟩).2⟩
 have hrow:(rows.take i++rows.drop (i+1)).length=i+(rows.length - (i+1)):=by simp only[List.length_append,List.length_take,List.length_drop];omega
 obtain⟨c',hc'⟩:∃c',c'=c.add b (nv η' b) (some ⟨g,0,none⟩,i+(rows.length - (i+1)),k):=⟨_,rfl⟩
 have hle:c.le c':=by rw[hc'];exact Cf.dY (hp.fresh b)
 have hι:c'.ι b (nv η' b)=some (some ⟨g,0,none⟩,i+(rows.length - (i+1)),k):=by rw[hc'];exact Cf.cF
 refine⟨_,_,_,c',_,⟨rfl,rfl,rfl⟩,hle,by unfold D.rep;rw[hnv];exact⟨_,_,_,hι,rfl⟩,hp.upd (S':=O b) hch (fun x hx=>.inl hx) hle (by rw[hc'];rfl) (by rw[hc'];rfl) ?_ ?_,ho.upd hch (fun x hx=>.inl hx) (by rw[hc'];rfl) (by rw[hc'];rfl)⟩
 ·rw[hc',hnv];exact hp.b7 rfl
 ·rw[hnv];refine⟨some ⟨g,0,none⟩,k,vr.take i++vr.drop (i+1),by rw[hι,hrow],?_,fun r hr=>?_,?_⟩
  ·rw[hc'];exact rY j2 i (i+1)
  ·rcases List.mem_append.1 hr with hr|hr
   ·exact j3 r (List.mem_of_mem_take hr)
   ·exact j3 r (List.mem_of_mem_drop hr)
  ·rw[hrow];exact⟨hb1.1,hb1.2.1,hb1.2.2.1,j4.2.2.2⟩
end Go.Km
end
section
namespace Go.Km
open Go Go.RowKit Go.Vc
open Go.Sl hiding lk
structure GY where
 d:D
 h:List (Nat×B)
instance:ia GY:=⟨fun r d h=>okR d=true∧∃m,bA m=true∧bb m d=some r.d∧ct m [] h m 0=some r.h⟩
structure Kx(d:D)(h:List (Nat×B))(r:GY):Prop where
 h:d=r.d∧h=r.h
instance:ml GY where
 fin r d h:=eI (okR d) (me h fun h=>iv (reach [] h 10000 (qH [d]++ghD h++iz h) []) fun m=>eI (bA m) (match bb m d,ct m [] h m 0 with
   | some d',some h'=>D.fo d' fun d'=>me h' fun h'=>Kx d' h' r
   | _,_=>False))
 ok r d h hf:=by
  cases hk:okR d with
  | false=>rw[hk] at hf;exact hf.elim
  | true=>
   rw[hk] at hf
   change (me h fun h=>iv (reach [] h 10000 (qH [d]++ghD h++iz h) []) fun m=>eI (bA m) (match bb m d,ct m [] h m 0 with
    | some d',some h'=>D.fo d' fun d'=>me h' fun h'=>Kx d' h' r
    | _,_=>False)) at hf
   rw[gX,eV] at hf
   cases ho:bA (reach [] h 10000 (qH [d]++ghD h++iz h) []) with
   | false=>rw[ho] at hf;exact hf.elim
   | true=>
    rw[ho] at hf
    change (match bb _ d,ct _ [] h _ 0 with|some d',some h'=>D.fo d' fun d'=>me h' fun h'=>Kx d' h' r|_,_=>False) at hf
    split at hf
    ·rename_i d' h' h1 h2;rw[D.iE,gX] at hf;exact⟨hk,_,ho,by rw[h1,hf.h.1],by rw[h2,hf.h.2]⟩
    ·exact hf.elim
theorem zN {P:Program} {X:Tx} (hX:ig P X) {f:FuncId} {fi:Fi} (hf:X.fi f=some fi) {η:Env} {l l0 x x0:List D} {m0 μ:Rn} {hb h0:List (Nat×B)} {d d':D} {ds':List D} {rd:List Nat} {e h'':List (Nat×B)}
  (ho:bA m0=true) (hbk:∀b x,lk hb b=some x→η b=some x∧b∈rd) (hs:u9 η (l++x) (m0.map (·.1)) μ ds' rd e) (hm0:ct m0 [] hb m0 0=some h0) (hl:aO m0 l=some l0) (hxr:aO m0 x=some x0) (hxv:∀η' c O w,(∀b∈rd,η' b=η b)→Hp c O η' w→∃us,D.ah c x us) (hN:Nat.ble l0.length fi.N=true) (hd:bb μ d=some d') (he:ct μ [] e μ 0=some h'')
  (hrun:∀vs,Sn P X f (⟨d',h''++[(μ.length,.gh 0 vs ds')]⟩:GY) ⟨⟨f,fi.N,jT 0 l0,[.code fi.body],[],none⟩,[],(m0.length,.gh 0 vs (l0++x0)) :: h0,m0.length+1⟩):cQ P X.Γ η f l d rd e:=by
 obtain⟨hcf,fn,hfn,hbd,hNn,hrs⟩:=hX.fi _ _ hf;refine⟨fun η' hη' W c O w vs hΓ hp hold hvs=>⟨hcf,fun cs=>?_⟩⟩;have hblk:∀b x,lk hb b=some x→η' b=some x:=fun b x hx=>(hη' b (hbk b x hx).2).trans (hbk b x hx).1
 have hp1:=Hp.ren hp ho hblk hm0;have hvs1:D.ah (rC m0 c) l0 vs:=bJ hl hvs;obtain⟨us,hus⟩:=hxv η' c O w hη' hp;have hvx:=D.bm hvs hus;have hvx1:D.ah (rC m0 c) (l0++x0) (vs++us):=D.bm hvs1 (bJ hxr hus);have hkeys:∀{h h':List (Nat×B)} {m:Rn},ct m [] h m 0=some h'→∀i x,lk h' i=some x→i<m.length:=by
  intro h h' m hm i x hx;obtain⟨_,b,y,k1,_⟩:=gE hm hx;rw[Nat.sub_zero] at k1;exact(List.getElem?_eq_some_iff.1 k1).1
 have hp2:Hp (rC m0 c) (rO m0 O) (lk ((m0.length,.gh 0 (vs++us) (l0++x0)) :: h0)) w:=by
  rw[bO];refine⟨fun i x hx=>?_,fun i v y hy=>?_,hp1.apart,hp1.fz,hp1.lt⟩
  ·by_cases e:m0.length=i
   ·subst e;rw[a9] at hx
    cases hx;exact hvx1
   ·rw[aF e] at hx;exact hp1.pc i x hx
  ·obtain⟨x,hx,hv⟩:=hp1.bound i v y hy;have:m0.length≠i:=by
    have:=hkeys hm0 i x hx;omega
   exact⟨x,by rw[aF this];exact hx,hv⟩
 have hlen:=D.aT hvs1;have hs0:=jm (N:=fi.N) hvs1 hN;have hrun:=hrun (vs++us);unfold Sn at hrun;obtain⟨v,w',fr,d0,h0',c0,O0,q1,q2,q3,⟨qk,m,qo,qd,qh⟩,q7,q8,q9⟩:=eu.fn (fun q h ⟨e,_⟩=>by simp[okR] at e) <| hrun ⟨w,fun g=>∃i,rO m0 O i g,rC m0 c⟩ cs hΓ (rC m0 c) (rO m0 O) ((bF f none).atR ⟨vs.toArray++Array.replicate (fi.N - vs.toArray.size) undef,[]⟩ [.code fi.body]) [] w
  ⟨⟨_,_,none,rfl,hs0,⟨_,_,rfl,rfl,rfl⟩,rfl,rfl⟩,rfl,hp2,⟨rfl,rfl,rfl,Nat.le_refl _,fun _ _ _=>rfl,fun i g h=>.inl ⟨i,h⟩,fun g hg=>.inl hg,Ext.refl _ _⟩,rfl⟩
 have p3:=Hp.ren q8 qo (fun _ _ h=>h) qh;have hv3:=nJ qd q7;have hW:∀g,(∃i,rO m0 O i g)→∃b∈m0.map (·.1),O b g:=fun g ⟨i,b,v,e1,e2⟩=>⟨b,List.mem_map.2 ⟨(b,v),List.mem_of_getElem? e1,rfl⟩,e2⟩
 refine⟨.returned v,w',fr,⟨v,rfl,pC hs hd he hη' hp hold hvx p3 ?_ hv3⟩,?_,q2,q3⟩
 ·exact⟨q9.os,q9.tape,q9.output,q9.size,fun g hg hn=>q9.cb g hg (fun h=>hn (hW g h)),fun i g ⟨b,v,_,h⟩=>(q9.own b g h).imp (hW g) id,fun g hg=>(q9.ma g hg).imp id (fun h=>h.imp (hW g) id),q9.le⟩
 ·rw[nN hfn hbd,hNn];exact q1
theorem HY {P:Program} {X:Tx} (hX:ig P X) {f:FuncId} {fi:Fi} (hf:X.fi f=some fi) {e sz:Nat} {rows':List (List F)} {l:List F} (hN:Nat.ble l.length fi.N=true)
  (hrun:∀vs,Sn P X f (⟨.own 0 0,[(0,.ro 0 e sz rows'),(1,.gh 0 vs (l.map F.toD))]⟩:GY) ⟨⟨f,fi.N,jT 0 (l.map F.toD),[.code fi.body],[],none⟩,[],[(0,.gh 0 vs (l.map F.toD))],1⟩)
  {η:Env} {b2:Nat} (h2:η b2=none) :
  cQ P X.Γ η f (l.map F.toD) (.own b2 (nv η b2)) [b2] [(b2,.ro (nv η b2) e sz rows')]:=by
 have hlk:∀{x:B} {i:Nat} {z:B},lk [(b2,x)] i=some z→i=b2∧z=x:=by
  intro x i z h;simp only[lk] at h
  cases e1:Nat.beq b2 i with
  | true=>rw[e1] at h;cases h;exact⟨(Nat.eq_of_beq_eq_true e1).symm,rfl⟩
  | false=>rw[e1] at h;cases h
 have l2:∀{x:B},lk [(b2,x)] b2=some x:=by intro x;simp[lk]
 refine zN hX hf (x:=[]) (x0:=[]) (l:=l.map F.toD) (l0:=l.map F.toD) (m0:=[]) (μ:=[(b2,nv η b2)]) (hb:=[]) (h0:=[]) (d':=.own 0 0) (ds':=l.map F.toD) (h'':=[(0,.ro 0 e sz rows')]) rfl ?_ ⟨rfl,?_,?_,?_,?_,?_⟩ ?_ (dH _ _) rfl (fun _ _ _ _ _ _=>⟨[],by simp[D.ah]⟩) ?_ ?_ ?_ (fun vs=>by rw[List.append_nil];exact hrun vs)
 ·intro b x h;cases h
 ·intro b hb;cases hb
 ·intro b x h;rw[(hlk h).1];exact List.mem_cons_self ..
 ·intro b x h;obtain⟨rfl,rfl⟩:=hlk h;exact⟨by simp,.inl ⟨0,rfl⟩⟩
 ·intro b x y h hy;obtain⟨rfl,rfl⟩:=hlk h;rw[h2] at hy
  cases hy
 ·intro i b v h
  match i,h with
  | 0,h=>cases h;exact .inl rfl
 ·rfl
 ·rw[List.length_map];exact hN
 ·simp only[bb,b4,Nat.beq_refl,cond_true]
 ·simp only[ct,l2,B.ver,Nat.beq_refl,cond_true,dV]
end Go.Km
end
section
namespace Go.Km
open Go Go.Vc Go.Proofs Go.aa Go.Proofs.YtpbichnnflabdaaGreatDoor
set_option maxRecDepth 100000
set_option maxHeartbeats 0
theorem EG{η:Env}{b:Nat}(hη:η b=none){t:Tre}(ht:t.wf)(hri:au t=true)(h0k:0<(aQ t).length):cQ Tryz.prog X1.Γ η 80 ([aD t].map F.toD) (.own b (nv η b)) [b] [(b,.ro (nv η b) 39 2 ((aQ t).map dg))]:=by
 refine HY dI rfl rfl (fun vs_=>?_) hη;have hlen:=ht.len;simp only[bT] at hlen;have hwx:=uo ht;obtain⟨n,Fk,hF,hb,hf⟩:=fy (aq hri);have hsz:=ft (aq hri);have hk0:aQ t=Fk.trees:=by rw[aQ,if_pos hri,hF];rfl
 have hC:aJ t=cc (.cons n Fk .nil):=by rw[kF hri,hF]
 have hsz':Fk.size+1=t.nodes.length:=by rw[←hsz,hF];simp[Fo.size]
 have hl:(aJ t).nodes.length=Fk.size+1:=by rw[hC];show((Fo.cons n Fk .nil).ar 0).length=_;rw[Fo.bD];rfl
 have hroot:(aJ t).root=(Fk.size:Int):=by rw[hC];show(((Fk.size+1+0:Nat):Int) - 1)=_;omega
 have hnod:(aJ t).nodes=Fk.ar 0++[{ n with kids:=Fk.ba 0 }]:=by rw[hC];show(Fo.cons n Fk .nil).ar 0=_;simp[Fo.ar]
 have hg:∀h:(aJ t).root.toNat<(aJ t).nodes.length,(aJ t).nodes[(aJ t).root.toNat]'h={ n with kids:=Fk.ba 0 }:=by
  intro h;simp only[hroot,Int.toNat_natCast,hnod];rw[List.getElem_append_right (by rw[Fo.bD];omega)];simp
 have htl:(Fk.ba 0).length=Fk.len:=Fo.eG Fk 0;have hls:=Fo.rN Fk;have hround:∀(A:Fo) (m:Nod) (j r:Fo),A.app (.cons m j r)=Fk→A.len<Fk.len∧A.size+j.size+1≤Fk.size∧(∀h:A.len<(Fk.ba 0).length,(Fk.ba 0)[A.len]'h=((A.size+j.size:Nat):Int))∧
   ((aJ t).nodes.take (A.size+j.size+1)).drop A.size=(Fo.cons m j .nil).ar A.size∧bj ((Fo.cons m j .nil).ar A.size) (-(A.size:Int))=(cc (.cons m j .nil)).nodes∧(cc (.cons m j .nil)).root=(j.size:Int)∧(A.app (.cons m j .nil)).app r=Fk∧(A.app (.cons m j .nil)).trees=A.trees++[cc (.cons m j .nil)]:=by
  intro A m j r hAB;have e0:Fk.size=A.size+(j.size+1+r.size):=by rw[←hAB,Fo.dO];rfl
  have e1:Fk.len=A.len+(r.len+1):=by rw[←hAB,Fo.lB];rfl
  refine⟨by omega,by omega,?_,?_,?_,?_,?_,?_⟩
  ·intro h;have hkk:(Fk.ba 0)[A.len]?=some ((A.size+j.size:Nat):Int):=by
    rw[←hAB,Fo.n8,List.getElem?_append_right (by rw[Fo.eG];omega),Fo.eG,Nat.sub_self,Nat.zero_add];rfl
   rw[List.getElem?_eq_getElem h] at hkk;exact Option.some.inj hkk
  ·have e2:(aJ t).nodes=A.ar 0++((Fo.cons m j .nil).ar A.size++(r.ar (A.size+j.size+1)++[{ n with kids:=Fk.ba 0 }])):=by
    rw[hnod,←hAB,Fo.vD,Nat.zero_add];simp[Fo.ar]
   rw[e2,List.drop_take,List.drop_append_of_le_length (by rw[Fo.bD];omega),List.drop_of_length_le (by rw[Fo.bD];omega),List.nil_append,List.take_append_of_le_length (by rw[Fo.bD];simp[Fo.size];omega),List.take_of_length_le (by rw[Fo.bD];simp[Fo.size];omega)]
  ·show bj ((Fo.cons m j .nil).ar A.size) (-(A.size:Int))=(Fo.cons m j .nil).ar 0
   rw[show A.size=0+A.size by omega,←Fo.kU,Nat.zero_add];simp only[bj,List.map_map];conv=>rhs;rw[←List.map_id ((Fo.cons m j .nil).ar 0)]
   refine List.map_congr_left fun x _=>?_
   cases x;simp[Function.comp_def,Int.add_neg_cancel_right]
  ·show(((j.size+1+0:Nat):Int) - 1)=_
   omega
  ·rw[Fo.pB];exact hAB
  ·rw[Fo.oW];rfl
 have hrow:∀(A:Fo) (m:Nod) (j r:Fo),A.app (.cons m j r)=Fk→dg (cc (.cons m j .nil))=[F.sl ((bj (List.drop A.size (List.take (A.size+j.size+1) (aJ t).nodes)) (0 - (A.size:Int))).map aX),inF (((A.size+j.size:Nat):Int) - A.size)]:=by
  intro A m j r hAB;obtain⟨f1,f2,f3,f4,f5,f6,f7,f8⟩:=hround A m j r hAB;rw[f4,Int.zero_sub,f5,show(((A.size+j.size:Nat):Int) - A.size)=j.size by omega,←f6]
 have hpre:∀(A:Fo) (m:Nod) (j r:Fo),A.app (.cons m j r)=Fk→(List.drop A.size (List.take (A.size+j.size+1) (aJ t).nodes)).length≤1466015503701∧(∀n∈List.drop A.size (List.take (A.size+j.size+1) (aJ t).nodes),n.wf)∧(∀n∈List.drop A.size (List.take (A.size+j.size+1) (aJ t).nodes),∀k∈n.kids,-9223372036854775808≤k+(0 - (A.size:Int))∧k+(0 - (A.size:Int))≤9223372036854775807):=by
  intro A m j r hAB;obtain⟨f1,f2,f3,f4,f5,f6,f7,f8⟩:=hround A m j r hAB;have hsub:∀x∈List.drop A.size (List.take (A.size+j.size+1) (aJ t).nodes),x∈(aJ t).nodes:=fun x hx=>List.mem_of_mem_take (List.mem_of_mem_drop hx)
  have hR:=(qi t).trans hri;refine⟨by simp only[List.length_drop,List.length_take];omega,fun x hx=>hwx.nodes x (hsub x hx),fun x hx k hk=>?_⟩;obtain⟨i,hi,rfl⟩:=List.getElem_of_mem (hsub x hx);have:=(aq hR).kok i _ (List.getElem?_eq_getElem hi) k hk;omega
 rw[hk0] at h0k ⊢
 repeat' first|exact k9|refine k2 ?_|apply kA|apply kI;intro hc|apply kL;intro hl|((simp only[hg])<;>conv=>whnf)|refine k8 ?_|fail
 cases hFk:Fk with
 | nil=>
  rw[hFk] at h0k
  cases h0k
 | cons m j r=>
  obtain⟨f1,f2,f3,f4,f5,f6,f7,f8⟩:=hround .nil m j r hFk.symm;have g3:∀h:0<(Fk.ba 0).length,(Fk.ba 0)[0]'h=(j.size:Int):=fun h=>(f3 h).trans (by simp[Fo.size])
  have e3:((j.size:Int)+1).toNat=j.size+1:=by omega
  rw[←hFk];apply Stp.on
  repeat' first|exact k9|refine k2 ?_|apply kA|apply kI;intro hc|apply kL;intro hl|((simp only[g3])<;>conv=>whnf)|((simp only[e3])<;>conv=>whnf)|((simp only[←List.map_take,←List.map_drop])<;>conv=>whnf)|refine k8 ?_|fail
  ·have:=hpre .nil m j r hFk.symm;simp only[Fo.size,Nat.zero_add] at this;exact⟨this⟩
  have h0:=hrow .nil m j r hFk.symm;simp only[Fo.size,Nat.zero_add] at h0;apply kCt [1,3,4,19,20,21] [];conv=>whnf
  refine Lp.ind (fun x:Fo×Fo=>x.2.len) (fun x=>x.1.app x.2=Fk) (fun x=>[(21,InD x.1.len),(4,InD x.1.size)]) (fun x=>[(1,.ro 0 39 2 (x.1.trees.map dg))]) (fun _=>_) (.cons m j .nil,r) hFk.symm rfl rfl ?_ ?_
  ·rw[show(Fo.cons m j .nil).trees.map dg=[dg (cc (.cons m j .nil))] from rfl,h0];rfl
  rintro G ⟨A,B⟩ ih hAB
  dsimp only at hAB ih ⊢
  cases B with
  | nil=>
   have hA:A=Fk:=by rw[←hAB,Fo.wW]
   subst hA
   repeat' first|exact k9|refine k2 ?_|apply kA|apply kI;intro hc|refine k8 ?_|apply kL;intro hl
   exact⟨rfl,rfl⟩
  | cons m' j' r'=>
   obtain⟨f1,f2,f3,f4,f5,f6,f7,f8⟩:=hround A m' j' r' hAB;have e4:(((A.size+j'.size:Nat):Int)+1).toNat=A.size+j'.size+1:=by omega
   have hAl:A.trees.length=A.len:=Fo.iH A
   repeat' first|exact k9|refine k2 ?_|apply kA|apply kI;intro hc|apply kL;intro hl|((simp only[f3])<;>conv=>whnf)|((simp only[e4])<;>conv=>whnf)|((simp only[←List.map_take,←List.map_drop])<;>conv=>whnf)|refine k8 ?_|fail
   ·exact⟨hpre A m' j' r' hAB⟩
   apply kCt [1,3,4,19,20,21] [];conv=>whnf
   refine ih (A.app (.cons m' j' .nil),r') _ _ _ (by simp only[Fo.len];omega) f7 rfl ?_ ?_
   ·dsimp only;rw[Fo.lB,Fo.dO];rfl
   ·dsimp only;rw[f8,List.map_append,show List.map dg [cc (.cons m' j' .nil)]=[dg (cc (.cons m' j' .nil))] from rfl,hrow A m' j' r' hAB];rfl
end Go.Km
end
section
namespace Go.aa
open Go Go.Km
theorem H4{l m:List Tre}(h:m.Sublist l):tot m≤tot l:=by
 induction h with
 | slnil=>exact Nat.le_refl _
 | cons a _ ih=>simp only[tot,List.map_cons,List.sum_cons] at ih ⊢;omega
 | cons_cons a _ ih=>simp only[tot,List.map_cons,List.sum_cons] at ih ⊢;omega
theorem Ea(k:Nat)(l:List Tre)(at_:Int):(j7 k l at_).Sublist l:=by
 unfold j7
 split
 ·exact List.eraseIdx_sublist _ _
 ·exact List.take_sublist _ _
theorem nO{k:Nat}{x:Tre}{at_:Int}(hx:x.wf)(hl:x.nodes.length≤20000):((j7 k (aQ x) at_).length≤1466015503701∧(∀t∈j7 k (aQ x) at_,t.wf)∧tot (j7 k (aQ x) at_)+1≤1466015503701)∧(iW k x at_).1.wf∧(iW k x at_).1.nodes.length≤100000:=by
 have hs:=Ea k (aQ x) at_;obtain⟨h1,h2⟩:=iK x;have h3:=H4 hs;have h4:=hs.length_le;have hw:∀t∈j7 k (aQ x) at_,t.wf:=fun t ht=>GI hx t (hs.subset ht)
 refine⟨⟨by omega,hw,by omega⟩,IQ ?_ hw (by unfold bT;omega),Nat.le_trans (EL _ _) (by omega)⟩;unfold JE
 split
 ·exact kQ
 ·exact iD
end Go.aa
namespace Go.Km
open Go Go.Vc Go.Proofs Go.aa Go.Proofs.YtpbichnnflabdaaGreatDoor
set_option maxRecDepth 100000
set_option maxHeartbeats 0
abbrev jr(g:List Dfn)(r:Int)(p:List Int)(at_:Int):Prop:=(g.length≤1000∧(∀d∈g,d.wf∧0<d.body.nodes.length∧d.body.nodes.length≤20000)∧p.length≤1000000)∧(aB g r p).2=true∧0≤at_∧at_<(aQ (aB g r p).1).length
theorem IV{k:Nat}{g:List Dfn}{r:Int}{p:List Int}{at_:Int}(h:(iW k (aB g r p).1 at_).2=false∨(cu g r p (iW k (aB g r p).1 at_).1).2=false∨bC (cu g r p (iW k (aB g r p).1 at_).1).1≠0):cW k g r p at_=([],false):=by rw[cW,if_pos (.inr h)]
theorem vL{k:Nat}{g:List Dfn}{r:Int}{p:List Int}{at_:Int}(hf:(aB g r p).2=true){x:Tre×Bool}(hx:iW k (aB g r p).1 at_=x):cW k g r p at_=if x.2=false∨(cu g r p x.1).2=false∨bC (cu g r p x.1).1≠0 then ([],false) else ((cu g r p x.1).1,true):=by
 subst hx
 by_cases h:(iW k (aB g r p).1 at_).2=false∨(cu g r p (iW k (aB g r p).1 at_).1).2=false∨bC (cu g r p (iW k (aB g r p).1 at_).1).1≠0
 ·rw[if_pos h,IV h]
 ·rw[if_neg h,cW,if_neg (by rw[hf];rintro(q|q);cases q;exact h q)]
instance(g:List Dfn)(r:Int)(p:List Int)(at_:Int):C 50 [cg g,.ag [byF 5,.cl 91 [],.cl 92 []],.ag [inF r,isF p],inF at_] (.tp [cg (cW 1 g r p at_).1,boF (cW 1 g r p at_).2]) false (jr g r p at_):=⟨fun ⟨⟨hn,hg,hp⟩,hf,h0,h1⟩=>by
 have hw:∀d∈g,d.wf:=fun d hd=>(hg d hd).1
 have hsm:∀d∈g,d.wf∧d.body.nodes.length≤20000:=fun d hd=>⟨(hg d hd).1,(hg d hd).2.2⟩
 obtain⟨hxw,hxl⟩:=iQ (r:=r) (p:=p) hsm;have hpf:g.length≤1000∧(∀d∈g,d.wf)∧p.length≤1000000:=⟨hn,hw,hp⟩
 have hr:=vL (k:=1) (at_:=at_) hf rfl;have hnp:=nO (k:=1) (at_:=at_) hxw hxl;obtain⟨L,hL⟩:=exEq ((aQ (aB g r p).1).take (at_+1).toNat);have hnd:iW 1 (aB g r p).1 at_=fY du L:=by rw[hL];rfl
 rw[show j7 1 (aQ (aB g r p).1) at_=L from hL.symm,hnd] at hnp;rw[hnd] at hr;obtain⟨h2,h3,h4⟩:=hnp;have hkl:(aQ (aB g r p).1).length≤1000000:=by have:=(iK (aB g r p).1).2;omega
 have hpa:0≤at_∧at_<(aQ (aB g r p).1).length∧(aQ (aB g r p).1).length≤1000000:=⟨h0,h1,hkl⟩
 have hgp:∀d∈g,d.wf∧0<d.body.nodes.length∧d.body.nodes.length≤100000:=fun d hd=>⟨(hg d hd).1,(hg d hd).2.1,by have:=(hg d hd).2.2;omega⟩
 have hpw:g.length≤1000∧(∀d∈g,d.wf∧0<d.body.nodes.length∧d.body.nodes.length≤100000)∧p.length≤1000000∧(fY du L).1.wf∧(fY du L).1.nodes.length≤100000:=⟨hn,hgp,hp,h3,h4⟩
 have hpc:=lL (r:=r) hn hgp hp h3 h4;refine kf rfl rfl ?_;repeat' first|exact k9|refine k2 ?_|apply kA|apply kI;intro hc|apply kL;intro hl|(apply Sn.go hX;conv=>whnf)|((simp only[←hL])<;>conv=>whnf)|refine k8 ?_|fail
 ·refine ao.i ?_;rw[hr,if_neg (by rintro(q|q|q);exact bfF (by assumption) q;exact bfF (by assumption) q;exact q (by assumption))]
 ·refine ao.i ?_;rw[hr,if_pos (.inr (.inr (by assumption)))];rfl
 ·refine ao.i ?_;rw[hr,if_pos (.inr (.inl (by assumption)))];rfl
 ·refine ao.i ?_;rw[hr,if_pos (.inl (by assumption))];rfl⟩
instance(g:List Dfn)(r:Int)(p:List Int)(at_:Int):C 50 [cg g,.ag [byF 4,.cl 95 [],.cl 92 []],.ag [inF r,isF p],inF at_] (.tp [cg (cW 3 g r p at_).1,boF (cW 3 g r p at_).2]) false (jr g r p at_):=⟨fun ⟨⟨hn,hg,hp⟩,hf,h0,h1⟩=>by
 have hw:∀d∈g,d.wf:=fun d hd=>(hg d hd).1
 have hsm:∀d∈g,d.wf∧d.body.nodes.length≤20000:=fun d hd=>⟨(hg d hd).1,(hg d hd).2.2⟩
 obtain⟨hxw,hxl⟩:=iQ (r:=r) (p:=p) hsm;have hpf:g.length≤1000∧(∀d∈g,d.wf)∧p.length≤1000000:=⟨hn,hw,hp⟩
 have hr:=vL (k:=3) (at_:=at_) hf rfl;have hnp:=nO (k:=3) (at_:=at_) hxw hxl;obtain⟨L,hL⟩:=exEq ((aQ (aB g r p).1).take (at_+1).toNat);have hnd:iW 3 (aB g r p).1 at_=fY ep L:=by rw[hL];rfl
 rw[show j7 3 (aQ (aB g r p).1) at_=L from hL.symm,hnd] at hnp;rw[hnd] at hr;obtain⟨h2,h3,h4⟩:=hnp;have hkl:(aQ (aB g r p).1).length≤1000000:=by have:=(iK (aB g r p).1).2;omega
 have hpa:0≤at_∧at_<(aQ (aB g r p).1).length∧(aQ (aB g r p).1).length≤1000000:=⟨h0,h1,hkl⟩
 have hgp:∀d∈g,d.wf∧0<d.body.nodes.length∧d.body.nodes.length≤100000:=fun d hd=>⟨(hg d hd).1,(hg d hd).2.1,by have:=(hg d hd).2.2;omega⟩
 have hpw:g.length≤1000∧(∀d∈g,d.wf∧0<d.body.nodes.length∧d.body.nodes.length≤100000)∧p.length≤1000000∧(fY ep L).1.wf∧(fY ep L).1.nodes.length≤100000:=⟨hn,hgp,hp,h3,h4⟩
 have hpc:=lL (r:=r) hn hgp hp h3 h4;refine kf rfl rfl ?_;repeat' first|exact k9|refine k2 ?_|apply kA|apply kI;intro hc|apply kL;intro hl|(apply Sn.go hX;conv=>whnf)|((simp only[←hL])<;>conv=>whnf)|refine k8 ?_|fail
 ·refine ao.i ?_;rw[hr,if_neg (by rintro(q|q|q);exact bfF (by assumption) q;exact bfF (by assumption) q;exact q (by assumption))]
 ·refine ao.i ?_;rw[hr,if_pos (.inr (.inr (by assumption)))];rfl
 ·refine ao.i ?_;rw[hr,if_pos (.inr (.inl (by assumption)))];rfl
 ·refine ao.i ?_;rw[hr,if_pos (.inl (by assumption))];rfl⟩
theorem Kb{t:Nat}{η:Env}{x:Tre}{k:Kr Prop}(hη:η t=none)(ht:x.wf)(hri:au x=true)(h0k:0<(aQ x).length)(hk:k (.own t (nv η t)) [t] [(t,.ro (nv η t) 39 2 ((aQ x).map dg))]):cX Tryz.prog X1.Γ t η 80 ([aD x].map F.toD) k:=cX.i (EG hη ht hri h0k) hk
instance(g:List Dfn)(r:Int)(p:List Int)(at_:Int):C 50 [cg g,.ag [byF 5,.cl 93 [],.cl 94 []],.ag [inF r,isF p],inF at_] (.tp [cg (cW 2 g r p at_).1,boF (cW 2 g r p at_).2]) false (jr g r p at_):=⟨fun ⟨⟨hn,hg,hp⟩,hf,h0,h1⟩=>by
 have hX:=qs [] [80,94];have hw:∀d∈g,d.wf:=fun d hd=>(hg d hd).1
 have hsm:∀d∈g,d.wf∧d.body.nodes.length≤20000:=fun d hd=>⟨(hg d hd).1,(hg d hd).2.2⟩
 obtain⟨hxw,hxl⟩:=iQ (r:=r) (p:=p) hsm;have hpf:g.length≤1000∧(∀d∈g,d.wf)∧p.length≤1000000:=⟨hn,hw,hp⟩
 have hr:=vL (k:=2) (at_:=at_) hf rfl;have hnp:=nO (k:=2) (at_:=at_) hxw hxl;have hkl:(aQ (aB g r p).1).length≤1000000:=by have:=(iK (aB g r p).1).2;omega
 obtain⟨q,rfl⟩:∃q:Nat,at_=q:=⟨at_.toNat,by omega⟩
 have hq:q<(aQ (aB g r p).1).length:=by omega
 obtain⟨L,hL⟩:=exEq ((aQ (aB g r p).1).take q++(aQ (aB g r p).1).drop (q+1));have hLd:j7 2 (aQ (aB g r p).1) (q:Int)=L:=by rw[hL,j7,if_pos rfl,Int.toNat_natCast,List.eraseIdx_eq_take_drop_succ]
 have hnd:iW 2 (aB g r p).1 (q:Int)=fY du L:=by rw[←hLd];rfl
 rw[hLd,hnd] at hnp;rw[hnd] at hr;obtain⟨h2,h3,h4⟩:=hnp;have hri:au (aB g r p).1=true:=by
  cases hri:au (aB g r p).1 with
  | true=>rfl
  | false=>rw[show aQ (aB g r p).1=[] from by rw[aQ,if_neg (by rw[hri];decide)]] at hq;cases hq
 have hgp:∀d∈g,d.wf∧0<d.body.nodes.length∧d.body.nodes.length≤100000:=fun d hd=>⟨(hg d hd).1,(hg d hd).2.1,by have:=(hg d hd).2.2;omega⟩
 have hpw:g.length≤1000∧(∀d∈g,d.wf∧0<d.body.nodes.length∧d.body.nodes.length≤100000)∧p.length≤1000000∧(fY du L).1.wf∧(fY du L).1.nodes.length≤100000:=⟨hn,hgp,hp,h3,h4⟩
 have hpc:=lL (r:=r) hn hgp hp h3 h4;have hLm:((aQ (aB g r p).1).map dg).take q++((aQ (aB g r p).1).map dg).drop (q+1)=L.map dg:=by rw[hL,List.map_append,List.map_take,List.map_drop]
 refine fC hX rfl rfl ?_;repeat' first|exact k9|refine k2 ?_|apply kA|apply kI;intro hc|apply kL;intro hl|(apply Sn.go hX;conv=>whnf)|(((refine Kb rfl hxw hri (by omega) ?_))<;>conv=>whnf)|(((refine cX.i (z5 rfl (by rw[List.length_map];exact hq) (by rw[List.length_map];omega) _) ?_))<;>conv=>whnf)|((simp only[hLm])<;>conv=>whnf)|refine k8 ?_|fail
 ·refine ao.i ?_;rw[hr,if_neg (by rintro(q|q|q);exact bfF (by assumption) q;exact bfF (by assumption) q;exact q (by assumption))]
 ·refine ao.i ?_;rw[hr,if_pos (.inr (.inr (by assumption)))];rfl
 ·refine ao.i ?_;rw[hr,if_pos (.inr (.inl (by assumption)))];rfl
 ·refine ao.i ?_;rw[hr,if_pos (.inl (by assumption))];rfl⟩
end Go.Km
end
