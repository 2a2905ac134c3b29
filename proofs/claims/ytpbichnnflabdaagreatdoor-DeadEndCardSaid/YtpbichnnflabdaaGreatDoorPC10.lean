/- The texts that the card needs, part 11. -/
import Derived.Test.YtpbichnnflabdaaGreatDoorPC9
set_option linter.all false
section
namespace Go.aa
open Go Go.Sl
theorem xx{t:Tre}(h:av t){x:Int}(h0:0≤x)(hx:x<t.nodes.length):szN t.nodes x≤t.nodes.length:=by
 rw[szN,jy];exact fA h h0 hx
def gv(ar:List Nod):Prop:=∀n∈ar,({ n with kids:=[] }:Nod).wf∧n.kids.length≤dJ
theorem gv.app{a b:List Nod}(h:gv a)(k:gv b):gv (a++b):=fun n hn=>by
 rcases List.mem_append.1 hn with hn|hn
 ·exact h n hn
 ·exact k n hn
theorem gv.gA{ar ns:List Nod}{row:List Int}{m:Nat}(h:gv ar)(hn:∀n∈ns,n.wf):gv (gA ar ns row m):=by
 refine gv.app h fun n hm=>?_;obtain⟨j,_,rfl⟩:=List.mem_map.1 hm;obtain⟨q,hq⟩:=exEq (row.getD (row.length-1-j) 0);have hw:(ns.getD q.toNat .zero).wf:=by
  rw[List.getD_eq_getElem?_getD]
  cases e:ns[q.toNat]? with
  |none=>exact Nod.cS
  |some n=>exact hn n (List.mem_of_getElem? e)
 refine⟨?_,?_⟩
 ·show({ ns.getD (row.getD (row.length-1-j) 0).toNat .zero with kids:=[] }:Nod).wf
  rw[←hq];exact hw.wf0
 ·show(dw ns row ar.length (row.length-1-j)).length≤dJ
  rw[dw,List.length_map,List.length_range,←hq,ae]
  split
  ·exact Nat.zero_le _
  ·unfold nQ
   split
   ·rename_i n e;exact(hn n (List.mem_of_getElem? e)).kids.1
   ·exact Nat.zero_le _
theorem gv.wf{ar:List Nod}(h:gv ar)(hk:NOk 0 ar)(hl:ar.length≤bY):∀n∈ar,n.wf:=fun n hn=>by
 obtain⟨h1,h2⟩:=h n hn;obtain⟨i,hi⟩:=List.mem_iff_getElem?.1 hn;have h3:=(hk i n hi).2;have h4:=(List.getElem?_eq_some_iff.1 hi).1;unfold bY at hl;exact⟨h1.kind,h1.set,h1.text,h1.min,h1.max,h2,fun x hx=>by have:=h3 x hx;unfold I64;omega⟩
end Go.aa
namespace Go.Km
open Go Go.Vc Go.Proofs Go.aa Go.Proofs.YtpbichnnflabdaaGreatDoor
set_option maxRecDepth 100000
set_option maxHeartbeats 0
theorem MN(t:Tre):C 126 [aE t] (.tp [aE (kR t).1,boF (kR t).2]) false t.wf:=inferInstance
instance(t x:Tre)(p:List Int):C 119 [aE t,isF p,aE x] (.tp [aE (cw t p x).1,boF (cw t p x).2]) false (t.wf∧x.wf∧t.nodes.length≤100000∧x.nodes.length≤100000∧p.length≤1000000):=⟨fun⟨hw,hwx,htl,hxl,hp⟩=>by
 cases hr:au t with
 |false=>
  have e:cw t p x=(.zero,false):=by rw[cw,hr];rfl
  rw[e];refine kf rfl rfl ?_;repeat' first|exact k9|refine k2 ?_|apply kA|apply kI;intro hc|(apply Sn.go hX;conv=>whnf)|refine k8 ?_|apply kL;intro hl
  exact aq.i rfl
 |true=>
  cases hrx:au x with
  |false=>
   have e:cw t p x=(.zero,false):=by rw[cw,hr,hrx];rfl
   rw[e];refine kf rfl rfl ?_;repeat' first|exact k9|refine k2 ?_|apply kA|apply kI;intro hc|(apply Sn.go hX;conv=>whnf)|refine k8 ?_|apply kL;intro hl
   exact aq.i rfl
  |true=>
   have hR:=ao hr;have hRx:=ao hrx;have hpre:t.wf∧av t∧p.length≤1000000:=⟨hw,hR,hp⟩
   cases hd:bz t.nodes t.root p with
   |none=>
    have e:cw t p x=(.zero,false):=by rw[cw,hr,hrx,hd];rfl
    have h1:(bz t.nodes t.root p).isSome=false:=by rw[hd];rfl
    rw[e];refine kf rfl rfl ?_;repeat' first|exact k9|refine k2 ?_|apply kA|apply kI;intro hc|(apply Sn.go hX;conv=>whnf)|refine k8 ?_|apply kL;intro hl
    exact aq.i rfl
   |some y=>
    obtain⟨row,k⟩:=y;have e:cw t p x=(cj (upF t.nodes row (foT x)).norm,true):=by rw[cw,hr,hrx,hd];rfl
    have h1:(bz t.nodes t.root p).isSome=true:=by rw[hd];rfl
    have h2:dnR (bz t.nodes t.root p)=row:=by rw[hd];rfl
    obtain⟨hab,_,_,hrl⟩:=fW hR.kok.ae p t.root hR.root.1 hR.root.2 row k hd;rw[e];refine kf rfl rfl ?_;repeat' first|exact k9|refine k2 ?_|apply kA|apply kI;intro hc|apply kL;intro hl|(apply Sn.go hX;conv=>whnf)|((simp only[h2])<;>conv=>whnf)|refine k8 ?_|fail
    have hrx1:=hRx.root;apply Stp.nj 0 46 9 rfl rfl;obtain⟨ns,hns⟩:=exEq (x.nodes);have hk_:KOk ns:=by rw[hns];exact(hRx).kok
    have hsz:szN ns x.root≤ns.length:=by rw[hns];exact xx hRx (by omega) (by omega)
    have hnl:ns.length≤100000:=by rw[hns];exact hxl
    have hnw:∀n∈ns,n.wf:=by rw[hns];exact(hwx).nodes
    apply kCt [0,4,8,9] [3,6,8];conv=>whnf
    refine Lp.ind (fun z:Nat×List Int=>szN ns x.root-z.1) (fun z=>Bfs ns x.root z.1 z.2) (fun z=>[(9,InD z.1)]) (fun z=>[(2,.ro 0 3 1 (z.2.map ikF))]) (fun _=>_) (0,[x.root]) (Bfs.zero (by omega) (by rw[hns];omega)) rfl rfl rfl ?_
    rintro G1 ⟨i,rw_⟩ ih1 hB
    dsimp only at hB ih1 ⊢;have hBl:=hB.len hk_;have hBi:=hB.le
    by_cases hx1:i<rw_.length
    ·have hst:=hB.step hk_ hx1;have hsl:=hst.len hk_;have hm:=hB.mem _ (List.getElem_mem hx1);obtain⟨q,hq⟩:∃q:Nat,rw_[i]=q:=⟨rw_[i].toNat,by omega⟩
     rw[hq]at hm hst hsl;have hql:q<ns.length:=by omega
     have hqi:∀h:i<rw_.length,rw_[i]'h=(q:Int):=fun _=>hq
     have hch:ae ns (q:Int)=ns[q].kids:=(aF (List.getElem?_eq_getElem hql)).symm;rw[hch]at hst hsl;subst hns;simp only[List.length_append]at hsl
     repeat' first|exact k9|refine k2 ?_|apply kA|apply kI;intro hc|apply kL;intro hl|(apply Sn.go hX;conv=>whnf)|((simp only[hqi])<;>conv=>whnf)|refine k8 ?_|fail
     apply kCt [0,4,8,9] [3,6,8];conv=>whnf
     refine ih1 (i+1,rw_++x.nodes[q].kids) _ _ _ (by dsimp only;omega) hst rfl rfl ?_;dsimp only;rw[List.map_append];rfl
    obtain rfl:i=rw_.length:=by omega
    have hRow:Row ns x.root rw_:=⟨hB⟩
    have hpos:=hRow.pos;have hend:=hRow.end_;clear ih1
    repeat' first|exact k9|refine k2 ?_|apply kA|apply kI;intro hc|(apply Sn.go hX;conv=>whnf)|refine k8 ?_|apply kL;intro hl
    apply kCt [0,4,8,10,11] [3,6,8];conv=>whnf
    refine Lp.ind (fun m:Nat=>rw_.length-m) (fun m=>m≤rw_.length) (fun m=>[(11,InD (((rw_.length:Nat):Int)-1-(m:Int))),(10,InD (bE ns rw_ (rw_.length-m)))]) (fun m=>[(0,.ro 0 46 9 ((gA ([]:List Nod) ns rw_ m).map a8))]) (fun _=>_) 0 (Nat.zero_le _) rfl (by rw[Nat.sub_zero,hend];simp only[List.length_map,Int.natCast_zero,Int.sub_zero];rfl) (by simp only[gA,List.range_zero,List.map_nil,List.append_nil];rfl) ?_
    rintro G2 m ih2 hmr
    have hgl:=xa ([]:List Nod) ns rw_ m
    by_cases hx2:m<rw_.length
    ·obtain⟨pp,hpp⟩:=exEq (rw_.length-1-m);have hppl:pp<rw_.length:=by omega
     have hpi:((rw_.length:Nat):Int)-1-(m:Int)=(pp:Int):=by omega
     have hpe:rw_.length-m=pp+1:=by omega
     have hsu:=rX ([]:List Nod) ns rw_ m;rw[←hpp]at hsu;have hE:=rS (ns:=ns) hppl;have hEm:=wG (ns:=ns) (p:=pp+1) (q:=rw_.length) (by omega) (Nat.le_refl _);rw[hend]at hEm;have hmm:=hB.mem _ (List.getElem_mem hppl);obtain⟨q,hq⟩:∃q:Nat,rw_[pp]=q:=⟨rw_[pp].toNat,by omega⟩
     rw[hq]at hmm;have hqi:∀h:pp<rw_.length,rw_[pp]'h=(q:Int):=fun _=>hq
     have hql:q<ns.length:=by omega
     have hgd:rw_.getD pp 0=(q:Int):=(mw hppl).trans hq;have hch:ae ns (q:Int)=ns[q].kids:=(aF (List.getElem?_eq_getElem hql)).symm;rw[hgd,hch]at hE;rw[hE]at hEm;obtain⟨nn,hnn⟩:=exEq (ns[q]);rw[←hnn]at hE hEm hch;have hnq:ns.getD (rw_.getD pp 0).toNat .zero=nn:=by rw[hgd,Int.toNat_natCast,hnn];simp[List.getD_eq_getElem?_getD,hql]
     obtain⟨gk,hgk⟩:=exEq (dw ns rw_ ([]:List Nod).length pp);have hgkl:gk.length=nn.kids.length:=by rw[hgk,dw,List.length_map,List.length_range,hgd,hch]
     have hgka:∀(j:Nat) (h:j<gk.length),gk[j]=((([]:List Nod).length+rw_.length:Nat):Int)-1-((bE ns rw_ pp+j:Nat):Int):=fun j h=>by simp only[hgk,dw,List.getElem_map,List.getElem_range]
     have hgn:gN ns rw_ ([]:List Nod).length pp={ nn with kids:=gk }:=by rw[gN,hnq,hgk]
     obtain⟨A,hA⟩:=exEq (gA ([]:List Nod) ns rw_ m);rw[←hA]at hgl hsu ⊢;obtain⟨Ep,hEp⟩:=exEq (bE ns rw_ pp);rw[hpi,hpe,hE];rw[←hEp]at hgka hE hEm ⊢;have hnr:ns.length=x.nodes.length:=by rw[hns]
     have hkq:=(hnw _ (List.getElem_mem hql)).kids.1;simp only[dJ]at hkq;rw[←hnn]at hkq;have hnsq:∀h:((q:Nat):Int).toNat<x.nodes.length,x.nodes[((q:Nat):Int).toNat]'h=nn:=fun h=>by simp only[hnn,hns,Int.toNat_natCast]
     have hARb:([]:List Nod).length≤1000000000000:=(by simp)
     rw[hgn]at hsu
     repeat' first|exact k9|refine k2 ?_|apply kA|apply kI;intro hc|apply kL;intro hl|(apply Sn.go hX;conv=>whnf)|((simp only[hqi])<;>conv=>whnf)|((simp only[hnsq])<;>conv=>whnf)|refine k8 ?_|fail
     simp only[List.length_replicate,List.length_map];rw[show(((Ep+nn.kids.length:Nat):Int)-((nn.kids.length:Nat):Int))=(Ep:Int)by omega];apply kCt [0,4,8,10,11,12,13,60,61] [3,6,8];conv=>whnf
     refine Lp.ind (fun j:Nat=>nn.kids.length-j) (fun j=>j≤nn.kids.length) (fun j=>[(61,InD j)]) (fun j=>[(4,.ro 0 3 1 ((gk.take j++List.replicate (nn.kids.length-j) 0).map ikF))]) (fun _=>_) 0 (Nat.zero_le _) rfl rfl (by simp only[List.take_zero,List.nil_append,Nat.sub_zero,List.map_replicate];rfl) ?_
     rintro G3 j ih3 hj
     have hfl:(gk.take j++List.replicate (nn.kids.length-j) 0).length=nn.kids.length:=by rw[List.length_append,List.length_take,List.length_replicate];omega
     by_cases hx3:j<nn.kids.length
     ·have hval:=hgka j (by omega);have hstep:((gk.take j++List.replicate (nn.kids.length-j) 0).map ikF).set j (ikF gk[j])=(gk.take (j+1)++List.replicate (nn.kids.length-(j+1)) 0).map ikF:=by
       rw[←List.map_set]
       congr 1
       rw[List.set_append_right _ _ (by rw[List.length_take];omega),List.length_take,show j-min j gk.length=0 by omega,List.take_succ_eq_append_getElem (by omega),show nn.kids.length-j=(nn.kids.length-(j+1))+1 by omega,List.replicate_succ,List.append_assoc];rfl
      obtain⟨X,hX⟩:=exEq (gk.take j++List.replicate (nn.kids.length-j) 0);rw[←hX]at hfl hstep ⊢;have hvv:(((A.map a8).length:Nat):Int)+(pp:Int)-((Ep:Int)+(j:Int))=gk[j]:=by rw[List.length_map,hval];omega
      repeat' first|exact k9|refine k2 ?_|apply kA|apply kI;intro hc|(apply Sn.go hX;conv=>whnf)|refine k8 ?_|apply kL;intro hl
      rw[hvv];apply kCt [0,4,8,10,11,12,13,60,61] [3,6,8];conv=>whnf
      refine ih3 (j+1) _ _ _ (by omega) (by omega) rfl rfl ?_;rw[←hstep];rfl
     obtain rfl:j=nn.kids.length:=by omega
     rw[Nat.sub_self,List.replicate_zero,List.append_nil,List.take_of_length_le (by omega)];clear ih3
     repeat' first|exact k9|refine k2 ?_|apply kA|apply kI;intro hc|(apply Sn.go hX;conv=>whnf)|refine k8 ?_|apply kL;intro hl
     apply kCt [0,4,8,10,11] [3,6,8];conv=>whnf
     refine ih2 (m+1) _ _ _ (by omega) (by omega) rfl ?_ ?_
     ·rw[show((rw_.length:Nat):Int)-1-((m+1:Nat):Int)=(pp:Int)-1 by omega,show rw_.length-(m+1)=pp by omega,←hEp];rfl
     ·rw[hsu,List.map_append];rfl
    obtain rfl:m=rw_.length:=by omega
    clear ih2 hB;have hgl3:=hgl;simp only[List.length_nil,Nat.zero_add]at hgl3;obtain⟨hg1,hg2'⟩:=zW WA.nil hRx (by rw[←hns];exact hRow:Row x.nodes x.root rw_);have hg5:gv (gA [] ns rw_ rw_.length):=by rw[hns];exact gv.gA (fun n h=>by cases h) hwx.nodes
    rw[←hns]at hg1;have hg2:Den (gA [] ns rw_ rw_.length) (((gA [] ns rw_ rw_.length).length:Int)-1) (foT x):=by rw[foT,hns];exact hg2'
    clear hg2';have hg3:(((gA [] ns rw_ rw_.length).length-1:Nat):Int)=(((gA [] ns rw_ rw_.length).length:Nat):Int)-1:=by omega
    have hg4:(((List.map a8 (gA [] ns rw_ rw_.length)).length:Nat):Int)-1=(((gA [] ns rw_ rw_.length).length-1:Nat):Int):=by rw[List.length_map];omega
    repeat' first|exact k9|refine k2 ?_|apply kA|apply kI;intro hc|(apply Sn.go hX;conv=>whnf)|refine k8 ?_|apply kL;intro hl
    rw[hg4];apply kCt [0,2,3,5] [6];conv=>whnf
    refine Lp.ind (fun z:Nat×List Nod×Nat=>z.1) (fun z=>z.1≤row.length∧WA z.2.1 [(z.2.2:Int)]∧Den z.2.1 (z.2.2:Int) (upF t.nodes (row.drop z.1) (foT x))∧z.2.1.length≤100000+(row.length-z.1)*100001∧gv z.2.1) (fun z=>[(2,.fr (.sl ((row.take z.1).map xj))),(3,InD z.2.2)]) (fun z=>[(0,.ro 0 46 9 (z.2.1.map a8))]) (fun _=>_) (row.length,gA [] ns rw_ rw_.length,(gA [] ns rw_ rw_.length).length-1) ⟨Nat.le_refl _,by dsimp only;rw[hg3];exact hg1,by dsimp only;rw[hg3,List.drop_length];exact hg2,by dsimp only;omega,hg5⟩ rfl (by dsimp only;rw[List.take_length];rfl) rfl ?_;clear hg1 hg2 hg3 hg4 hg5 hgl3 hRow hend hpos hBl hBi
    rintro G4 ⟨lv,ar,rt⟩ ih4 ⟨hlv,hwa,hden,hal,hdat⟩
    dsimp only at hlv hwa hden hal hdat ih4 ⊢
    by_cases hx4:0<lv
    ·have hlr:(row.take lv).length=lv:=by rw[List.length_take];omega
     have hlp:0<(row.take lv).length∧(row.take lv).length≤1000000:=by omega
     obtain⟨a,ha⟩:=exEq (row[lv-1]);have hdl:(row.take lv).dropLast=row.take (lv-1):=by rw[List.dropLast_eq_take,hlr,List.take_take,Nat.min_eq_left (by omega)]
     have hgl4:(row.take lv).getLastD (0,0)=a:=by
      have:row.take lv=row.take (lv-1)++[a]:=by
       rw[ha,←List.take_succ_eq_append_getElem (by omega),show lv-1+1=lv by omega]
      rw[this];simp
     have haok:=hab a (by rw[ha];exact List.getElem_mem _);obtain⟨a1,ha1⟩:∃a1:Nat,a.1=a1:=⟨a.1.toNat,by omega⟩
     obtain⟨a2,ha2⟩:∃a2:Nat,a.2=a2:=⟨a.2.toNat,by omega⟩
     have ha1l:a1<t.nodes.length:=by omega
     obtain⟨an,han⟩:=exEq (t.nodes[a1]);have hani:∀h:((a1:Nat):Int).toNat<t.nodes.length,t.nodes[((a1:Nat):Int).toNat]'h=an:=fun h=>by simp only[han,Int.toNat_natCast]
     have hach:ae t.nodes a.1=an.kids:=by rw[ha1,han];exact(aF (List.getElem?_eq_getElem ha1l)).symm
     have hanw:=(hw.nodes an (by rw[han];exact List.getElem_mem _)).kids.1;simp only[dJ]at hanw;obtain⟨P,hP⟩:=exEq (row.take lv);rw[←hP]at hlr hlp hdl hgl4 ⊢
     repeat' first|exact k9|refine k2 ?_|apply kA|apply kI;intro hc|apply kL;intro hl|(apply Sn.go hX;conv=>whnf)|((simp only[hgl4,hdl])<;>conv=>whnf)|((simp only[ha1])<;>conv=>whnf)|((simp only[hani])<;>conv=>whnf)|refine k8 ?_|fail
     simp only[List.length_map];apply kCt [0,2,3,5,10,11,12,34,35,36] [6];conv=>whnf
     have hsa:szN t.nodes a.1=(an.kids.map (szN t.nodes)).sum+1:=by rw[xH hR.kok.ae (by omega) (by omega),hach]
     have hsb:szN t.nodes a.1≤t.nodes.length:=xx hR (by omega) (by omega);refine Lp.ind (fun z:Nat×List Nod×List Int=>an.kids.length-z.1) (fun z=>z.1≤an.kids.length∧UpI t.nodes z.2.1 a (rt:Int) (upF t.nodes (row.drop lv) (foT x)) z.2.2 z.1∧z.2.1.length+((an.kids.drop z.1).map (szN t.nodes)).sum≤ar.length+100000∧gv z.2.1) (fun z=>[(36,InD z.1)]) (fun z=>[(0,.ro 0 46 9 (z.2.1.map a8)),(4,.ro 0 3 1 ((z.2.2++List.replicate (an.kids.length-z.1) 0).map ikF))]) (fun _=>_) (0,ar,[]) ⟨Nat.zero_le _,JI hwa hden haok.2.1,by dsimp only;rw[List.drop_zero];omega,hdat⟩ rfl rfl (by simp only[List.nil_append,Nat.sub_zero,List.map_replicate];rfl) ?_
     rintro G5 ⟨i,br,ks⟩ ih5 ⟨hi5,hU,hbl,hdb⟩
     dsimp only at hi5 hU hbl hdb ih5 ⊢;have hksl:=hU.len;have hfl5:(ks++List.replicate (an.kids.length-i) 0).length=an.kids.length:=by rw[List.length_append,List.length_replicate];omega
     by_cases hx5:i<an.kids.length
     ·have hset5:∀v:Int,((ks++List.replicate (an.kids.length-i) 0).map ikF).set i (ikF v)=(ks++[v]++List.replicate (an.kids.length-(i+1)) 0).map ikF:=fun v=>by
       rw[←List.map_set]
       congr 1
       rw[List.set_append_right _ _ (by omega),hksl,Nat.sub_self,show an.kids.length-i=(an.kids.length-(i+1))+1 by omega,List.replicate_succ,List.append_assoc];rfl
      have hkm:an.kids[i]∈an.kids:=List.getElem_mem hx5;have hko:=hR.kok.ae a.1 an.kids[i] (by rw[hach];exact hkm);obtain⟨q5,hq5⟩:∃q5:Nat,an.kids[i]=q5:=⟨an.kids[i].toNat,by omega⟩
      have hq5i:∀h:i<an.kids.length,an.kids[i]'h=(q5:Int):=fun _=>hq5
      have hach5:∀h:i<(ae t.nodes a.1).length,(ae t.nodes a.1)[i]'h=(q5:Int):=fun h=>by simp only[hach,hq5]
      rw[List.drop_eq_getElem_cons hx5,List.map_cons,List.sum_cons,hq5]at hbl;rw[hq5]at hko;obtain⟨KS,hKS⟩:=exEq (ks++List.replicate (an.kids.length-i) 0);rw[←hKS]at hfl5 hset5 ⊢
      by_cases hhit:(i:Int)=a.2
      ·repeat' first|exact k9|refine k2 ?_|apply kA|apply kI;intro hc|apply kL;intro hl|(apply Sn.go hX;conv=>whnf)|((simp only[hq5i])<;>conv=>whnf)|refine k8 ?_|fail
       apply kCt [0,2,3,5,10,11,12,34,35,36] [6];conv=>whnf
       refine ih5 (i+1,br,ks++[(rt:Int)]) _ _ _ (by dsimp only;omega) ⟨by dsimp only;omega,LP hU hhit,by dsimp only;omega,hdb⟩ rfl rfl ?_;dsimp only;rw[←hset5];rfl
      ·repeat' first|exact k9|refine k2 ?_|apply kA|apply kI;intro hc|apply kL;intro hl|(apply Sn.go hX;conv=>whnf)|((simp only[hq5i])<;>conv=>whnf)|refine k8 ?_|fail
       obtain⟨ns,hns⟩:=exEq (t.nodes);have hk_:KOk ns:=by rw[hns];exact(hR).kok
       have hsz:szN ns (q5:Int)≤ns.length:=by rw[hns];exact xx hR (by omega) (by omega)
       have hnl:ns.length≤100000:=by rw[hns];exact htl
       have hnw:∀n∈ns,n.wf:=by rw[hns];exact(hw).nodes
       apply kCt [0,4,8,9] [2,3,5,6,10,11,12,34,35,36,50,51];conv=>whnf
       refine Lp.ind (fun z:Nat×List Int=>szN ns (q5:Int)-z.1) (fun z=>Bfs ns (q5:Int) z.1 z.2) (fun z=>[(9,InD z.1)]) (fun z=>[(2,.ro 0 3 1 (z.2.map ikF))]) (fun _=>_) (0,[(q5:Int)]) (Bfs.zero (by omega) (by rw[hns];omega)) rfl rfl rfl ?_
       rintro G1 ⟨i,rw_⟩ ih1 hB
       dsimp only at hB ih1 ⊢;have hBl:=hB.len hk_;have hBi:=hB.le
       by_cases hx1:i<rw_.length
       ·have hst:=hB.step hk_ hx1;have hsl:=hst.len hk_;have hm:=hB.mem _ (List.getElem_mem hx1);obtain⟨q,hq⟩:∃q:Nat,rw_[i]=q:=⟨rw_[i].toNat,by omega⟩
        rw[hq]at hm hst hsl;have hql:q<ns.length:=by omega
        have hqi:∀h:i<rw_.length,rw_[i]'h=(q:Int):=fun _=>hq
        have hch:ae ns (q:Int)=ns[q].kids:=(aF (List.getElem?_eq_getElem hql)).symm;rw[hch]at hst hsl;subst hns;simp only[List.length_append]at hsl
        repeat' first|exact k9|refine k2 ?_|apply kA|apply kI;intro hc|apply kL;intro hl|(apply Sn.go hX;conv=>whnf)|((simp only[hqi])<;>conv=>whnf)|refine k8 ?_|fail
        apply kCt [0,4,8,9] [2,3,5,6,10,11,12,34,35,36,50,51];conv=>whnf
        refine ih1 (i+1,rw_++t.nodes[q].kids) _ _ _ (by dsimp only;omega) hst rfl rfl ?_;dsimp only;rw[List.map_append];rfl
       obtain rfl:i=rw_.length:=by omega
       have hRow:Row ns (q5:Int) rw_:=⟨hB⟩
       have hpos:=hRow.pos;have hend:=hRow.end_;clear ih1
       repeat' first|exact k9|refine k2 ?_|apply kA|apply kI;intro hc|(apply Sn.go hX;conv=>whnf)|refine k8 ?_|apply kL;intro hl
       apply kCt [0,4,8,10,11] [2,3,5,6,10,11,12,34,35,36,50,51];conv=>whnf
       refine Lp.ind (fun m:Nat=>rw_.length-m) (fun m=>m≤rw_.length) (fun m=>[(11,InD (((rw_.length:Nat):Int)-1-(m:Int))),(10,InD (bE ns rw_ (rw_.length-m)))]) (fun m=>[(0,.ro 0 46 9 ((gA br ns rw_ m).map a8))]) (fun _=>_) 0 (Nat.zero_le _) rfl (by rw[Nat.sub_zero,hend];simp only[List.length_map,Int.natCast_zero,Int.sub_zero];rfl) (by simp only[gA,List.range_zero,List.map_nil,List.append_nil];rfl) ?_
       rintro G2 m ih2 hmr
       have hgl:=xa br ns rw_ m
       by_cases hx2:m<rw_.length
       ·obtain⟨pp,hpp⟩:=exEq (rw_.length-1-m);have hppl:pp<rw_.length:=by omega
        have hpi:((rw_.length:Nat):Int)-1-(m:Int)=(pp:Int):=by omega
        have hpe:rw_.length-m=pp+1:=by omega
        have hsu:=rX br ns rw_ m;rw[←hpp]at hsu;have hE:=rS (ns:=ns) hppl;have hEm:=wG (ns:=ns) (p:=pp+1) (q:=rw_.length) (by omega) (Nat.le_refl _);rw[hend]at hEm;have hmm:=hB.mem _ (List.getElem_mem hppl);obtain⟨q,hq⟩:∃q:Nat,rw_[pp]=q:=⟨rw_[pp].toNat,by omega⟩
        rw[hq]at hmm;have hqi:∀h:pp<rw_.length,rw_[pp]'h=(q:Int):=fun _=>hq
        have hql:q<ns.length:=by omega
        have hgd:rw_.getD pp 0=(q:Int):=(mw hppl).trans hq;have hch:ae ns (q:Int)=ns[q].kids:=(aF (List.getElem?_eq_getElem hql)).symm;rw[hgd,hch]at hE;rw[hE]at hEm;obtain⟨nn,hnn⟩:=exEq (ns[q]);rw[←hnn]at hE hEm hch;have hnq:ns.getD (rw_.getD pp 0).toNat .zero=nn:=by rw[hgd,Int.toNat_natCast,hnn];simp[List.getD_eq_getElem?_getD,hql]
        obtain⟨gk,hgk⟩:=exEq (dw ns rw_ br.length pp);have hgkl:gk.length=nn.kids.length:=by rw[hgk,dw,List.length_map,List.length_range,hgd,hch]
        have hgka:∀(j:Nat) (h:j<gk.length),gk[j]=((br.length+rw_.length:Nat):Int)-1-((bE ns rw_ pp+j:Nat):Int):=fun j h=>by simp only[hgk,dw,List.getElem_map,List.getElem_range]
        have hgn:gN ns rw_ br.length pp={ nn with kids:=gk }:=by rw[gN,hnq,hgk]
        obtain⟨A,hA⟩:=exEq (gA br ns rw_ m);rw[←hA]at hgl hsu ⊢;obtain⟨Ep,hEp⟩:=exEq (bE ns rw_ pp);rw[hpi,hpe,hE];rw[←hEp]at hgka hE hEm ⊢;have hnr:ns.length=t.nodes.length:=by rw[hns]
        have hkq:=(hnw _ (List.getElem_mem hql)).kids.1;simp only[dJ]at hkq;rw[←hnn]at hkq;have hnsq:∀h:((q:Nat):Int).toNat<t.nodes.length,t.nodes[((q:Nat):Int).toNat]'h=nn:=fun h=>by simp only[hnn,hns,Int.toNat_natCast]
        have hARb:br.length≤1000000000000:=(by omega)
        rw[hgn]at hsu
        repeat' first|exact k9|refine k2 ?_|apply kA|apply kI;intro hc|apply kL;intro hl|(apply Sn.go hX;conv=>whnf)|((simp only[hqi])<;>conv=>whnf)|((simp only[hnsq])<;>conv=>whnf)|refine k8 ?_|fail
        simp only[List.length_replicate,List.length_map];rw[show(((Ep+nn.kids.length:Nat):Int)-((nn.kids.length:Nat):Int))=(Ep:Int)by omega];apply kCt [0,4,8,10,11,12,13,60,61] [2,3,5,6,10,11,12,34,35,36,50,51];conv=>whnf
        refine Lp.ind (fun j:Nat=>nn.kids.length-j) (fun j=>j≤nn.kids.length) (fun j=>[(61,InD j)]) (fun j=>[(4,.ro 0 3 1 ((gk.take j++List.replicate (nn.kids.length-j) 0).map ikF))]) (fun _=>_) 0 (Nat.zero_le _) rfl rfl (by simp only[List.take_zero,List.nil_append,Nat.sub_zero,List.map_replicate];rfl) ?_
        rintro G3 j ih3 hj
        have hfl:(gk.take j++List.replicate (nn.kids.length-j) 0).length=nn.kids.length:=by rw[List.length_append,List.length_take,List.length_replicate];omega
        by_cases hx3:j<nn.kids.length
        ·have hval:=hgka j (by omega);have hstep:((gk.take j++List.replicate (nn.kids.length-j) 0).map ikF).set j (ikF gk[j])=(gk.take (j+1)++List.replicate (nn.kids.length-(j+1)) 0).map ikF:=by
          rw[←List.map_set]
          congr 1
          rw[List.set_append_right _ _ (by rw[List.length_take];omega),List.length_take,show j-min j gk.length=0 by omega,List.take_succ_eq_append_getElem (by omega),show nn.kids.length-j=(nn.kids.length-(j+1))+1 by omega,List.replicate_succ,List.append_assoc];rfl
         obtain⟨X,hX⟩:=exEq (gk.take j++List.replicate (nn.kids.length-j) 0);rw[←hX]at hfl hstep ⊢;have hvv:(((A.map a8).length:Nat):Int)+(pp:Int)-((Ep:Int)+(j:Int))=gk[j]:=by rw[List.length_map,hval];omega
         repeat' first|exact k9|refine k2 ?_|apply kA|apply kI;intro hc|(apply Sn.go hX;conv=>whnf)|refine k8 ?_|apply kL;intro hl
         rw[hvv];apply kCt [0,4,8,10,11,12,13,60,61] [2,3,5,6,10,11,12,34,35,36,50,51];conv=>whnf
         refine ih3 (j+1) _ _ _ (by omega) (by omega) rfl rfl ?_;rw[←hstep];rfl
        obtain rfl:j=nn.kids.length:=by omega
        rw[Nat.sub_self,List.replicate_zero,List.append_nil,List.take_of_length_le (by omega)];clear ih3
        repeat' first|exact k9|refine k2 ?_|apply kA|apply kI;intro hc|(apply Sn.go hX;conv=>whnf)|refine k8 ?_|apply kL;intro hl
        apply kCt [0,4,8,10,11] [2,3,5,6,10,11,12,34,35,36,50,51];conv=>whnf
        refine ih2 (m+1) _ _ _ (by omega) (by omega) rfl ?_ ?_
        ·rw[show((rw_.length:Nat):Int)-1-((m+1:Nat):Int)=(pp:Int)-1 by omega,show rw_.length-(m+1)=pp by omega,←hEp];rfl
        ·rw[hsu,List.map_append];rfl
       obtain rfl:m=rw_.length:=by omega
       subst hns;have hrs:rw_.length=szN t.nodes (q5:Int):=by have:=hRow.b.sum;rw[List.drop_length]at this;simpa using this
       have hg6:=KV hR hU hhit (by rw[hach];exact hx5) (row:=rw_) (by rw[hach5];exact hRow);have hg7:(((List.map a8 (gA br t.nodes rw_ rw_.length)).length:Nat):Int)-1=(((gA br t.nodes rw_ rw_.length).length:Nat):Int)-1:=by rw[List.length_map]
       clear ih2 hB
       repeat' first|exact k9|refine k2 ?_|apply kA|apply kI;intro hc|(apply Sn.go hX;conv=>whnf)|refine k8 ?_|apply kL;intro hl
       rw[hg7];apply kCt [0,2,3,5,10,11,12,34,35,36] [6];conv=>whnf
       refine ih5 (i+1,gA br t.nodes rw_ rw_.length,ks++[(((gA br t.nodes rw_ rw_.length).length:Nat):Int)-1]) _ _ _ (by dsimp only;omega) ⟨by dsimp only;omega,hg6,by dsimp only;omega,gv.gA hdb hw.nodes⟩ rfl rfl ?_;dsimp only;rw[←hset5];rfl
     ·obtain rfl:i=an.kids.length:=by omega
      rw[Nat.sub_self,List.replicate_zero,List.append_nil];rw[List.drop_length]at hbl;simp only[List.map_nil,List.sum_nil,Nat.add_zero]at hbl;have hU2:UpI t.nodes br a (rt:Int) (upF t.nodes (row.drop lv) (foT x)) ks (ae t.nodes a.1).length:=by rw[hach];exact hU
      obtain⟨hw6,hd6⟩:=JG hR (by rw[hach]at haok ⊢;exact haok) hU2 an (by rw[ha1,Int.toNat_natCast,han];simp[List.getD_eq_getElem?_getD,ha1l]);have hup:upS t.nodes a (upF t.nodes (row.drop lv) (foT x))=upF t.nodes (row.drop (lv-1)) (foT x):=by
       rw[List.drop_eq_getElem_cons (show lv-1<row.length by omega),←ha,show lv-1+1=lv by omega];rfl
      rw[hup]at hd6;clear ih5
      repeat' first|exact k9|refine k2 ?_|apply kA|apply kI;intro hc|(apply Sn.go hX;conv=>whnf)|refine k8 ?_|apply kL;intro hl
      simp only[List.length_append,List.length_map,List.length_cons,List.length_nil];rw[show(((br.length+(0+1):Nat):Int)-1)=(br.length:Int)by omega];apply kCt [0,2,3,5] [6];conv=>whnf
      refine ih4 (lv-1,br++[{ an with kids:=ks }],br.length) _ _ _ (by dsimp only;omega) ⟨by dsimp only;omega,hw6,hd6,by simp only[List.length_append,List.length_cons,List.length_nil];omega,gv.app hdb fun n hn=>by
       simp only[List.mem_singleton]at hn;subst hn;refine⟨(hw.nodes an (by rw[han];exact List.getElem_mem _)).wf0,?_⟩;simp only[hksl,dJ];omega⟩ rfl rfl ?_
      dsimp only;rw[List.map_append];rfl
    ·obtain rfl:lv=0:=by omega
     have hwf:(⟨ar,(rt:Int)⟩:Tre).wf:=⟨by simp only[bY];omega,hdat.wf hwa.ok (by simp only[bY];omega),by have:=hwa.rng (rt:Int) (by simp);unfold Go.Sl.I64;dsimp only;omega⟩
     have hmk:=Eh hwa hden;rw[List.drop_zero]at hmk
     repeat' first|exact k9|refine k2 ?_|apply kA|apply kI;intro hc|(apply Sn.go hX;conv=>whnf)|((refine qN.i (MN ⟨ar,(rt:Int)⟩) hwf ?_)<;>conv=>whnf)|refine k8 ?_|apply kL;intro hl
     rw[hmk];exact aq.i rfl⟩
end Go.Km
end
section
namespace Go.Proofs.YtpbichnnflabdaaGreatDoor
open Go Go.Sl Go.RowKit
theorem yG:Tryz.prog.underlying 30=some (.slice 3):=by kernel_rfl
set_option maxHeartbeats 4000000 in
set_option maxRecDepth 100000 in
theorem BQ(A:Option Addr)(c:Nat)(w:World) :
  Calls Tryz.prog 90 #[.slice A 0 c] w fun e w'=>(∃A' c',e=.returned (.slice A' 0 c'))∧Below w.heap.size w w':=by
 have heq:∀W,(binOp .eql 30 (.slice A 0 c) (.slice none 0 0)).run Tryz.prog W=.ok (.bool A.isNone) W:=by
  intro W;have h1:(Op.equal 30 (.slice A 0 c) (.slice none 0 0)).run Tryz.prog W=.ok A.isNone W:=by
   show(Op.equalIn (9999+1) _ _ _).run Tryz.prog W=_
   rw[Op.equalIn]
   cases A<;>simp[run_underlying yG]
  have h2:binOp .eql 30 (.slice A 0 c) (.slice none 0 0)=(do pure (.bool (←Op.equal 30 (.slice A 0 c) (.slice none 0 0)))):=rfl;rw[h2];simp[h1]
 cases A with
 |none=>
  go_enter Tryz.func90,Tryz.ntmps90
  go_wp2
  go_ret
  exact⟨⟨_,_,rfl⟩,Below.refl _ _⟩
 |some a=>
  have hb:∀W:World,(Instr.buildSlice 30 0 #[]).run Tryz.prog W=.ok (.slice (some ⟨W.heap.size,0,none⟩) 0 0) (W.alloc (.cells #[] 3)):=fun W=>by
   have ht:SlT Tryz.prog 30 3 _ _ _:=inferInstance;obtain⟨i,i1,i2,i3,i4⟩:=ht.info;simp[Instr.buildSlice,run_underlying yG,sizeOf,typeInfo,i1,i3,zeroValue,i2,newRow,jg,Instr.fill,show Array.range 0=#[]from rfl]
  go_enter Tryz.func90,Tryz.ntmps90
  go_wp2
  go_ret
  exact⟨⟨_,_,rfl⟩,(Below.refl _ _).alloc (Nat.le_refl _) _⟩
end Go.Proofs.YtpbichnnflabdaaGreatDoor
namespace Go.Km
open Go Go.Vc Go.Proofs Go.aa Go.Proofs.YtpbichnnflabdaaGreatDoor
set_option maxRecDepth 100000
set_option maxHeartbeats 0
theorem yV:Pure Tryz.prog X1.Γ 90 [.sl []] (.sl []) false:=
 ⟨inferInstance,fun Z w vs hZ hG hr=>by
  unfold F.ah F.rep at hr;obtain⟨u,us,rfl,⟨A,c,vr,sz,rfl,_,har,_,hr2⟩,hus⟩:=hr;unfold F.ah at hus;subst hus;refine(BQ A c w).mono fun e w' ⟨⟨A',c',h1⟩,h2⟩=>⟨_,h1,h2,?_⟩
  unfold F.rep;exact⟨A',c',[],sz,rfl,Nat.zero_le _,⟨rfl,by simp,fun h=>absurd h (by simp)⟩,by simp,by unfold F.aI;rfl⟩⟩
instance(l:List Int):C 90 [isF l] (isF l) false (l.length≤17592186044416):=⟨fun h=>by
 cases l with
 |nil=>exact yV
 |cons a l=>
  obtain⟨L,hL⟩:=exEq (a::l);rw[←hL]at h ⊢;have h0:0<(L.map ikF).length:=by rw[hL];simp
  refine kf rfl rfl ?_;repeat' first|exact k9|refine k2 ?_|apply kA|apply kI;intro hc|(apply Sn.go hX;conv=>whnf)|refine k8 ?_|apply kL;intro hl
  exact aq.i (by simp)⟩
theorem yx{α:Type}(f:α→List F)(l:List α)(i:Nat)(h:i<l.length):(l.map f).set i (f l[i])=l.map f:=by
 rw[←List.map_set,List.set_getElem_self]
instance(t:Tre):C 144 [aE t] (aE t) false (t.wf∧0<t.nodes.length):=⟨fun⟨ht,h0⟩=>by
 have hl:=ht.len;simp only[bY]at hl;have h0:0<(t.nodes.map a8).length:=by simpa using h0
 have hX:=rm [157] [];refine fL hX rfl rfl ?_;repeat' first|exact k9|refine k2 ?_|apply kA|apply kI;intro hc|(apply Sn.go hX;conv=>whnf)|refine k8 ?_|apply kL;intro hl
 rw[List.nil_append];apply kCt [1,2,10,11,12] [];conv=>whnf
 refine Lp.ind (fun z:Nat=>t.nodes.length-z) (fun z=>z≤t.nodes.length) (fun z=>[(12,InD z)]) (fun _=>[]) (fun _=>_) 0 (Nat.zero_le _) rfl rfl rfl ?_
 rintro G i ih hi
 by_cases hx:i<t.nodes.length
 ·have hw:=(ht.nodes _ (List.getElem_mem hx)).kids.1;simp only[dJ]at hw;apply Sn.go hX;repeat' first|exact k9|refine k2 ?_|apply kA|apply kI;intro hc|(apply Sn.go hX;conv=>whnf)|refine k8 ?_|apply kL;intro hl
  apply kCt [1,2,10,11,12] [];conv=>whnf
  refine ih (i+1) _ _ _ (by omega) (by omega) rfl rfl ?_;exact congrArg (fun z=>jv [(1,B.ro 0 46 9 z)] G.h) (yx a8 t.nodes i hx)
 ·apply Sn.go hX;repeat' (first|exact k9|refine k2 ?_|apply kA|apply kI;intro hc|(apply Sn.go hX;conv=>whnf)|refine k8 ?_|apply kL;intro hl)⟩
def jl(g:List Dfn)(r:Int)(t:Tre):List Dfn×Bool:=if h:0≤r∧r<g.length then(g.set r.toNat { g[r.toNat]'(by omega)with body:=t },true)else([],false)
instance(g:List Dfn)(r:Int)(t:Tre):C 120 [cx g,inF r,aE t] (.tp [cx (jl g r t).1,boF (jl g r t).2]) false (g.length≤1000∧0<g.length∧(∀d∈g,d.wf∧0<d.body.nodes.length)∧t.wf∧0<t.nodes.length):=⟨fun⟨hn,h0,hw,ht,ht0⟩=>by
 have h0:0<(g.map rD).length:=by simpa using h0
 have hX:=rm [156,143] [];refine fL hX rfl rfl ?_;repeat' first|exact k9|refine k2 ?_|apply kA|apply kI;intro hc|(apply Sn.go hX;conv=>whnf)|refine k8 ?_|apply kL;intro hl
 ·exact aq.i (by rw[jl,dif_neg (by omega)];rfl)
 ·exact aq.i (by rw[jl,dif_neg (by omega)];rfl)
 ·rename_i hr0;rw[List.nil_append];apply kCt [1,2,10,11,12] [1,3,5,6,18];conv=>whnf
  refine Lp.ind (fun z:Nat=>g.length-z) (fun z=>z≤g.length) (fun z=>[(12,InD z)]) (fun _=>[]) (fun _=>_) 0 (Nat.zero_le _) rfl rfl rfl ?_
  rintro G i ih hi
  by_cases hx:i<g.length
  ·obtain⟨hwi,h0i⟩:=hw _ (List.getElem_mem hx);have hwb:=hwi.body;have hp:g[i].body.wf∧0<g[i].body.nodes.length:=⟨hwb,h0i⟩
   apply Sn.go hX;repeat' first|exact k9|refine k2 ?_|apply kA|apply kI;intro hc|(apply Sn.go hX;conv=>whnf)|refine k8 ?_|apply kL;intro hl
   apply kCt [1,2,10,11,12] [1,3,5,6,18];conv=>whnf
   refine ih (i+1) _ _ _ (by omega) (by omega) rfl rfl ?_;exact congrArg (fun z=>jv [(1,B.ro 0 41 3 z)] G.h) (yx rD g i hx)
  ·have hp:t.wf∧0<t.nodes.length:=⟨ht,ht0⟩
   apply Sn.go hX;repeat' first|exact k9|refine k2 ?_|apply kA|apply kI;intro hc|(apply Sn.go hX;conv=>whnf)|refine k8 ?_|apply kL;intro hl
   refine aq.i ?_;rw[jl,dif_pos (by omega)];dsimp only;rw[cx,List.map_set];rfl⟩
end Go.Km
end
section
namespace Go.aa
open Go Go.Km
def aC(g:List Dfn)(r:Int)(p:List Int):Tre×Bool:=if h:0≤r∧r<g.length then dh (g[r.toNat]'(by omega)).body p else(.zero,false)
def bA(g:List Dfn)(r:Int)(p:List Int)(x:Tre):List Dfn×Bool:=if h:0≤r∧r<g.length then(if(cw (g[r.toNat]'(by omega)).body p x).2=true then jl g r (cw (g[r.toNat]'(by omega)).body p x).1 else([],false))else([],false)
theorem Fo.sU:∀(i:Nat) (G F:Fo),(Fo.setAt i G F).size≤F.size+G.size
 |i,G,.nil=>by cases i<;>simp[Fo.setAt,Fo.size]
 |0,G,.cons n k r=>by simp only[Fo.setAt,Fo.bZ,Fo.size];omega
 |i+1,G,.cons n k r=>by
  have:=Fo.sU i G r;simp only[Fo.setAt,Fo.size];omega
theorem Fo.vQ:∀(i:Nat) {G F:Fo},G.dwf→F.dwf→(Fo.setAt i G F).dwf
 |i,G,.nil,h,k=>by cases i<;>exact k
 |0,G,.cons n a r,h,k=>(Fo.oL _ _).2 ⟨h,k.2.2⟩
 |i+1,G,.cons n a r,h,k=>⟨k.1,k.2.1,Fo.vQ i h k.2.2⟩
theorem Ie{t:Tre}(hR:av t){a:Int×Int}(h0:0≤a.1)(h1:a.1<t.nodes.length)(F:Fo):(upS t.nodes a F).size≤t.nodes.length+F.size:=by
 have h2:=xx hR h0 h1;rw[szN,bT hR.kok.ae h0 h1,Fo.size]at h2;have h3:=Fo.sU a.2.toNat F (aA t.nodes t.nodes.length (ae t.nodes a.1));simp only[Fo.size]at h2;simp only[upS,Fo.size];omega
theorem xW{t:Tre}(hR:av t)(X:Fo):∀row:List (Int×Int),FK t.nodes row→(upF t.nodes row X).size≤row.length*t.nodes.length+X.size
 |[],_=>by simp[upF]
 |a::row,h=>by
  have h1:=h a (by simp);have h2:=Ie hR h1.1.1 h1.1.2 (upF t.nodes row X);have h3:=xW hR X row fun b hb=>h b (by simp[hb])
  show(upS t.nodes a (upF t.nodes row X)).size≤_
  rw[List.length_cons,Nat.add_mul];omega
theorem Lk{ns:List Nod}(hn:∀n∈ns,n.wf)(k:Int):(dat ns k).wf:=by
 rw[dat,List.getD_eq_getElem?_getD]
 cases e:ns[k.toNat]? with
 |none=>exact Nod.cS
 |some n=>exact(hn n (List.mem_of_getElem? e)).wf0
theorem B4{ns:List Nod}(hn:∀n∈ns,n.wf){X:Fo}(hX:X.dwf):∀row:List (Int×Int),(upF ns row X).dwf
 |[]=>hX
 |a::row=>⟨Lk hn _,Fo.vQ _ (B4 hn hX row) (kU hn _ _),trivial⟩
theorem Jm{ns:List Nod}{X:Fo}(hX:X.len=1):∀row:List (Int×Int),(upF ns row X).len=1
 |[]=>hX
 |a::row=>rfl
theorem zg{t x:Tre}{p:List Int}(ht:t.wf)(hx:x.wf)(hl:t.nodes.length≤100000)(hl2:x.nodes.length≤100000)(hp:p.length≤1000000)(h:(cw t p x).2=true):(cw t p x).1.wf∧0<(cw t p x).1.nodes.length:=by
 unfold cw at h ⊢
 split at h
 ·rename_i hr;rw[Bool.and_eq_true]at hr;have hR:=ao hr.1;have hRx:=ao hr.2
  split at h
  ·rename_i row k hd;obtain⟨hab,_,_,hrl⟩:=fW hR.kok.ae p t.root hR.root.1 hR.root.2 row k hd;rw[if_pos (by rw[hr.1,hr.2];rfl)];simp only[hd];have hs:=xW hR (foT x) row hab;have hm:row.length*t.nodes.length≤1000000*100000:=Nat.mul_le_mul (by omega) hl;rw[fa hRx]at hs;have hsn:=Fo.iT (upF t.nodes row (foT x));refine⟨sq (Fo.oQ (B4 ht.nodes (kU hx.nodes _ _) row)) (by unfold bY;omega),?_⟩;rw[zO];have h1:=Fo.xv (upF t.nodes row (foT x)).norm;rw[Fo.lr,Jm (qJ hr.2).2]at h1;exact h1
  ·cases h
 ·cases h
end Go.aa
namespace Go.Km
open Go Go.Vc Go.Proofs Go.aa Go.Proofs.YtpbichnnflabdaaGreatDoor
set_option maxRecDepth 100000
set_option maxHeartbeats 0
instance(g:List Dfn)(r:Int)(p:List Int):C 78 [cx g,.ag [inF r,isF p]] (.tp [aE (aC g r p).1,boF (aC g r p).2]) false (g.length≤1000∧(∀d∈g,d.wf)∧p.length≤1000000):=⟨fun⟨hn,hw,hp⟩=>by
 by_cases hr:0≤r∧r<g.length
 ·obtain⟨q,rfl⟩:∃q:Nat,r=q:=⟨r.toNat,by omega⟩
  have hql:q<g.length:=by omega
  have hpre:g[q].body.wf∧p.length≤1000000:=⟨(hw _ (List.getElem_mem hql)).body,hp⟩
  have e:aC g (q:Int) p=dh g[q].body p:=by rw[aC,dif_pos hr];rfl
  rw[e];refine kf rfl rfl ?_;repeat' first|exact k9|refine k2 ?_|apply kA|apply kI;intro hc|(apply Sn.go hX;conv=>whnf)|refine k8 ?_|apply kL;intro hl
 ·have e:aC g r p=(.zero,false):=by rw[aC,dif_neg hr]
  rw[e];refine kf rfl rfl ?_;repeat' first|exact k9|refine k2 ?_|apply kA|apply kI;intro hc|(apply Sn.go hX;conv=>whnf)|refine k8 ?_|apply kL;intro hl
  all_goals exact aq.i rfl⟩
instance(g:List Dfn)(r:Int)(p:List Int)(x:Tre):C 82 [cx g,.ag [inF r,isF p],aE x] (.tp [cx (bA g r p x).1,boF (bA g r p x).2]) false (g.length≤1000∧(∀d∈g,d.wf∧0<d.body.nodes.length∧d.body.nodes.length≤100000)∧p.length≤1000000∧x.wf∧x.nodes.length≤100000):=⟨fun⟨hn,hw,hp,hx,hxl⟩=>by
 by_cases hr:0≤r∧r<g.length
 ·obtain⟨q,rfl⟩:∃q:Nat,r=q:=⟨r.toNat,by omega⟩
  have hql:q<g.length:=by omega
  obtain⟨hwq,hq0,hql2⟩:=hw _ (List.getElem_mem hql);have hpre:g[q].body.wf∧x.wf∧g[q].body.nodes.length≤100000∧x.nodes.length≤100000∧p.length≤1000000:=⟨hwq.body,hx,hql2,hxl,hp⟩
  have e:bA g (q:Int) p x=if(cw g[q].body p x).2=true then jl g (q:Int) (cw g[q].body p x).1 else([],false):=by rw[bA,dif_pos hr];rfl
  refine kf rfl rfl ?_;repeat' first|exact k9|refine k2 ?_|apply kA|apply kI;intro hc|(apply Sn.go hX;conv=>whnf)|refine k8 ?_|apply kL;intro hl
  ·obtain⟨h1,h2⟩:=zg hwq.body hx hql2 hxl hp hc;exact⟨hn,by omega,fun d hd=>⟨(hw d hd).1,(hw d hd).2.1⟩,h1,h2⟩
  ·rw[e,if_pos hc];exact aq.i rfl
  ·rw[e,if_neg (by rw[hc];decide)];exact aq.i rfl
 ·have e:bA g r p x=([],false):=by rw[bA,dif_neg hr]
  rw[e];refine kf rfl rfl ?_;repeat' first|exact k9|refine k2 ?_|apply kA|apply kI;intro hc|(apply Sn.go hX;conv=>whnf)|refine k8 ?_|apply kL;intro hl
  all_goals exact aq.i rfl⟩
end Go.Km
end
section
namespace Go.aa
open Go Go.Km
theorem Cb{lo hi:Int}(h:-1000000≤lo∧lo≤1000000)(k:-1000000≤hi∧hi≤1000000):(⟨6,.zero,⟨#[]⟩,lo,hi,[]⟩:Nod).wf:=⟨by dsimp only;omega,by unfold Bts.wf Bts.zero;dsimp only;omega,Nat.zero_le _,by unfold Go.Sl.I64;dsimp only;omega,by unfold Go.Sl.I64;dsimp only;omega,⟨Nat.zero_le _,fun x hx=>by cases hx⟩⟩
end Go.aa
namespace Go.Km
open Go Go.Vc Go.Proofs Go.aa Go.Proofs.YtpbichnnflabdaaGreatDoor
set_option maxRecDepth 100000
set_option maxHeartbeats 0
theorem bfF{x:Bool}(h:x=true)(k:x=false):False:=by rw[h]at k;cases k
end Go.Km
end
section
namespace Go.aa
open Go Go.Km
theorem za{n:Nod}(h:n.wf):(qO n).wf:=⟨by show 1≤bY;decide,by simp only[qO,List.mem_singleton];rintro m rfl;exact h,by show Go.Sl.I64 0;unfold Go.Sl.I64;decide⟩
end Go.aa
namespace Go.Km
open Go Go.Vc Go.Proofs Go.aa Go.Proofs.YtpbichnnflabdaaGreatDoor
set_option maxRecDepth 100000
set_option maxHeartbeats 0
abbrev Ko:F:=.vl .nilFunc
end Go.Km
end
section
namespace Go.aa
open Go Go.Km
theorem GI{g:List Dfn}{r:Int}{t:Tre}(hg:∀d∈g,d.wf)(ht:t.wf)(hn:g.length≤1000):(jl g r t).1.length≤1000∧∀d∈(jl g r t).1,d.wf:=by
 unfold jl
 split
 ·rename_i h;refine⟨by simpa using hn,fun d hd=>?_⟩;rcases List.mem_or_eq_of_mem_set hd with hd|rfl
  ·exact hg d hd
  ·exact⟨(hg _ (List.getElem_mem _)).name,ht⟩
 ·exact⟨Nat.zero_le _,fun d hd=>by cases hd⟩
theorem l5{g:List Dfn}{r:Int}{p:List Int}{x:Tre}(hn:g.length≤1000)(hg:∀d∈g,d.wf∧0<d.body.nodes.length∧d.body.nodes.length≤100000)(hp:p.length≤1000000)(hx:x.wf)(hxl:x.nodes.length≤100000):(bA g r p x).1.length≤1000∧∀d∈(bA g r p x).1,d.wf:=by
 unfold bA
 split
 ·rename_i h
  split
  ·rename_i h2;obtain⟨h3,h4,h5⟩:=hg _ (List.getElem_mem (show r.toNat<g.length by omega));exact GI (fun d hd=>(hg d hd).1) (zg h3.body hx h5 hxl hp h2).1 hn
  ·exact⟨Nat.zero_le _,fun d hd=>by cases hd⟩
 ·exact⟨Nat.zero_le _,fun d hd=>by cases hd⟩
theorem IV{t:Tre}{p:List Int}(ht:t.wf):(dh t p).1.wf∧(dh t p).1.nodes.length≤t.nodes.length:=by
 unfold dh
 split
 ·rename_i hr;have hR:=ao hr
  split
  ·rename_i l k hd;obtain⟨_,h1,h2,_⟩:=fW hR.kok.ae p t.root hR.root.1 hR.root.2 l k hd;exact⟨(gH ht hR h1 h2).1,nm hR h1 h2⟩
  ·exact⟨Tre.cS,Nat.zero_le _⟩
 ·exact⟨Tre.cS,Nat.zero_le _⟩
theorem jn{g:List Dfn}{r:Int}{p:List Int}(hg:∀d∈g,d.wf∧d.body.nodes.length≤20000):(aC g r p).1.wf∧(aC g r p).1.nodes.length≤20000:=by
 unfold aC
 split
 ·rename_i h;obtain⟨h1,h2⟩:=hg _ (List.getElem_mem (show r.toNat<g.length by omega));have:=IV (p:=p) h1.body;exact⟨this.1,Nat.le_trans this.2 h2⟩
 ·exact⟨Tre.cS,Nat.zero_le _⟩
end Go.aa
namespace Go.Km
open Go Go.Vc Go.Proofs Go.aa Go.Proofs.YtpbichnnflabdaaGreatDoor
set_option maxRecDepth 100000
set_option maxHeartbeats 0
end Go.Km
end
section
namespace Go.aa
open Go Go.Km
theorem ba{g:List Dfn}(h:bb g=0):cz g=0:=by
 unfold bb iG at h
 split at h
 ·assumption
 ·exact h
end Go.aa
namespace Go.Km
open Go Go.Vc Go.Proofs Go.aa Go.Proofs.YtpbichnnflabdaaGreatDoor
set_option maxRecDepth 100000
set_option maxHeartbeats 0
end Go.Km
end
section
namespace Go.aa
open Go Go.Km
def pB(n:Nod):Nat:=1+min 220 n.kids.length+min 220 n.text.size/20
def rF:Nat→List Nod→Nat
 |a,[]=>a
 |a,n::l=>if a<220 then rF (a+pB n) l else a
def pw:Nat→List Dfn→Nat
 |a,[]=>a
 |a,d::g=>if a<220 then pw (rF (a+5+min 220 d.name.size) d.body.nodes) g else a
def rq(g:List Dfn):Bool:=decide (220≤pw 0 g)
theorem C4:∀(l:List Nod) (a:Nat),a≤rF a l
 |[],a=>Nat.le_refl _
 |n::l,a=>by
  rw[rF]
  split
  ·have:=C4 l (a+pB n);omega
  ·exact Nat.le_refl _
theorem yc:∀(l:List Nod) (a:Nat),rF a l<220→a+l.length≤rF a l
 |[],a,_=>Nat.le_refl _
 |n::l,a,h=>by
  rw[rF]at h ⊢
  split at h
  ·rename_i hc;rw[if_pos hc];have:=yc l (a+pB n) h;have h1:1≤pB n:=by unfold pB;omega
   rw[List.length_cons];omega
  ·omega
theorem Df:∀(g:List Dfn) (a:Nat),a≤pw a g
 |[],a=>Nat.le_refl _
 |d::g,a=>by
  rw[pw]
  split
  ·have h1:=Df g (rF (a+5+min 220 d.name.size) d.body.nodes);have h2:=C4 d.body.nodes (a+5+min 220 d.name.size);omega
  ·exact Nat.le_refl _
theorem yb:∀(g:List Dfn) (a:Nat),pw a g<220→a+5*g.length≤pw a g∧∀d∈g,d.body.nodes.length<220
 |[],a,_=>⟨Nat.le_refl _,fun d h=>by cases h⟩
 |d::g,a,h=>by
  rw[pw]at h ⊢
  split at h
  ·rename_i hc;rw[if_pos hc];obtain⟨h1,h2⟩:=yb g _ h;have h3:=Df g (rF (a+5+min 220 d.name.size) d.body.nodes);have h4:=yc d.body.nodes (a+5+min 220 d.name.size) (by omega);refine⟨by rw[List.length_cons];omega,fun x hx=>?_⟩;rcases List.mem_cons.1 hx with rfl|hx
   ·omega
   ·exact h2 x hx
  ·omega
theorem I0{g:List Dfn}(h:rq g=false):g.length≤44∧∀d∈g,d.body.nodes.length<220:=by
 have h1:pw 0 g<220:=by
  unfold rq at h;have:=of_decide_eq_false h;omega
 obtain⟨h2,h3⟩:=yb g 0 h1;exact⟨by omega,h3⟩
theorem wF(a b:Nat):(bif leI (a:Int) (b:Int)then(a:Int)else(b:Int))=((min a b:Nat):Int):=by
 rw[dM]
 by_cases h:a≤b
 ·rw[decide_eq_true (by omega),Nat.min_eq_left h];rfl
 ·rw[decide_eq_false (by omega),Nat.min_eq_right (by omega)];rfl
end Go.aa
namespace Go.Km
open Go Go.Vc Go.Proofs Go.aa Go.Proofs.YtpbichnnflabdaaGreatDoor
set_option maxRecDepth 100000
set_option maxHeartbeats 0
end Go.Km
end
section
namespace Go.aa
open Go Go.Sl
end Go.aa
namespace Go.Km
open Go Go.Vc Go.Proofs Go.aa
set_option maxRecDepth 100000
set_option maxHeartbeats 0
end Go.Km
end
section
namespace Go.aa
open Go Go.Sl
end Go.aa
namespace Go.Km
open Go Go.Vc Go.Proofs Go.aa
set_option maxRecDepth 100000
set_option maxHeartbeats 0
end Go.Km
end
section
namespace Go.aa
open Go Go.Sl
end Go.aa
namespace Go.Km
open Go Go.Vc Go.Proofs Go.aa
set_option maxRecDepth 100000
set_option maxHeartbeats 0
end Go.Km
end
section
namespace Go.aa
open Go Go.Km
end Go.aa
namespace Go.Km
open Go Go.Vc Go.Proofs Go.aa Go.Proofs.YtpbichnnflabdaaGreatDoor
set_option maxRecDepth 100000
set_option maxHeartbeats 0
end Go.Km
end
section
namespace Go.aa
open Go Go.Sl
def Fo.wt:Fo→Nat
 |.nil=>0
 |.cons m j r=>1+(if m.kind=4 then j.len else 0)+j.wt+r.wt
def Fo.rns:Fo→List ByteArray
 |.nil=>[]
 |.cons m j r=>(if m.kind=3 then[m.text]else[])++j.rns++r.rns
theorem Fo.kG:∀F G:Fo,(F.app G).wt=F.wt+G.wt
 |.nil,G=>by simp[Fo.app,Fo.wt]
 |.cons m j r,G=>by simp only[Fo.app,Fo.wt,Fo.kG r G];omega
theorem Fo.mz:∀F G:Fo,(F.app G).rns=F.rns++G.rns
 |.nil,G=>by simp[Fo.app,Fo.rns]
 |.cons m j r,G=>by simp only[Fo.app,Fo.rns,Fo.mz r G,List.append_assoc]
theorem Fo.yq:∀F:Fo,F.bq.wt≤F.wt∧F.bq.len≤F.len∧F.bq.size≤F.size∧∀x∈F.bq.rns,x∈F.rns
 |.nil=>⟨Nat.le_refl _,Nat.le_refl _,Nat.le_refl _,fun x h=>h⟩
 |.cons m j r=>by
  obtain⟨h1,h2,h3,h4⟩:=Fo.yq r;unfold Fo.bq
  split
  ·refine⟨by simp only[Fo.wt];omega,by simp only[Fo.len];omega,by simp only[Fo.size];omega,fun x hx=>?_⟩;simp only[Fo.rns,List.mem_append];exact .inr (h4 x hx)
  ·refine⟨by simp only[Fo.wt];omega,by simp only[Fo.len];omega,by simp only[Fo.size];omega,fun x hx=>?_⟩;simp only[Fo.rns,List.mem_append]at hx ⊢;exact hx.imp id (h4 x)
theorem Fo.CN:∀F:Fo,(F.opn 4).wt+(F.opn 4).len≤F.wt+F.len∧(F.opn 4).size≤F.size∧∀x∈(F.opn 4).rns,x∈F.rns
 |.nil=>⟨Nat.le_refl _,Nat.le_refl _,fun x h=>h⟩
 |.cons m j r=>by
  obtain⟨h1,h2,h3⟩:=Fo.CN r;unfold Fo.opn
  split
  ·rename_i hk;refine⟨by simp only[Fo.kG,Fo.dS,Fo.wt,Fo.len,hk,if_true];omega,by simp only[Fo.bZ,Fo.size];omega,fun x hx=>?_⟩;simp only[Fo.mz,Fo.rns,List.mem_append]at hx ⊢;exact hx.imp .inr (h3 x)
  ·refine⟨by simp only[Fo.wt,Fo.len];omega,by simp only[Fo.size];omega,fun x hx=>?_⟩;simp only[Fo.rns,List.mem_append]at hx ⊢;exact hx.imp id (h3 x)
theorem Fo.Cd:∀F:Fo,(F.opn 5).wt≤F.wt∧(F.opn 5).size≤F.size∧∀x∈(F.opn 5).rns,x∈F.rns
 |.nil=>⟨Nat.le_refl _,Nat.le_refl _,fun x h=>h⟩
 |.cons m j r=>by
  obtain⟨h1,h2,h3⟩:=Fo.Cd r;unfold Fo.opn
  split
  ·refine⟨by simp only[Fo.kG,Fo.wt];omega,by simp only[Fo.bZ,Fo.size];omega,fun x hx=>?_⟩;simp only[Fo.mz,Fo.rns,List.mem_append]at hx ⊢;exact hx.imp .inr (h3 x)
  ·refine⟨by simp only[Fo.wt];omega,by simp only[Fo.size];omega,fun x hx=>?_⟩;simp only[Fo.rns,List.mem_append]at hx ⊢;exact hx.imp id (h3 x)
theorem Fo.CH(m e:Nod)(he:e.kind≠3∧e.kind≠4)(hm:m.kind≠3)(P:Fo):(Fo.join m e P).len=1∧(Fo.join m e P).wt≤1+(if m.kind=4 then P.len else 0)+P.wt∧(Fo.join m e P).size≤1+P.size∧∀x∈(Fo.join m e P).rns,x∈P.rns:=by
 match P with
 |.nil=>simp[Fo.join,Fo.len,Fo.wt,Fo.size,Fo.rns,he.1,he.2]
 |.cons a b .nil=>
  refine⟨by simp[Fo.join,Fo.len],by simp only[Fo.join,Fo.wt,Fo.len];omega,by simp only[Fo.join,Fo.size];omega,fun x hx=>by simpa [Fo.join]using hx⟩
 |.cons a b (.cons c d r)=>
  refine⟨by simp[Fo.join,Fo.len],by simp only[Fo.join,Fo.wt,Fo.len];omega,by simp only[Fo.join,Fo.size];omega,fun x hx=>?_⟩;simp only[Fo.join,Fo.rns,hm,if_false,List.nil_append,List.append_nil]at hx ⊢;exact hx
theorem Fo.FH(m:Nod)(K:Fo):(Fo.put m K).len=1∧(Fo.put m K).wt≤1+(if m.kind=4 then K.len else 0)+K.wt∧(Fo.put m K).size≤1+K.size∧∀x∈(Fo.put m K).rns,x∈(Fo.cons m K .nil).rns:=by
 unfold Fo.put
 split
 ·rename_i hk;obtain⟨h1,h2,h3,h4⟩:=Fo.yq K;obtain⟨g1,g2,g3⟩:=Fo.CN K.bq;obtain⟨j1,j2,j3,j4⟩:=Fo.CH m dN (by decide) (by omega) (K.bq.opn 4);rw[if_pos hk]at j2;refine⟨j1,by omega,by omega,fun x hx=>?_⟩;simp only[Fo.rns,List.mem_append];exact .inl (.inr (h4 x (g3 x (j4 x hx))))
 split
 ·rename_i hk4 hk;obtain⟨g1,g2,g3⟩:=Fo.Cd K;obtain⟨j1,j2,j3,j4⟩:=Fo.CH m iA (by decide) (by omega) (K.opn 5);rw[if_neg hk4]at j2;refine⟨j1,by omega,by omega,fun x hx=>?_⟩;simp only[Fo.rns,List.mem_append];exact .inl (.inr (g3 x (j4 x hx)))
 ·rename_i hk4 _;refine⟨by simp[Fo.len],by simp only[Fo.wt,hk4,if_false];omega,by simp only[Fo.size];omega,fun x hx=>hx⟩
theorem Fo.sr:∀F:Fo,F.norm.len=F.len∧F.norm.wt≤F.wt∧F.norm.size≤F.size∧∀x∈F.norm.rns,x∈F.rns
 |.nil=>⟨rfl,Nat.le_refl _,Nat.le_refl _,fun x h=>h⟩
 |.cons m j r=>by
  obtain⟨h1,h2,h3,h4⟩:=Fo.sr j;obtain⟨g1,g2,g3,g4⟩:=Fo.sr r;obtain⟨p1,p2,p3,p4⟩:=Fo.FH m j.norm;unfold Fo.norm;rw[h1]at p2;refine⟨by rw[Fo.dS,p1,g1];simp only[Fo.len];omega,by rw[Fo.kG];simp only[Fo.wt];omega,by rw[Fo.bZ];simp only[Fo.size];omega,fun x hx=>?_⟩;rw[Fo.mz,List.mem_append]at hx;simp only[Fo.rns,List.mem_append];rcases hx with hx|hx
  ·have:=p4 x hx;simp only[Fo.rns,List.mem_append,List.append_nil]at this;rcases this with h|h
   ·exact .inl (.inl h)
   ·exact .inl (.inr (h4 x h))
  ·exact .inr (g4 x hx)
theorem tj(ns:List Nod)(hf:0<ns.length)(G:Fo):∀(l:List Int) (p:Nat) (x:Int),l[p]?=some x→∃l1 l2:List Int,aA ns ns.length l=(aA ns ns.length l1).app ((aA ns ns.length [x]).app (aA ns ns.length l2))∧Fo.setAt p G (aA ns ns.length l)=(aA ns ns.length l1).app (G.app (aA ns ns.length l2))
 |[],p,x,h=>by simp at h
 |y::l,0,x,h=>by
  simp at h;subst h;refine⟨[],l,?_,?_⟩
  ·rw[ay,aM y l hf];rfl
  ·rw[ay,aM y l hf];obtain⟨n,hn⟩:∃n,ns.length=n+1:=⟨ns.length-1,by omega⟩
   rw[hn];simp only[aK,ay,Fo.app,Fo.setAt]
 |y::l,p+1,x,h=>by
  obtain⟨l1,l2,h1,h2⟩:=tj ns hf G l p x (by simpa using h);refine⟨y::l1,l2,?_,?_⟩
  ·rw[aM y l hf,aM y l1 hf,h1,Fo.AF]
  ·obtain⟨n,hn⟩:∃n,ns.length=n+1:=⟨ns.length-1,by omega⟩
   have e:∀F:Fo,(aA ns ns.length [y]).app F=.cons (dat ns y) (aA ns n (ae ns y)) F:=fun F=>by
    rw[hn];simp only[aK,ay,Fo.app]
   rw[aM y l hf,aM y l1 hf,e,e,Fo.setAt,h2];rfl
theorem A8{ns:List Nod}(hc:bD (ae ns))(X:Fo)(hX:X.len=1):∀(path:List Int) (k:Int) (row:List (Int×Int)) (e:Int),0≤k→k<ns.length→bz ns k path=some (row,e)→
  (upF ns row X).len=1∧(upF ns row X).wt+(aA ns ns.length [e]).wt=(aA ns ns.length [k]).wt+X.wt∧(upF ns row X).size+(aA ns ns.length [e]).size=(aA ns ns.length [k]).size+X.size∧∀x∈(upF ns row X).rns,x∈(aA ns ns.length [k]).rns∨x∈X.rns
 |[],k,row,e,h0,h1,h=>by
  simp only[bz,Option.some.injEq,Prod.mk.injEq]at h;obtain⟨rfl,rfl⟩:=h;exact⟨hX,Nat.add_comm _ _,Nat.add_comm _ _,fun x hx=>.inr hx⟩
 |p::ps,k,row,e,h0,h1,h=>by
  rw[bz]at h
  split at h
  ·cases h
  rename_i hp
  split at h
  ·rename_i x hx
   split at h
   ·rename_i l e' hd;simp only[Option.some.injEq,Prod.mk.injEq]at h;obtain⟨rfl,rfl⟩:=h;have hxk:=hc k x (List.mem_of_getElem? hx);obtain⟨g1,g2,g3,g4⟩:=A8 hc X hX ps x l e' hxk.1 (by omega) hd;obtain⟨l1,l2,s1,s2⟩:=tj ns (by omega) (upF ns l X) (ae ns k) p.toNat x hx;have hup:upF ns ((k,p)::l) X=.cons (dat ns k) (Fo.setAt p.toNat (upF ns l X) (aA ns ns.length (ae ns k))) .nil:=rfl;have hxl:(aA ns ns.length [x]).len=1:=by rw[bT hc hxk.1 (by omega)];rfl
    rw[hup,bT hc h0 h1,s2,s1];refine⟨rfl,?_,?_,fun y hy=>?_⟩
    ·simp only[Fo.wt,Fo.kG,Fo.dS,g1,hxl];omega
    ·simp only[Fo.size,Fo.bZ];omega
    ·simp only[Fo.rns,Fo.mz,List.mem_append,List.not_mem_nil,or_false]at hy ⊢;rcases hy with hy|hy|hy|hy
     ·exact .inl (.inl hy)
     ·exact .inl (.inr (.inl hy))
     ·rcases g4 y hy with h|h
      ·exact .inl (.inr (.inr (.inl h)))
      ·exact .inr h
     ·exact .inl (.inr (.inr (.inr hy)))
   ·cases h
  ·cases h
def wN(ns:List Nod)(x:Int):Nat:=1+(if(dat ns x).kind=4 then(ae ns x).length else 0)
theorem qH(ns:List Nod)(f:Nat):∀l:List Int,(aA ns (f+1) l).len=l.length
 |[]=>by rw[ay];rfl
 |k::l=>by rw[aK,Fo.len,qH ns f l,List.length_cons]
theorem BM{ns:List Nod}(hc:bD (ae ns)):∀(f:Nat) (l:List Int),(∀k∈l,0≤k∧k<f)→(aA ns f l).wt=((dfs (ae ns) f l).map (wN ns)).sum
 |0,l,h=>by
  cases l with
  |nil=>rfl
  |cons k l=>have:=h k (by simp);omega
 |f+1,[],h=>by rw[ay];rfl
 |f+1,k::l,h=>by
  have hk:=h k (by simp);have h1:=BM hc f (ae ns k) (fun x hx=>by have:=hc k x hx;omega);have h2:=BM hc (f+1) l (fun x hx=>h x (by simp[hx]));have hl:(aA ns f (ae ns k)).len=(ae ns k).length:=by
   cases f with
   |zero=>
    cases e:ae ns k with
    |nil=>rfl
    |cons y m=>have:=hc k y (by rw[e];simp);omega
   |succ f=>exact qH ns f _
  rw[aK,Fo.wt,h1,h2,hl];have hd:dfs (ae ns) (f+1) (k::l)=k::(dfs (ae ns) f (ae ns k)++dfs (ae ns) (f+1) l):=by simp[dfs]
  rw[hd,List.map_cons,List.map_append,List.sum_cons,List.sum_append];unfold wN;omega
theorem HN{ch:Int→List Int}(f:Nat)(k:Int)(l:List Int):dfs ch (f+1) (k::l)=k::(dfs ch f (ch k)++dfs ch (f+1) l):=by simp[dfs]
theorem lI{ns:List Nod}(x:ByteArray):∀(f:Nat) (l:List Int),x∈(aA ns f l).rns↔∃k∈dfs (ae ns) f l,(dat ns k).kind=3∧(dat ns k).text=x
 |0,l=>by simp[aA,Fo.rns,dfs]
 |f+1,[]=>by rw[ay];simp[Fo.rns,dfs]
 |f+1,k::l=>by
  rw[aK,HN];simp only[Fo.rns,List.mem_append,lI x f (ae ns k),lI x (f+1) l,List.mem_cons]
  constructor
  ·rintro((h|⟨y,h1,h2⟩)|⟨y,h1,h2⟩)
   ·split at h
    ·rename_i hk;simp at h;exact⟨k,.inl rfl,hk,h.symm⟩
    ·cases h
   ·exact⟨y,.inr (.inl h1),h2⟩
   ·exact⟨y,.inr (.inr h1),h2⟩
  ·rintro⟨y,rfl|h1|h1,h2,h3⟩
   ·exact .inl (.inl (by rw[if_pos h2];simp[h3]))
   ·exact .inl (.inr ⟨y,h1,h2,h3⟩)
   ·exact .inr ⟨y,h1,h2,h3⟩
theorem HK{t:Tre}(h:av t):(uN t).Perm ((List.range t.nodes.length).map Int.ofNat):=by
 have hr:=kM h;refine(List.perm_ext_iff_of_nodup hr.nodup (List.Pairwise.map _ (fun a b (h:a≠b)=>fun e=>h (Int.ofNat.inj e)) List.nodup_range)).2 fun x=>?_
 rw[hr.mem];simp only[List.mem_map,List.mem_range]
 constructor
 ·intro hx;exact⟨x.toNat,by omega,by show((x.toNat:Nat):Int)=x;omega⟩
 ·rintro⟨i,hi,rfl⟩
  show(0:Int)≤(i:Int)∧(i:Int)<_
  omega
theorem Jx{t:Tre}(h:av t):(foT t).wt=((List.range t.nodes.length).map fun(i:Nat)=>wN t.nodes (i:Int)).sum:=by
 rw[foT,BM h.kok.ae _ _ (fun k hk=>by simp at hk;subst hk;exact h.root)];have:=((HK h).map (wN t.nodes)).sum_nat;rw[show dfs (ae t.nodes) t.nodes.length [t.root]=uN t from rfl,this,List.map_map];rfl
theorem tT{t:Tre}(h:av t)(x:ByteArray):x∈(foT t).rns↔∃n∈t.nodes,n.kind=3∧n.text=x:=by
 rw[foT,lI,show dfs (ae t.nodes) t.nodes.length [t.root]=uN t from rfl]
 constructor
 ·rintro⟨k,hk,h1,h2⟩
  have:=((kM h).mem k).1 hk;obtain⟨i,rfl⟩:∃i:Nat,k=(i:Int):=⟨k.toNat,by omega⟩
  have hi:i<t.nodes.length:=by omega
  have e:dat t.nodes (i:Int)={ t.nodes[i]with kids:=[] }:=by
   unfold dat;rw[Int.toNat_natCast,List.getD_eq_getElem?_getD,List.getElem?_eq_getElem hi];rfl
  rw[e]at h1 h2;exact⟨_,List.getElem_mem hi,h1,h2⟩
 ·rintro⟨n,hn,h1,h2⟩
  obtain⟨i,hi,rfl⟩:=List.getElem_of_mem hn;have e:dat t.nodes (i:Int)={ t.nodes[i]with kids:=[] }:=by
   unfold dat;rw[Int.toNat_natCast,List.getD_eq_getElem?_getD,List.getElem?_eq_getElem hi];rfl
  exact⟨(i:Int),((kM h).mem _).2 (by omega),by rw[e];exact h1,by rw[e];exact h2⟩
theorem Hj{t:Tre}(hR:av t){X:Fo}(hX:X.fb)(hl:X.len=1):∀(path:List Int) (k:Int) (row:List (Int×Int)) (e:Int),0≤k→k<t.nodes.length→bz t.nodes k path=some (row,e)→(upF t.nodes row X).fb
 |[],k,row,e,h0,h1,h=>by
  simp only[bz,Option.some.injEq,Prod.mk.injEq]at h;obtain⟨rfl,rfl⟩:=h;exact hX
 |p::ps,k,row,e,h0,h1,h=>by
  have hc:=hR.kok.ae;rw[bz]at h
  split at h
  ·cases h
  split at h
  ·rename_i x hx
   split at h
   ·rename_i l e' hd;simp only[Option.some.injEq,Prod.mk.injEq]at h;obtain⟨rfl,rfl⟩:=h;have hxk:=hc k x (List.mem_of_getElem? hx);have ih:=Hj hR hX hl ps x l e' hxk.1 (by omega) hd;have hlen:=(A8 hc X hl ps x l e' hxk.1 (by omega) hd).1;obtain⟨l1,l2,s1,s2⟩:=tj t.nodes (by omega) (upF t.nodes l X) (ae t.nodes k) p.toNat x hx;have hup:upF t.nodes ((k,p)::l) X=.cons (dat t.nodes k) (Fo.setAt p.toNat (upF t.nodes l X) (aA t.nodes t.nodes.length (ae t.nodes k))) .nil:=rfl;have hk:(aA t.nodes t.nodes.length [k]).fb:=⟨kH hR _ _ (fun y hy=>by simp at hy;subst hy;exact⟨h0,h1⟩) (Nat.le_refl _),gG _ _ _⟩
    have hxl:(aA t.nodes t.nodes.length [x]).len=1:=by rw[bT hc hxk.1 (by omega)];rfl
    rw[bT hc h0 h1,s1,Fo.bI]at hk;obtain⟨⟨g1,g2,g3⟩,g4⟩:=hk;rw[Fo.m5,Fo.m5]at g3;rw[hup,s2,Fo.bI,Fo.m5,Fo.m5];refine⟨⟨?_,g2,g3.1,ih,g3.2.2⟩,Fo.nu⟩;rw[Fo.dS,Fo.dS,hlen];rw[Fo.dS,Fo.dS,hxl]at g1;exact g1
   ·cases h
  ·cases h
theorem JR{t x:Tre}{p:List Int}(hx:au x=true)(h:(cw t p x).2=true):av (cw t p x).1∧(foT (cw t p x).1).wt+(foT (dh t p).1).wt≤(foT t).wt+(foT x).wt∧(foT (cw t p x).1).size+(foT (dh t p).1).size≤(foT t).size+(foT x).size∧
  ∀y∈(foT (cw t p x).1).rns,y∈(foT t).rns∨y∈(foT x).rns:=by
 unfold cw at h ⊢
 split at h
 ·rename_i hr;rw[if_pos hr];rw[Bool.and_eq_true]at hr;have hR:=ao hr.1;have hc:=hR.kok.ae
  split at h
  ·rename_i row e hd;obtain⟨hfx,hlx⟩:=qJ hx;obtain⟨g1,g2,g3,g4⟩:=A8 hc (foT x) hlx p t.root row e hR.root.1 hR.root.2 hd;have hfb:=Hj hR hfx hlx p t.root row e hR.root.1 hR.root.2 hd;obtain⟨n1,n2,n3,n4⟩:=Fo.sr (upF t.nodes row (foT x));have hnf:=Fo.pq hfb;have hft:=kP (n1.trans g1) hnf.2;obtain⟨_,e1,e2,_⟩:=fW hc p t.root hR.root.1 hR.root.2 row e hd;have hpat:(dh t p).1=aD t e:=by
    unfold dh;rw[if_pos hr.1,hd]
   have hfe:foT (aD t e)=aA t.nodes t.nodes.length [e]:=by
    rw[iU hR e1 e2];exact kP (by rw[bT hc e1 e2];rfl) (gG _ _ _)
   rw[hpat,hfe,hft];refine⟨?_,?_,?_,fun y hy=>?_⟩
   ·exact ao (s9 (n1.trans g1) hnf.1)
   ·show _≤(aA t.nodes t.nodes.length [t.root]).wt+_
    omega
   ·show _≤(aA t.nodes t.nodes.length [t.root]).size+_
    omega
   ·exact g4 y (n4 y hy)
  ·cases h
 ·cases h
end Go.aa
end
section
namespace Go.aa
open Go Go.Sl Go.Km
structure Ls(x t:Tre)(d:Nat):Prop where
 right:au x=true
 wt:(foT x).wt+d≤(foT t).wt
 size:(foT x).size≤(foT t).size
 rns:∀y∈(foT x).rns,y∈(foT t).rns
theorem nb{t:Tre}(h:au t=true):foT t=.cons (mP t) (foL (aN t)) .nil∧(∀x∈aN t,au x=true)∧fits (mP t) (aN t).length=true:=by
 obtain⟨F,h1,h2,h3,h4,h5⟩:=EB h;obtain⟨h6,h7⟩:=kX h2.1 h2.2;rw[h5,h7];exact⟨h1,h6,by rw[Fo.jm];exact h4⟩
theorem Ck{t:Tre}(h:au t=true):(foT t).wt=1+(if(mP t).kind=4 then(aN t).length else 0)+(foL (aN t)).wt∧(foT t).size=1+(foL (aN t)).size∧∀y∈(foL (aN t)).rns,y∈(foT t).rns:=by
 obtain⟨h1,h2,h3⟩:=nb h;rw[h1];refine⟨?_,?_,fun y hy=>?_⟩
 ·simp only[Fo.wt,(w8 h2).2];omega
 ·simp only[Fo.size];omega
 ·simp only[Fo.rns,List.mem_append];exact .inl (.inr hy)
theorem GC{t:Tre}(h:au t=true):1≤(foT t).wt∧1≤(foT t).size:=by
 obtain⟨h1,h2,_⟩:=Ck h;omega
theorem J3{n:Nod}{l:List Tre}(hb:n.kids=[])(h3:n.kind≠3)(h:(dZ n l).2=true):au (dZ n l).1=true∧(foT (dZ n l).1).wt≤1+(if n.kind=4 then l.length else 0)+(foL l).wt∧(foT (dZ n l).1).size≤1+(foL l).size∧∀y∈(foT (dZ n l).1).rns,y∈(foL l).rns:=by
 rw[JQ,Bool.and_eq_true]at h;have hnt:=JN hb h.1 h.2;have hl:=(w8 (gZ.1 h.2)).2;obtain⟨n1,n2,n3,n4⟩:=Fo.sr (foL l);obtain⟨p1,p2,p3,p4⟩:=Fo.FH n (foL l).norm;rw[hnt.fo];rw[n1,hl]at p2;refine⟨by rw[hnt.eq];exact s9 hnt.len hnt.fb.1,by omega,by omega,fun y hy=>?_⟩;have:=p4 y hy;simp only[Fo.rns,h3,if_false,List.nil_append,List.append_nil]at this;exact n4 y this
end Go.aa
end
section
namespace Go.Km
open Go Go.RowKit Go.Vc
open Go.Sl hiding lk
theorem cT.pure{P:Program}{Γ:Nat→Option (List F)}{η:Env}{f:FuncId}{l:List D}{fl:List F}{is:List Nat}{r:F}{fr:Bool}(hm:cB (D.toF η 6) l=some (fl,is))(h:Pure P Γ f fl r fr):cT P Γ η f l r.toD is (aU η is):=by
 refine⟨fun η' hη' W c O w vs g1 g2 g3 g4=>?_⟩;have hm':cB (D.toF η' 6) l=some (fl,is):=ft (fun d x is' h3 h4=>fG 6 d x is' h3 (fun b' hb'=>hη' b' (h4 b' hb'))) hm;have hg:=dd (η:=η) (η':=η') is hη';exact(rJ.mM (k:=Is3 r.toD is (aU η is)) hm' h ⟨rfl,rfl,hg⟩).go W c O w vs g1 g2 g3 g4
theorem mj{P:Program}{Γ:Nat→Option (List F)}{t f:Nat}{η:Env}{l:List D}{k:Kr Prop}{fl fl':List F}{is:List Nat}{r:F}{b:Bool}{pre:Prop}(h:KC P Γ f fl' r b pre)(hm:cB (D.toF η 6) l=some (fl,is))(e:fl=fl')(hp:pre)(hk:k r.toD is (aU η is)):dg P Γ t η f l k:=by
 subst e;exact dg.i (cT.pure hm (h.h hp)) hk
end Go.Km
end
section
namespace Go.aa
open Go Go.Sl
def dB(ch:Int→List Int):Nat→Int→List Int→List (List Int)
 |0,_,_=>[]
 |n+1,k,p=>p::((ch k).zipIdx.flatMap fun x=>dB ch n x.1 (p++[(x.2:Int)]))
theorem lz{α β:Type}{l:List α}{f g:α→List β}(h:∀a∈l,f a=g a):l.flatMap f=l.flatMap g:=by
 rw[List.flatMap_def,List.flatMap_def,List.map_congr_left h]
theorem jD{ch:Int→List Int}(hc:bD ch):∀(n m:Nat) (k:Int) (p:List Int),0≤k→k<n→k<m→dB ch n k p=dB ch m k p
 |0,m,k,p,h0,h1,h2=>by omega
 |n+1,0,k,p,h0,h1,h2=>by omega
 |n+1,m+1,k,p,h0,h1,h2=>by
  simp only[dB]
  congr 1
  refine lz fun x hx=>?_;have:=hc k x.1 (List.fst_mem_of_mem_zipIdx hx);exact jD hc n m x.1 _ (by omega) (by omega) (by omega)
theorem Fx{β:Type}(f:Int×Nat→List β)(l:List Int):l.zipIdx.flatMap f=(List.range l.length).flatMap fun i=>match l[i]? with|some x=>f (x,i)|none=>[]:=by
 have h:l.zipIdx=(List.range l.length).map fun i=>(l.getD i 0,i):=by
  refine List.ext_getElem (by simp) fun i h1 h2=>?_;simp at h1 h2;simp[List.getD_eq_getElem?_getD,List.getElem?_eq_getElem h1]
 rw[h,List.flatMap_map];refine lz fun i hi=>?_
 have hi:=List.mem_range.1 hi;simp[List.getD_eq_getElem?_getD,List.getElem?_eq_getElem hi]
abbrev ug(ch:Int→List Int)(k:Int)(p:List Int):List (List Int):=dB ch (k.toNat+1) k p
def kK(ch:Int→List Int)(k:Int)(p:List Int)(i:Nat):List (List Int):=match(ch k)[i]? with
 |some x=>ug ch x (p++[(i:Int)])
 |none=>[]
def sJ(ch:Int→List Int)(k:Int)(p:List Int)(i:Nat):Nat:=1+((List.range i).flatMap (kK ch k p)).length
theorem sf{ch:Int→List Int}(hc:bD ch){k:Int}(h0:0≤k)(p:List Int):ug ch k p=p::(List.range (ch k).length).flatMap (kK ch k p):=by
 show p::((ch k).zipIdx.flatMap fun x=>dB ch k.toNat x.1 (p++[(x.2:Int)]))=_
 rw[Fx]
 congr 1
 refine lz fun i hi=>?_;have hi:=List.mem_range.1 hi;unfold kK;rw[List.getElem?_eq_getElem hi];have:=hc k _ (List.getElem_mem hi);exact jD hc _ _ _ _ (by omega) (by omega) (by omega)
theorem DX(ch:Int→List Int)(k:Int)(p:List Int)(i:Nat):sJ ch k p (i+1)=sJ ch k p i+(kK ch k p i).length:=by
 unfold sJ;rw[List.range_succ,List.flatMap_append,List.length_append];simp;omega
theorem Ic{ch:Int→List Int}(hc:bD ch){k:Int}(h0:0≤k)(p:List Int):(ug ch k p).length=sJ ch k p (ch k).length:=by
 rw[sf hc h0,sJ,List.length_cons];omega
theorem Fv{ch:Int→List Int}(hc:bD ch){k:Int}(h0:0≤k)(p:List Int){i j:Nat}(hi:i<(ch k).length)(hj:j<(kK ch k p i).length) :
  (ug ch k p).getD (sJ ch k p i+j) []=(kK ch k p i).getD j []∧sJ ch k p i+j<(ug ch k p).length:=by
 have hs:(List.range (ch k).length).flatMap (kK ch k p)=(List.range i).flatMap (kK ch k p)++(kK ch k p i++(List.range' (i+1) ((ch k).length-(i+1))).flatMap (kK ch k p)):=by
  have:List.range (ch k).length=List.range i++(i::List.range' (i+1) ((ch k).length-(i+1))):=by
   have h:=List.range'_append_1 (s:=0) (m:=i) (n:=(ch k).length-(i+1)+1);rw[Nat.zero_add]at h;rw[List.range_eq_range',List.range_eq_range',←List.range'_succ,h]
   congr 1
   omega
  rw[this,List.flatMap_append,List.flatMap_cons]
 refine⟨?_,?_⟩
 ·rw[sf hc h0,hs,sJ,List.getD_eq_getElem?_getD,List.getD_eq_getElem?_getD,show 1+((List.range i).flatMap (kK ch k p)).length+j=(((List.range i).flatMap (kK ch k p)).length+j)+1 by omega,List.getElem?_cons_succ,
   List.getElem?_append_right (by omega),Nat.add_sub_cancel_left,List.getElem?_append_left hj]
 ·rw[sf hc h0,hs,sJ];simp only[List.length_cons,List.length_append];omega
theorem qS{ch:Int→List Int}:∀(n:Nat) (k:Int) (p q:List Int),q∈dB ch n k p→∃r,q=p++r
 |0,k,p,q,h=>by cases h
 |n+1,k,p,q,h=>by
  simp only[dB,List.mem_cons,List.mem_flatMap]at h;rcases h with rfl|⟨x,hx,h⟩
  ·exact⟨[],by simp⟩
  ·obtain⟨r,rfl⟩:=qS n _ _ q h;exact⟨(x.2:Int)::r,by simp⟩
theorem rk{ch:Int→List Int}:∀(n:Nat) (k:Int) (p q:List Int),q∈dB ch n k p→q.length≤p.length+n
 |0,k,p,q,h=>by cases h
 |n+1,k,p,q,h=>by
  simp only[dB,List.mem_cons,List.mem_flatMap]at h;rcases h with rfl|⟨x,hx,h⟩
  ·omega
  ·have:=rk n _ _ q h;rw[List.length_append,List.length_singleton]at this;omega
theorem re{ns:List Nod}(hc:bD (ae ns)):∀(n:Nat) (k:Int) (p q:List Int),0≤k→k<n→((p++q)∈dB (ae ns) n k p↔(bz ns k q).isSome=true)
 |0,k,p,q,h0,h1=>by omega
 |n+1,k,p,q,h0,h1=>by
  simp only[dB,List.mem_cons,List.mem_flatMap]
  cases q with
  |nil=>simp[bz]
  |cons a q=>
   have hne:¬p++a::q=p:=by simp
   simp only[hne,false_or];have hin:∀(x:Int) (i:Nat),x∈ae ns k→((p++(i:Int)::q)∈dB (ae ns) n x (p++[(i:Int)])↔(bz ns x q).isSome=true):=fun x i hx=>by
    have:=hc k x hx;have h:=re hc n x (p++[(i:Int)]) q (by omega) (by omega)
    rwa [List.append_assoc]at h
   constructor
   ·rintro⟨⟨x,i⟩,hx,hq⟩
    have hxi:=List.mem_zipIdx' hx;obtain⟨r,hr⟩:=qS n _ _ _ hq;rw[List.append_assoc,List.append_cancel_left_eq]at hr;simp only[List.cons_append,List.nil_append,List.cons.injEq]at hr;obtain⟨rfl,rfl⟩:=hr;have hm:x∈ae ns k:=List.fst_mem_of_mem_zipIdx hx;have h2:=(hin x i hm).1 hq;have hg:(ae ns k)[i]?=some x:=by
     rw[List.getElem?_eq_getElem hxi.1,←hxi.2]
    rw[bz,if_neg (by omega),Int.toNat_natCast,hg];simp only
    cases hd:bz ns x q with
    |none=>rw[hd]at h2;cases h2
    |some y=>obtain⟨l,e⟩:=y;rfl
   ·intro h;rw[bz]at h
    split at h
    ·cases h
    ·rename_i h3
     cases hg:(ae ns k)[a.toNat]? with
     |none=>rw[hg]at h;cases h
     |some x=>
      rw[hg]at h;simp only at h;have hm:x∈ae ns k:=List.mem_of_getElem? hg;have ha:((a.toNat:Nat):Int)=a:=by omega
      refine⟨(x,a.toNat),List.mk_mem_zipIdx_iff_getElem?.2 hg,?_⟩;have h2:=(hin x a.toNat hm).2 (by
       cases hd:bz ns x q with
       |none=>rw[hd]at h;cases h
       |some y=>rfl)
      simp only[ha]at h2 ⊢;exact h2
def zX(t:Tre):List (List Int):=dB (ae t.nodes) t.nodes.length t.root []
theorem zw{t:Tre}(h:av t)(q:List Int):q∈zX t↔(dh t q).2=true:=by
 have:=re h.kok.ae t.nodes.length t.root [] q h.root.1 h.root.2;rw[List.nil_append]at this;rw[zX,this,dh,if_pos h.right]
 cases hd:bz t.nodes t.root q with
 |none=>simp
 |some x=>obtain⟨l,k⟩:=x;simp
structure Sto where
 pass:Int
 way:Int
 r:Int
 p:List Int
 at_:Int
end Go.aa
end
section
namespace Go.Km
open Go Go.Vc Go.Proofs Go.aa Go.Proofs.YtpbichnnflabdaaGreatDoor
set_option maxRecDepth 100000
set_option maxHeartbeats 0
abbrev H8(t:Tre)(k:Int)(p:List Int):List F:=[.pt 1 [[isF p]] 0 0,.pt 2 [[.sl (t.nodes.map a8),inF t.root]] 0 0,.pt 1 [[inF k]] 0 0]
instance(t:Tre)(k:Int)(p:List Int):C 112 [aE t,inF k,isF p] (.cl 138 (H8 t k p)) false True:=⟨fun _=>by
 refine kf rfl rfl ?_;repeat' first|exact k9|refine k2 ?_|apply kA|apply kI;intro hc|(apply Sn.go hX;conv=>whnf)|refine k8 ?_|apply kL;intro hl
 exact aq.i rfl⟩
theorem oy(t:Tre)(ht:t.wf)(hR:av t):∀(N:Nat) (k:Int) (p:List Int),0≤k→k<N→k<t.nodes.length→p.length+N≤1000000→
  Cy Tryz.prog X1.Γ 138 ((H8 t k p).map F.toD) (ug (ae t.nodes) k p).length (fun i=>[isF ((ug (ae t.nodes) k p).getD i [])].map D.fr)
 |0,k,p,h0,h1,h2,h3=>by omega
 |N+1,k,p,h0,h1,h2,h3=>by
  have hX:=rm [] [112];refine DS hX rfl rfl ?_;intro A hA vs;obtain⟨q,rfl⟩:∃q:Nat,k=(q:Int):=⟨k.toNat,by omega⟩
  have hq:q<t.nodes.length:=by omega
  obtain⟨n,hn⟩:=exEq (t.nodes[q]);have hget:t.nodes[q]?=some n:=by rw[hn];exact List.getElem?_eq_getElem hq
  have hc:=hR.kok.ae;have hkl:n.kids.length≤17592186044416:=(ht.nodes n (by rw[hn];exact List.getElem_mem hq)).kids.1;obtain⟨ks,hks⟩:=exEq (t.nodes[q].kids);have hck:ae t.nodes (q:Int)=ks:=by rw[hks,←hn];exact(aF hget).symm
  have hkl2:ks.length≤17592186044416:=by rw[hks,←hn];exact hkl
  have hkk:∀x∈ks,0≤x∧x<(q:Int):=fun x hx=>hc q x (by rw[hck];exact hx)
  have hlen:=Ic hc h0 p;have hget2:∀{i j:Nat},i<ks.length→j<(kK (ae t.nodes) q p i).length→_:=fun {i j} hi hj=>Fv hc h0 p (i:=i) (j:=j) (by rw[hck];exact hi) hj
  have hsub:∀(i:Nat) (hi:i<ks.length),kK (ae t.nodes) q p i=ug (ae t.nodes) ks[i] (p++[(i:Int)]):=fun i hi=>by rw[kK,hck,List.getElem?_eq_getElem hi]
  have hsucc:=DX (ae t.nodes) q p;have ho0:sJ (ae t.nodes) q p 0=1:=rfl;rw[hck]at hlen;have hA0:∀(η:Env) b v,η b=some (.ab v (A 0))→xO Tryz.prog X1.Γ η b v [D.fr (isF p)] (Bo true) [b] [(b,.ab v (A 1))]:=fun η b v h=>hA 0 (by show 0<(p::_:List (List Int)).length;simp) η b v h
  obtain⟨off,hoff⟩:=exEq (sJ (ae t.nodes) q p);rw[←hoff]at hsucc hlen ho0;apply Sn.go hX;repeat' first|exact k9|refine k2 ?_|apply kA|apply kI;intro hc|(apply Sn.go hX;conv=>whnf)|((refine u6.i (hA0 _ 0 0 rfl) ?_)<;>conv=>whnf)|refine k8 ?_|apply kL;intro hl
  refine Stp.FO (by rfl) ?_;apply kCt [1,2,4,17,18,19] [];conv=>whnf
  rw[←hks];refine Lp.ind (fun x:Nat=>ks.length-x) (fun x=>x≤ks.length) (fun x=>[(19,InD x)]) (fun x=>[(1,.ab 0 (A (off x)))]) (fun _=>_) 0 (Nat.zero_le _) rfl rfl (by rw[ho0];rfl) ?_
  rintro G x ih hx
  by_cases hxl:x<ks.length
  ·have hki:=hkk _ (List.getElem_mem hxl);have happ:List.drop 0 (List.take (List.map ikF p).length (List.map ikF p))++[[(F.vl (Value.int IntKind.i64 (x:Int))).nz]]=List.map ikF (p++[(x:Int)]):=by rw[List.drop_zero,List.take_length,List.map_append];rfl
   have hkc:KC Tryz.prog X1.Γ 112 [aE t,inF ks[x],isF (p++[(x:Int)])] (.cl 138 (H8 t ks[x] (p++[(x:Int)]))) false True:=inferInstance;have hlx:pA 1 (List.drop 0 (List.take (List.map ikF p).length (List.map ikF p)))=true:=by simp only[List.drop_zero,List.take_length];exact tv p
   have hsx:=hsub x hxl;have ihx:=oy t ht hR N ks[x] (p++[(x:Int)]) hki.1 (by omega) (by omega) (by rw[List.length_append,List.length_singleton];omega);rw[←hsx]at ihx;obtain⟨sb,hsb⟩:=exEq (kK (ae t.nodes) q p x);have hs1:=hsucc x;rw[←hsb]at ihx hs1;have hAj:∀j,j<sb.length→∀(η:Env) b v,η b=some (.ab v (A (off x+j)))→xO Tryz.prog X1.Γ η b v [D.fr (isF (sb.getD j []))] (Bo true) [b] [(b,.ab v (A (off x+(j+1))))]:=fun j hj η b v h=>by
    obtain⟨e1,e2⟩:=hget2 (i:=x) (j:=j) hxl (by rw[←hsb];exact hj);rw[←hoff]at e1 e2;rw[←hsb]at e1;have:=hA (off x+j) e2 η b v h;rw[e1]at this;exact this
   apply Sn.go hX;repeat' first|exact k9|refine k2 ?_|apply kA|apply kI;intro hc|(apply Sn.go hX;conv=>whnf)|(((refine mj hkc rfl (congrArg (fun z=>[aE t,inF ks[x],F.sl z]) happ) trivial ?_))<;>conv=>whnf)|refine k8 ?_|apply kL;intro hl
   refine dg.i (vY (b0:=53) (v0:=0) (bs:=[52,0,1]) (kc:=[4]) (m:=4) (nx:=5) (x:=[.ptr 0 0 0,.yl 1 0]) (x0:=[.ptr 1 0 0,.ptr 2 0 0,.yl 3 0]) (T:=fun j=>[(1,.df 0),(2,.va 0 181 [.yl 3 0]),(3,.ab 0 (A (off x+j)))]) (e:=[(52,.df 0),(0,.va 0 181 [.yl 1 0]),(1,.ab 0 (A (off x+sb.length)))]) ihx rfl rfl rfl rfl rfl rfl rfl rfl rfl rfl rfl (fun _ _=>rfl) rfl (fun _ _=>rfl) ?_) ?_
   ·intro vs j hj
    repeat' first|exact k9|refine k2 ?_|apply kA|apply kI;intro hc|(apply Sn.go hX;conv=>whnf)|(((refine u6.i (hAj j hj _ _ _ rfl) ?_))<;>conv=>whnf)|refine k8 ?_|apply kL;intro hl
    exact⟨rfl,rfl⟩
   ·(conv=>whnf);repeat' first|exact k9|refine k2 ?_|apply kA|apply kI;intro hc|(apply Sn.go hX;conv=>whnf)|refine k8 ?_|apply kL;intro hl
    refine Stp.Hr (by rfl) (by rfl) (by rfl) ?_;apply kCt [1,2,4,17,18,19] [];conv=>whnf
    exact ih (x+1) _ _ _ (by omega) (by omega) rfl rfl (by rw[hs1];rfl)
  ·obtain rfl:x=ks.length:=by omega
   apply Sn.go hX;repeat' first|exact k9|refine k2 ?_|apply kA|apply kI;intro hc|(apply Sn.go hX;conv=>whnf)|refine k8 ?_|apply kL;intro hl
   exact cR.i rfl (by rw[hlen];rfl)
end Go.Km
end
section
namespace Go.aa
open Go Go.Km
def mG(g:List Dfn):List (Int×List Int):=if cz g=0 then g.zipIdx.flatMap (fun x=>(zX x.1.body).map fun p=>((x.2:Int),p))else[]
theorem Az{t:Tre}(h:av t):zX t=ug (ae t.nodes) t.root []:=jD h.kok.ae _ _ _ _ h.root.1 h.root.2 (by have:=h.root.1;omega)
def fj(g:List Dfn)(i:Nat):List (Int×List Int):=(g.zipIdx.take i).flatMap fun x=>(zX x.1.body).map fun p=>((x.2:Int),p)
theorem qL(g:List Dfn)(h:cz g=0):mG g=fj g g.length:=by
 rw[mG,if_pos h,fj,List.take_of_length_le (by simp)]
theorem sN{g:List Dfn}{i:Nat}(h:i<g.length):fj g (i+1)=fj g i++(zX g[i].body).map fun p=>((i:Int),p):=by
 rw[fj,List.take_succ_eq_append_getElem (by simpa using h),List.flatMap_append,List.flatMap_singleton];simp[fj]
theorem yy{ns:List Nod}(hc:bD (ae ns)):∀(N:Nat) (k:Int) (p:List Int),0≤k→k<N→k<ns.length→(ug (ae ns) k p).length=szN ns k
 |0,k,p,h0,h1,h2=>by omega
 |N+1,k,p,h0,h1,h2=>by
  rw[sf hc h0,List.length_cons,List.length_flatMap,xH hc h0 h2]
  congr 2
  refine List.ext_getElem (by simp) fun i hi hi2=>?_;simp only[List.length_map,List.length_range]at hi;simp only[List.getElem_map,List.getElem_range];have hx:=hc k _ (List.getElem_mem hi);rw[kK,List.getElem?_eq_getElem hi];exact yy hc N _ _ hx.1 (by omega) (by omega)
theorem o7{t:Tre}(h:av t):(zX t).length≤t.nodes.length:=by
 rw[Az h,yy h.kok.ae (t.root.toNat+1) t.root [] h.root.1 (by have:=h.root.1;omega) h.root.2];exact Nat.le_of_eq (fa h)
theorem mA{g:List Dfn}:∀(i:Nat),i≤g.length→(∀d∈g,(zX d.body).length≤2000)→(fj g i).length≤i*2000
 |0,_,_=>by simp[fj]
 |i+1,h,hd=>by
  have:=mA i (by omega) hd;rw[sN (by omega),List.length_append,List.length_map];have:=hd _ (List.getElem_mem (show i<g.length by omega));omega
end Go.aa
namespace Go.Km
open Go Go.Vc Go.Proofs Go.aa Go.Proofs.YtpbichnnflabdaaGreatDoor
set_option maxRecDepth 100000
set_option maxHeartbeats 0
abbrev xQ(x:Int×List Int):List F:=[inF x.1,isF x.2]
instance(g:List Dfn):C 67 [cx g] (.sl ((mG g).map xQ)) false (g.length≤1000∧(∀d∈g,d.wf)∧(cz g=0→∀d∈g,av d.body∧d.body.nodes.length≤2000)):=⟨fun⟨hn,hw,hr⟩=>by
 have hp:g.length≤1000∧∀d∈g,d.wf:=⟨hn,hw⟩
 by_cases hm:cz g=0
 ·have hr:=hr hm;rw[qL g hm];refine kf rfl rfl ?_;repeat' first|exact k9|refine k2 ?_|apply kA|apply kI;intro hc|refine k8 ?_|apply kL;intro hl
  refine Stp.By 5 119 71 2 rfl rfl ?_;refine Stp.FO (by rfl) ?_;apply kCt [3,11,12,13] [];conv=>whnf
  refine Lp.ind (fun x:Nat=>g.length-x) (fun x=>x≤g.length) (fun x=>[(13,InD x)]) (fun x=>[(1,.ro 0 71 2 ((fj g x).map xQ))]) (fun _=>_) 0 (Nat.zero_le _) rfl rfl rfl ?_
  rintro G x ih hx
  by_cases hxl:x<g.length
  ·have hwx:=hw _ (List.getElem_mem hxl);have hrx:=hr _ (List.getElem_mem hxl);obtain⟨t,ht⟩:=exEq (g[x].body);have hkc:KC Tryz.prog X1.Γ 112 [aE g[x].body,inF g[x].body.root,.sl []] (.cl 138 (H8 g[x].body g[x].body.root [])) false True:=(inferInstance:C 112 [aE g[x].body,inF g[x].body.root,isF []] (.cl 138 (H8 g[x].body g[x].body.root [])) false True)
   have hit:=oy g[x].body hwx.body hrx.1 (g[x].body.root.toNat+1) g[x].body.root [] hrx.1.root.1 (by have:=hrx.1.root;omega) hrx.1.root.2 (by simp only[List.length_nil];have:=hrx.1.root;omega);have hall:=sN hxl;rw[Az hrx.1]at hall;obtain⟨ps,hps⟩:=exEq (ug (ae g[x].body.nodes) g[x].body.root []);rw[←hps]at hit hall
   repeat' first|exact k9|refine k2 ?_|apply kA|apply kI;intro hc|(((refine qN.e hkc trivial ?_))<;>conv=>whnf)|refine k8 ?_|apply kL;intro hl
   have hpl:ps.length≤2000:=by rw[hps,←Az hrx.1];exact Nat.le_trans (o7 hrx.1) hrx.2
   have hal:(fj g x).length≤x*2000:=mA x (by omega) fun d hd=>Nat.le_trans (o7 (hr d hd).1) (hr d hd).2
   have hrow:∀j,j<ps.length→((fj g x++(ps.take (j+1)).map fun p=>((x:Int),p)).map xQ)=(fj g x++(ps.take j).map fun p=>((x:Int),p)).map xQ++[[inF (x:Int),isF (ps.getD j [])]]:=fun j hj=>by
    rw[List.take_succ_eq_append_getElem hj,List.map_append,List.map_append,List.map_append,List.map_append,List.getD_eq_getElem?_getD,List.getElem?_eq_getElem hj,List.append_assoc];rfl
   have hl2:∀j,(fj g x++(ps.take j).map fun p=>((x:Int),p)).length≤2002000:=fun j=>by rw[List.length_append,List.length_map,List.length_take];omega
   have hl3:∀j,((fj g x++(ps.take j).map fun p=>((x:Int),p)).map xQ).length≤2002000:=fun j=>by rw[List.length_map];exact hl2 j
   have hrow0:(fj g x++(ps.take 0).map fun p=>((x:Int),p)).map xQ=(fj g x).map xQ:=by simp
   refine dg.i (vY (b0:=18) (v0:=0) (bs:=[17,0,1,7]) (kc:=[3,4]) (m:=5) (nx:=6) (x:=[.ptr 0 0 0,.ptr 7 0 0]) (x0:=[.ptr 1 0 0,.ptr 2 0 0,.ptr 4 0 0])
    (T:=fun j=>[(1,.df 0),(2,.va 0 119 [.own 3 0]),(3,.ro 0 71 2 ((fj g x++(ps.take j).map fun p=>((x:Int),p)).map xQ)),(4,.va 0 3 [.fr (inF (x:Int))])])
    (e:=[(17,.df 0),(0,.va 0 119 [.own 1 1]),(1,.ro 1 71 2 ((fj g x++(ps.take ps.length).map fun p=>((x:Int),p)).map xQ)),(7,.va 0 3 [.fr (inF (x:Int))])]) hit rfl rfl rfl rfl rfl rfl (by rw[hrow0];rfl) rfl rfl rfl rfl (fun _ _=>rfl) rfl (fun _ _=>rfl) ?_) ?_
   ·intro vs j hj;have hl4:=hl3 j
    repeat' first|exact k9|refine k2 ?_|apply kA|apply kI;intro hc|refine k8 ?_|apply kL;intro hl
    exact⟨rfl,by dsimp only;rw[hrow j hj];rfl⟩
   ·rw[List.take_length,←hall]
    (conv=>whnf);repeat' first|exact k9|refine k2 ?_|apply kA|apply kI;intro hc|refine k8 ?_|apply kL;intro hl
    refine Stp.Hr (by rfl) (by rfl) (by rfl) ?_;apply kCt [3,11,12,13] [];conv=>whnf
    exact ih (x+1) _ _ _ (by omega) (by omega) rfl rfl rfl
  ·obtain rfl:x=g.length:=by omega
   repeat' first|exact k9|refine k2 ?_|apply kA|apply kI;intro hc|refine k8 ?_|apply kL;intro hl
 ·rw[show mG g=[]from by rw[mG,if_neg hm]];refine kf rfl rfl ?_;repeat' first|exact k9|refine k2 ?_|apply kA|apply kI;intro hc|refine k8 ?_|apply kL;intro hl
  exact aq.i rfl⟩
end Go.Km
end
section
namespace Go.aa
open Go Go.Sl Go.Km
theorem og{g:List Dfn}(h:cz g=0)(r:Int)(p:List Int):(r,p)∈mG g↔(aC g r p).2=true:=by
 have ok:=cE h;rw[mG,if_pos h,List.mem_flatMap,aC]
 constructor
 ·rintro⟨⟨d,i⟩,hx,hp⟩
  have hxi:=List.mem_zipIdx' hx;obtain⟨q,hq,e⟩:=List.mem_map.1 hp;simp only[Prod.mk.injEq]at e;obtain⟨rfl,rfl⟩:=e;rw[dif_pos ⟨by omega,by have:=hxi.1;omega⟩];have hd:g[i]'hxi.1=d:=hxi.2.symm;have:=(zw (ok.right (List.getElem_mem hxi.1)) q).1 (by rw[hd];exact hq);exact this
 ·intro hh
  split at hh
  ·rename_i hr;obtain⟨i,rfl⟩:∃i:Nat,r=(i:Int):=⟨r.toNat,by omega⟩
   have hi:i<g.length:=by omega
   have h2:=(zw (ok.right (List.getElem_mem hi)) p).2 hh;exact⟨(g[i],i),List.mk_mem_zipIdx_iff_getElem?.2 (List.getElem?_eq_getElem hi),List.mem_map.2 ⟨p,h2,rfl⟩⟩
  ·cases hh
end Go.aa
end
section
namespace Go.Km
open Go Go.Vc Go.Proofs Go.aa Go.Proofs.YtpbichnnflabdaaGreatDoor
set_option maxRecDepth 100000
set_option maxHeartbeats 0
end Go.Km
end
section
namespace Go.aa
open Go
end Go.aa
namespace Go.Km
open Go Go.Vc Go.Proofs Go.aa Go.Proofs.YtpbichnnflabdaaGreatDoor
set_option maxRecDepth 100000
set_option maxHeartbeats 0
set_option maxRecDepth 100000
set_option maxHeartbeats 0
set_option maxRecDepth 100000
set_option maxHeartbeats 0
set_option maxRecDepth 100000
set_option maxHeartbeats 0
set_option maxRecDepth 100000
set_option maxHeartbeats 0
theorem bG(g:List Dfn)(l:List Fl)(ns:List Nod):(aH g l ns).length=ns.length:=by
 have key:∀(ns:List Nod) (a:List Fl),(ns.foldl (iV g l) a).length=a.length+ns.length:=by
  intro ns
  induction ns with
  |nil=>intro a;rfl
  |cons n ns ih=>
   intro a;rw[List.foldl_cons,ih];simp[iV];omega
 rw[aH,key];simp
set_option maxRecDepth 100000
set_option maxHeartbeats 0
end Go.Km
end
section
namespace Go.aa
open Go Go.Km
end Go.aa
namespace Go.Km
open Go Go.Vc Go.Proofs Go.aa Go.Proofs.YtpbichnnflabdaaGreatDoor
set_option maxRecDepth 100000
set_option maxHeartbeats 0
end Go.Km
end
section
namespace Go.aa
open Go Go.Km
end Go.aa
namespace Go.Km
open Go Go.Vc Go.Proofs Go.aa Go.Proofs.YtpbichnnflabdaaGreatDoor
set_option maxRecDepth 100000
set_option maxHeartbeats 0
set_option maxRecDepth 100000
set_option maxHeartbeats 0
set_option maxRecDepth 100000
set_option maxHeartbeats 0
end Go.Km
end
section
namespace Go.aa
open Go Go.Km
def yz:List Nod→Int
 |[]=>0
 |n::l=>(if n.kind=4 then(n.kids.length:Int)else 0)+yz l
def GG:List Dfn→Int
 |[]=>0
 |d::g=>yz d.body.nodes+GG g
theorem OA:∀(a b:List Nod),yz (a++b)=yz a+yz b
 |[],b=>by simp[yz]
 |n::a,b=>by rw[List.cons_append,yz,yz,OA a b];omega
theorem L4{l:List Nod}{i:Nat}(h:i<l.length):yz (l.take (i+1))=yz (l.take i)+(if l[i].kind=4 then(l[i].kids.length:Int)else 0):=by
 rw[List.take_succ_eq_append_getElem h,OA];simp[yz]
end Go.aa
namespace Go.Km
open Go Go.Vc Go.Proofs Go.aa Go.Proofs.YtpbichnnflabdaaGreatDoor
set_option maxRecDepth 100000
set_option maxHeartbeats 0
end Go.Km
end
section
namespace Go.aa
open Go Go.Km
def mc(g:List Dfn)(t:Tre):List Nat:=(List.range g.length).filter fun j=>t.nodes.any fun n=>decide (n.kind=3)&&(bx g n.text==some j)
def w6(g:List Dfn)(k:Int):List Nat:=if k<0∨(g.length:Int)≤k∨cz g≠0 then[]else mc g (g.getD k.toNat ⟨ByteArray.empty,.zero⟩).body
end Go.aa
end
section
namespace Go.aa
open Go Go.Sl Go.Km
theorem Gd{t:Tre}(hR:av t):∀m:Nat,m≤t.nodes.length→((((List.range m).map fun(i:Nat)=>wN t.nodes (i:Int)).sum:Nat):Int)=(m:Int)+yz (t.nodes.take m)
 |0,_=>by simp[yz]
 |m+1,h=>by
  have hm:m<t.nodes.length:=by omega
  have ih:=Gd hR m (by omega);have hget:t.nodes[m]?=some t.nodes[m]:=List.getElem?_eq_getElem hm;have hw:wN t.nodes (m:Int)=1+(if t.nodes[m].kind=4 then t.nodes[m].kids.length else 0):=by
   unfold wN;rw[←aF hget];unfold dat;rw[Int.toNat_natCast,List.getD_eq_getElem?_getD,hget];rfl
  rw[List.range_succ,List.map_append,List.sum_append,L4 hm];simp only[List.map_cons,List.map_nil,List.sum_cons,List.sum_nil,hw]
  split<;>push_cast<;>omega
theorem Js{t:Tre}(hR:av t):(t.nodes.length:Int)+yz t.nodes=((foT t).wt:Int):=by
 have:=Gd hR t.nodes.length (Nat.le_refl _);rw[List.take_length]at this;rw[Jx hR,this]
theorem HU{t:Tre}(hR:av t){p:List Int}{y:ByteArray}(h:y∈(foT (dh t p).1).rns):y∈(foT t).rns:=by
 unfold dh at h;rw[if_pos hR.right]at h
 split at h
 ·rename_i row e hd;have hc:=hR.kok.ae;obtain⟨_,e1,e2,_⟩:=fW hc p _ hR.root.1 hR.root.2 row e hd;rw[show foT (aD t e,true).1=aA t.nodes t.nodes.length [e]from by
   show foT (aD t e)=_
   rw[iU hR e1 e2];exact kP (by rw[bT hc e1 e2];rfl) (gG _ _ _),lI]at h
  obtain⟨k,hk,h1,h2⟩:=h;have hm:=eX hc _ _ (fun x hx=>by simp at hx;subst hx;exact⟨e1,e2⟩) k hk;rw[foT,lI];exact⟨k,((kM hR).mem k).2 hm,h1,h2⟩
 ·cases h
structure LsG(g h:List Dfn)(r:Nat):Prop where
 len:h.length=g.length
 lt:r<g.length
 other:∀(i:Nat) (hi:i<g.length) (hj:i<h.length),i≠r→h[i]=g[i]
 right:∀(hj:r<h.length),av h[r].body
 name:∀(hi:r<g.length) (hj:r<h.length),h[r].name=g[r].name
 wt:∀(hi:r<g.length) (hj:r<h.length),(foT h[r].body).wt+1≤(foT g[r].body).wt
 size:∀(hi:r<g.length) (hj:r<h.length),(foT h[r].body).size≤(foT g[r].body).size
 rns:∀(hi:r<g.length) (hj:r<h.length),∀y∈(foT h[r].body).rns,y∈(foT g[r].body).rns
theorem CX{α:Type}(f:α→Int):∀(g:List α) (q:Nat) (x:α) (h:q<g.length),((g.set q x).map f).sum=(g.map f).sum-f g[q]+f x
 |[],q,x,h=>by simp at h
 |a::g,0,x,h=>by
  simp only[List.set_cons_zero,List.map_cons,List.sum_cons,List.getElem_cons_zero];omega
 |a::g,q+1,x,h=>by
  have:=CX f g q x (by simpa using h);simp only[List.set_cons_succ,List.map_cons,List.sum_cons,List.getElem_cons_succ,this];omega
theorem LsG.set{g h:List Dfn}{q:Nat}(H:LsG g h q):h=g.set q (h[q]'(by rw[H.len];exact H.lt)):=by
 refine List.ext_getElem (by rw[List.length_set,H.len]) fun i h1 h2=>?_
 by_cases e:i=q
 ·subst e;rw[List.getElem_set_self]
 ·rw[List.getElem_set_ne (Ne.symm e)];exact H.other i (by rw[←H.len];exact h1) h1 e
theorem LsG.names{g h:List Dfn}{q:Nat}(H:LsG g h q):h.map (·.name)=g.map (·.name):=by
 refine List.ext_getElem (by simp[H.len]) fun i h1 h2=>?_;simp only[List.length_map]at h1 h2;simp only[List.getElem_map]
 by_cases e:i=q
 ·subst e;exact H.name h2 h1
 ·rw[H.other i h2 h1 e]
def wtD(d:Dfn):Int:=(foT d.body).wt
def szD(d:Dfn):Int:=(foT d.body).size
theorem BV:∀(g:List Dfn),(∀d∈g,av d.body)→b8 g+GG g=(g.map wtD).sum
 |[],_=>rfl
 |d::g,h=>by
  have h1:=Js (h d (by simp));have h2:=BV g fun x hx=>h x (by simp[hx])
  have h3:lh d.body=d.body.nodes.length:=by rw[lh,if_pos (h d (by simp)).right]
  simp only[b8,List.map_cons,List.sum_cons,GG,wtD]at h2 ⊢;omega
theorem qM:∀(g:List Dfn),(∀d∈g,av d.body)→b8 g=(g.map szD).sum
 |[],_=>rfl
 |d::g,h=>by
  have h2:=qM g fun x hx=>h x (by simp[hx])
  have h3:lh d.body=d.body.nodes.length:=by rw[lh,if_pos (h d (by simp)).right]
  have h4:=fa (h d (by simp));simp only[b8,List.map_cons,List.sum_cons,szD]at h2 ⊢;omega
theorem zn{g h:List Dfn}(H:h.map (·.name)=g.map (·.name))(s:ByteArray):bx h s=bx g s:=by
 have key:∀l:List Dfn,bx l s=(l.map (·.name)).findIdx? (fun n=>decide (n=s)):=fun l=>by
  rw[bx,List.findIdx?_map];rfl
 rw[key,key,H]
theorem rj{g:List Dfn}{t:Tre}(hR:av t){j:Nat}:j∈mc g t↔j<g.length∧∃y∈(foT t).rns,bx g y=some j:=by
 unfold mc;rw[List.mem_filter,List.mem_range,List.any_eq_true];refine and_congr_right fun _=>?_
 constructor
 ·rintro⟨n,hn,h⟩
  rw[Bool.and_eq_true,decide_eq_true_eq,beq_iff_eq]at h;exact⟨n.text,(tT hR _).2 ⟨n,hn,h.1,rfl⟩,h.2⟩
 ·rintro⟨y,hy,h⟩
  obtain⟨n,hn,h1,h2⟩:=(tT hR _).1 hy;exact⟨n,hn,by rw[Bool.and_eq_true,decide_eq_true_eq,beq_iff_eq,h2];exact⟨h1,h⟩⟩
theorem LsG.calls{g h:List Dfn}{q:Nat}(H:LsG g h q)(hg:cz g=0){i j:Nat}(h1:i<g.length)(h2:i<h.length)(hR:av h[i].body)(hj:j∈mc h h[i].body):j∈mc g g[i].body:=by
 have rg:=(cE hg).right (List.getElem_mem h1);rw[rj hR]at hj;rw[rj rg];obtain⟨a,y,b,c⟩:=hj;rw[H.len]at a;rw[zn H.names]at c;refine⟨a,y,?_,c⟩
 by_cases e:i=q
 ·subst e;exact H.rns h1 h2 y b
 ·rw[←H.other i h1 h2 e];exact b
def gm(ns:List Nod):Int→List Int→Int×Bool
 |k,[]=>(k,true)
 |k,i::p=>if i<0∨((ae ns k).length:Int)≤i then(0,false)else gm ns ((ae ns k).getD i.toNat 0) p
def aP(g:List Dfn):List (List Fl):=g.map fun d=>aH g (bk g) d.body.nodes
def od(k:Nat):Nat:=if k=3 then 4 else 5
def kY(k:Nat)(f:Fl)(last:Bool):Bool:=if k=1 then !f.fail && !last else if k=2 then !f.succ else !f.succ && !last
def aV(k:Nat)(ns:List Nod)(l:List Fl)(n at_:Int):Bool:=
 decide ((dat ns n).kind=od k)&&(decide (0≤at_)&&decide (at_<(ae ns n).length))&&kY k (l.getD ((ae ns n).getD at_.toNat 0).toNat .bot) (decide (at_=((ae ns n).length:Int)-1))
def fX(k:Nat)(l:List Tre)(at_:Int):List Tre:=if k=2 then l.eraseIdx at_.toNat else l.take (at_+1).toNat
def uy(k:Nat):Nod:=if k=3 then eH else dE
def eM(k:Nat)(x:Tre)(at_:Int):Tre×Bool:=dZ (uy k) (fX k (aN x) at_)
def cA(k:Nat)(g:List Dfn)(r:Int)(p:List Int)(at_:Int):List Dfn×Bool:=
 if(aC g r p).2=false∨(eM k (aC g r p).1 at_).2=false∨(bA g r p (eM k (aC g r p).1 at_).1).2=false∨bb (bA g r p (eM k (aC g r p).1 at_).1).1≠0 then([],false)else((bA g r p (eM k (aC g r p).1 at_).1).1,true)
def eE(g:List Dfn)(r:Int):Tre:=(g.getD r.toNat ⟨ByteArray.empty,.zero⟩).body
def gy(g:List Dfn)(r:Int)(p:List Int):Int×Bool:=gm (eE g r).nodes (eE g r).root p
def okD(k:Nat)(g:List Dfn)(r:Int)(p:List Int)(at_:Int):Bool:=
 aV k (eE g r).nodes ((aP g).getD r.toNat []) (gy g r p).1 at_&&(cA k g r p at_).2
def aY(g:List Dfn)(pass way r:Int)(p:List Int)(at_:Int):List Dfn×Int:=
 if bb g≠0 then([],bb g)else if pass≠2∨way<1∨4≤way∨r<0∨(g.length:Int)≤r∨(gy g r p).2=false∨okD way.toNat g r p at_=false then([],47)else((cA way.toNat g r p at_).1,0)
def fF(g:List Dfn)(x:Int×List Int):Nat:=(ae (eE g x.1).nodes (gy g x.1 x.2).1).length
def de(g:List Dfn)(x:Int×List Int):List Sto:=(List.range 4).flatMap fun k=>if k=0 then[]else((List.range (fF g x)).filter fun(a:Nat)=>okD k g x.1 x.2 (a:Int)).map fun(a:Nat)=>⟨2,(k:Int),x.1,x.2,(a:Int)⟩
def aR(g:List Dfn):List Sto:=if bb g=0 then(mG g).flatMap (de g)else[]
theorem mr(ns:List Nod):∀(p:List Int) (k:Int),(gm ns k p).2=(bz ns k p).isSome∧∀row e,bz ns k p=some (row,e)→(gm ns k p).1=e
 |[],k=>⟨rfl,fun row e h=>by simp only[bz,Option.some.injEq,Prod.mk.injEq]at h;exact h.2⟩
 |i::p,k=>by
  rw[gm,bz]
  by_cases hi:i<0
  ·rw[if_pos (.inl hi),if_pos hi];exact⟨rfl,fun row e h=>by cases h⟩
  ·rw[if_neg hi]
   by_cases hl:i.toNat<(ae ns k).length
   ·have ih:=mr ns p (ae ns k)[i.toNat];rw[if_neg (by omega),List.getD_eq_getElem?_getD,List.getElem?_eq_getElem hl];dsimp only[Option.getD_some]
    cases hd:bz ns (ae ns k)[i.toNat] p with
    |none=>
     rw[hd]at ih;exact⟨ih.1,fun row e h=>by cases h⟩
    |some x=>
     obtain⟨row,e⟩:=x;rw[hd]at ih;refine⟨ih.1,fun row' e' h=>?_⟩;simp only[Option.some.injEq,Prod.mk.injEq]at h;rw[←h.2];exact ih.2 row e rfl
   ·rw[if_pos (by omega),List.getElem?_eq_none (by omega)];exact⟨rfl,fun row e h=>by cases h⟩
theorem gL{g:List Dfn}{x:Int×List Int}{s:Sto}:s∈de g x↔s.pass=2∧s.r=x.1∧s.p=x.2∧1≤s.way∧s.way<4∧okD s.way.toNat g x.1 x.2 s.at_=true:=by
 unfold de;simp only[List.mem_flatMap,List.mem_range]
 constructor
 ·rintro⟨k,hk,h⟩
  split at h
  ·cases h
  ·simp only[List.mem_map,List.mem_filter,List.mem_range]at h;obtain⟨a,⟨ha,hr⟩,rfl⟩:=h;exact⟨rfl,rfl,rfl,by dsimp only;omega,by dsimp only;omega,by simpa using hr⟩
 ·rintro⟨h1,h2,h3,h4,h5,h6⟩
  have hr:0≤s.at_∧s.at_<(fF g x:Int):=by
   unfold okD aV at h6;simp only[Bool.and_eq_true,decide_eq_true_eq]at h6;exact h6.1.1.2
  refine⟨s.way.toNat,by omega,?_⟩;rw[if_neg (by omega)];simp only[List.mem_map,List.mem_filter,List.mem_range];refine⟨s.at_.toNat,⟨by omega,?_⟩,?_⟩
  ·rw[show((s.at_.toNat:Nat):Int)=s.at_ by omega];exact h6
  ·obtain⟨pass,way,r,p,at_⟩:=s;simp only at *;subst h1;subst h2;subst h3
   congr 1<;>omega
theorem ti{k:Nat}{g:List Dfn}{r:Int}{p:List Int}{at_:Int}(h:(cA k g r p at_).2=true):(aC g r p).2=true∧(eM k (aC g r p).1 at_).2=true∧(bA g r p (eM k (aC g r p).1 at_).1).2=true∧cA k g r p at_=((bA g r p (eM k (aC g r p).1 at_).1).1,true)∧bb (cA k g r p at_).1=0:=by
 unfold cA at h
 split at h
 ·cases h
 ·rename_i q;have e:cA k g r p at_=((bA g r p (eM k (aC g r p).1 at_).1).1,true):=by rw[cA,if_neg q]
  simp only[not_or,Bool.not_eq_false,Decidable.not_not]at q;exact⟨q.1,q.2.1,q.2.2.1,e,by rw[e];exact q.2.2.2⟩
theorem iZ{g:List Dfn}{r:Int}{p:List Int}(h:(aC g r p).2=true):∃(q:Nat) (hq:q<g.length),r=(q:Int)∧aC g r p=dh g[q].body p:=by
 have h':=h;unfold aC at h
 split at h
 ·rename_i hr;refine⟨r.toNat,by omega,by omega,?_⟩;unfold aC;rw[dif_pos hr]
 ·cases h
theorem uF{g:List Dfn}(hc:bb g=0){s:Sto}:s∈aR g↔(aY g s.pass s.way s.r s.p s.at_).2=0:=by
 have hm:=ba hc;rw[aR,if_pos hc,List.mem_flatMap,aY,if_neg (by simpa using hc)]
 constructor
 ·rintro⟨x,hx,h⟩
  obtain⟨h1,h2,h3,h4,h5,h6⟩:=gL.1 h;have hf:=(og hm x.1 x.2).1 hx;obtain⟨q,hq,e1,e2⟩:=iZ hf;have hn:(gy g s.r s.p).2=true:=by
   rw[e2]at hf;unfold dh at hf
   split at hf
   ·rw[gy,h2,h3,e1,eE,Int.toNat_natCast,List.getD_eq_getElem?_getD,List.getElem?_eq_getElem hq,Option.getD_some,(mr _ _ _).1]
    split at hf
    ·rename_i hd;rw[hd];rfl
    ·cases hf
   ·cases hf
  rw[if_neg]
  rintro(a|a|a|a|a|a|a)
  ·exact a h1
  ·omega
  ·omega
  ·omega
  ·omega
  ·rw[hn]at a;cases a
  ·rw[h2,h3,h6]at a;cases a
 ·intro h
  split at h
  ·cases h
  ·rename_i q;simp only[not_or,Bool.not_eq_false,Decidable.not_not]at q;obtain⟨q1,q2,q3,q4,q5,q6,q7⟩:=q;have hp:=ti (k:=s.way.toNat) (g:=g) (r:=s.r) (p:=s.p) (at_:=s.at_) (by rw[okD,Bool.and_eq_true]at q7;exact q7.2);exact⟨(s.r,s.p),(og hm _ _).2 hp.1,gL.2 ⟨q1,rfl,rfl,by omega,by omega,q7⟩⟩
theorem qR(g:List Dfn)(pass way r:Int)(p:List Int)(at_:Int)(hc:bb g=0):((aY g pass way r p at_).2=0∧bb (aY g pass way r p at_).1=0)∨aY g pass way r p at_=([],47):=by
 rw[aY,if_neg (by simpa using hc)]
 split
 ·exact .inr rfl
 ·rename_i q;simp only[not_or,Bool.not_eq_false,Decidable.not_not]at q;have q7:=q.2.2.2.2.2.2;rw[okD,Bool.and_eq_true]at q7;exact .inl ⟨rfl,(ti q7.2).2.2.2.2⟩
theorem Fa{g:List Dfn}{q:Nat}{p:List Int}{x:Tre}(hc:bb g=0)(hs:(aC g q p).2=true)(hl:Ls x (aC g q p).1 1)(h:(bA g q p x).2=true) :
  LsG g (bA g q p x).1 q∧((foT x).size+1≤(foT (aC g q p).1).size→∀(hi:q<g.length) (hj:q<(bA g q p x).1.length),(foT (bA g q p x).1[q].body).size+1≤(foT g[q].body).size):=by
 obtain⟨q',hq,e1,e2⟩:=iZ hs;obtain rfl:q=q':=by omega
 have hR:=(cE (ba hc)).right (List.getElem_mem hq);rw[e2]at hl ⊢;have hpw:bA g (q:Int) p x=if(cw g[q].body p x).2=true then jl g (q:Int) (cw g[q].body p x).1 else([],false):=by
  unfold bA;rw[dif_pos ⟨by omega,by omega⟩];rfl
 rw[hpw]at h;simp only[hpw]
 split at h
 ·rename_i hput;simp only[if_pos hput];obtain⟨u1,u2,u3,u4⟩:=JR hl.right hput;have hwg:(jl g (q:Int) (cw g[q].body p x).1).1=g.set q { g[q]with body:=(cw g[q].body p x).1 }:=by
   unfold jl;rw[dif_pos ⟨by omega,by omega⟩];rfl
  simp only[hwg];have h1:=hl.wt;have h2:=hl.size;refine⟨⟨by simp,hq,fun i hi hj hne=>List.getElem_set_ne (Ne.symm hne) _,fun hj=>?_,fun hi hj=>?_,fun hi hj=>?_,fun hi hj=>?_,fun hi hj y hy=>?_⟩,fun h3 hi hj=>?_⟩
  ·rw[List.getElem_set_self];exact u1
  ·rw[List.getElem_set_self]
  ·rw[List.getElem_set_self];show(foT (cw g[q].body p x).1).wt+1≤_;omega
  ·rw[List.getElem_set_self];show(foT (cw g[q].body p x).1).size≤_;omega
  ·rw[List.getElem_set_self]at hy;rcases u4 y hy with h|h
   ·exact h
   ·exact HU hR (hl.rns y h)
  ·rw[List.getElem_set_self];show(foT (cw g[q].body p x).1).size+1≤_;omega
 ·cases h
theorem yU{t:Tre}(hR:av t){p:List Int}(h:(dh t p).2=true):au (dh t p).1=true∧∃row e,bz t.nodes t.root p=some (row,e)∧(0≤e∧e<t.nodes.length)∧foT (dh t p).1=aA t.nodes t.nodes.length [e]:=by
 unfold dh at h ⊢;rw[if_pos hR.right]at h ⊢
 split at h
 ·rename_i row e hd;obtain⟨_,e1,e2,_⟩:=fW hR.kok.ae p _ hR.root.1 hR.root.2 row e hd;have hk:(aA t.nodes t.nodes.length [e]).fit=true:=kH hR _ _ (fun y hy=>by simp at hy;subst hy;exact⟨e1,e2⟩) (Nat.le_refl _);refine⟨?_,row,e,hd,⟨e1,e2⟩,?_⟩
  ·show au (aD t e)=true
   rw[iU hR e1 e2,bT hR.kok.ae e1 e2];rw[bT hR.kok.ae e1 e2]at hk;exact gP hk
  ·show foT (aD t e)=_
   rw[iU hR e1 e2];exact kP (by rw[bT hR.kok.ae e1 e2];rfl) (gG _ _ _)
 ·cases h
theorem xz{l:List Tre}:(∀t∈l,au t=true)→l.length≤(foL l).size∧l.length≤(foL l).wt:=by
 intro h
 induction l with
 |nil=>exact⟨Nat.zero_le _,Nat.zero_le _⟩
 |cons t l ih=>
  have h1:=GC (h t (by simp));have h2:=ih fun x hx=>h x (by simp[hx])
  simp only[foL,Fo.bZ,Fo.kG,List.length_cons]at h2 ⊢;omega
theorem xw{t:Tre}(hR:av t){p:List Int}(h:(dh t p).2=true):au (dh t p).1=true∧(gm t.nodes t.root p).2=true∧(0≤(gm t.nodes t.root p).1∧(gm t.nodes t.root p).1<t.nodes.length)∧mP (dh t p).1=dat t.nodes (gm t.nodes t.root p).1∧(aN (dh t p).1).length=(ae t.nodes (gm t.nodes t.root p).1).length:=by
 obtain⟨h1,row,e,hd,h2,h3⟩:=yU hR h;obtain⟨n1,n2⟩:=mr t.nodes p t.root;rw[n2 row e hd];obtain⟨t1,t2,t3⟩:=nb h1;rw[h3,bT hR.kok.ae h2.1 h2.2]at t1;simp only[Fo.cons.injEq,and_true]at t1;refine⟨h1,by rw[n1,hd];rfl,h2,t1.1.symm,?_⟩;have hf:(foL (aN (dh t p).1)).len=(aN (dh t p).1).length:=(w8 t2).2;obtain⟨f,hf2⟩:∃f,t.nodes.length=f+1:=⟨t.nodes.length-1,by omega⟩
 rw[←hf,←t1.2,hf2,qH]
theorem EX{k:Nat}{l:List Tre}{at_:Int}{y:ByteArray}:y∈(foL (fX k l at_)).rns→y∈(foL l).rns:=by
 have key:∀l:List Tre,y∈(foL l).rns↔∃t∈l,y∈(foT t).rns:=by
  intro l
  induction l with
  |nil=>simp[foL,Fo.rns]
  |cons t l ih=>simp only[foL,Fo.mz,List.mem_append,ih,List.mem_cons,exists_eq_or_imp]
 rw[key,key]
 rintro⟨t,h,hy⟩
 refine⟨t,?_,hy⟩;unfold fX at h
 split at h
 ·exact List.mem_of_mem_eraseIdx h
 ·exact List.mem_of_mem_take h
theorem Bm{k:Nat}{l:List Tre}{at_:Int}(hr:∀t∈l,au t=true)(h0:0≤at_)(h1:at_<l.length)(h2:k≠2→at_≠(l.length:Int)-1):(foL (fX k l at_)).size+1≤(foL l).size∧(foL (fX k l at_)).wt+1≤(foL l).wt∧(fX k l at_).length≤l.length:=by
 unfold fX;have hi:at_.toNat<l.length:=by omega
 split
 ·have e1:l=l.take at_.toNat++l[at_.toNat]::l.drop (at_.toNat+1):=by rw[←List.drop_eq_getElem_cons hi,List.take_append_drop]
  have e2:l.eraseIdx at_.toNat=l.take at_.toNat++l.drop (at_.toNat+1):=List.eraseIdx_eq_take_drop_succ l _;have w:=GC (hr _ (List.getElem_mem hi));have f1:foL l=(foL (l.take at_.toNat)).app ((foT l[at_.toNat]).app (foL (l.drop (at_.toNat+1)))):=by
   conv=>lhs;rw[e1]
   rw[xF];rfl
  rw[e2,xF,f1];simp only[Fo.bZ,Fo.kG,List.length_append,List.length_take,List.length_drop];omega
 ·rename_i hk;have h3:=h2 hk;have e1:l=l.take (at_+1).toNat++l.drop (at_+1).toNat:=(List.take_append_drop ..).symm;have hd:=xz (l:=l.drop (at_+1).toNat) (fun t ht=>hr t (List.mem_of_mem_drop ht));rw[List.length_drop]at hd;have f1:foL l=(foL (l.take (at_+1).toNat)).app (foL (l.drop (at_+1).toNat)):=by
   conv=>lhs;rw[e1]
   rw[xF]
  rw[f1];simp only[Fo.bZ,Fo.kG,List.length_take];omega
theorem JY{k:Nat}{x:Tre}{at_:Int}(hk:1≤k∧k<4)(hr:au x=true)(h0:0≤at_)(h1:at_<(aN x).length)(h2:k≠2→at_≠((aN x).length:Int)-1)(h5:(mP x).kind=od k)(h:(eM k x at_).2=true):Ls (eM k x at_).1 x 1∧(foT (eM k x at_).1).size+1≤(foT x).size:=by
 obtain⟨t1,t2,t3⟩:=Ck hr;obtain⟨g1,g2,g3⟩:=nb hr;obtain⟨l1,l2,l3⟩:=Bm (k:=k) g2 h0 h1 h2;have hb:(uy k).kids=[]:=by unfold uy;split<;>rfl
 have hn:(uy k).kind=od k:=by unfold uy od;split<;>rfl
 have h3:(uy k).kind≠3:=by rw[hn];unfold od;split<;>decide
 obtain⟨p1,p2,p3,p4⟩:=J3 hb h3 h;rw[hn]at p2;rw[h5]at t1;refine⟨⟨p1,?_,?_,fun y hy=>t3 y (EX (p4 y hy))⟩,?_⟩
 ·show(foT (eM k x at_).1).wt+1≤_
  have p2':(foT (eM k x at_).1).wt≤_:=p2
  split at p2'<;>split at t1<;>omega
 ·have p3':(foT (eM k x at_).1).size≤_:=p3;omega
 ·have p3':(foT (eM k x at_).1).size≤_:=p3;omega
theorem tO{g:List Dfn}(hc:bb g=0){s:Sto}(h:(aY g s.pass s.way s.r s.p s.at_).2=0) :
  bb (aY g s.pass s.way s.r s.p s.at_).1=0∧b8 (aY g s.pass s.way s.r s.p s.at_).1<b8 g∧∃q,LsG g (aY g s.pass s.way s.r s.p s.at_).1 q:=by
 rcases qR g s.pass s.way s.r s.p s.at_ hc with e|e
 ·refine⟨e.2,?_⟩;obtain⟨e0,e1⟩:=e;rw[aY,if_neg (by simpa using hc)]at e0 e1 ⊢
  split at e0
  ·cases e0
  ·rename_i q;rw[if_neg q]at e1;rw[if_neg q];simp only[not_or,Bool.not_eq_false,Decidable.not_not]at q;obtain⟨q1,q2,q3,q4,q5,q6,q7⟩:=q;rw[okD,Bool.and_eq_true]at q7;obtain⟨q7,q8⟩:=q7;obtain⟨f1,f2,f3,f4,f5⟩:=ti q8;obtain⟨r,hr,er,ep⟩:=iZ f1;have hR:=(cE (ba hc)).right (List.getElem_mem hr);have f1':=f1;rw[ep]at f1';obtain⟨k1,k2,k3,k4,k5⟩:=xw hR f1';have eb:eE g s.r=g[r].body:=by rw[eE,er,Int.toNat_natCast,List.getD_eq_getElem?_getD,List.getElem?_eq_getElem hr,Option.getD_some]
   simp only[aV,gy,eb,Bool.and_eq_true,decide_eq_true_eq]at q7;obtain⟨⟨a1,a2,a3⟩,a4⟩:=q7;rw[←k4]at a1;rw[←k5]at a3 a4;have hls:=JY (k:=s.way.toNat) (x:=(dh g[r].body s.p).1) (at_:=s.at_) (by omega) k1 a2 a3 (fun hk hl=>by
    rw[decide_eq_true hl]at a4;unfold kY at a4
    split at a4
    ·simp at a4
    ·simp at a4) a1 (by rw[ep]at f2;exact f2)
   rw[er]at f1 f3 ep f4 e1;rw[ep]at f3 f4;have hw:=Fa (x:=(eM s.way.toNat (dh g[r].body s.p).1 s.at_).1) hc f1 (by rw[ep];exact hls.1) f3;rw[er,f4];rw[f4]at e1;refine⟨?_,r,hw.1⟩;have H:=hw.1;have hs:=hw.2 (by rw[ep];exact hls.2) hr (by rw[H.len];exact hr);have hset:=H.set;have hmg:=ba hc;have hmh:=ba e1;have rg:∀d∈g,av d.body:=fun d hd=>(cE hmg).right hd
   have rh:∀d∈(bA g r s.p (eM s.way.toNat (dh g[r].body s.p).1 s.at_).1).1,av d.body:=fun d hd=>(cE hmh).right hd
   rw[qM g rg,qM _ rh];have e2:=CX szD g r ((bA g r s.p (eM s.way.toNat (dh g[r].body s.p).1 s.at_).1).1[r]'(by rw[H.len];exact hr)) hr;rw[←hset]at e2;simp only[szD]at e2 hs ⊢;omega
 ·rw[e]at h;cases h
end Go.aa
end
section
namespace Go.Km
open Go Go.Vc Go.Proofs Go.aa Go.Proofs.YtpbichnnflabdaaGreatDoor
set_option maxRecDepth 100000
set_option maxHeartbeats 0
instance(f:Fl)(l:Bool):C 91 [flF f,boF l] (boF (kY 1 f l)) true True:=⟨fun _=>by
 obtain⟨a,b,c⟩:=f
 cases a<;>cases b<;>cases c<;>cases l<;>(refine kf rfl rfl ?_;repeat' (first|exact k9|refine k2 ?_|apply kA|apply kI;intro hc|refine k8 ?_|apply kL;intro hl))
 all_goals exact aq.b rfl rfl⟩
instance(f:Fl)(l:Bool):C 93 [flF f,boF l] (boF (kY 2 f l)) true True:=⟨fun _=>by
 obtain⟨a,b,c⟩:=f
 cases a<;>cases b<;>cases c<;>cases l<;>(refine kf rfl rfl ?_;repeat' (first|exact k9|refine k2 ?_|apply kA|apply kI;intro hc|refine k8 ?_|apply kL;intro hl))
 all_goals exact aq.b rfl rfl⟩
instance(f:Fl)(l:Bool):C 95 [flF f,boF l] (boF (kY 3 f l)) true True:=⟨fun _=>by
 obtain⟨a,b,c⟩:=f
 cases a<;>cases b<;>cases c<;>cases l<;>(refine kf rfl rfl ?_;repeat' (first|exact k9|refine k2 ?_|apply kA|apply kI;intro hc|refine k8 ?_|apply kL;intro hl))
 all_goals exact aq.b rfl rfl⟩
instance:C 47 [] (.ag [byF 0,Ko,Ko,byF 5,.cl 91 [],.cl 92 [],byF 5,.cl 93 [],.cl 94 [],byF 4,.cl 95 [],.cl 92 []]) true True:=⟨fun _=>by
 refine kf rfl rfl ?_;repeat' (first|exact k9|refine k2 ?_|apply kA|apply kI;intro hc|refine k8 ?_|apply kL;intro hl)⟩
instance(l:List Tre)(q:Int):C 92 [kF l,inF q] (kF (l.take (q+1).toNat)) false (0≤q∧q<l.length∧l.length≤1000000):=⟨fun⟨h0,h,hl⟩=>by
 refine kf rfl rfl ?_;repeat' first|exact k9|refine k2 ?_|apply kA|apply kI;intro hc|refine k8 ?_|apply kL;intro hl
 exact aq.i (by rw[List.drop_zero,←List.map_take])⟩
abbrev xE(l:List Fl):List F:=[iE l]
abbrev M3(l:List (List Fl)):F:=.sl (l.map xE)
def rB(g:List Dfn)(i:Nat):List (List F):=((aP g).take i).map xE++List.replicate (g.length-i) (xE [])
theorem Ma(g:List Dfn):rB g 0=List.replicate g.length (xE []):=by simp[rB]
theorem FE{g:List Dfn}{i:Nat}(h:i≤g.length):(rB g i).length=g.length:=by simp[rB,aP];omega
theorem F9(g:List Dfn):rB g g.length=(aP g).map xE:=by
 rw[rB,Nat.sub_self,List.replicate_zero,List.append_nil,List.take_of_length_le (by simp[aP])]
theorem F7{g:List Dfn}{i:Nat}(h:i<g.length):(rB g i)[i]?=some (xE []):=by
 have hl:(((aP g).take i).map xE).length=i:=by simp[aP];omega
 unfold rB;rw[List.getElem?_append_right (by omega),hl,Nat.sub_self,show g.length-i=(g.length-(i+1))+1 by omega,List.replicate_succ];rfl
theorem Gl{g:List Dfn}{i:Nat}(h:i<g.length):(rB g i).set i (xE (aH g (bk g) g[i].body.nodes))=rB g (i+1):=by
 have hl:(aP g).length=g.length:=by simp[aP]
 have hg:(aP g)[i]'(by omega)=aH g (bk g) g[i].body.nodes:=by simp[aP]
 have hll:(((aP g).take i).map xE).length=i:=by simp;omega
 unfold rB;rw[List.set_append_right _ _ (by omega),hll,Nat.sub_self,show g.length-i=(g.length-(i+1))+1 by omega,List.replicate_succ,List.set_cons_zero,List.take_succ_eq_append_getElem (by omega:i<(aP g).length),List.map_append,hg,List.append_assoc];rfl
instance(g:List Dfn):C 44 [cx g] (.tp [M3 (aP g),boF true]) false ((g.length≤1000∧∀d∈g,d.wf)∧cz g=0):=⟨fun⟨hp,hm⟩=>by
 have ok:=cE hm;have hn:=hp.1;have hof:eZ g=(bk g,0):=by rw[eZ,if_pos hm]
 have hfl:=qp g;refine kf rfl rfl ?_;repeat' first|exact k9|refine k2 ?_|apply kA|apply kI;intro hc|apply kL;intro hl|((simp only[hof])<;>conv=>whnf)|refine k8 ?_|fail
 ·apply kCt [1,4,6,23,24,25] [];conv=>whnf
  refine Lp.ind (fun z:Nat=>g.length-z) (fun z=>z≤g.length) (fun z=>[(25,InD z)]) (fun z=>[(1,.ro 0 86 1 (rB g z))]) (fun _=>_) 0 (Nat.zero_le _) rfl rfl ?_ ?_
  ·rw[Ma,List.length_map];rfl
  rintro G i ih hi
  have hZl:=FE hi
  by_cases hx:i<g.length
  ·have hset:=Gl hx;have hgi:=F7 hx;have hd:=List.getElem_mem hx;have hpre:(g.length≤1000∧fq g=false)∧(bk g).length=g.length∧g[i].body.wf∧av g[i].body∧sI g g[i].body.nodes:=⟨⟨hn,ok.H2⟩,hfl,(hp.2 _ hd).body,ok.right hd,ok.named _ hd⟩
   repeat' first|exact k9|refine k2 ?_|apply kA|apply kI;intro hc|refine k8 ?_|apply kL;intro hl
   apply kCt [1,4,6,23,24,25] [];conv=>whnf
   exact ih (i+1) _ _ _ (by omega) (by omega) rfl rfl (by rw[←hset];rfl)
  ·obtain rfl:i=g.length:=by omega
   rw[F9]at *
   repeat' first|exact k9|refine k2 ?_|apply kA|apply kI;intro hc|refine k8 ?_|apply kL;intro hl
   all_goals exact aq.i rfl
 ·rw[hof]at hc;exact absurd rfl hc⟩
instance(t:Tre)(p:List Int):C 48 [aE t,isF p] (.tp [inF (gm t.nodes t.root p).1,boF (gm t.nodes t.root p).2]) true (t.wf∧av t∧p.length≤1000000):=⟨fun⟨hw,hR,hp⟩=>by
 have hlen:=hw.len;simp only[bY]at hlen;obtain⟨r,hr⟩:∃r:Nat,t.root=r:=⟨t.root.toNat,by have:=hR.root;omega⟩
 have hrl:=hR.root.2;refine kf rfl rfl ?_;repeat' first|exact k9|refine k2 ?_|apply kA|apply kI;intro hc|refine k8 ?_|apply kL;intro hl
 apply kCt [2,6,11,12,13] [];conv=>whnf
 rw[hr]at hrl ⊢;obtain⟨N,hN⟩:=exEq (gm t.nodes (r:Int) p);rw[←hN];refine Lp.ind (fun x:Nat×Nat=>p.length-x.1) (fun x=>x.1≤p.length∧x.2<t.nodes.length∧N=gm t.nodes (x.2:Int) (p.drop x.1)) (fun x=>[(13,InD x.1),(6,InD x.2)]) (fun _=>[]) (fun _=>_) (0,r) ⟨Nat.zero_le _,by dsimp only;omega,hN⟩ rfl rfl rfl ?_
 rintro G ⟨i,q⟩ ih ⟨hi,hq,hT⟩
 dsimp only at hi hq hT ih ⊢
 by_cases hx:i<p.length
 ·rw[List.drop_eq_getElem_cons hx,gm]at hT;have hch:ae t.nodes (q:Int)=t.nodes[q].kids:=(aF (List.getElem?_eq_getElem hq)).symm;rw[hch]at hT;have hko:=hR.kok q t.nodes[q] (List.getElem?_eq_getElem hq);have hkl:=(hw.nodes _ (List.getElem_mem hq)).kids.1;simp only[dJ]at hkl
  by_cases h0:p[i]<0∨(t.nodes[q].kids.length:Int)≤p[i]
  ·rw[if_pos h0]at hT;subst hT
   repeat' first|exact k9|refine k2 ?_|apply kA|apply kI;intro hc|refine k8 ?_|apply kL;intro hl
   all_goals exact aq.i rfl
  ·rw[if_neg h0]at hT;have h1:p[i].toNat<t.nodes[q].kids.length:=by omega
   rw[List.getD_eq_getElem?_getD,List.getElem?_eq_getElem h1,Option.getD_some]at hT;obtain⟨y,hy⟩:∃y:Nat,t.nodes[q].kids[p[i].toNat]=y:=⟨t.nodes[q].kids[p[i].toNat].toNat,by have:=hko _ (List.getElem_mem h1);omega⟩
   have hyl:=hko _ (List.getElem_mem h1);rw[hy]at hyl hT;have hyi:∀h:p[i].toNat<t.nodes[q].kids.length,t.nodes[q].kids[p[i].toNat]'h=(y:Int):=fun _=>hy
   repeat' first|exact k9|refine k2 ?_|apply kA|apply kI;intro hc|apply kL;intro hl|((simp only[hyi])<;>conv=>whnf)|refine k8 ?_|fail
   apply kCt [2,6,11,12,13] [];conv=>whnf
   exact ih (i+1,y) _ _ _ (by dsimp only;omega) ⟨by dsimp only;omega,by dsimp only;omega,hT⟩ rfl rfl rfl
 ·obtain rfl:i=p.length:=by omega
  rw[List.drop_length,gm]at hT;subst hT
  repeat' (first|exact k9|refine k2 ?_|apply kA|apply kI;intro hc|refine k8 ?_|apply kL;intro hl)⟩
theorem qv{k:Nat}{ns:List Nod}{l:List Fl}{n at_:Int}(h:(dat ns n).kind≠od k∨at_<0∨((ae ns n).length:Int)≤at_):aV k ns l n at_=false:=by
 unfold aV;rcases h with h|h|h
 ·rw[decide_eq_false h];rfl
 ·rw[decide_eq_false (by omega:¬0≤at_)];simp
 ·rw[decide_eq_false (by omega:¬at_<_)];simp
theorem ud{ns:List Nod}{q:Nat}(h:q<ns.length):(dat ns (q:Int)).kind=ns[q].kind:=by
 unfold dat;rw[Int.toNat_natCast,List.getD_eq_getElem?_getD,List.getElem?_eq_getElem h];rfl
instance(t:Tre)(l:List Fl)(n at_:Int):C 49 [.ag [byF 5,.cl 91 [],.cl 92 []],aE t,iE l,inF n,inF at_] (boF (aV 1 t.nodes l n at_)) true (t.wf∧av t∧l.length=t.nodes.length∧0≤n∧n<t.nodes.length):=⟨fun⟨hw,hR,hl,hn0,hn1⟩=>by
 have hlen:=hw.len;simp only[bY]at hlen;obtain⟨q,rfl⟩:∃q:Nat,n=q:=⟨n.toNat,by omega⟩
 have hq:q<t.nodes.length:=by omega
 have hch:ae t.nodes (q:Int)=t.nodes[q].kids:=(aF (List.getElem?_eq_getElem hq)).symm;have hdk:=ud hq;have hko:=hR.kok q t.nodes[q] (List.getElem?_eq_getElem hq);have hkl:=(hw.nodes _ (List.getElem_mem hq)).kids.1;simp only[dJ]at hkl
 by_cases h0:t.nodes[q].kind≠5∨at_<0∨(t.nodes[q].kids.length:Int)≤at_
 ·rw[qv (by rw[hdk,hch];exact h0)];refine kf rfl rfl ?_;repeat' first|exact k9|refine k2 ?_|apply kA|apply kI;intro hc|refine k8 ?_|apply kL;intro hl
  all_goals first|exact aq.b rfl rfl|(exfalso;omega)|exact⟨by exfalso;omega⟩
 ·simp only[not_or,Decidable.not_not]at h0;obtain⟨a1,a2,a3⟩:=h0;have ha:at_.toNat<t.nodes[q].kids.length:=by omega
  have e:aV 1 t.nodes l (q:Int) at_=kY 1 (l.getD (t.nodes[q].kids[at_.toNat]).toNat .bot) (decide (at_=(t.nodes[q].kids.length:Int)-1)):=by
   unfold aV;rw[hdk,hch,decide_eq_true (show t.nodes[q].kind=od 1 from a1),decide_eq_true (by omega:0≤at_),decide_eq_true (by omega:at_<_),List.getD_eq_getElem?_getD (l:=t.nodes[q].kids),List.getElem?_eq_getElem ha];rfl
  have hyl:=hko _ (List.getElem_mem ha);obtain⟨y,hy⟩:∃y:Nat,t.nodes[q].kids[at_.toNat]=y:=⟨t.nodes[q].kids[at_.toNat].toNat,by omega⟩
  rw[hy]at hyl e;have hyn:y<l.length:=by omega
  rw[Int.toNat_natCast,List.getD_eq_getElem?_getD,List.getElem?_eq_getElem hyn,Option.getD_some]at e;rw[e];have hyi:∀h:at_.toNat<t.nodes[q].kids.length,t.nodes[q].kids[at_.toNat]'h=(y:Int):=fun _=>hy
  refine kf rfl rfl ?_;repeat' first|exact k9|refine k2 ?_|apply kA|apply kI;intro hc|apply kL;intro hl|((simp only[hyi])<;>conv=>whnf)|refine k8 ?_|fail
  all_goals first|(exfalso;omega)|(refine aq.b ?_ rfl;rw[dO,List.length_map];rfl)⟩
instance(t:Tre)(l:List Fl)(n at_:Int):C 49 [.ag [byF 5,.cl 93 [],.cl 94 []],aE t,iE l,inF n,inF at_] (boF (aV 2 t.nodes l n at_)) true (t.wf∧av t∧l.length=t.nodes.length∧0≤n∧n<t.nodes.length):=⟨fun⟨hw,hR,hl,hn0,hn1⟩=>by
 have hlen:=hw.len;simp only[bY]at hlen;obtain⟨q,rfl⟩:∃q:Nat,n=q:=⟨n.toNat,by omega⟩
 have hq:q<t.nodes.length:=by omega
 have hch:ae t.nodes (q:Int)=t.nodes[q].kids:=(aF (List.getElem?_eq_getElem hq)).symm;have hdk:=ud hq;have hko:=hR.kok q t.nodes[q] (List.getElem?_eq_getElem hq);have hkl:=(hw.nodes _ (List.getElem_mem hq)).kids.1;simp only[dJ]at hkl
 by_cases h0:t.nodes[q].kind≠5∨at_<0∨(t.nodes[q].kids.length:Int)≤at_
 ·rw[qv (by rw[hdk,hch];exact h0)];refine kf rfl rfl ?_;repeat' first|exact k9|refine k2 ?_|apply kA|apply kI;intro hc|refine k8 ?_|apply kL;intro hl
  all_goals first|exact aq.b rfl rfl|(exfalso;omega)|exact⟨by exfalso;omega⟩
 ·simp only[not_or,Decidable.not_not]at h0;obtain⟨a1,a2,a3⟩:=h0;have ha:at_.toNat<t.nodes[q].kids.length:=by omega
  have e:aV 2 t.nodes l (q:Int) at_=kY 2 (l.getD (t.nodes[q].kids[at_.toNat]).toNat .bot) (decide (at_=(t.nodes[q].kids.length:Int)-1)):=by
   unfold aV;rw[hdk,hch,decide_eq_true (show t.nodes[q].kind=od 2 from a1),decide_eq_true (by omega:0≤at_),decide_eq_true (by omega:at_<_),List.getD_eq_getElem?_getD (l:=t.nodes[q].kids),List.getElem?_eq_getElem ha];rfl
  have hyl:=hko _ (List.getElem_mem ha);obtain⟨y,hy⟩:∃y:Nat,t.nodes[q].kids[at_.toNat]=y:=⟨t.nodes[q].kids[at_.toNat].toNat,by omega⟩
  rw[hy]at hyl e;have hyn:y<l.length:=by omega
  rw[Int.toNat_natCast,List.getD_eq_getElem?_getD,List.getElem?_eq_getElem hyn,Option.getD_some]at e;rw[e];have hyi:∀h:at_.toNat<t.nodes[q].kids.length,t.nodes[q].kids[at_.toNat]'h=(y:Int):=fun _=>hy
  refine kf rfl rfl ?_;repeat' first|exact k9|refine k2 ?_|apply kA|apply kI;intro hc|apply kL;intro hl|((simp only[hyi])<;>conv=>whnf)|refine k8 ?_|fail
  all_goals first|(exfalso;omega)|(refine aq.b ?_ rfl;rw[dO,List.length_map];rfl)⟩
instance(t:Tre)(l:List Fl)(n at_:Int):C 49 [.ag [byF 4,.cl 95 [],.cl 92 []],aE t,iE l,inF n,inF at_] (boF (aV 3 t.nodes l n at_)) true (t.wf∧av t∧l.length=t.nodes.length∧0≤n∧n<t.nodes.length):=⟨fun⟨hw,hR,hl,hn0,hn1⟩=>by
 have hlen:=hw.len;simp only[bY]at hlen;obtain⟨q,rfl⟩:∃q:Nat,n=q:=⟨n.toNat,by omega⟩
 have hq:q<t.nodes.length:=by omega
 have hch:ae t.nodes (q:Int)=t.nodes[q].kids:=(aF (List.getElem?_eq_getElem hq)).symm;have hdk:=ud hq;have hko:=hR.kok q t.nodes[q] (List.getElem?_eq_getElem hq);have hkl:=(hw.nodes _ (List.getElem_mem hq)).kids.1;simp only[dJ]at hkl
 by_cases h0:t.nodes[q].kind≠4∨at_<0∨(t.nodes[q].kids.length:Int)≤at_
 ·rw[qv (by rw[hdk,hch];exact h0)];refine kf rfl rfl ?_;repeat' first|exact k9|refine k2 ?_|apply kA|apply kI;intro hc|refine k8 ?_|apply kL;intro hl
  all_goals first|exact aq.b rfl rfl|(exfalso;omega)|exact⟨by exfalso;omega⟩
 ·simp only[not_or,Decidable.not_not]at h0;obtain⟨a1,a2,a3⟩:=h0;have ha:at_.toNat<t.nodes[q].kids.length:=by omega
  have e:aV 3 t.nodes l (q:Int) at_=kY 3 (l.getD (t.nodes[q].kids[at_.toNat]).toNat .bot) (decide (at_=(t.nodes[q].kids.length:Int)-1)):=by
   unfold aV;rw[hdk,hch,decide_eq_true (show t.nodes[q].kind=od 3 from a1),decide_eq_true (by omega:0≤at_),decide_eq_true (by omega:at_<_),List.getD_eq_getElem?_getD (l:=t.nodes[q].kids),List.getElem?_eq_getElem ha];rfl
  have hyl:=hko _ (List.getElem_mem ha);obtain⟨y,hy⟩:∃y:Nat,t.nodes[q].kids[at_.toNat]=y:=⟨t.nodes[q].kids[at_.toNat].toNat,by omega⟩
  rw[hy]at hyl e;have hyn:y<l.length:=by omega
  rw[Int.toNat_natCast,List.getD_eq_getElem?_getD,List.getElem?_eq_getElem hyn,Option.getD_some]at e;rw[e];have hyi:∀h:at_.toNat<t.nodes[q].kids.length,t.nodes[q].kids[at_.toNat]'h=(y:Int):=fun _=>hy
  refine kf rfl rfl ?_;repeat' first|exact k9|refine k2 ?_|apply kA|apply kI;intro hc|apply kL;intro hl|((simp only[hyi])<;>conv=>whnf)|refine k8 ?_|fail
  all_goals first|(exfalso;omega)|(refine aq.b ?_ rfl;rw[dO,List.length_map];rfl)⟩
end Go.Km
end
section
namespace Go.Sl
open Go Go.RowKit
theorem oz{sz:Nat}:∀{rows:List (List Value)} (_:∀r∈rows,r.length=sz) (i:Nat),rows.flatten.take (i*sz)=(rows.take i).flatten
 |_,_,0=>by simp
 |[],_,i+1=>by simp
 |r::rows,h,i+1=>by
  have hr:=h r (by simp);rw[List.flatten_cons,List.take_succ_cons,List.flatten_cons,List.take_append,List.take_of_length_le (by rw[hr,Nat.add_mul];omega),←oz (rows:=rows) (fun x hx=>h x (by simp[hx])) i,hr]
  congr 2
  rw[Nat.add_mul];omega
theorem pD{sz:Nat}:∀{rows:List (List Value)} (_:∀r∈rows,r.length=sz) (i:Nat),rows.flatten.drop (i*sz)=(rows.drop i).flatten
 |_,_,0=>by simp
 |[],_,i+1=>by simp
 |r::rows,h,i+1=>by
  have hr:=h r (by simp);rw[List.flatten_cons,List.drop_succ_cons,List.drop_append,List.drop_of_length_le (by rw[hr,Nat.add_mul];omega),List.nil_append,←pD (rows:=rows) (fun x hx=>h x (by simp[hx])) i,hr]
  congr 1
  rw[Nat.add_mul];omega
section
variable {P:Program}{w:World}
theorem zA{e sz m c:Nat}{A:Option Addr}{rows:List (List Value)}{S0:Nat→Prop}(g2:(own e sz A m c rows).on S0 w):m≤c:=by
 rcases g2.1.2 with⟨hv,h0⟩|⟨g,cap,cur,hv,_,_,hr1,_⟩
 ·injection hv with _ _ hc;omega
 ·injection hv with _ _ hc;omega
theorem Jv{t' e sz by_ m c i j c':Nat}{ty:TypeId}{z:Value}{A A':Option Addr}{rows:List (List Value)}{S0:Nat→Prop}(ht:SlT P t' e sz by_ z)(g2:(own e sz A m c rows).on S0 w)(hij:i≤j)(hj:j≤m)(hone:∀r∈rows,cb r=true)(hA:j<m→A'=A.map (·.add (j*sz))) :
  ∃w',(Builtin.append_ #[t',t'] ty #[.slice A i c,.slice A' (m-j) c']).run P w=.ok (.slice A (i+(m-j)) c) w'∧Chg w w' S0∧(own e sz A (i+(m-j)) c (rows.take i++rows.drop j)).on S0 w':=by
 obtain⟨inf,i1,i2,i3,i4⟩:=ht.info;have hcap:=zA g2;have harr:=own.arr g2;obtain⟨h1,h2,h3,h4⟩:=g2;have hfl:=length_flatten h3;have hft:=oz h3 i;have hfd:=pD h3 j;have hrl:∀r∈rows.take i++rows.drop j,r.length=sz:=fun r hr=>by
  rcases List.mem_append.1 hr with hr|hr
  ·exact h3 r (List.mem_of_mem_take hr)
  ·exact h3 r (List.mem_of_mem_drop hr)
 have hrn:(rows.take i++rows.drop j).length=i+(m-j):=by simp only[List.length_append,List.length_take,List.length_drop];omega
 rcases Nat.eq_or_lt_of_le hj with hjm|hjm
 ·subst hjm;have hd:rows.drop j=[]:=List.drop_of_length_le (by omega);rw[Nat.sub_self,Nat.add_zero,hd,List.append_nil]at hrn ⊢;rw[hd,List.append_nil]at hrl;refine⟨w,?_,Chg.refl,⟨⟨?_,?_⟩,hrn,hrl,fun g hg=>h4 g (by cases A<;>simpa [Value.ownBlock]using hg)⟩⟩
  ·have hfc:(Builtin.firstCells inf.size 0 (.slice A' 0 c')).run P w=.ok #[] w:=by
    cases A'<;>simp[Builtin.firstCells,loadCells,loadCellsFrom]
   have hic:i≤c:=by omega
   cases A<;>simp[Builtin.append_,run_underlying ht.und,sizeOf,typeInfo,i1,Builtin.lenOf,hic,hfc,storeCells]
  ·rw[length_flatten hrl,hrn]
  ·rcases h1.2 with⟨hv,h0⟩|⟨g,cap,cur,hv,hg,hw,k1,k2,k3,k4⟩
   ·injection hv with a1 a2 a3
    subst a1 a3;exact .inl ⟨by rw[show i=0 by omega],by omega⟩
   ·injection hv with a1 a2 a3
    subst a1 a3;refine .inr ⟨g,c,cur,rfl,hg,hw,by omega,k2,k3,?_⟩;rw[←hft,←k4,List.take_take]
    congr 1
    exact(Nat.min_eq_left (Nat.mul_le_mul_right _ (by omega))).symm
 ·rcases h1.2 with⟨hv,h0⟩|⟨g,cap,cur,hv,hg,hw,k1,k2,k3,k4⟩
  ·omega
  ·injection hv with a1 a2 a3
   subst a1 a3;rw[hA hjm];have hnl:(rows.drop j).flatten.length=(m-j)*inf.size:=by
    rw[length_flatten (sz:=sz) (fun r hr=>h3 r (List.mem_of_mem_drop hr)),i3,List.length_drop,h2]
   have hns:∀q u,(rows.drop j).flatten[q]?=some u→w.cell? (((⟨g,0,none⟩:Addr).add (j*sz)).add q)=some u:=fun q u hu=>by
    rw[←hfd,List.getElem?_drop]at hu;rw[add_add];obtain⟨ad,e1,_,e2⟩:=harr.2.2 (by omega)
    cases e1;exact e2 _ _ hu
   have h1c:∀u∈(rows.drop j).flatten,u.oneCell'=true:=fun u hu=>by
    obtain⟨r,hr,hu⟩:=List.mem_flatten.1 hu;exact gI (hone r (List.mem_of_mem_drop hr)) u hu
   have hfit:i*inf.size+(rows.drop j).flatten.length≤cur.size:=by
    rw[hnl,k3,i3,←Nat.add_mul];exact Nat.mul_le_mul_right _ (by omega)
   have hr:=run_append_room (P:=P) w t' ty e inf ht.und i1 g i c cur hw ((⟨g,0,none⟩:Addr).add (j*sz)) (m-j) c' (rows.drop j).flatten hnl hns h1c (by omega) hfit;refine⟨_,hr,?_,⟨⟨?_,?_⟩,hrn,hrl,fun g' hg'=>h4 g' hg'⟩⟩
   ·exact⟨rfl,rfl,rfl,by simp,fun b _ hn=>setRow_other w g b _ (fun e=>hn (by cases e;exact h4 _ rfl))⟩
   ·rw[length_flatten hrl,hrn]
   ·refine .inr ⟨g,c,_,rfl,hg,setRow_heap w g cur _ e _ hw,by omega,k2,?_,?_⟩
    ·simp only[List.size_toArray,List.length_append,List.length_take,List.length_drop,Array.length_toList];omega
    ·have e0:i*sz≤m*sz:=Nat.mul_le_mul_right _ (by omega);have e1:cur.toList.take (i*sz)=(rows.take i).flatten:=by
      rw[←hft,←k4,List.take_take,Nat.min_eq_left e0]
     rw[i3]at *;rw[e1];rw[List.flatten_append];exact List.take_left' (by
      rw[List.length_append,length_flatten (sz:=sz) (fun r hr=>h3 r (List.mem_of_mem_take hr)),hnl,List.length_take,Nat.min_eq_left (by omega),Nat.add_mul])
theorem Hw{z:Value}(hz:z.cells.all (·.oneCell')=true)(n:Nat):∀v∈(Builtin.zeroCells z.cells n).toList,v.oneCell'=true:=by
 intro v hv;rw[Builtin.zeroCells,Array.toList_map]at hv;obtain⟨i,hi,rfl⟩:=List.mem_map.1 hv;have hi:=Array.mem_range.1 (Array.mem_toList_iff.1 hi);have hp:0<z.cells.size:=by
  rcases Nat.eq_zero_or_pos z.cells.size with h|h
  ·rw[h]at hi;simp at hi
  ·exact h
 have hl:i % z.cells.size<z.cells.size:=Nat.mod_lt _ hp;rw[getElem!_pos z.cells _ hl];exact Array.all_eq_true.1 hz _ hl
theorem Ed{t' e sz by_ m c d c'':Nat}{ty:TypeId}{z:Value}{A A'':Option Addr}{rows:List (List Value)}{S0:Nat→Prop}(ht:SlT P t' e sz by_ z)(g2:(own e sz A m c rows).on S0 w)(hz:z.cells.all (·.oneCell')=true)(hd:m+d≤c)(hA:0<d→A''=A.map (·.add (m*sz))) :
  ∃w',(Builtin.clear_ #[t'] ty #[.slice A'' d c'']).run P w=.ok (.tuple #[]) w'∧Chg w w' S0∧(own e sz A m c rows).on S0 w':=by
 obtain⟨inf,i1,i2,i3,i4⟩:=ht.info;rcases Nat.eq_zero_or_pos d with h0|hp
 ·subst h0;refine⟨w,?_,Chg.refl,g2⟩
  cases A''<;>simp[Builtin.clear_,run_underlying ht.und]
 ·obtain⟨h1,h2,h3,h4⟩:=g2;rcases h1.2 with⟨hv,h0⟩|⟨g,cap,cur,hv,hg,hw,k1,k2,k3,k4⟩
  ·injection hv with a1 a2 a3
   omega
  ·injection hv with a1 a2 a3
   subst a1 a3;rw[hA hp];obtain⟨q,rfl⟩:∃q,d=q+1:=⟨d-1,by omega⟩
   obtain⟨vs,hvs⟩:=exEq ((Builtin.zeroCells z.cells (q+1)).toList);have hvl:vs.length=(q+1)*sz:=by rw[hvs,Array.length_toList,size_zeroCells,ht.zsz]
   have hfit:m*sz+0+vs.length≤cur.size:=by
    rw[hvl,k3,Nat.add_zero,←Nat.add_mul];exact Nat.mul_le_mul_right _ hd
   have hst:=run_storeCells_at P g (m*sz) e vs 0 cur w hw hfit (by rw[hvs];exact Hw hz _);simp only[Nat.add_zero]at hst;have hzv:∀w,(zeroValue e).run P w=.ok z w:=fun w=>by simp[zeroValue,typeInfo,i1,i2]
   have ha:(⟨g,0,none⟩:Addr).add (m*sz)=⟨g,m*sz,none⟩:=by rw[add_lit,Nat.zero_add]
   refine⟨w.setRow g (cur.toList.take (m*sz)++vs++cur.toList.drop (m*sz+vs.length)).toArray,?_,?_,⟨⟨h1.1,?_⟩,h2,h3,h4⟩⟩
   ·simp only[Option.map_some,ha];simp[Builtin.clear_,run_underlying ht.und,hzv,←hvs,hst]
   ·exact⟨rfl,rfl,rfl,by simp,fun b _ hn=>setRow_other w g b _ (fun e=>hn (by cases e;exact h4 _ rfl))⟩
   ·refine .inr ⟨g,c,_,rfl,hg,setRow_heap w g cur _ e _ hw,k1,k2,?_,?_⟩
    ·simp only[List.size_toArray,List.length_append,List.length_take,List.length_drop,Array.length_toList];omega
    ·rw[←k4];show((cur.toList.take (m*sz)++vs++cur.toList.drop (m*sz+vs.length))).take (m*sz)=_
     have e1:m*sz≤cur.size:=by omega
     rw[List.append_assoc];exact List.take_left' (by rw[List.length_take,Array.length_toList];omega)
end
section
variable {P:Program}{n:FD}{s:Sg}{ty:TypeId}{w0:World}{L L':List HP}{M:World→Prop}
theorem Ac.cut {x y:Operand}{t e sz by_ m c i j c':Nat}{z:Value}{A A':Option Addr}{rows:List (List Value)} [ht:SlT P t e sz by_ z] (hx:ev s x=some (.slice A i c)) (hy:ev s y=some (.slice A' (m-j) c')) (hu:Upd L (own e sz A m c rows) (own e sz A (i+(m-j)) c (rows.take i++rows.drop j)) L')
  (hij:i≤j) (hj:j≤m) (hone:∀r∈rows,cb r=true) (hA:j<m→A'=A.map (·.add (j*sz))) :
  Ac P n s (St w0 L) (.call { callee:=.builtin .append,args:=#[x,y],argTypes:=#[t,t] }) ty (ι:=Unit) (fun _=>.slice A (i+(m-j)) c) (fun _=>St w0 L'):=by
 refine⟨fun a w o ho ht' hf hm=>?_⟩;obtain⟨S1,g1,g2,g3⟩:=hm.upd hu;obtain⟨w',r1,r2,r3⟩:=Jv (P:=P) (ty:=ty) (c':=c') (A':=A') ht g2 hij hj hone hA;refine⟨(),w',?_,g3 S1 w' r2 (fun b hb=>.inl hb) r3⟩;simp[execOp,ho,resolve,hf.ev hx,hf.ev hy,invoke,builtin,ht',r1]
theorem Ac.clear {x:Operand}{t e sz by_ m c d c'':Nat}{z:Value}{A A'':Option Addr}{rows:List (List Value)} [ht:SlT P t e sz by_ z] (hx:ev s x=some (.slice A'' d c'')) (hu:Upd L (own e sz A m c rows) (own e sz A m c rows) L')
  (hz:z.cells.all (·.oneCell')=true) (hd:m+d≤c) (hA:0<d→A''=A.map (·.add (m*sz))) :
  Ac P n s (St w0 L) (.call { callee:=.builtin .clear,args:=#[x],argTypes:=#[t] }) ty (ι:=Unit) (fun _=>.tuple #[]) (fun _=>St w0 L'):=by
 refine⟨fun a w o ho ht' hf hm=>?_⟩;obtain⟨S1,g1,g2,g3⟩:=hm.upd hu;obtain⟨w',r1,r2,r3⟩:=Ed (P:=P) (ty:=ty) (c'':=c'') (A'':=A'') ht g2 hz hd hA;refine⟨(),w',?_,g3 S1 w' r2 (fun b hb=>.inl hb) r3⟩;simp[execOp,ho,resolve,hf.ev hx,invoke,builtin,ht',r1]
theorem Ev.IF{x y y' y'':Operand}{t e sz by_:Nat}{z:Value}{A:Option Addr}{m c l h h2:Nat}{k k' k'':IntKind}[ht:SlT P t e sz by_ z](hx:ev s x=some (.slice A m c))(hl:ev s y=some (.int k (l:Int)))(hh:ev s y'=some (.int k' (h:Int)))(hh2:ev s y''=some (.int k'' (h2:Int)))(hlh:l≤h)(hha:h≤h2)(hhc:h2≤c) :
  Ev P n s M (.slice t x (some y) (some y') (some y'')) ty (.slice (if h2=l then A else A.map (·.add (l*sz))) (h-l) (h2-l)):=by
 refine⟨fun a w o ho ht' hf hm=>?_⟩;obtain⟨inf,h1,_,h3,_⟩:=ht.info;simp[execOp,ho,hf.ev hx,hf.ev hl,hf.ev hh,hf.ev hh2,Instr.sliceAt,Instr.slice,Instr.sliceBounds,Instr.sliceBound,asIntOf,run_underlying ht.und,hlh,hha,hhc,sizeOf,typeInfo,h1,h3]
end
end Go.Sl
end
section
namespace Go.Sl
open Go
theorem Ac.toN{P:Program}{n:FD}{s:Sg}{M:World→Prop}{op:Op}{ty:TypeId}{ι:Sort _}{val:ι→Value}{M':ι→World→Prop}(h:Ac P n s M op ty val M'):AcN P n s M op ty M':=⟨fun a w o ho ht hf hm=>by
 obtain⟨x,w',h1,h2⟩:=h.go a w o ho ht hf hm;exact⟨x,w',.inr ⟨_,h1⟩,h2⟩⟩
end Go.Sl
namespace Go.Proofs.YtpbichnnflabdaaGreatDoor
open Go Go.Sl Go.RowKit
set_option maxRecDepth 20000 in
theorem AQ{w0:World}{L0:List HP}(A:Option Addr)(m c i j:Nat)(rows:List (List Value))(w:World)(hij:i<j)(hj:j≤m)(hone:∀r∈rows,cb r=true)(hw:St w0 (own 39 2 A m c rows::L0) w) :
  Calls Tryz.prog 125 #[.slice A m c,.int .i64 (i:Int),.int .i64 (j:Int)] w (fun e w'=>∃x:Unit,e=.returned (.slice A (i+(m-j)) c)∧St w0 (own 39 2 A (i+(m-j)) c (rows.take i++rows.drop j)::L0) w'):=by
 have hmc:m≤c:=zA (hw.BI (H:=own 39 2 A m c rows) .here);have hne:decide ((i:Int)=(j:Int))=false:=decide_eq_false (by omega);refine TC.calls (l:=[.slice A m c,.int .i64 (i:Int),.int .i64 (j:Int)]) (M:=St w0 (own 39 2 A m c rows::L0)) Tryz.func125 rfl Tryz.ntmps125 rfl hw ?_
 repeat' (first|((apply T.ev_;exact rfl;apply Ev.IF;exact rfl;exact rfl;exact rfl;exact rfl;omega;omega;omega))|((apply TL.mM;exact rfl;exact rfl;apply Ev.GB (h:=i);exact rfl;exact rfl;omega))|((apply TL.mM;exact rfl;exact rfl;apply Ev.kW (l:=j) (h:=m);exact rfl;exact .inr ⟨_,_,rfl,rfl⟩;exact .inl ⟨rfl,rfl⟩;omega;omega))|(refine W1 ?_)|(refine W2 (fun hc=>?_) (fun hc=>?_))|(intro _))
 refine TL.uK rfl rfl (Ac.cut (j:=j) (m:=m) (rows:=rows) rfl rfl .here (Nat.le_of_lt hij) hj hone (fun h=>if_neg (by omega))) (fun _=>?_)
 repeat' (first|((apply T.ev_;exact rfl;apply Ev.kW (l:=i+(m-j)) (h:=m);exact rfl;exact .inr ⟨_,_,rfl,rfl⟩;exact .inr ⟨_,_,rfl,rfl⟩;omega;omega))|(refine W1 ?_)|(refine W2 (fun hc=>?_) (fun hc=>?_))|(intro _))
 refine T.MR (Ac.toN (Ac.clear (m:=i+(m-j)) (A:=A) (c:=c) (rows:=rows.take i++rows.drop j) rfl .here (by kernel_rfl) (by omega) (fun h=>if_neg (by omega)))) (fun _=>?_)
 repeat' (first|(refine W1 ?_)|(refine W2 (fun hc=>?_) (fun hc=>?_))|(intro _))
 exact TX.o4 rfl rfl (fun w' hw=>⟨(),rfl,hw⟩)
set_option maxRecDepth 20000 in
theorem AP{w0:World}{L0:List HP}(A:Option Addr)(m c i:Nat)(rows:List (List Value))(w:World)(hi:i<m)(hm:m≤1000000000)(hone:∀r∈rows,cb r=true)(hw:St w0 (own 39 2 A m c rows::L0) w) :
  Calls Tryz.prog 94 #[.slice A m c,.int .i64 (i:Int)] w (fun e w'=>∃x:Unit,e=.returned (.slice A (i+(m-(i+1))) c)∧St w0 (own 39 2 A (i+(m-(i+1))) c (rows.take i++rows.drop (i+1))::L0) w'):=by
 refine TC.calls (l:=[.slice A m c,.int .i64 (i:Int)]) (M:=St w0 (own 39 2 A m c rows::L0)) Tryz.func94 rfl Tryz.ntmps94 rfl hw ?_
 repeat' (first|(refine W1 ?_)|(refine W2 (fun hc=>?_) (fun hc=>?_))|(intro _))
 refine T.Fe (f:=125) (vs:=[.slice A m c,.int .i64 (i:Int),.int .i64 ((i+1:Nat):Int)]) (val:=fun _:Unit=>.slice A (i+(m-(i+1))) c) (LL:=fun _:Unit=>own 39 2 A (i+(m-(i+1))) c (rows.take i++rows.drop (i+1))::L0) rfl rfl (fun w' hw'=>AQ A m c i (i+1) rows w' (Nat.lt_succ_self i) hi hone hw') (fun _=>?_)
 repeat' (first|(refine W1 ?_)|(refine W2 (fun hc=>?_) (fun hc=>?_))|(intro _))
 exact TX.o4 rfl rfl (fun w' hw=>⟨(),rfl,hw⟩)
end Go.Proofs.YtpbichnnflabdaaGreatDoor
namespace Go.Km
open Go Go.RowKit Go.Vc Go.Proofs Go.Proofs.YtpbichnnflabdaaGreatDoor
open Go.Sl hiding lk
theorem ur{Z:Nat→Prop}{w:World}{rows:List (List F)}{vr:List (List Value)}(h:F.aI Z w rows vr)(i j:Nat):F.aI Z w (rows.take i++rows.drop j) (vr.take i++vr.drop j):=F.eV (F.cH i h) (F.dn j h)
theorem AR{η:Env}{b v i:Nat}{rows:List (List F)}(h1:η b=some (.ro v 39 2 rows))(hi:i<rows.length)(hm:rows.length≤1000000000)(Γ:Nat→Option (List F)) :
  cT Tryz.prog Γ η 94 [.own b v,.fr (.vl (.int .i64 (i:Int)))] (.own b (nv η b)) [b] [(b,.ro (nv η b) 39 2 (rows.take i++rows.drop (i+1)))]:=by
 refine⟨fun η' hη W c O w vs hΓ hp ho hvs=>⟨inferInstance,?_⟩⟩;have hb:η' b=some (.ro v 39 2 rows):=(hη b (by simp)).trans h1;have hnv:nv η b=nv η' b:=by unfold nv;rw[h1,hb]
 obtain⟨A,k,vr,j1,j2,j3,j4⟩:=hp.pc b _ hb;have hrl:=F.ic j2;unfold D.ah at hvs;obtain⟨y,ys,rfl,n1,n2⟩:=hvs;unfold D.ah at n2;obtain⟨y2,ys2,rfl,n3,n4⟩:=n2;unfold D.ah at n4;subst n4;unfold D.rep at n1;obtain⟨A',m',k',n7,rfl⟩:=n1;rw[j1]at n7
 cases n7;have hx:=aL n3;subst hx;have hgA:∃g,A=some ⟨g,0,none⟩:=by
  rcases j4.1.2 with⟨hv,h0⟩|⟨g,cap,cur,hv,_⟩
  ·omega
  ·injection hv with a1
   exact⟨g,a1⟩
 obtain⟨g,rfl⟩:=hgA;have hg:O b g:=j4.2.2.2 g rfl;have hlt:g<w.heap.size:=hp.lt b g hg;have j5:(own 39 2 (some ⟨g,0,none⟩) rows.length k vr).on (fun x=>x=g) w:=⟨j4.1,j4.2.1,j4.2.2.1,fun x hx=>by simpa [Value.ownBlock]using hx.symm⟩
 have hst:St (pN w) [own 39 2 (some ⟨g,0,none⟩) rows.length k vr,hFr w fun x=>x<w.heap.size∧x≠g] w:=
  ⟨⟨rfl,rfl,rfl,by simp[pN],fun x hx=>absurd hx (Nat.not_lt_zero _)⟩,fun x=>x=g,fun x hx=>⟨Nat.zero_le _,by subst hx;exact hlt⟩,j5,fun x=>x<w.heap.size∧x≠g,fun x hx=>⟨⟨Nat.zero_le _,hx.1⟩,hx.2⟩,fun x hx=>⟨hx,rfl⟩,trivial⟩
 refine(AP (some ⟨g,0,none⟩) rows.length k i vr w hi hm j3 hst).mono fun e w' ⟨_,he,hst'⟩=>⟨_,he,?_⟩;obtain⟨hbl,S1,hS1,hb1,S2,hS2,hfr,_⟩:=hst';have hgS:S1 g:=hb1.2.2.2 g rfl;have hsz:w.heap.size≤w'.heap.size:=by
  by_cases hm:w.heap.size-1=g
  ·have:=(hS1 g hgS).2;omega
  ·have:=(hS2 _ (hfr (w.heap.size-1) ⟨by omega,hm⟩).1).1.2;omega
 have hch:Chg w w' (O b):=⟨hbl.os,hbl.tape,hbl.output,hsz,fun x hx hn=>(hfr x ⟨hx,fun e=>hn (by rw[e];exact hg)⟩).2⟩
 have hrow:(rows.take i++rows.drop (i+1)).length=i+(rows.length-(i+1)):=by simp only[List.length_append,List.length_take,List.length_drop];omega
 obtain⟨c',hc'⟩:∃c',c'=c.add b (nv η' b) (some ⟨g,0,none⟩,i+(rows.length-(i+1)),k):=⟨_,rfl⟩
 have hle:c.le c':=by rw[hc'];exact Cf.eB (hp.fresh b)
 have hι:c'.ι b (nv η' b)=some (some ⟨g,0,none⟩,i+(rows.length-(i+1)),k):=by rw[hc'];exact Cf.cP
 refine⟨_,_,_,c',_,⟨rfl,rfl,rfl⟩,hle,by unfold D.rep;rw[hnv];exact⟨_,_,_,hι,rfl⟩,hp.upd (S':=O b) hch (fun x hx=>.inl hx) hle (by rw[hc'];rfl) (by rw[hc'];rfl) ?_ ?_,ho.upd hch (fun x hx=>.inl hx) (by rw[hc'];rfl) (by rw[hc'];rfl)⟩
 ·rw[hc',hnv];exact hp.cq rfl
 ·rw[hnv];refine⟨some ⟨g,0,none⟩,k,vr.take i++vr.drop (i+1),by rw[hι,hrow],?_,fun r hr=>?_,?_⟩
  ·rw[hc'];exact ur j2 i (i+1)
  ·rcases List.mem_append.1 hr with hr|hr
   ·exact j3 r (List.mem_of_mem_take hr)
   ·exact j3 r (List.mem_of_mem_drop hr)
  ·rw[hrow];exact⟨hb1.1,hb1.2.1,hb1.2.2.1,j4.2.2.2⟩
end Go.Km
end
