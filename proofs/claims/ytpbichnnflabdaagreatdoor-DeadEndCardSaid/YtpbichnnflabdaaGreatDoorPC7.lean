/- The texts that the card needs, part 8. -/
import Derived.Test.YtpbichnnflabdaaGreatDoorPC6
set_option linter.all false
section
namespace Go.Km
open Go Go.Vc Go.Proofs Go.aa Go.Proofs.YtpbichnnflabdaaGreatDoor
set_option maxRecDepth 100000
set_option maxHeartbeats 0
def jz(L:List Nod)(l:List Int):List Nod:=l.foldl (fun ms k=>ms.set k.toNat { ms.getD k.toNat .zero with kids:=chO L k }) L
theorem qj(L:List Nod)(l:List Int)(k:Int):jz L (l++[k])=(jz L l).set k.toNat { (jz L l).getD k.toNat .zero with kids:=chO L k }:=by
 unfold jz;rw[List.foldl_append];rfl
theorem tN{L:List Nod}:∀(l:List Int),(∀k∈l,0≤k∧k<(L.length:Int))→Mod L (jz L l):=by
 intro l;rcases bQ l with rfl|⟨l,k,rfl⟩
 ·intro _;exact Mod.refl L
 ·intro h;have ih:=tN l fun x hx=>h x (by simp[hx])
  obtain⟨k,rfl⟩:∃q:Nat,k=q:=⟨k.toNat,by have:=h k (by simp);omega⟩
  have hk:k<(jz L l).length:=by rw[ih.len];have:=h k (by simp);omega
  rw[qj,Int.toNat_natCast,List.getD_eq_getElem?_getD,List.getElem?_eq_getElem hk];exact ih.set (List.getElem?_eq_getElem hk)
termination_by l=>l.length
decreasing_by
 all_goals simp_wf
 all_goals(subst_vars;simp)
theorem It{L:List Nod}{l:List Int}(h:∀k∈l,0≤k∧k<(L.length:Int)):(jz L l).length=L.length:=(tN l h).len
theorem z8{L:List Nod}:∀(l:List Int),(∀k∈l,0≤k∧k<(L.length:Int))→∀(x:Nat) m,(x:Int)∈l→(jz L l)[x]?=some m→m.kids=chO L x:=by
 intro l;rcases bQ l with rfl|⟨l,k,rfl⟩
 ·intro _ x m hx;simp at hx
 ·intro h x m hx hm;have ih:=z8 l fun x hx=>h x (by simp[hx])
  obtain⟨k,rfl⟩:∃q:Nat,k=q:=⟨k.toNat,by have:=h k (by simp);omega⟩
  have hk:k<(jz L l).length:=by rw[It fun x hx=>h x (by simp[hx])];have:=h k (by simp);omega
  rw[qj,Int.toNat_natCast]at hm
  by_cases e:k=x
  ·subst e;rw[List.getElem?_set_self hk]at hm
   cases hm;rfl
  ·rw[List.getElem?_set_ne e]at hm;refine ih x m ?_ hm;rcases List.mem_append.1 hx with hx|hx
   ·exact hx
   ·simp at hx;omega
termination_by l=>l.length
decreasing_by
 all_goals simp_wf
 all_goals(subst_vars;simp)
theorem I2{L ms:List Nod}(hch:bD (ae L))(hm:Mod L ms){i:Nat}(hi:i<ms.length):chO ms i=chO L i:=by
 rcases hm.chO hch i with h|h
 ·exact h
 ·have hk:=hm.kind i;have e:bn ms i=(ms[i]).kind:=by rw[iW ms hi];rfl
  rw[←hm.DI (List.getElem?_eq_getElem hi) (by omega) (by omega)];unfold chO;rw[if_neg (by omega)];exact(aF (List.getElem?_eq_getElem hi)).symm
instance(L:List Nod)(node:Int):HA Tryz.prog X1.Γ 147 194 46 9 (L.map a8) [inF node]
  (aE (aD ⟨opA L,0⟩ node)) ((jz L (dfs (en (chO L)) L.length [node])).map a8) (L.length≤1466015503701∧bD (ae L)∧0≤node∧node<L.length∧∀x,(dfs (ae L) L.length [node]).count x≤1):=⟨fun h=>by
 obtain⟨hL,hch,h0,hn,hnd⟩:=h;have hcO:=kN hch;have hallO:=xK hch h0 hn hnd;have hroom:∀(op out:List Int),out++dfs (en (chO L)) L.length op.reverse=dfs (en (chO L)) L.length [node]→out.length+op.length≤1466015503701:=by
  intro op out he;have h1:=dp (ch:=en (chO L)) L.length op.reverse (by omega);have h2:=congrArg List.length he;rw[ew L.length [node],List.length_append]at h2;simp at h1;omega
 refine⟨fun η b_ v_ b2_ v2_ h1_ h2_=>lU dV rfl rfl ?_ h1_ h2_⟩;intro vs_;repeat' first|exact k9|refine k2 ?_|apply kA|apply kI;intro hc|refine k8 ?_|apply kL;intro hl
 apply Stp.nj 5 3 1 rfl rfl;apply kCt [0,4,5,6] [];conv=>whnf
 refine Lp.ind (fun z:List Int×List Int=>(dfs (en (chO L)) L.length z.1.reverse).length) (fun z=>(∀x∈z.1,0≤x∧x<L.length)∧(∀x∈z.2,0≤x∧x<L.length)∧z.2++dfs (en (chO L)) L.length z.1.reverse=dfs (en (chO L)) L.length [node]) (fun _=>[]) (fun z=>[(1,.ro 0 46 9 ((jz L z.2).map a8)),(3,.ro 0 3 1 (z.2.map ikF)),(4,.ro 0 3 1 (z.1.map ikF))]) (fun _=>_) ([node],[]) ⟨by intro x hx;simp at hx;subst hx;exact⟨h0,hn⟩,by simp,rfl⟩ rfl rfl rfl ?_
 rintro G ⟨op,out⟩ ih ⟨hop,hout,he⟩
 dsimp only at hop hout he ih ⊢;have hrm:=hroom op out he;have hMod:=tN out hout;have hml:=hMod.len;rcases bQ op with rfl|⟨init,i,rfl⟩
 ·simp only[List.reverse_nil,bK,List.append_nil]at he;have hol:out.length≤L.length:=by rw[he,ew];exact hallO
  have hP:out.reverse=iN (chO L) L.length [node]:=by rw[he,show[node]=[node].reverse from rfl,pr];rfl
  repeat' first|exact k9|refine k2 ?_|apply kA|apply kI;intro hc|refine k8 ?_|apply kL;intro hl
  apply kCt [0,2,3] [0,4,5];conv=>whnf
  refine Lp.ind (fun x:Nat×List Int=>out.length-x.1) (fun x=>w9 out x.2 x.1∧2*x.1≤out.length+1) (fun x=>[(2,InD x.1),(3,InD ((out.length:Int)-1-x.1))]) (fun x=>[(0,.ro 0 3 1 (x.2.map ikF))]) (fun _=>_) (0,out) ⟨.zero out,by simp⟩ rfl ?_ rfl ?_
  ·simp only[List.length_map,Int.sub_zero,Int.natCast_zero];rfl
  rintro G' ⟨k,cur⟩ ih' ⟨hI,hk⟩
  dsimp only at hI hk ih' ⊢;have hcl:=hI.len
  repeat' first|exact k9|refine k2 ?_|apply kA|apply kI;intro hc|refine k8 ?_|apply kL;intro hl
  ·have h1:k<cur.length:=by omega
   have h2:out.length-1-k<cur.length:=by omega
   have e:((out.length:Int)-1-k).toNat=out.length-1-k:=by omega
   apply kCt [0,2,3] [0,4,5];conv=>whnf
   refine ih' (k+1,(cur.set k cur[out.length-1-k]).set (out.length-1-k) cur[k]) _ _ _ (by dsimp only;omega) ⟨hI.step (by omega) (List.getElem?_eq_getElem h1) (List.getElem?_eq_getElem h2),by dsimp only;omega⟩ rfl ?_ ?_
   ·dsimp only;rw[show(out.length:Int)-1-((k+1:Nat):Int)=out.length-1-k-1 by omega];rfl
   ·simp only[List.map_set,e];rfl
  ·have hcur:=hI.done (by omega);subst hcur;clear ih' ih hI hcl;have hmemO:∀x∈out.reverse,0≤x∧x<(L.length:Int):=fun x hx=>hout x (by simpa using hx)
   have hdone:=z8 out hout;have hP2:∀x∈out.reverse,x∈dfs (chO L) L.length [node]:=fun x hx=>by rw[hP,(cV _ _ _).mem_iff]at hx;exact hx
   have hmo:∀x∈out.reverse,∀m,(jz L out)[x.toNat]?=some m→m.kids=chO L x∧(opA L)[x.toNat]?=some m∧m.kids.length≤L.length:=by
    intro x hx m hm;obtain⟨x,rfl⟩:∃q:Nat,x=q:=⟨x.toNat,by have:=hmemO x hx;omega⟩
    have hk:=hdone x m (by simpa using hx) hm;refine⟨hk,Mm hMod hm hk,?_⟩;rw[hk];have h1:=ib hcO L.length L.length [node] (by intro k hk;simp at hk;subst hk;exact⟨h0,hn⟩) (Nat.le_refl _) x (hP2 x hx);have:=hmemO x hx;rw[aQ hcO (by omega) (by omega),bK,List.append_nil,List.length_cons]at h1;have h2:=dp (ch:=chO L) L.length (chO L x) (by omega);omega
   have htk:aD ⟨opA L,0⟩ node=⟨a9 (opA L) 0 (List.replicate L.length 0) out.reverse,out.reverse.length-1⟩:=by
    unfold aD aT;simp only;rw[jB,show ae (opA L)=chO L from funext fun k=>oZ L k,←hP]
   have hlr:out.length=out.reverse.length:=by simp
   rw[hlr]at hol;rw[htk,←he];generalize hms:jz L out=ms at *;clear hP2 hP htk hop hdone hMod hlr;apply kCt [0,4,8,9,66,67,68] [];conv=>whnf
   generalize out.reverse=l at *;obtain⟨RR,hRR⟩:=exEq (a9 (opA L) 0 (List.replicate L.length 0) l);rw[←hRR];refine Lp.ind (fun z:Nat×List Int×List Nod=>l.length-z.1) (fun z=>z.1≤l.length∧z.2.1.length=L.length∧z.2.2.length=z.1∧z.2.2++a9 (opA L) z.1 z.2.1 (l.drop z.1)=RR) (fun z=>[(68,InD z.1)]) (fun z=>[(3,.ro 0 3 1 (z.2.1.map ikF)),(4,.ro 0 46 9 (z.2.2.map a8))]) (fun _=>_) (0,List.replicate L.length 0,[]) ⟨by simp,by simp,rfl,by rw[hRR];rfl⟩ rfl rfl ?_ ?_
   ·rw[show(List.replicate L.length (0:Int)).map ikF=List.replicate (ms.map a8).length (ikF 0)by simp[hml]];rfl
   rintro G ⟨i,pl,no⟩ ih ⟨hi,hpl,hno,hT⟩
   dsimp only at hi hpl hno hT ih ⊢
   by_cases hx:i<l.length
   ·obtain⟨x,hxl⟩:∃x:Nat,l[i]=x:=⟨l[i].toNat,by have:=hmemO _ (List.getElem_mem hx);omega⟩
    have hxi:∀h:i<l.length,l[i]'h=(x:Int):=fun _=>hxl
    have hm1:=hmemO _ (List.getElem_mem hx);rw[hxl]at hm1;have hxm:x<ms.length:=by omega
    have hxp:x<pl.length:=by omega
    obtain⟨q1,q2,q3⟩:=hmo _ (List.getElem_mem hx) _ (by rw[hxl];exact List.getElem?_eq_getElem hxm);rw[hxl]at q1 q2;rw[Int.toNat_natCast]at q2;have hkb:∀y∈ms[x].kids,0≤y∧y<(L.length:Int):=fun y hy=>by
     rw[q1]at hy;have:=hcO x y hy;omega
    rw[List.drop_eq_getElem_cons hx,hxl,a9]at hT;simp only[Int.toNat_natCast,List.getD_eq_getElem?_getD,q2,Option.getD_some]at hT;obtain⟨n,hn0⟩:=exEq (ms[x]);have hni:∀h:x<ms.length,ms[x]'h=n:=fun _=>hn0.symm
    rw[←hn0]at q1 q3 hkb hT
    repeat' first|exact k9|refine k2 ?_|apply kA|apply kI;intro hc|apply kL;intro hl|((simp only[hxi])<;>conv=>whnf)|((simp only[hni])<;>conv=>whnf)|((simp only[Int.toNat_natCast])<;>conv=>whnf)|refine k8 ?_|fail
    apply Stp.nj 13 3 1 rfl rfl;apply kCt [0,4,8,9,12,13,66,67,68,85,86,87] [];conv=>whnf
    obtain⟨plx,hplx⟩:∃plx:List Int,plx=pl.set x (i:Int):=⟨_,rfl⟩
    rw[←hplx]at hT;have hpl2:plx.length=L.length:=by rw[hplx];simpa using hpl
    refine Lp.ind (fun z:Nat=>n.kids.length-z) (fun z=>z≤n.kids.length) (fun z=>[(87,InD z)]) (fun z=>[(3,.ro 0 3 1 (plx.map ikF)),(6,.ro 0 3 1 (((n.kids.take z).map fun y=>plx[y.toNat]?.getD 0).map ikF))]) (fun _=>_) 0 (by simp) rfl rfl ?_ ?_
    ·rw[hplx,List.map_set];rfl
    rintro G' j ih' hj
    by_cases hy:j<n.kids.length
    ·have hkj:=hkb _ (List.getElem_mem hy);have hget:∀h:(n.kids[j]).toNat<plx.length,plx[(n.kids[j]).toNat]'h=plx[(n.kids[j]).toNat]?.getD 0:=fun h=>by rw[List.getElem?_eq_getElem h];rfl
     repeat' first|exact k9|refine k2 ?_|apply kA|apply kI;intro hc|refine k8 ?_|apply kL;intro hl
     apply kCt [0,4,8,9,12,13,66,67,68,85,86,87] [];conv=>whnf
     refine ih' (j+1) _ _ _ (by omega) (by omega) rfl rfl ?_;rw[List.take_succ_eq_append_getElem hy,List.map_append,List.map_append,List.map_singleton,←hget (by omega)];rfl
    ·rw[List.take_of_length_le (by omega)]
     repeat' first|exact k9|refine k2 ?_|apply kA|apply kI;intro hc|refine k8 ?_|apply kL;intro hl
     apply kCt [0,4,8,9,66,67,68] [];conv=>whnf
     refine ih (i+1,plx,no++[{ n with kids:=n.kids.map fun y=>plx[y.toNat]?.getD 0 }]) _ _ _ (by dsimp only;omega) ⟨by dsimp only;omega,hpl2,by simp[hno],by dsimp only;rw[←hT];simp⟩ rfl rfl ?_;dsimp only;rw[kE a8];rfl
   ·rw[List.drop_of_length_le (by omega),a9,List.append_nil]at hT;subst hT
    repeat' first|exact k9|refine k2 ?_|apply kA|apply kI;intro hc|refine k8 ?_|apply kL;intro hl
    exact cR.i (by rw[List.length_map,show(no.length:Int)=l.length by omega];rfl) rfl
 ·have hi:=hop i (by simp);obtain⟨i,rfl⟩:∃y:Nat,i=y:=⟨i.toNat,by omega⟩
  have hlti:i<(jz L out).length:=by omega
  have hlast:∀h,(init++[(i:Int)])[((List.map ikF (init++[(i:Int)])).length-1:Int).toNat]'h=(i:Int):=by
   intro h;simp[List.getElem_append]
  simp only[List.length_append,List.length_cons,List.length_nil]at hrm;rw[List.reverse_append,List.reverse_singleton,List.singleton_append,aQ hcO.rev (by omega) (by omega)]at he;have hmemI:(i:Int)∈dfs (chO L) L.length [node]:=by
   have:(i:Int)∈dfs (en (chO L)) L.length [node]:=by rw[←he];simp
   have h2:=pr (chO L) L.length [node];rw[List.reverse_singleton]at h2;rw[←(cV (chO L) L.length [node]).mem_iff,←h2];simpa using this
  have hpre:(jz L out).length≤1466015503701∧bD (ae (jz L out))∧0≤(i:Int)∧(i:Int)<(jz L out).length∧(dfs (ae (jz L out)) (jz L out).length [(i:Int)]).length≤1466015503701:=
   ⟨by omega,Mod.NQ hch hMod,by omega,by omega,by have:=Mod.room hch hMod h0 hn hnd hmemI;omega⟩
  have hcO2:chO (jz L out) i=chO L i:=I2 hch hMod hlti;have hkl:(chO L i).length≤L.length:=by
   have h1:=ib hcO L.length L.length [node] (by intro k hk;simp at hk;subst hk;exact⟨h0,hn⟩) (Nat.le_refl _) i hmemI;rw[aQ hcO (by omega) (by omega),bK,List.append_nil,List.length_cons]at h1;have h2:=dp (ch:=chO L) L.length (chO L i) (by omega);omega
  repeat' first|exact k9|refine k2 ?_|apply kA|apply kI;intro hc|apply kL;intro hl|((rw[hlast])<;>conv=>whnf)|((simp only[hcO2])<;>conv=>whnf)|refine k8 ?_|fail
  apply kCt [0,4,5,6] [];conv=>whnf
  refine ih (init++chO L i,out++[(i:Int)]) _ _ _ ?_ ⟨?_,?_,?_⟩ rfl rfl ?_
  ·dsimp only;rw[List.reverse_append,List.reverse_append,List.reverse_singleton,List.singleton_append,aQ hcO.rev (by omega) (by omega),bp];simp only[List.length_cons,List.length_append];have:(chO L i).reverse=en (chO L) i:=rfl;rw[this];omega
  ·intro x hx;rcases List.mem_append.1 hx with hx|hx
   ·exact hop x (by simp[hx])
   ·have:=hcO i x hx;omega
  ·intro x hx;rcases List.mem_append.1 hx with hx|hx
   ·exact hout x hx
   ·simp at hx;omega
  ·dsimp only;rw[List.reverse_append,bp,←he];simp[en]
  ·dsimp only;rw[qj,Int.toNat_natCast,List.getD_eq_getElem?_getD,List.getElem?_eq_getElem hlti,List.map_set,show List.map ikF (out++[(i:Int)])=List.map ikF out++[ikF i]from kE _ _ _,show List.map ikF (init++chO L i)=List.take ((List.map ikF (init++[(i:Int)])).length-1:Int).toNat (List.map ikF (init++[(i:Int)]))++List.map ikF (chO L i)from by simp[List.take_append]];rfl⟩
abbrev HQ:F:=.ag [.cl 167 [],.cl 167 [],.cl 167 [],.cl 167 [],.cl 168 [],.cl 169 [],.cl 167 [],.cl 167 [],.cl 167 [],.cl 167 []]
instance:C 146 [] HQ false True:=⟨fun _=>by
 refine kf rfl rfl ?_;repeat' (first|exact k9|refine k2 ?_|apply kA|apply kI;intro hc|refine k8 ?_|apply kL;intro hl)⟩
end Go.Km
end
section
namespace Go.aa
theorem tf.last{t:Tre}(hR:av t){ar:List Nod}{pl:List Int}(h:tf t t.nodes.length ar pl) :
  (0≤pl.getD t.root.toNat 0∧pl.getD t.root.toNat 0<ar.length)∧aA ar ar.length [pl.getD t.root.toNat 0]=(foT t).nrm∧∀x,(dfs (ae ar) ar.length [pl.getD t.root.toNat 0]).count x≤1:=by
 have h0:=hR.root;obtain⟨r,hr⟩:∃r:Nat,t.root=r:=⟨t.root.toNat,by omega⟩
 have hd:=h.den r (by omega);rw[hr,Int.toNat_natCast];refine⟨⟨hd.pos,hd.lt⟩,?_,fun x=>?_⟩
 ·rw[hd.fo,foT,hr]
 ·have hm:(r:Int)∈unC t t.nodes.length:=by
   have h1:=mu t t.nodes.length (r:Int);have hc:=hR.count r (by omega);rw[if_pos hr.symm]at hc;rw[List.take_of_length_le (Nat.le_refl _),if_pos ⟨by omega,by omega,List.count_eq_zero.1 hc⟩]at h1;exact List.count_pos_iff.1 (by omega)
  have hs:[pl.getD r 0].Sublist ((unC t t.nodes.length).map fun k=>pl.getD k.toNat 0):=List.singleton_sublist.2 (List.mem_map.2 ⟨r,hm,by rw[Int.toNat_natCast]⟩);exact Nat.le_trans (iD hs x) (h.nd x)
theorem JK{n:Nod}{c:Int}(h:fits n c=true):0≤n.kind∧n.kind<10:=by
 unfold fits at h
 repeat' split at h
 all_goals first|omega|(simp at h)
end Go.aa
namespace Go.Km
open Go Go.Vc Go.Proofs Go.aa Go.Proofs.YtpbichnnflabdaaGreatDoor
set_option maxRecDepth 100000
set_option maxHeartbeats 0
theorem AD{ar:List Nod}{n:Nod}{K:List Int}(h4:n.kind≠4)(h5:n.kind≠5):j6 ar n K=(ar++[{ n with kids:=K }],(ar.length:Int)):=by
 unfold j6;rw[if_neg h4,if_neg h5]
instance(t:Tre):C 126 [aE t] (.tp [aE (kR t).1,boF (kR t).2]) false t.wf:=⟨fun ht=>by
 have hlen:=ht.len;simp only[bY]at hlen
 cases hr:au t with
 |false=>
  rw[yE hr];refine kf rfl rfl ?_;repeat' first|exact k9|refine k2 ?_|apply kA|apply kI;intro hc|refine k8 ?_|apply kL;intro hl
  exact aq.i rfl
 |true=>
  rw[my hr];have hR:=ao hr;refine kf rfl rfl ?_;repeat' first|exact k9|refine k2 ?_|apply kA|apply kI;intro hc|refine k8 ?_|apply kL;intro hl
  apply Stp.By 6 194 46 9 rfl rfl;apply kCt [1,2,4,5,6,22,23,24] [];conv=>whnf
  refine Lp.ind (fun z:Nat×List Nod×List Int=>t.nodes.length-z.1) (fun z=>z.1≤t.nodes.length∧tf t z.1 z.2.1 z.2.2) (fun z=>[(24,InD z.1)]) (fun z=>[(3,.ro 0 46 9 (z.2.1.map a8)),(5,.ro 0 3 1 ((z.2.2++List.replicate (t.nodes.length-z.1) 0).map ikF))]) (fun _=>_) (0,[],[]) ⟨by simp,tf.zero t⟩ rfl rfl ?_ ?_
  ·have e:List.map ikF ([]++List.replicate (t.nodes.length-0) (0:Int))=List.replicate (t.nodes.map a8).length (ikF 0):=by simp
   dsimp only;rw[e];rfl
  rintro G ⟨i,ar,pl⟩ ih ⟨hi,hI⟩
  dsimp only at hi hI ih ⊢;have hpl:=hI.len;have hal:=hI.NR
  by_cases hx:i<t.nodes.length
  ·obtain⟨n,hn⟩:=exEq (t.nodes[i]);have hni:∀h:i<t.nodes.length,t.nodes[i]'h=n:=fun _=>hn.symm
   have hget:t.nodes[i]?=some n:=by rw[hn];exact List.getElem?_eq_getElem hx
   have hst:=hI.step hR hget;obtain⟨hK,hF⟩:=places hI (by omega) n.kids (hR.kok i n hget);have hkb:=hR.kok i n hget;have hkl:n.kids.length≤17592186044416:=(ht.nodes n (by rw[hn];exact List.getElem_mem hx)).kids.1;obtain⟨K,hKe⟩:=exEq (n.kids.map fun k=>pl.getD k.toNat 0);rw[←hKe]at hK hF hst;have hset:∀p,List.map ikF ((pl++[p])++List.replicate (t.nodes.length-(i+1)) 0)=(List.map ikF (pl++List.replicate (t.nodes.length-i) 0)).set i (ikF p):=fun p=>by
    rw[←List.map_set,show t.nodes.length-i=(t.nodes.length-(i+1))+1 by omega,List.replicate_succ,J1 pl _ 0 p hpl];simp
   have hKl:K.length=n.kids.length:=by rw[hKe];simp
   have hjp:ar.length<1466015503701∧K.length≤17592186044416∧∀x∈K,0≤x∧x<(ar.length:Int):=⟨by omega,by omega,hK⟩
   repeat' first|exact k9|refine k2 ?_|apply kA|apply kI;intro hc|apply kL;intro hl|((simp only[hni])<;>conv=>whnf)|refine k8 ?_|fail
   apply Stp.nj 9 3 1 rfl rfl;apply kCt [1,2,4,5,6,7,8,9,22,23,24,30,31,32] [];conv=>whnf
   refine Lp.ind (fun z:Nat=>n.kids.length-z) (fun z=>z≤n.kids.length) (fun z=>[(32,InD z)]) (fun z=>[(7,.ro 0 3 1 ((K.take z).map ikF))]) (fun _=>_) 0 (by simp) rfl rfl rfl ?_
   rintro G' j ih' hj
   by_cases hy:j<n.kids.length
   ·have hkj:=hkb _ (List.getElem_mem hy);have hKj:K[j]'(by omega)=pl.getD (n.kids[j]).toNat 0:=by simp[hKe]
    have hpk:∀h:(n.kids[j]).toNat<(pl++List.replicate (t.nodes.length-i) 0).length,(pl++List.replicate (t.nodes.length-i) (0:Int))[(n.kids[j]).toNat]'h=K[j]'(by omega):=fun h=>by
     rw[hKj,List.getElem_append_left (by omega),List.getD_eq_getElem?_getD,List.getElem?_eq_getElem (by omega)];rfl
    repeat' first|exact k9|refine k2 ?_|apply kA|apply kI;intro hc|apply kL;intro hl|((simp only[hpk])<;>conv=>whnf)|refine k8 ?_|fail
    apply kCt [1,2,4,5,6,7,8,9,22,23,24,30,31,32] [];conv=>whnf
    refine ih' (j+1) _ _ _ (by omega) (by omega) rfl rfl ?_;rw[List.take_succ_eq_append_getElem (by omega),kE];rfl
   ·rw[List.take_of_length_le (by omega)];have hkd:=JK (hR.fits i n hget);clear ih' hj;obtain⟨R2,hR2⟩:=exEq (j6 ar n K);rw[←hR2]at hst;obtain⟨kind,⟨sa,sb,sc,sd⟩,text,lo,hi',kids⟩:=n;dsimp only at hkd hkl hkb hKl hy;have:kind=0∨kind=1∨kind=2∨kind=3∨kind=4∨kind=5∨kind=6∨kind=7∨kind=8∨kind=9:=by omega
    rcases this with rfl|rfl|rfl|rfl|rfl|rfl|rfl|rfl|rfl|rfl
    all_goals(repeat' (first|exact k9|refine k2 ?_|apply kA|apply kI;intro hc|refine k8 ?_|apply kL;intro hl))
    all_goals apply kCt [1,2,4,5,6,22,23,24] [];conv=>whnf
    all_goals refine ih (i+1,R2.1,pl++[R2.2]) _ _ _ (by dsimp only;omega) ⟨by dsimp only;omega,hst⟩ rfl rfl ?_
    all_goals dsimp only
    all_goals rw[hset,hR2]
    all_goals first|rfl|(rw[AD (by dsimp only;decide) (by dsimp only;decide),kE a8];rfl)
  ·obtain rfl:i=t.nodes.length:=by omega
   obtain⟨⟨p0,p1⟩,pf,pc⟩:=tf.last hR hI;have hr0:=hR.root;have hpr:∀h:t.root.toNat<(pl++List.replicate (t.nodes.length-t.nodes.length) 0).length,(pl++List.replicate (t.nodes.length-t.nodes.length) (0:Int))[t.root.toNat]'h=pl.getD t.root.toNat 0:=fun h=>by
    rw[List.getElem_append_left (by omega),List.getD_eq_getElem?_getD,List.getElem?_eq_getElem (by omega)];rfl
   generalize pl.getD t.root.toNat 0=node at *;have hpre:ar.length≤1466015503701∧bD (ae ar)∧0≤node∧node<ar.length∧∀x,(dfs (ae ar) ar.length [node]).count x≤1:=⟨by omega,hI.kok.ae,p0,p1,pc⟩
   have htk:aD ⟨opA ar,0⟩ node=cj (foT t).norm:=by
    rw[Dz hI.kok.ae p0 p1 pc,pf,Fo.xk (qJ hr).1]
   repeat' (first|exact k9|refine k2 ?_|apply kA|apply kI;intro hc|apply kL;intro hl|((simp only[hpr])<;>conv=>whnf)|((simp only[htk])<;>conv=>whnf)|refine k8 ?_|fail)⟩
set_option maxRecDepth 100000
set_option maxHeartbeats 0
abbrev t2F(r:Tre×Bool):F:=.tp [aE r.1,boF r.2]
theorem LC(k a b c d:Int)(s:ByteArray)(x y:Int)(K:List (List F))(l:List Tre)(hn:(⟨k,⟨a,b,c,d⟩,s,x,y,[]⟩:Nod).wf)(hl:l.length≤1466015503701)(hw:∀t∈l,t.wf)(ht:tot l+1≤1466015503701)(h45:(k=4∨k=5)→2≤l.length) :
  Pure Tryz.prog X1.Γ 127 [.ag (iH k a b c d s x y K),kF l] (t2F (dZ ⟨k,⟨a,b,c,d⟩,s,x,y,[]⟩ l)) false:=by
 have hof:=LA (n:=⟨k,⟨a,b,c,d⟩,s,x,y,[]⟩) (l:=l) rfl h45;have hpre:(⟨k,⟨a,b,c,d⟩,s,x,y,[]⟩:Nod).wf∧l.length≤1466015503701∧(∀t∈l,t.wf)∧tot l+1≤1466015503701:=⟨hn,hl,hw,ht⟩
 have hwf:=As (n:=⟨k,⟨a,b,c,d⟩,s,x,y,[]⟩) (l:=l) hn hw (by unfold bY;exact ht);rw[hof];generalize hr:ofP ⟨k,⟨a,b,c,d⟩,s,x,y,[]⟩ l=r at *;refine kf rfl rfl ?_;repeat' first|exact k9|refine k2 ?_|apply kA|apply kI;intro hc|apply kL;intro hl|((simp only[hr])<;>conv=>whnf)|refine k8 ?_|fail
 all_goals(rw[hr]at hc;refine aq.i ?_;rw[hc];rfl)
instance(k a b c d:Int)(s:ByteArray)(x y:Int)(K:List (List F))(l:List Tre):C 127 [.ag (iH k a b c d s x y K),kF l] (t2F (dZ ⟨k,⟨a,b,c,d⟩,s,x,y,[]⟩ l)) false ((⟨k,⟨a,b,c,d⟩,s,x,y,[]⟩:Nod).wf∧l.length≤1466015503701∧(∀t∈l,t.wf)∧tot l+1≤1466015503701∧((k=4∨k=5)→2≤l.length)):=⟨fun h=>LC k a b c d s x y K l h.1 h.2.1 h.2.2.1 h.2.2.2.1 h.2.2.2.2⟩
instance(l:List Tre):C 96 [kF l] (t2F (dZ eH l)) false (l.length≤1466015503701∧(∀t∈l,t.wf)∧tot l+1≤1466015503701):=⟨fun h=>by
 obtain⟨hl,hw,ht⟩:=h;have hwf:=kD
 match l,hl,hw,ht with
 |[],hl,hw,ht=>
  refine kf rfl rfl ?_;repeat' first|exact k9|refine k2 ?_|apply kA|apply kI;intro hc|refine k8 ?_|apply kL;intro hl
  exact aq.i rfl
 |[t],hl,hw,ht=>
  have hwt:t.wf:=hw t (by simp);rw[B9 (by simp) t];refine kf rfl rfl ?_;repeat' first|exact k9|refine k2 ?_|apply kA|apply kI;intro hc|refine k8 ?_|apply kL;intro hl
 |t::u::l,hl,hw,ht=>
  have hpre:(⟨4,⟨0,0,0,0⟩,⟨#[]⟩,0,0,[]⟩:Nod).wf∧(t::u::l).length≤1466015503701∧(∀x∈(t::u::l),x.wf)∧tot (t::u::l)+1≤1466015503701∧(((4:Int)=4∨(4:Int)=5)→2≤(t::u::l).length):=⟨hwf,hl,hw,ht,fun _=>by simp⟩
  have h0:((t::u::l).length:Int)≠0:=by simp only[List.length_cons];omega
  have h1:((t::u::l).length:Int)≠1:=by simp only[List.length_cons];omega
  generalize t::u::l=L at *;refine kf rfl rfl ?_;repeat' first|exact k9|refine k2 ?_|apply kA|apply kI;intro hc|refine k8 ?_|apply kL;intro hl
  exact aq.i rfl⟩
instance(l:List Tre):C 97 [kF l] (t2F (dZ dE l)) false (l.length≤1466015503701∧(∀t∈l,t.wf)∧tot l+1≤1466015503701):=⟨fun h=>by
 obtain⟨hl,hw,ht⟩:=h;have hwf:=ja
 match l,hl,hw,ht with
 |[],hl,hw,ht=>
  refine kf rfl rfl ?_;repeat' first|exact k9|refine k2 ?_|apply kA|apply kI;intro hc|refine k8 ?_|apply kL;intro hl
  exact aq.i rfl
 |[t],hl,hw,ht=>
  have hwt:t.wf:=hw t (by simp);rw[B9 (by simp) t];refine kf rfl rfl ?_;repeat' first|exact k9|refine k2 ?_|apply kA|apply kI;intro hc|refine k8 ?_|apply kL;intro hl
 |t::u::l,hl,hw,ht=>
  have hpre:(⟨5,⟨0,0,0,0⟩,⟨#[]⟩,0,0,[]⟩:Nod).wf∧(t::u::l).length≤1466015503701∧(∀x∈(t::u::l),x.wf)∧tot (t::u::l)+1≤1466015503701∧(((5:Int)=4∨(5:Int)=5)→2≤(t::u::l).length):=⟨hwf,hl,hw,ht,fun _=>by simp⟩
  have h0:((t::u::l).length:Int)≠0:=by simp only[List.length_cons];omega
  have h1:((t::u::l).length:Int)≠1:=by simp only[List.length_cons];omega
  generalize t::u::l=L at *;refine kf rfl rfl ?_;repeat' first|exact k9|refine k2 ?_|apply kA|apply kI;intro hc|refine k8 ?_|apply kL;intro hl
  exact aq.i rfl⟩
theorem NN{a b c:Prop}[Decidable a][Decidable b][Decidable c](h:¬(a∨b∧c)):(!(decide a||decide b&&decide c))=true:=by
 by_cases h1:a<;>by_cases h2:b<;>by_cases h3:c<;>simp_all
instance(t:Tre):C 63 [aE t] (boF (fP t)) true t.wf:=⟨fun ht=>by
 have hlen:=ht.len;simp only[bY]at hlen
 cases hr:au t with
 |false=>
  rw[Aq hr];refine kf rfl rfl ?_;repeat' first|exact k9|refine k2 ?_|apply kA|apply kI;intro hc|refine k8 ?_|apply kL;intro hl
 |true=>
  have hR:=ao hr;unfold fP;rw[hr,Bool.true_and];refine kf rfl rfl ?_;repeat' first|exact k9|refine k2 ?_|apply kA|apply kI;intro hc|refine k8 ?_|apply kL;intro hl
  apply kCt [1,12,13,14] [];conv=>whnf
  refine Lp.ind (fun z:Nat=>t.nodes.length-z) (fun z=>z≤t.nodes.length∧∀y,∀h:y<t.nodes.length,y<z→iz t.nodes t.nodes[y]=true) (fun z=>[(14,InD z)]) (fun z=>[]) (fun _=>(boF (t.nodes.all (iz t.nodes)),true)) 0 ⟨by simp,fun y _ h=>by omega⟩ rfl rfl rfl ?_
  rintro G i ih ⟨hi,hA⟩
  by_cases hx:i<t.nodes.length
  ·obtain⟨n,hn⟩:=exEq (t.nodes[i]);have hni:∀h:i<t.nodes.length,t.nodes[i]'h=n:=fun _=>hn.symm
   have hget:t.nodes[i]?=some n:=by rw[hn];exact List.getElem?_eq_getElem hx
   have hkb:=hR.kok i n hget;have hkl:n.kids.length≤17592186044416:=(ht.nodes n (by rw[hn];exact List.getElem_mem hx)).kids.1;have hno:iz t.nodes n=false→t.nodes.all (iz t.nodes)=false:=fun h=>by
    rw[List.all_eq_false];exact⟨n,by rw[hn];exact List.getElem_mem hx,by rw[h];decide⟩
   have hnx:iz t.nodes n=true→∀y,∀h:y<t.nodes.length,y<i+1→iz t.nodes t.nodes[y]=true:=fun h y hy hyi=>by
    rcases Nat.lt_or_ge y i with h1|h1
    ·exact hA y hy h1
    ·have:y=i:=by omega
     subst this;rw[hni];exact h
   repeat' first|exact k9|refine k2 ?_|apply kA|apply kI;intro hc|apply kL;intro hl|((simp only[hni])<;>conv=>whnf)|refine k8 ?_|fail
   rotate_left 2
   ·rename_i h4;simp only[hni]at h4 hc;have hN:iz t.nodes n=true:=by
     unfold iz;simp[h4,hc]
    apply kCt [1,12,13,14] [];conv=>whnf
    exact ih (i+1) _ _ _ (by omega) ⟨by omega,hnx hN⟩ rfl rfl rfl
   all_goals
    have h45:n.kind=4∨n.kind=5:=by simp only[hni]at hc;omega
    clear hc;apply kCt [1,4,12,13,14,27,28,29] [];conv=>whnf
    refine Lp.ind (fun z:Nat=>n.kids.length-z) (fun z=>z≤n.kids.length∧∀y,∀h:y<n.kids.length,y<z→¬(bn t.nodes n.kids[y]=n.kind∨bn t.nodes n.kids[y]=0∧n.kind=4)) (fun z=>[(29,InD z)]) (fun z=>[]) (fun _=>(boF (t.nodes.all (iz t.nodes)),true)) 0 ⟨by simp,fun y _ h=>by omega⟩ rfl rfl rfl ?_
    rintro G' j ih' ⟨hj,hB⟩
    by_cases hy:j<n.kids.length
    ·obtain⟨q,hq⟩:∃q:Nat,n.kids[j]=q:=⟨(n.kids[j]).toNat,by have:=hkb _ (List.getElem_mem hy);omega⟩
     have hqi:∀h:j<n.kids.length,n.kids[j]'h=(q:Int):=fun _=>hq
     have hql:q<t.nodes.length:=by have:=hkb _ (List.getElem_mem hy);omega
     have hkq:=iW t.nodes hql;have hbad:(bn t.nodes (q:Int)=n.kind∨bn t.nodes (q:Int)=0∧n.kind=4)→iz t.nodes n=false:=fun h=>by
      unfold iz;rw[Bool.or_eq_false_iff];refine⟨by rcases h45 with e|e<;>simp[e],?_⟩;rw[List.all_eq_false];refine⟨n.kids[j],List.getElem_mem hy,?_⟩;rw[hq];rcases h with h|⟨h,h'⟩
      ·rw[decide_eq_true h];simp
      ·rw[decide_eq_true h,decide_eq_true h'];simp
     have hok:¬(bn t.nodes (q:Int)=n.kind∨bn t.nodes (q:Int)=0∧n.kind=4)→∀y,∀h:y<n.kids.length,y<j+1→¬(bn t.nodes n.kids[y]=n.kind∨bn t.nodes n.kids[y]=0∧n.kind=4):=fun h y hy2 hyj=>by
      rcases Nat.lt_or_ge y j with h1|h1
      ·exact hB y hy2 h1
      ·have:y=j:=by omega
       subst this;rw[hq];exact h
     have hke:∀h:(n.kids[j]).toNat<t.nodes.length,(t.nodes[(n.kids[j]).toNat]'h).kind=bn t.nodes (q:Int):=fun h=>by simp only[hqi];exact hkq.symm
     generalize bn t.nodes (q:Int)=kq at *
     repeat' first|exact k9|refine k2 ?_|apply kA|apply kI;intro hc|refine k8 ?_|apply kL;intro hl
     ·simp only[hke]at hc;exact aq.b (hno (hbad (.inl hc))).symm rfl
     ·rename_i h0;simp only[hke]at h0;exact aq.b (hno (hbad (.inr ⟨h0,hc⟩))).symm rfl
     ·rename_i h1 h0;simp only[hke]at h1 h0;apply kCt [1,4,12,13,14,27,28,29] [];conv=>whnf
      exact ih' (j+1) _ _ _ (by omega) ⟨by omega,hok fun h=>h.elim h1 fun h=>hc h.2⟩ rfl rfl rfl
     ·rename_i h1;simp only[hke]at h1 hc;apply kCt [1,4,12,13,14,27,28,29] [];conv=>whnf
      exact ih' (j+1) _ _ _ (by omega) ⟨by omega,hok fun h=>h.elim h1 fun h=>hc h.1⟩ rfl rfl rfl
    ·have hN:iz t.nodes n=true:=by
      unfold iz;rw[Bool.or_eq_true];refine .inr (List.all_eq_true.2 fun x hx=>?_);obtain⟨y,hy2,rfl⟩:=List.mem_iff_getElem.1 hx;have:=hB y hy2 (by omega);exact NN this
     repeat' first|exact k9|refine k2 ?_|apply kA|apply kI;intro hc|refine k8 ?_|apply kL;intro hl
     apply kCt [1,12,13,14] [];conv=>whnf
     exact ih (i+1) _ _ _ (by omega) ⟨by omega,hnx hN⟩ rfl rfl rfl
  ·repeat' first|exact k9|refine k2 ?_|apply kA|apply kI;intro hc|refine k8 ?_|apply kL;intro hl
   refine aq.b ?_ rfl;rw[eq_comm,List.all_eq_true];intro x hx2;obtain⟨y,hy2,rfl⟩:=List.mem_iff_getElem.1 hx2;exact hA y hy2 (by omega)⟩
end Go.Km
end
section
namespace Go.Sl
open Go.RowKit
class FW(F:Fence):Prop where
 fn:∀f,F.fn f
 depth:F.depth=none
section
variable {F:Fence} [FW F] {m:Nat}{P:Program}{ops:Array Oper}{Q:Exit→Act→World→Prop}{rest:List Oper}{n:FD}{s:Sg}{M:World→Prop}
 {op:Op}{ty:TypeId}{pos:String}{af:Array Edge}{d:Nat}{v:Value}
end
section
variable {P:Program}{C:World→Prop}{ops:Array Oper}{ks:Nat→Kd}{Q:Exit→Act→World→Prop}
structure Oy(ops:Array Oper)(x:Nat)(rem:List Nat)(listed:Array Bool):Prop where
 size:listed.size=ops.size
 mem:∀i,i∈rem↔(i<ops.size∧i≠x∧listed.getD i true=false)
 sorted:rem.Pairwise (· < ·)
 closed:∀j o,ops[j]?=some o→listed.getD j false=true→∀e∈o.after,Region.binds .any e=true→listed.getD e.on false=true
def pk(l:List Oper)(r:List Nat):List Oper:=r.map fun i=>l.getD i default
def kr(ks:Nat→Kd)(r:List Nat)(i:Nat):Kd:=ks (r.getD i 0)
theorem wk{l:List Oper}:∀(done rest:List Nat),(∀i∈rest,i<l.length)→p8 P C l.toArray (kr ks (done++rest)) Q done.length (pk l rest)=jY P C l.toArray ks Q rest
 |done,[],_=>rfl
 |done,i::rest,h=>by
  have ih:=wk (done++[i]) rest (fun j hj=>h j (by simp[hj]));rw[List.append_assoc,List.singleton_append,List.length_append]at ih;have hi:l[i]?=some (l.getD i default):=by
   have:=h i (by simp);simp[List.getD_eq_getElem?_getD,this]
  have hk:kr ks (done++i::rest) done.length=ks i:=by simp[kr]
  funext a w
  simp only[pk,List.map_cons,p8,jY,opI,List.getElem?_toArray,hi,hk];simp only[pk]at ih;rw[←ih];rfl
end
section
variable {P:Program}{C:World→Prop}{ops:Array Oper}{ks:Nat→Kd}{Q:Exit→Act→World→Prop}
def inN(k:Nat)(l:List Nat):Bool:=l.any fun x=>Nat.beq x k
theorem Di{k:Nat}{l:List Nat}:inN k l=true↔k∈l:=by
 simp only[inN,List.any_eq_true]
 constructor
 ·rintro⟨x,hx,e⟩
  rw[←Nat.eq_of_beq_eq_true e];exact hx
 ·intro h;exact⟨k,h,by simp⟩
def Ig(k:Nat):List Nat→List Nat
 |[]=>[]
 |x::l=>bif Nat.beq x k then l else x::Ig k l
theorem m9(k:Nat):∀l:List Nat,Ig k l=l.erase k
 |[]=>rfl
 |x::l=>by
  rw[Ig,List.erase_cons,m9 k l]
  cases h:Nat.beq x k with
  |true=>rw[Nat.eq_of_beq_eq_true h];simp
  |false=>
   have:(x==k)=false:=by
    cases hb:x==k with
    |false=>rfl
    |true=>rw[eq_of_beq hb]at h;simp at h
   simp[this]
def KX(ops:Array Oper)(rem:List Nat)(i:Nat):Bool:=
 match ops[i]? with
 |some o=>o.after.all fun e=>!Region.binds .any e || !inN e.on rem
 |none=>false
def mE(ops:Array Oper)(rem:List Nat):List Nat:=rem.filter fun i=>KX ops rem i
theorem cL{rem:List Nat}{i:Nat}:i∈mE ops rem↔i∈rem∧∃o,ops[i]?=some o∧∀e∈o.after,Region.binds .any e=true→e.on ∉ rem:=by
 rw[mE,List.mem_filter]
 constructor
 ·rintro⟨h1,h2⟩
  refine⟨h1,?_⟩;unfold KX at h2
  cases ho:ops[i]? with
  |none=>rw[ho]at h2;cases h2
  |some o=>
   rw[ho]at h2;refine⟨o,rfl,fun e he hb hm=>?_⟩;have:=(Array.all_eq_true_iff_forall_mem.1 h2) e he;simp only[hb,Bool.not_true,Bool.false_or,Bool.not_eq_true']at this;rw[Di.2 hm]at this
   cases this
 ·rintro⟨h1,o,ho,h2⟩
  refine⟨h1,?_⟩;unfold KX;rw[ho];refine Array.all_eq_true_iff_forall_mem.2 fun e he=>?_
  cases hb:Region.binds .any e with
  |false=>rfl
  |true=>
   have:=h2 e he hb
   cases hi:inN e.on rem with
   |false=>rfl
   |true=>exact absurd (Di.1 hi) this
def wpN(P:Program)(C:World→Prop)(ops:Array Oper)(ks:Nat→Kd)(Q:Exit→Act→World→Prop):Nat→List Nat→Act→World→Prop
 |0,_=>fun a w=>Q .normal a w
 |f+1,rem=>fun a w=>match(mE ops rem).find? fun i=>(ks i).still with
  |some i=>opI P C ops ks i (wpN P C ops ks Q f (rem.erase i)) a w
  |none=>∀i∈mE ops rem,opI P C ops ks i (wpN P C ops ks Q f (rem.erase i)) a w
theorem LK{k i:Nat}{K:Act→World→Prop}(hsel:Region.noSelect ops=true)(hpk:nZ ops ks k i=true){a:Act}{w:World}(h1:opI P C ops ks k (fun a w=>opI P C ops ks i K a w) a w) :
  opI P C ops ks i (opI P C ops ks k K) a w:=by
 unfold opI at h1 ⊢;unfold nZ at hpk
 cases hk:ops[k]? with
 |none=>
  simp only[hk]at h1;exact h1
 |some o1=>
  cases hi:ops[i]? with
  |none=>
   simp only[hk,hi]at h1 ⊢;exact h1
  |some o2=>
   simp only[hk,hi,Bool.and_eq_true]at h1 hpk ⊢;exact Hb (Two.of hpk.1 (Region.noSelect_spec hsel k o1 · · hk) (Region.noSelect_spec hsel i o2 · · hi)) hpk.2 h1
structure Up(ops:Array Oper)(rem:List Nat):Prop where
 nodup:rem.Nodup
 closed:∀j o,ops[j]?=some o→j ∉ rem→∀e∈o.after,Region.binds .any e=true→e.on ∉ rem
theorem Up.erase{rem:List Nat}{i:Nat}(h:Up ops rem)(hi:i∈mE ops rem):Up ops (rem.erase i):=by
 refine⟨h.nodup.erase i,fun j o ho hj e he hb hm=>?_⟩;have hm':=List.mem_of_mem_erase hm
 by_cases hji:j=i
 ·subst hji;obtain⟨_,o',ho',ha⟩:=cL.1 hi;rw[ho]at ho'
  cases ho';exact ha e he hb hm'
 ·refine h.closed j o ho (fun hh=>hj ?_) e he hb hm';exact(List.mem_erase_of_ne hji).2 hh
theorem vV{rem:List Nat}{i j:Nat}(hj:j∈mE ops rem)(hij:j≠i):j∈mE ops (rem.erase i):=by
 obtain⟨h1,o,ho,ha⟩:=cL.1 hj;exact cL.2 ⟨(List.mem_erase_of_ne hij).2 h1,o,ho,fun e he hb hm=>ha e he hb (List.mem_of_mem_erase hm)⟩
theorem pF{rem:List Nat}(hc:∀j o,ops[j]?=some o→j ∉ rem→∀e∈o.after,Region.binds .any e=true→e.on ∉ rem) :
  ∀(f i k:Nat) (o:Oper),ops[i]?=some o→(∀e∈o.after,Region.binds .any e=true→e.on ∉ rem)→cZ ops f i k=true→k ∉ rem
 |0,_,_,_,_,_,h=>by simp[cZ]at h
 |f+1,i,k,o,ho,ha,h=>by
  unfold cZ at h;rw[ho]at h;simp only at h;obtain⟨e,he,hb⟩:=Array.any_eq_true'.1 h;simp only[Bool.and_eq_true,Bool.or_eq_true]at hb;have hl:=ha e he hb.1;rcases hb.2 with hb2|hb2
  ·have:=Nat.eq_of_beq_eq_true hb2;rw[←this];exact hl
  ·cases ho':ops[e.on]? with
   |none=>
    cases f with
    |zero=>simp[cZ]at hb2
    |succ f=>simp[cZ,ho']at hb2
   |some o'=>exact pF hc f e.on k o' ho' (hc _ _ ho' hl) hb2
def J4(ops:Array Oper)(ks:Nat→Kd):Bool:=
 Region.noSelect ops&&(List.range ops.size).all fun i=>
  (match ops[i]? with|some o=>o.after.all fun e=>!Region.binds .any e||Nat.blt e.on i|none=>true) &&
  (!(ks i).still||(List.range ops.size).all fun j=>Nat.beq i j||(nZ ops ks i j||(cZ ops 6 i j||cZ ops 6 j i)))
structure BOk(ops:Array Oper)(ks:Nat→Kd):Prop where
 sel:Region.noSelect ops=true
 back:∀i o,ops[i]?=some o→∀e∈o.after,Region.binds .any e=true→e.on<i
 pair:∀i j,i<ops.size→j<ops.size→i≠j→(ks i).still=true→nZ ops ks i j=true∨cZ ops 6 i j=true∨cZ ops 6 j i=true
theorem BOk.of(h:J4 ops ks=true):BOk ops ks:=by
 simp only[J4,Bool.and_eq_true,List.all_eq_true,List.mem_range]at h;obtain⟨h1,h2⟩:=h;refine⟨h1,fun i o ho e he hb=>?_,fun i j hi hj hij hs=>?_⟩
 ·have:=(h2 i (Array.getElem?_eq_some_iff.1 ho).1).1;rw[ho]at this;have h5:=(Array.all_eq_true_iff_forall_mem.1 this) e he;simp only[hb,Bool.not_true,Bool.false_or]at h5;exact b6 h5
 ·have:=(h2 i hi).2;simp only[hs,Bool.not_true,Bool.false_or,List.all_eq_true,List.mem_range,Bool.or_eq_true]at this;rcases this j hj with h|h|h
  ·exact absurd (Nat.eq_of_beq_eq_true h) hij
  ·exact .inl h
  ·exact .inr h
theorem BOk.two(h:BOk ops ks){rem:List Nat}(hu:Up ops rem){i j:Nat}(hi:i∈mE ops rem)(hj:j∈mE ops rem)(hij:i≠j)(hs:(ks i).still=true):nZ ops ks i j=true:=by
 obtain⟨hi1,oi,hoi,hia⟩:=cL.1 hi;obtain⟨hj1,oj,hoj,hja⟩:=cL.1 hj;rcases h.pair i j (Array.getElem?_eq_some_iff.1 hoi).1 (Array.getElem?_eq_some_iff.1 hoj).1 hij hs with h|h|h
 ·exact h
 ·exact absurd hj1 (pF hu.closed 6 i j oi hoi hia h)
 ·exact absurd hi1 (pF hu.closed 6 j i oj hoj hja h)
theorem qD{rem:List Nat}{i f:Nat}(hi:i∈rem)(hl:rem.length=f+1):(rem.erase i).length=f:=by
 rw[List.length_erase_of_mem hi,hl];rfl
theorem LB(hok:BOk ops ks):∀(f:Nat),
  (∀rem:List Nat,rem.length=f+1→Up ops rem→∀j∈mE ops rem,∀a w,wpN P C ops ks Q (f+1) rem a w→opI P C ops ks j (wpN P C ops ks Q f (rem.erase j)) a w)∧
  (∀rem:List Nat,rem.length=f+1→Up ops rem→∀i∈mE ops rem,(ks i).still=true→∀a w,opI P C ops ks i (wpN P C ops ks Q f (rem.erase i)) a w→wpN P C ops ks Q (f+1) rem a w):=by
 intro f
 induction f with
 |zero=>
  have key:∀rem:List Nat,rem.length=0+1→∀i∈rem,∀j∈rem,i=j:=by
   intro rem hl i hi j hj
   match rem,hl with
   |[x],_=>simp at hi hj;rw[hi,hj]
  refine⟨fun rem hl hu j hj a w h=>?_,fun rem hl hu i hi hs a w h=>?_⟩
  ·unfold wpN at h
   split at h
   ·rename_i i hf;have:=key rem hl i (cL.1 (List.mem_of_find?_eq_some hf)).1 j (cL.1 hj).1;rw[←this];exact h
   ·exact h j hj
  ·unfold wpN
   split
   ·rename_i j hf;have:=key rem hl i (cL.1 hi).1 j (cL.1 (List.mem_of_find?_eq_some hf)).1;rw[←this];exact h
   ·rename_i hf;have:=List.find?_eq_none.1 hf i hi;rw[hs]at this;exact absurd rfl this
 |succ f ih=>
  obtain⟨ihA,ihB⟩:=ih;have step:∀rem:List Nat,rem.length=f+1+1→Up ops rem→∀i∈mE ops rem,∀j∈mE ops rem,i≠j→(ks i).still=true→∀a w,opI P C ops ks i (wpN P C ops ks Q (f+1) (rem.erase i)) a w→
    opI P C ops ks j (wpN P C ops ks Q (f+1) (rem.erase j)) a w:=by
   intro rem hl hu i hi j hj hij hs a w h;have h1:opI P C ops ks i (fun a w=>opI P C ops ks j (wpN P C ops ks Q f ((rem.erase i).erase j)) a w) a w:=
    opI.mono (fun a w hh=>ihA _ (qD (cL.1 hi).1 hl) (hu.erase hi) j (vV hj (Ne.symm hij)) a w hh) h
   have h2:=LK hok.sel (hok.two hu hi hj hij hs) h1;rw[List.erase_comm]at h2;exact opI.mono (fun a w hh=>ihB _ (qD (cL.1 hj).1 hl) (hu.erase hj) i (vV hi hij) hs a w hh) h2
  refine⟨fun rem hl hu j hj a w h=>?_,fun rem hl hu i hi hs a w h=>?_⟩
  ·rw[wpN]at h
   split at h
   ·rename_i i hf;have hi:=List.mem_of_find?_eq_some hf;have hs:(ks i).still=true:=by simpa using List.find?_some hf
    by_cases hij:i=j
    ·rw[←hij];exact h
    ·exact step rem hl hu i hi j hj hij hs a w h
   ·exact h j hj
  ·rw[wpN]
   split
   ·rename_i j hf
    by_cases hij:i=j
    ·rw[←hij];exact h
    ·exact step rem hl hu i hi j (List.mem_of_find?_eq_some hf) hij hs a w h
   ·rename_i hf;have:=List.find?_eq_none.1 hf i hi;rw[hs]at this;exact absurd rfl this
structure Og(ops:Array Oper)(rem:List Nat)(listed:Array Bool):Prop where
 size:listed.size=ops.size
 mem:∀i,i∈rem↔(i<ops.size∧listed.getD i true=false)
 up:Up ops rem
theorem F3(hok:BOk ops ks):∀(fuel:Nat) (rem:List Nat) (listed:Array Bool) (a:Act) (w:World),rem.length=fuel→Og ops rem listed→wpN P C ops ks Q fuel rem a w→wpAny P .any ops Q fuel listed a w:=by
 intro fuel
 induction fuel with
 |zero=>
  intro rem listed a w hl inv h;obtain rfl:=List.eq_nil_of_length_eq_zero hl;refine⟨?_,h⟩;rw[List.eq_nil_iff_forall_not_mem];intro j hj;obtain⟨h1,o,ho,_⟩:=mem_ready.1 hj;have:=(inv.mem j).2 ⟨(Array.getElem?_eq_some_iff.1 ho).1,h1⟩;simp at this
 |succ fuel ih=>
  intro rem listed a w hl inv h;have hrdy:∀i,i∈Region.ready .any ops listed↔i∈mE ops rem:=by
   intro i;rw[mem_ready,cL,inv.mem i]
   constructor
   ·rintro⟨h1,o,ho,h2⟩
    refine⟨⟨(Array.getElem?_eq_some_iff.1 ho).1,h1⟩,o,ho,fun e he hb hm=>?_⟩;have hh:=h2 e he hb;have hx:=(inv.mem e.on).1 hm;rw[lQ (by rw[inv.size];exact hx.1),hh]at hx
    cases hx.2
   ·rintro⟨⟨h0,h1⟩,o,ho,h2⟩
    refine⟨h1,o,ho,fun e he hb=>?_⟩;have hlt:=hok.back i o ho e he hb
    cases hle:listed.getD e.on false with
    |true=>rfl
    |false=>exact absurd ((inv.mem e.on).2 ⟨by omega,by rw[lQ (by rw[inv.size];omega)];exact hle⟩) (h2 e he hb)
  refine⟨fun hnil=>?_,fun i hi=>?_⟩
  ·
   have hne:rem≠[]:=by rintro rfl;simp at hl
   have hex:∃i,i∈rem∧∀k∈rem,i≤k:=by
    have:∀l:List Nat,l≠[]→∃i,i∈l∧∀k∈l,i≤k:=by
     intro l
     induction l with
     |nil=>intro h;exact absurd rfl h
     |cons x l ihl=>
      intro _
      by_cases hn:l=[]
      ·subst hn;exact⟨x,by simp,by simp⟩
      ·obtain⟨i,hi,hk⟩:=ihl hn
       by_cases hxi:x≤i
       ·refine⟨x,by simp,fun k hkm=>?_⟩;rcases List.mem_cons.1 hkm with rfl|hkm
        ·exact Nat.le_refl _
        ·exact Nat.le_trans hxi (hk k hkm)
       ·refine⟨i,by simp[hi],fun k hkm=>?_⟩;rcases List.mem_cons.1 hkm with rfl|hkm
        ·omega
        ·exact hk k hkm
    exact this rem hne
   obtain⟨i,him,hmin⟩:=hex;have hlt:=((inv.mem i).1 him).1;have:i∈Region.ready .any ops listed:=(hrdy i).2 (cL.2 ⟨him,_,Array.getElem?_eq_getElem hlt,fun e he hb hm=>by
    have h1:=hok.back i _ (Array.getElem?_eq_getElem hlt) e he hb;have h2:=hmin _ hm;omega⟩)
   rw[hnil]at this
   cases this
  ·have hi':=(hrdy i).1 hi;obtain⟨hun,oi,hoi,hall⟩:=mem_ready.1 hi;have hilt:i<ops.size:=(Array.getElem?_eq_some_iff.1 hoi).1;have hA:=(LB (P:=P) (C:=C) (Q:=Q) hok fuel).1 rem hl inv.up i hi' a w h;refine wpOp_mono (fun a' w' hh=>?_) (qZ (Q:=Q) hA);refine ih (rem.erase i) (listed.setIfInBounds i true) a' w' (qD (cL.1 hi').1 hl) ⟨by simp[inv.size],fun j=>?_,inv.up.erase hi'⟩ hh
   by_cases hji:j=i
   ·subst hji
    constructor
    ·intro hm;exact absurd hm (by rw[inv.up.nodup.mem_erase_iff];simp)
    ·rintro⟨_,hm⟩
     have:j<listed.size:=by rw[inv.size];exact hilt
     simp[this]at hm
   ·have e1:(listed.setIfInBounds i true).getD j true=listed.getD j true:=getD_set_ne true (fun e=>hji e.symm);rw[e1,←inv.mem j,List.mem_erase_of_ne hji]
theorem wE{id:Nat}{a:Act}{w:World}(hm:P.follows .mixedOrders=true)(hok:J4 ops ks=true)(h:wpN P C ops ks Q ops.size (List.range ops.size) a { w with drawn:=w.drawn+1 }):(Code.region id ops true).wp P Q a w:=by
 refine wp_region_any hm (F3 (BOk.of hok) _ (List.range ops.size) _ a _ (by simp) ⟨by simp,fun i=>?_,List.nodup_range,fun j o ho hj=>?_⟩ h)
 ·rw[List.mem_range]
  constructor
  ·intro hi;exact⟨hi,by simp[hi]⟩
  ·exact fun hi=>hi.1
 ·exact absurd (List.mem_range.2 (Array.getElem?_eq_some_iff.1 ho).1) hj
inductive Tr where
 |fin
 |seg (r:List Nat) (t:Tr)
 |both (a b:Tr)
def Tr.eqB:Tr→Tr→Bool
 |.fin,.fin=>true
 |.seg r t,.seg r' t'=>r==r'&&Tr.eqB t t'
 |.both a b,.both a' b'=>Tr.eqB a a'&&Tr.eqB b b'
 |_,_=>false
theorem Tr.wu:∀{a b:Tr},Tr.eqB a b=true→a=b
 |.fin,.fin,_=>rfl
 |.seg r t,.seg r' t',h=>by
  simp only[Tr.eqB,Bool.and_eq_true,beq_iff_eq]at h;rw[h.1,Tr.wu h.2]
 |.both a b,.both a' b',h=>by
  simp only[Tr.eqB,Bool.and_eq_true]at h;rw[Tr.wu h.1,Tr.wu h.2]
 |.fin,.seg ..,h=>by simp[Tr.eqB]at h
 |.fin,.both ..,h=>by simp[Tr.eqB]at h
 |.seg ..,.fin,h=>by simp[Tr.eqB]at h
 |.seg ..,.both ..,h=>by simp[Tr.eqB]at h
 |.both ..,.fin,h=>by simp[Tr.eqB]at h
 |.both ..,.seg ..,h=>by simp[Tr.eqB]at h
def Tr.cons(i:Nat):Tr→Tr
 |.seg r t=>.seg (i::r) t
 |t=>.seg [i] t
def Tr.alts:List Tr→Tr
 |[]=>.fin
 |[t]=>t
 |t::l=>.both t (Tr.alts l)
def wpT(P:Program)(C:World→Prop)(ops:Array Oper)(ks:Nat→Kd)(Q:Exit→Act→World→Prop):Tr→Act→World→Prop
 |.fin=>fun a w=>Q .normal a w
 |.seg r t=>jY P C ops ks (fun _=>wpT P C ops ks Q t) r
 |.both x y=>fun a w=>wpT P C ops ks Q x a w∧wpT P C ops ks Q y a w
def Fy(ops:Array Oper)(ks:Nat→Kd):Nat→List Nat→Tr
 |0,_=>.fin
 |f+1,rem=>match(mE ops rem).find? fun i=>(ks i).still with
  |some i=>Tr.cons i (Fy ops ks f (Ig i rem))
  |none=>Tr.alts ((mE ops rem).map fun i=>Tr.cons i (Fy ops ks f (Ig i rem)))
theorem zP{i:Nat}{t:Tr}{a:Act}{w:World}(h:wpT P C ops ks Q (Tr.cons i t) a w):opI P C ops ks i (wpT P C ops ks Q t) a w:=by
 cases t<;>exact h
theorem yS:∀{l:List Tr}{a:Act}{w:World},wpT P C ops ks Q (Tr.alts l) a w→∀t∈l,wpT P C ops ks Q t a w
 |[],_,_,_,t,ht=>by cases ht
 |[x],_,_,h,t,ht=>by
  rw[List.mem_singleton]at ht;rw[ht];exact h
 |x::y::l,a,w,h,t,ht=>by
  rcases List.mem_cons.1 ht with rfl|ht
  ·exact h.1
  ·exact yS h.2 t ht
theorem tu:∀(f:Nat) (rem:List Nat) (a:Act) (w:World),wpT P C ops ks Q (Fy ops ks f rem) a w→wpN P C ops ks Q f rem a w
 |0,_,a,w,h=>h
 |f+1,rem,a,w,h=>by
  unfold Fy at h;rw[wpN]
  split
  ·rename_i i hf;rw[hf]at h;simp only[m9]at h;exact opI.mono (fun a w hh=>tu f _ a w hh) (zP h)
  ·rename_i hf;intro i hi;rw[hf]at h;simp only[m9]at h;have:=yS h _ (List.mem_map.2 ⟨i,hi,rfl⟩);exact opI.mono (fun a w hh=>tu f _ a w hh) (zP this)
structure TT(P:Program)(C:World→Prop)(l:List Oper)(ks:Nat→Kd)(Q:Exit→Act→World→Prop)(t:Tr)(n:FD)(s:Sg)(M:World→Prop):Prop where
 go:∀a w,Fr n s a→M w→wpT P C l.toArray ks Q t a w
theorem TC.N2 {n:FD}{s:Sg}{w0:World}{L:List HP}{id:Nat}{l:List Oper} (ovr:List (Nat×Kd)) (t:Tr) (hm:P.follows .mixedOrders=true) (hok:(J4 l.toArray (kds l ovr)&&Tr.eqB (Fy l.toArray (kds l ovr) l.length (List.range l.length)) t)=true)
  (h:TT P (St w0 L) l (kds l ovr) Q t n s (St w0 L)):TC P (.region id l.toArray true) Q n s (St w0 L):=by
 simp only[Bool.and_eq_true]at hok;refine⟨fun a w hf hw=>wE (C:=St w0 L) hm hok.1 (tu _ _ _ _ ?_)⟩;have:=h.go a w.drew hf hw.drew;rw[←Tr.wu hok.2]at this;simpa using this
variable {l:List Oper}{n:FD}{s:Sg}{M:World→Prop}
theorem TT.fin(k:TX Q .normal n s M):TT P C l ks Q .fin n s M:=⟨fun a w hf hm=>k.go a w hf hm⟩
theorem TX.tree{t:Tr}(k:TT P C l ks Q t n s M):TX (fun _=>wpT P C l.toArray ks Q t) .normal n s M:=⟨fun a w hf hm=>k.go a w hf hm⟩
theorem TT.seg{r:List Nat}{t:Tr}(hr:(r.all fun i=>Nat.blt i l.length)=true)(k:TL P C l.toArray (kr ks r) (fun _=>wpT P C l.toArray ks Q t) 0 (pk l r) n s M):TT P C l ks Q (.seg r t) n s M:=by
 refine⟨fun a w hf hm=>?_⟩;have:=k.go a w hf hm;have e:=wk (P:=P) (C:=C) (Q:=fun _=>wpT P C l.toArray ks Q t) (ks:=ks) (l:=l) [] r (fun i hi=>b6 (List.all_eq_true.1 hr i hi));rw[List.nil_append,List.length_nil]at e;rw[e]at this;exact this
end
end Go.Sl
end
section
namespace Go.Sl
open Go
theorem Ev.MW {P:Program}{n:FD}{s:Sg}{M:World→Prop}{ty:TypeId}{f:FuncId}{e:Array Value→Sem Value}{xs:List Operand}{vs:List Value}{tys:Array TypeId}{v:Value}
  (hf':∀args w,(callFunc f args).run P w=((e args).run P w).andThen fun v w'=>.ok (.value v) w') (hxs:evs s xs=some vs) (hv:∀w,(e vs.toArray).run P w=.ok v w) :
  Ev P n s M (.call { callee:=.value (.func f),args:=xs.toArray,argTypes:=tys }) ty v:=by
 refine⟨fun a w o ho ht hf hm=>?_⟩;have h1:=w7 hf hxs;have h2:=hv w;simp[execOp,ho,resolve,Deferred.ofValue,Act.eval,invoke,hf' _ w,h1,h2]
end Go.Sl
namespace Go.Sl
open Go
section
variable {P:Program}{n:FD}{s:Sg}{M:World→Prop}{ty:TypeId}
theorem Ev.B5{x y:Operand}{t te u:TypeId}{a:Option Addr}(hp:P.underlying t=some (.pointer te))(hx:ev s x=some (.pointer a))(hy:ev s y=some (.pointer none)):Ev P n s M (.binOp .eql t x y u) ty (.bool a.isNone):=by
 refine⟨fun ac w o ho ht hf hm=>?_⟩;have h:(Op.equal t (.pointer a) (.pointer none)).run P w=.ok a.isNone w:=by
  show(Op.equalIn (9999+1) t (.pointer a) (.pointer none)).run P w=_
  rw[Op.equalIn]
  cases a<;>simp[run_underlying hp]
 simp[execOp,ho,hf.ev hx,hf.ev hy,eqGuard,binOp,h]
theorem Ev.FG{x y:Operand}{t te u:TypeId}{j:TypeInfo}{a:Addr}(hp:P.underlying t=some (.pointer te))(hj:P.info? te=some j)(hx:ev s x=some (.pointer (some a)))(hy:ev s y=some (.pointer (some a))):Ev P n s M (.binOp .neq t x y u) ty (.bool false):=by
 refine⟨fun ac w o ho ht hf hm=>?_⟩;have h:=Lib.run_neq_ptr_same w a hp hj;simp[execOp,ho,hf.ev hx,hf.ev hy,eqGuard,h]
theorem Ev.En{x:Operand}{src dst t e:TypeId}{j:TypeInfo}{cells:Nat}{a:Addr}(hs:P.underlying src=some (.pointer t))(hd:P.underlying dst=some .unsafePointer)(ht:P.info? t=some j)(hj:j.size≠0)(hx:ev s x=some (.pointer (some a)))(hsh:∀w,M w→w.shape? a.block=some (e,cells))(hoff:a.off<cells) :
  Ev P n s M (.convert src dst x) ty (.pointer (some a)):=by
 refine⟨fun ac w o ho ht' hf hm=>?_⟩;have h:=Lib.run_to_unsafe w a hs hd ht hj (hsh w hm) hoff;simp[execOp,ho,hf.ev hx,h]
theorem Ev.y9{x:Operand}{src dst u e:TypeId}{j:TypeInfo}{cells:Nat}{a:Addr}(hs:P.underlying src=some .unsafePointer)(hd:P.underlying dst=some (.pointer u))(hu:P.info? u=some j)(hx:ev s x=some (.pointer (some a)))(hsh:∀w,M w→w.shape? a.block=some (e,cells))(hl:liesAt P P.depth e (cells/P.cellsOf e) a.off u 1=true) :
  Ev P n s M (.convert src dst x) ty (.pointer (some a)):=by
 refine⟨fun ac w o ho ht' hf hm=>?_⟩;have h:=Lib.run_from_unsafe w a hs hd hu (hsh w hm) hl;simp[execOp,ho,hf.ev hx,h]
theorem St.vD{w0 w:World}{L:List HP}{b t:Nat}{cs:List Value}(h:St w0 L w)(ha:At L (blk b cs t)):w.shape? b=some (t,cs.length):=by
 have:=h.zm ha;simp[World.shape?,this]
end
end Go.Sl
namespace Go.Proofs.YtpbichnnflabdaaGreatDoor
open Go Go.Sl Go.RowKit
theorem Hz:(Tryz.prog.info? 203).map (·.size)=some 2:=by kernel_rfl
theorem H0:liesAt Tryz.prog Tryz.prog.depth 203 (2/Tryz.prog.cellsOf 203) 0 203 1=true:=by kernel_rfl
theorem yC(args:Array Value)(w:World):(callFunc 183 args).run Tryz.prog w=((Extern.AbiNoEscape.same args).run Tryz.prog w).andThen fun v w'=>.ok (.value v) w':=
 run_callFunc_extern Tryz.func183 (by kernel_rfl) (by kernel_rfl) (by kernel_rfl) (by kernel_rfl) args w
abbrev xB(b:Nat)(ad:Option Addr)(p:Option Addr×Nat)(n:Nat):HP:=blk b [.pointer ad,.slice p.1 n p.2] 203
set_option maxRecDepth 20000 in
theorem uQ{w0:World}{L0:List HP}(b:Nat)(ad:Option Addr)(p:Option Addr×Nat)(n:Nat)(w:World)(had:ad=none∨ad=some ⟨b,0,none⟩)(hw:St w0 (xB b ad p n::L0) w) :
  Calls Tryz.prog 173 #[.pointer (some ⟨b,0,none⟩)] w (fun e w'=>∃x:Unit,e=.returned (.tuple #[])∧St w0 (xB b (some ⟨b,0,none⟩) p n::L0) w'):=by
 obtain⟨j,hj,hjs⟩:=Option.map_eq_some_iff.1 Hz;refine TC.calls (l:=[.pointer (some ⟨b,0,none⟩)]) (M:=St w0 (xB b ad p n::L0)) Tryz.func173 rfl Tryz.ntmps173 rfl hw ?_;have hne:j.size≠0:=by rw[hjs];decide
 have u1:Tryz.prog.underlying 200=some (.pointer 203):=Tryz.underlying200;have u2:Tryz.prog.underlying 234=some .unsafePointer:=Tryz.underlying234;have hl:=H0;rcases had with rfl|rfl
 ·repeat' (first|((apply T.ev_;exact rfl;apply Ev.B5 u1;exact rfl;exact rfl))|((apply T.ev_;exact rfl;apply Ev.En u1 u2 hj hne;exact rfl;exact(fun w hw=>St.vD (b:=b) hw .here);exact Nat.zero_lt_succ 1))|((apply T.ev_;exact rfl;apply Ev.MW (vs:=[.pointer (some ⟨b,0,none⟩)]) yC;exact rfl;exact(fun w=>Lib.run_noEscape w _)))|((apply T.ev_;exact rfl;apply Ev.y9 u2 u1 hj;exact rfl;exact(fun w hw=>St.vD (b:=b) hw .here);exact hl))|(refine W1 ?_)|(refine W2 (fun hc=>?_) (fun hc=>?_))|(intro _))
  exact TX.MH rfl (fun w' hw=>⟨(),rfl,hw⟩)
 ·repeat' (first|((apply T.ev_;exact rfl;apply Ev.B5 u1;exact rfl;exact rfl))|((apply T.ev_;exact rfl;apply Ev.FG u1 hj;exact rfl;exact rfl))|(refine W1 ?_)|(refine W2 (fun hc=>?_) (fun hc=>?_))|(intro _))
  exact TX.MH rfl (fun w' hw=>⟨(),rfl,hw⟩)
def yj(l:List UInt8):List (List Value):=l.map fun x=>[.int .u8 (x.toNat:Int)]
abbrev JD(p:Option Addr×Nat)(n:Nat)(l:List UInt8):HP:=own 5 1 p.1 n p.2 (yj l)
end Go.Proofs.YtpbichnnflabdaaGreatDoor
namespace Go.Sl
open Go Go.RowKit Go.Lib
section
variable {P:Program}{n:FD}{s:Sg}{ty:TypeId}{w0:World}{L:List HP}{M:World→Prop}
theorem Chg.freeze{w:World}{g:Nat}{S1:Nat→Prop}(hg:S1 g)(k:Nat):Chg w (w.freeze ⟨g,0,none⟩ k) S1:=by
 unfold World.freeze
 split
 ·exact Chg.refl
 ·exact⟨rfl,rfl,rfl,by simp,fun b hb hn=>by
   simp only[Array.getElem?_modify];rw[if_neg (fun e=>hn (by rw[←e];exact hg))]⟩
def hAt(g:Nat):HP:=⟨fun S _=>S g,fun h hh=>h _ hh,fun _ h=>h⟩
theorem Iv(l:List Value):(l.map fun v=>[v]).flatten=l:=by
 induction l with
 |nil=>rfl
 |cons v l ih=>simp only[List.map_cons,List.flatten_cons,ih];rfl
theorem Ac.N5 {x y:Operand}{pt it e c g:Nat}{l:List UInt8}{L0:List HP} (hp:P.underlying pt=some (.pointer e)) (hc:P.cellsOf e=1) (h0:l≠[]) (hl:l.length≤1000000000) (hx:ev s x=some (.pointer (some ⟨g,0,none⟩))) (hy:ev s y=some (.int .i64 (l.length:Int)))
  (hdl:Del L (own e 1 (some ⟨g,0,none⟩) l.length c ((l.map fun b=>Value.int .u8 (b.toNat:Int)).map fun v=>[v])) L0):Ac P n s (St w0 L) (.call { callee:=.builtin .unsafeString,args:=#[x,y],argTypes:=#[pt,it] }) ty (ι:=Unit) (fun _=>.string ⟨l.toArray⟩) (fun _=>St w0 (hAt g::L0)):=by
 refine⟨fun a w o ho ht' hf hm=>?_⟩;obtain⟨S1,g1,g2,g3⟩:=(hm.del hdl).upd (H':=hAt g) Upd.here;have hS:S1 g:=g2.2.2.2 g rfl;have hcell:∀j x,l[j]?=some x→w.cell? ((⟨g,0,none⟩:Addr).add j)=some (.int .u8 x.toNat):=fun j x hj=>by
  refine g2.1.cells (g:=g) rfl j _ ?_;rw[Iv,List.getElem?_map,hj];rfl
 have hrow:∃cur:Array Value,w.heap[g]?=some (.cells cur e (0,0))∧l.length≤cur.size:=by
  rcases g2.1.2 with⟨hv,_⟩|⟨g',cap,cur,hv,_,hg,hnc,_,hcs,_⟩
  ·injection hv with a1;cases a1
  ·injection hv with a1 a2 a3
   injection a1 with a1
   injection a1 with a1
   subst a1;exact⟨cur,hg,by omega⟩
 obtain⟨cur,hg,hcur⟩:=hrow;have hr:=run_unsafeString_row (P:=P) w pt it ty e hp hc g cur.size (by simp[World.shape?,hg]) l h0 hcur (by omega) hcell;refine⟨(),w.freeze ⟨g,0,none⟩ l.length,?_,(g3 S1 (w.freeze ⟨g,0,none⟩ l.length) (Chg.freeze hS l.length) (fun b hb=>.inl hb) hS)⟩;simp[execOp,ho,resolve,hf.ev hx,hf.ev hy,invoke,builtin,ht',hr]
theorem Ev.Ah{x:Operand}{t:TypeId}{a:Addr}{k c:Nat}(hx:ev s x=some (.slice (some a) k c))(hc:c≠0):Ev P n s M (.call { callee:=.builtin .unsafeSliceData,args:=#[x],argTypes:=#[t] }) ty (.pointer (some a)):=by
 refine⟨fun ac w o ho ht' hf hm=>?_⟩;have h:=run_unsafeSliceData_row (P:=P) w #[t] ty a k c hc;simp[execOp,ho,resolve,hf.ev hx,invoke,builtin,ht',h]
theorem Ac.NG{op:Op}{v:Value}(h:Ev P n s M op ty v):Ac P n s M op ty (ι:=Unit) (fun _=>v) (fun _=>M):=⟨fun a w o ho ht hf hm=>⟨(),w,h.go a w o ho ht hf hm,hm⟩⟩
end
end Go.Sl
namespace Go.Proofs.YtpbichnnflabdaaGreatDoor
open Go Go.Sl Go.RowKit Go.Lib
theorem DA:Tryz.prog.cellsOf 5=1:=by kernel_rfl
set_option maxRecDepth 20000 in
theorem Hl{w0:World}{L0:List HP}(b:Nat)(ad:Option Addr)(p:Option Addr×Nat)(l:List UInt8)(w:World)(h0:l≠[])(hl:l.length≤1000000000)(hw:St w0 (xB b ad p l.length::JD p l.length l::L0) w) :
  Calls Tryz.prog 154 #[.pointer (some ⟨b,0,none⟩)] w (fun e w'=>∃x:Nat,e=.returned (.string ⟨l.toArray⟩)∧(∃a,p.1=some a∧a.block=x)∧St w0 (hAt x::xB b ad p l.length::L0) w'):=by
 have hpos:0<l.length:=by cases l with
  |nil=>exact absurd rfl h0
  |cons _ _=>simp
 obtain⟨A,c⟩:=p;have hon:=hw.BI (H:=JD (A,c) l.length l) (.there .here);have hAg:∃g,A=some ⟨g,0,none⟩∧c≠0:=by
  rcases hon.1.2 with⟨hv,h⟩|⟨g,cap,cur,hv,_,_,hnc,_⟩
  ·omega
  ·injection hv with a1 a2 a3
   exact⟨g,a1,by omega⟩
 obtain⟨g,rfl,hc⟩:=hAg;refine TC.calls (l:=[.pointer (some ⟨b,0,none⟩)]) (M:=St w0 (xB b ad (some ⟨g,0,none⟩,c) l.length::JD (some ⟨g,0,none⟩,c) l.length l::L0)) Tryz.func154 rfl Tryz.ntmps154 rfl hw ?_
 repeat' (first|((refine TC.N2 [(4,.cv)] (.seg [0,1,2,3,5,6,7,8,9,4,10,11] .fin) mixed (by kernel_rfl) (TT.seg rfl ?_)))|((apply TL.cv (d:=7);exact rfl;exact rfl;exact(fun _ h=>h);exact Ac.NG (Ev.Ah rfl hc);exact(fun _ _ h=>h)))|(refine W1 ?_)|(refine W2 (fun hc=>?_) (fun hc=>?_))|(intro _))
 refine TL.uK rfl rfl (Ac.N5 Tryz.underlying218 DA h0 hl rfl rfl (L0:=xB b ad (some ⟨g,0,none⟩,c) l.length::L0) (by
  have e:yj l=(l.map fun b=>Value.int .u8 (b.toNat:Int)).map fun v=>[v]:=by unfold yj;rw[List.map_map];rfl
  rw[←e];exact .there .here)) (fun _=>?_)
 repeat' (first|((apply TX.tree))|((apply TT.fin))|(refine W1 ?_)|(refine W2 (fun hc=>?_) (fun hc=>?_))|(intro _))
 exact TX.o4 rfl rfl (fun w' hw=>⟨g,rfl,⟨_,rfl,rfl⟩,hw⟩)
end Go.Proofs.YtpbichnnflabdaaGreatDoor
namespace Go.Km
open Go Go.RowKit Go.Vc Go.Proofs Go.Proofs.YtpbichnnflabdaaGreatDoor
open Go.Sl hiding lk
def hFr(W:World)(B:Nat→Prop):HP:=⟨fun S w=>∀g,B g→S g∧w.heap[g]?=W.heap[g]?,fun h hh g hg=>⟨h _ (hh g hg).1,(hh g hg).2⟩,fun h hh g hg=>⟨(hh g hg).1,(h g (hh g hg).1).trans (hh g hg).2⟩⟩
def pN(w:World):World:={ w with heap:=#[] }
abbrev iQ:Nat:=203
theorem KM{η:Env}{b v:Nat}{ad sl:D}(h1:η b=some (.va v iQ [ad,sl]))(had:ad=.fr (.vl (.pointer none))∨ad=.ptr b v 0)(hsl:sl=uX∨∃b2 v2,sl=.own b2 v2)(Γ:Nat→Option (List F)) :
  cT Tryz.prog Γ η 173 [.ptr b v 0] (.tp []) [b] [(b,.va v iQ [.ptr b v 0,sl])]:=by
 refine⟨fun η' hη W c O w vs hΓ hp ho hvs=>⟨inferInstance,?_⟩⟩;have hb:η' b=some (.va v iQ [ad,sl]):=(hη b (by simp)).trans h1;obtain⟨g,us,k1,k2,k3,k4,k5⟩:=hp.pc b _ hb;unfold D.ah at k2;obtain⟨u0,us1,rfl,m1,k2⟩:=k2;unfold D.ah at k2;obtain⟨u1,us2,rfl,m2,k2⟩:=k2;unfold D.ah at k2;subst k2;unfold D.ah at hvs;obtain⟨y,ys,rfl,n1,n2⟩:=hvs;unfold D.ah at n2;subst n2;unfold D.rep at n1;obtain⟨g',n3,rfl⟩:=n1;rw[k1]at n3
 cases n3;have hu1:∃p:Option Addr×Nat,∃n,u1=.slice p.1 n p.2:=by
  rcases hsl with rfl|⟨b2,v2,rfl⟩
  ·unfold D.rep F.rep at m2;exact⟨(none,0),0,m2⟩
  ·unfold D.rep at m2;obtain⟨A,m,k,_,e⟩:=m2;exact⟨(A,k),m,e⟩
 have hu0:∃ad':Option Addr,u0=.pointer ad'∧(ad'=none∨ad'=some ⟨g,0,none⟩):=by
  rcases had with rfl|rfl
  ·unfold D.rep F.rep at m1;exact⟨none,m1,.inl rfl⟩
  ·unfold D.rep at m1;obtain⟨g',n3,e⟩:=m1;rw[k1]at n3
   cases n3;exact⟨_,e,.inr rfl⟩
 obtain⟨p,n,rfl⟩:=hu1;obtain⟨ad',rfl,had'⟩:=hu0;have hlt:g<w.heap.size:=hp.lt b g k4;have hst:St (pN w) [xB g ad' p n,hFr w fun x=>x<w.heap.size∧x≠g] w:=
  ⟨⟨rfl,rfl,rfl,by simp[pN],fun x hx=>absurd hx (Nat.not_lt_zero _)⟩,fun x=>x=g,fun x hx=>⟨Nat.zero_le _,by subst hx;exact hlt⟩,⟨rfl,k5⟩,fun x=>x<w.heap.size∧x≠g,fun x hx=>⟨⟨Nat.zero_le _,hx.1⟩,hx.2⟩,fun x hx=>⟨hx,rfl⟩,trivial⟩
 refine(uQ g ad' p n w had' hst).mono fun e w' ⟨_,he,hst'⟩=>⟨.tuple #[],he,?_⟩;obtain⟨hbl,S1,hS1,⟨hb1,hb2⟩,S2,hS2,hfr,_⟩:=hst';have hsz:w.heap.size≤w'.heap.size:=by
  by_cases hm:w.heap.size-1=g
  ·have:=(hS1 g hb1).2;omega
  ·have:=(hS2 _ (hfr (w.heap.size-1) ⟨by omega,hm⟩).1).1.2;omega
 have hch:Chg w w' (O b):=⟨hbl.os,hbl.tape,hbl.output,hsz,fun x hx hn=>(hfr x ⟨hx,fun e=>hn (by rw[e];exact k4)⟩).2⟩
 refine⟨_,_,_,c,_,⟨rfl,rfl,rfl⟩,Cf.le.refl c,by unfold D.rep;exact⟨[],rfl,by unfold D.ah;rfl⟩,hp.upd (S':=O b) hch (fun x hx=>.inl hx) (Cf.le.refl c) rfl rfl (hp.cu hb rfl) ⟨g,[.pointer (some ⟨g,0,none⟩),.slice p.1 n p.2],k1,?_,rfl,k4,hb2⟩,ho.upd hch (fun x hx=>.inl hx) rfl rfl⟩;unfold D.ah;refine⟨_,_,rfl,by unfold D.rep;exact⟨g,k1,rfl⟩,?_⟩;unfold D.ah;exact⟨_,_,rfl,m2,by unfold D.ah;rfl⟩
theorem Dr{Z:Nat→Prop}{w:World}:∀{l:List UInt8}{vr:List (List Value)},F.aI Z w (l.map byR) vr→vr=yj l
 |[],vr,h=>by simpa [F.aI,yj]using h
 |x::l,vr,h=>by
  rw[List.map_cons]at h;unfold F.aI at h;obtain⟨u,us,rfl,h1,h2⟩:=h;unfold byR F.ah at h1;obtain⟨a,b,rfl,h3,h4⟩:=h1;unfold F.rep at h3;unfold F.ah at h4;rw[h3,h4,Dr h2];rfl
theorem KG{η:Env}{b v b2 v2:Nat}{l:List UInt8}(h1:η b=some (.va v iQ [.ptr b v 0,.own b2 v2]))(h2:η b2=some (.ro v2 5 1 (l.map byR)))(h0:l≠[])(hl:l.length≤1000000000)(Γ:Nat→Option (List F)) :
  cT Tryz.prog Γ η 154 [.ptr b v 0] (.fr (.vl (.string ⟨l.toArray⟩))) [b,b2] [(b,.gone v),(b2,.gone v2)]:=by
 refine⟨fun η' hη W c O w vs hΓ hp ho hvs=>⟨inferInstance,?_⟩⟩;have hb:η' b=some (.va v iQ [.ptr b v 0,.own b2 v2]):=(hη b (by simp)).trans h1;have hb2:η' b2=some (.ro v2 5 1 (l.map byR)):=(hη b2 (by simp)).trans h2;have hne:b≠b2:=fun e=>by rw[e,hb2]at hb;cases hb
 have hpos:0<l.length:=by cases l with
  |nil=>exact absurd rfl h0
  |cons _ _=>simp
 obtain⟨g,us,k1,k2,k3,k4,k5⟩:=hp.pc b _ hb;obtain⟨A,k,vr,j1,j2,j3,j4⟩:=hp.pc b2 _ hb2;have:=Dr j2;subst this;rw[List.length_map]at j1 j4;unfold D.ah at k2;obtain⟨u0,us1,rfl,m1,k2⟩:=k2;unfold D.ah at k2;obtain⟨u1,us2,rfl,m2,k2⟩:=k2;unfold D.ah at k2;subst k2;unfold D.ah at hvs;obtain⟨y,ys,rfl,n1,n2⟩:=hvs;unfold D.ah at n2;subst n2;unfold D.rep at n1 m1 m2;obtain⟨g',n3,rfl⟩:=n1;rw[k1]at n3
 cases n3;obtain⟨g',n3,rfl⟩:=m1;rw[k1]at n3
 cases n3;obtain⟨A',m',k',n3,rfl⟩:=m2;rw[j1]at n3
 cases n3;obtain⟨gb,hA⟩:∃gb,A=some ⟨gb,0,none⟩:=by
  rcases j4.1.2 with⟨hv,h⟩|⟨g,cap,cur,hv,_⟩
  ·omega
  ·injection hv with a1
   exact⟨g,a1⟩
 subst hA;have hOb:O b2 gb:=j4.2.2.2 gb rfl;have hgb:g≠gb:=fun e=>hne (hp.apart _ _ _ k4 (by rw[e];exact hOb))
 have hlt:g<w.heap.size:=hp.lt b g k4;have hltb:gb<w.heap.size:=hp.lt b2 gb hOb;have hst:St (pN w) [xB g (some ⟨g,0,none⟩) (some ⟨gb,0,none⟩,k) l.length,JD (some ⟨gb,0,none⟩,k) l.length l,hFr w fun x=>x<w.heap.size∧x≠g∧x≠gb] w:=
  ⟨⟨rfl,rfl,rfl,by simp[pN],fun x hx=>absurd hx (Nat.not_lt_zero _)⟩,fun x=>x=g,fun x hx=>⟨Nat.zero_le _,by subst hx;exact hlt⟩,⟨rfl,k5⟩,fun x=>x=gb,fun x hx=>⟨⟨Nat.zero_le _,by subst hx;exact hltb⟩,by subst hx;exact fun e=>hgb e.symm⟩,⟨j4.1,j4.2.1,j4.2.2.1,fun x hx=>by simp only[Value.ownBlock,Option.some.injEq]at hx;exact hx.symm⟩,fun x=>x<w.heap.size∧x≠g∧x≠gb,fun x hx=>⟨⟨⟨Nat.zero_le _,hx.1⟩,hx.2.1⟩,hx.2.2⟩,fun x hx=>⟨hx,rfl⟩,trivial⟩
 refine(Hl g (some ⟨g,0,none⟩) (some ⟨gb,0,none⟩,k) l w h0 hl hst).mono fun e w' ⟨x,he,⟨a,ha,hax⟩,hst'⟩=>⟨.string ⟨l.toArray⟩,he,?_⟩
 cases ha
 cases hax;obtain⟨hbl,S0,hS0,hb0,S1,hS1,⟨hb1,hb2'⟩,S2,hS2,hfr,_⟩:=hst';have hsz:w.heap.size≤w'.heap.size:=by
  by_cases hm:w.heap.size-1=gb
  ·have:=(hS0 gb hb0).2;omega
  ·by_cases hm2:w.heap.size-1=g
   ·have:=(hS1 g hb1).1.2;omega
   ·have:=(hS2 _ (hfr (w.heap.size-1) ⟨by omega,hm2,hm⟩).1).1.1.2;omega
 have hch:Chg w w' (O b2):=⟨hbl.os,hbl.tape,hbl.output,hsz,fun x hx hn=>by
  by_cases e:x=g
  ·rw[e,hb2',k5]
  ·exact(hfr x ⟨hx,e,fun e2=>hn (by rw[e2];exact hOb)⟩).2⟩
 have hp1:=hp.upd (S':=O b2) (x':=.gone v2) hch (fun x hx=>.inl hx) (Cf.le.refl c) rfl rfl (hp.cu hb2 rfl) trivial;have ho1:=ho.upd (b:=b2) (S':=O b2) hch (fun x hx=>.inl hx) rfl rfl;have hbx:up η' b2 (.gone v2) b=some (.va v iQ [.ptr b v 0,.own b2 v2]):=by rw[aG (Ne.symm hne)];exact hb
 have hp2:=hp1.upd (b:=b) (S':=upO O b2 (O b2) b) (x':=.gone v) Chg.refl (fun x hx=>.inl hx) (Cf.le.refl c) rfl rfl (hp1.cu hbx rfl) trivial;exact⟨_,_,_,c,_,⟨rfl,rfl,rfl⟩,Cf.le.refl c,by unfold D.rep F.rep;rfl,hp2,ho1.upd Chg.refl (fun x hx=>.inl hx) rfl rfl⟩
section
variable {P:Program}
theorem w5 {X:Tx} (hX:iP P X) {f:FuncId}{fi:Fi} (hf:X.fi f=some fi) {tc e sz:Nat}{rows rows':List (List F)}{l:List F}{r:F} (hN:Nat.ble (l.length+1) fi.N=true)
  (hrun:∀vs,Sn P X f (⟨r.toD,[(0,.va 0 tc [.ptr 0 0 0,.own 1 0]),(1,.ro 0 e sz rows'),(2,.gh 0 vs (.ptr 0 0 0::l.map F.toD))]⟩:uz) ⟨⟨f,fi.N,j9 0 (.ptr 0 0 0::l.map F.toD),[.code fi.body],[],none⟩,[],[(2,.gh 0 vs (.ptr 0 0 0::l.map F.toD)),(0,.va 0 tc [.ptr 0 0 0,.own 1 0]),(1,.ro 0 e sz rows)],3⟩)
  {η:Env}{b v b2 v2:Nat} (h1:η b=some (.va v tc [.ptr b v 0,.own b2 v2])) (h2:η b2=some (.ro v2 e sz rows)) :
  cT P X.Γ η f (.ptr b v 0::l.map F.toD) r.toD [b,b2] [(b,.va v tc [.ptr b v 0,.own b2 (nv η b2)]),(b2,.ro (nv η b2) e sz rows')]:=by
 have hne:Nat.beq b b2=false:=by
  rw[←Bool.not_eq_true];intro h;have:=Nat.eq_of_beq_eq_true h;subst this;rw[h1]at h2
  cases h2
 have hne':Nat.beq b2 b=false:=by rw[←Bool.not_eq_true];intro h;rw[Nat.eq_of_beq_eq_true h,Nat.beq_refl]at hne;cases hne
 have hlk:∀{x y:B}{i:Nat}{z:B},lk [(b,x),(b2,y)] i=some z→(i=b∧z=x)∨(i=b2∧z=y):=by
  intro x y i z h;simp only[lk]at h
  cases e1:Nat.beq b i with
  |true=>rw[e1]at h;cases h;exact .inl ⟨(Nat.eq_of_beq_eq_true e1).symm,rfl⟩
  |false=>
   rw[e1]at h
   cases e2:Nat.beq b2 i with
   |true=>rw[e2]at h;cases h;exact .inr ⟨(Nat.eq_of_beq_eq_true e2).symm,rfl⟩
   |false=>rw[e2]at h;cases h
 have l1:∀{x y:B},lk [(b,x),(b2,y)] b=some x:=by intro x y;simp[lk]
 have l2:∀{x y:B},lk [(b,x),(b2,y)] b2=some y:=by intro x y;simp[lk,hne]
 have ho:∀{u u2:Nat},bL [(b,u),(b2,u2)]=true:=by intro u u2;simp[bL,hne']
 have hp:∀{u u2:Nat},cc [(b,u),(b2,u2)] b u 0=some 0:=by intro u u2;simp[cc]
 have hp2:∀{u u2:Nat},cc [(b,u),(b2,u2)] b2 u2 0=some 1:=by intro u u2;simp[cc,hne']
 refine jk hX hf (x:=[]) (x0:=[]) (l:=.ptr b v 0::l.map F.toD) (l0:=.ptr 0 0 0::l.map F.toD) (m0:=[(b,v),(b2,v2)]) (μ:=[(b,v),(b2,nv η b2)]) (hb:=[(b,.va v tc [.ptr b v 0,.own b2 v2]),(b2,.ro v2 e sz rows)]) (h0:=[(0,.va 0 tc [.ptr 0 0 0,.own 1 0]),(1,.ro 0 e sz rows)]) (d':=r.toD) (ds':=.ptr 0 0 0::l.map F.toD) (h'':=[(0,.va 0 tc [.ptr 0 0 0,.own 1 0]),(1,.ro 0 e sz rows')]) ⟨ho,ho,?_,?_,?_,?_,?_,?_⟩ ?_ ?_ rfl (fun _ _ _ _ _ _=>⟨[],by simp[D.ah]⟩) ?_ (js _ _) ?_ (fun vs=>by rw[List.append_nil];exact hrun vs)
 ·intro i x h;rcases hlk h with⟨rfl,rfl⟩|⟨rfl,rfl⟩
  ·exact⟨h1,List.mem_cons_self ..⟩
  ·exact⟨h2,List.mem_cons_of_mem _ (List.mem_cons_self ..)⟩
 ·intro i u h;simp only[List.mem_cons,List.not_mem_nil,or_false,Prod.mk.injEq]at h;rcases h with⟨rfl,rfl⟩|⟨rfl,rfl⟩
  ·exact⟨_,l1⟩
  ·exact⟨_,l2⟩
 ·intro i x h;rcases hlk h with⟨rfl,rfl⟩|⟨rfl,rfl⟩
  ·exact List.mem_cons_self ..
  ·exact List.mem_cons_of_mem _ (List.mem_cons_self ..)
 ·intro i x h;rcases hlk h with⟨rfl,rfl⟩|⟨rfl,rfl⟩
  ·exact⟨rfl,.inl ⟨0,rfl⟩⟩
  ·exact⟨rfl,.inl ⟨1,rfl⟩⟩
 ·intro i x y h hy;rcases hlk h with⟨rfl,rfl⟩|⟨rfl,rfl⟩
  ·rw[h1]at hy
   cases hy;exact Nat.le_refl _
  ·rw[h2]at hy
   cases hy;show v2≤nv η i
   unfold nv;rw[h2];exact Nat.le_succ _
 ·intro i j u h
  match i,h with
  |0,h=>cases h;exact .inr (.inl ⟨0,0,rfl,rfl⟩)
  |1,h=>cases h;exact .inl rfl
 ·simp only[cG,l1,l2,B.ver,Nat.beq_refl,cond_true,ez,aO,bj,hp,hp2]
 ·simp only[aO,bj,hp,dR]
 ·rw[List.length_cons,List.length_map];exact hN
 ·simp only[cG,l1,l2,B.ver,Nat.beq_refl,cond_true,ez,aO,bj,hp,hp2]
theorem wH {X:Tx} (hX:iP P X) {f:FuncId}{fi:Fi} (hf:X.fi f=some fi) {tc e sz:Nat}{rows':List (List F)}{l:List F}{r:F} (hN:Nat.ble (l.length+1) fi.N=true)
  (hrun:∀vs,Sn P X f (⟨r.toD,[(0,.va 0 tc [.ptr 0 0 0,.own 1 0]),(1,.ro 0 e sz rows'),(2,.gh 0 vs (.ptr 0 0 0::l.map F.toD))]⟩:uz) ⟨⟨f,fi.N,j9 0 (.ptr 0 0 0::l.map F.toD),[.code fi.body],[],none⟩,[],[(1,.gh 0 vs (.ptr 0 0 0::l.map F.toD)),(0,.va 0 tc [.fr (.vl (.pointer none)),.fr (.vl (.slice none 0 0))])],2⟩)
  {η:Env}{b v b2:Nat} (h1:η b=some (.va v tc [.fr (.vl (.pointer none)),.fr (.vl (.slice none 0 0))])) (h2:η b2=none) :
  cT P X.Γ η f (.ptr b v 0::l.map F.toD) r.toD [b,b2] [(b,.va v tc [.ptr b v 0,.own b2 (nv η b2)]),(b2,.ro (nv η b2) e sz rows')]:=by
 have hne:Nat.beq b b2=false:=by
  rw[←Bool.not_eq_true];intro h;have:=Nat.eq_of_beq_eq_true h;subst this;rw[h1]at h2
  cases h2
 have hne':Nat.beq b2 b=false:=by rw[←Bool.not_eq_true];intro h;rw[Nat.eq_of_beq_eq_true h,Nat.beq_refl]at hne;cases hne
 have hlk:∀{x y:B}{i:Nat}{z:B},lk [(b,x),(b2,y)] i=some z→(i=b∧z=x)∨(i=b2∧z=y):=by
  intro x y i z h;simp only[lk]at h
  cases e1:Nat.beq b i with
  |true=>rw[e1]at h;cases h;exact .inl ⟨(Nat.eq_of_beq_eq_true e1).symm,rfl⟩
  |false=>
   rw[e1]at h
   cases e2:Nat.beq b2 i with
   |true=>rw[e2]at h;cases h;exact .inr ⟨(Nat.eq_of_beq_eq_true e2).symm,rfl⟩
   |false=>rw[e2]at h;cases h
 have l1:∀{x y:B},lk [(b,x),(b2,y)] b=some x:=by intro x y;simp[lk]
 have l2:∀{x y:B},lk [(b,x),(b2,y)] b2=some y:=by intro x y;simp[lk,hne]
 have ho:∀{u u2:Nat},bL [(b,u),(b2,u2)]=true:=by intro u u2;simp[bL,hne']
 have hp:∀{u u2:Nat},cc [(b,u),(b2,u2)] b u 0=some 0:=by intro u u2;simp[cc]
 have hp2:∀{u u2:Nat},cc [(b,u),(b2,u2)] b2 u2 0=some 1:=by intro u u2;simp[cc,hne']
 refine jk hX hf (x:=[]) (x0:=[]) (l:=.ptr b v 0::l.map F.toD) (l0:=.ptr 0 0 0::l.map F.toD) (m0:=[(b,v)]) (μ:=[(b,v),(b2,nv η b2)]) (hb:=[(b,.va v tc [.fr (.vl (.pointer none)),.fr (.vl (.slice none 0 0))])]) (h0:=[(0,.va 0 tc [.fr (.vl (.pointer none)),.fr (.vl (.slice none 0 0))])]) (d':=r.toD) (ds':=.ptr 0 0 0::l.map F.toD) (h'':=[(0,.va 0 tc [.ptr 0 0 0,.own 1 0]),(1,.ro 0 e sz rows')]) ⟨rfl,ho,?_,?_,?_,?_,?_,?_⟩ ?_ ?_ rfl (fun _ _ _ _ _ _=>⟨[],by simp[D.ah]⟩) ?_ (js _ _) ?_ (fun vs=>by rw[List.append_nil];exact hrun vs)
 ·intro i x h;simp only[lk]at h
  cases e1:Nat.beq b i with
  |true=>
   rw[e1]at h
   cases h
   cases Nat.eq_of_beq_eq_true e1;exact⟨h1,List.mem_cons_self ..⟩
  |false=>rw[e1]at h;cases h
 ·intro i u h;simp only[List.mem_cons,List.not_mem_nil,or_false,Prod.mk.injEq]at h;obtain⟨rfl,rfl⟩:=h;exact⟨_,l1⟩
 ·intro i x h;rcases hlk h with⟨rfl,rfl⟩|⟨rfl,rfl⟩
  ·exact List.mem_cons_self ..
  ·exact List.mem_cons_of_mem _ (List.mem_cons_self ..)
 ·intro i x h;rcases hlk h with⟨rfl,rfl⟩|⟨rfl,rfl⟩
  ·exact⟨rfl,.inl ⟨0,rfl⟩⟩
  ·exact⟨rfl,.inl ⟨1,rfl⟩⟩
 ·intro i x y h hy;rcases hlk h with⟨rfl,rfl⟩|⟨rfl,rfl⟩
  ·rw[h1]at hy
   cases hy;exact Nat.le_refl _
  ·rw[h2]at hy
   cases hy
 ·intro i j u h
  match i,h with
  |0,h=>cases h;exact .inr (.inl ⟨0,0,rfl,rfl⟩)
  |1,h=>cases h;exact .inl rfl
 ·simp only[cG,lk,B.ver,Nat.beq_refl,cond_true,ez,aO,bj]
 ·simp only[aO,bj,cc,Nat.beq_refl,cond_true,dR]
 ·rw[List.length_cons,List.length_map];exact hN
 ·simp only[cG,l1,l2,B.ver,Nat.beq_refl,cond_true,ez,aO,bj,hp,hp2]
end
structure BwP(Γ:Nat→Option (List F))(f:FuncId)(l:List UInt8)(a:List F)(r:F)(l':List UInt8):Prop where
 own:∀(η:Env) (b v b2 v2:Nat),η b=some (.va v iQ [.ptr b v 0,.own b2 v2])→η b2=some (.ro v2 5 1 (l.map byR))→cT Tryz.prog Γ η f (.ptr b v 0::a.map F.toD) r.toD [b,b2] [(b,.va v iQ [.ptr b v 0,.own b2 (nv η b2)]),(b2,.ro (nv η b2) 5 1 (l'.map byR))]
 new:l=[]→∀(η:Env) (b v t:Nat),η b=some (.va v iQ [.fr (.vl (.pointer none)),uX])→η t=none→cT Tryz.prog Γ η f (.ptr b v 0::a.map F.toD) r.toD [b,t] [(b,.va v iQ [.ptr b v 0,.own t (nv η t)]),(t,.ro (nv η t) 5 1 (l'.map byR))]
class HB(Γ:Nat→Option (List F))(f:Nat)(l:List UInt8)(a:List F)(r:outParam F)(l':outParam (List UInt8))(pre:outParam Prop):Prop where
 h:pre→BwP Γ f l a r l'
structure bwK(Γ:Nat→Option (List F))(f:Nat)(rows:List (List F))(a:List F)(k:F→List UInt8→Prop):Prop where
 h:∃l r l',rows=l.map byR∧BwP Γ f l a r l'∧k r l'
instance{Γ:Nat→Option (List F)}{f:Nat}{l l':List UInt8}{a:List F}{r:F}{pre:Prop}{k:F→List UInt8→Prop}[hc:HB Γ f l a r l' pre]:Arm (bwK Γ f (l.map byR) a k) (SdA pre (k r l')):=⟨fun⟨h,hk⟩=>⟨l,r,l',rfl,hc.h h,hk⟩⟩
instance{Γ:Nat→Option (List F)}{f:Nat}{l':List UInt8}{a:List F}{r:F}{pre:Prop}{k:F→List UInt8→Prop}[hc:HB Γ f [] a r l' pre]:Arm (bwK Γ f [] a k) (SdA pre (k r l')):=⟨fun⟨h,hk⟩=>⟨[],r,l',rfl,hc.h h,hk⟩⟩
class IL(f:Nat):Prop where
 h:True
def bwE(Γ:Nat→Option (List F))(t:Nat)(η:Env)(f:Nat)(l:List D)(k:Kr Prop):Prop:=match l with
 |.ptr b v 0::ds=>(match η b,cB (D.toF η 6) ds with
  |some (.va v' tc [.ptr b0 v0 0,.own b2 v2]),some (fl,is)=>(match η b2 with
   |some (.ro v2' e 1 rows)=>bif Nat.beq v v'&&Nat.beq b b0&&Nat.beq v v0&&Nat.beq tc iQ&&Nat.beq e 5&&Nat.beq v2 v2' && !is.elem b && !is.elem b2 then F.fos fl fun fl=>bwK Γ f rows fl fun r l'=>k r.toD (b::b2::is) ((b,.va v iQ [.ptr b v 0,.own b2 (nv η b2)])::(b2,.ro (nv η b2) 5 1 (l'.map byR))::aU η is)else False
   |_=>False)
  |some (.va v' tc [.fr (.vl (.pointer none)),.fr (.vl (.slice none 0 0))]),some (fl,is)=>(match η t with
   |none=>bif Nat.beq v v'&&Nat.beq tc iQ && !is.elem b && !is.elem t then F.fos fl fun fl=>bwK Γ f [] fl fun r l'=>k r.toD (b::t::is) ((b,.va v iQ [.ptr b v 0,.own t (nv η t)])::(t,.ro (nv η t) 5 1 (l'.map byR))::aU η is)else False
   |some _=>False)
  |_,_=>False)
 |_=>False
theorem zD{l:List UInt8}(h:[]=l.map byR):l=[]:=by cases l with
 |nil=>rfl
 |cons a l=>cases h
theorem Lj{Γ:Nat→Option (List F)}{t:Nat}{η:Env}{f:Nat}{l:List D}{k:Kr Prop}(h:bwE Γ t η f l k):dg Tryz.prog Γ t η f l k:=by
 unfold bwE at h
 split at h
 ·rename_i b v ds
  split at h
  ·rename_i v' tc b0 v0 b2 v2 fl is hb hm
   split at h
   ·rename_i v2' e rows hb2
    cases hc:(Nat.beq v v'&&Nat.beq b b0&&Nat.beq v v0&&Nat.beq tc iQ&&Nat.beq e 5&&Nat.beq v2 v2' && !is.elem b && !is.elem b2)with
    |false=>rw[hc]at h;exact h.elim
    |true=>
     rw[hc,cond_true,F.ct]at h;simp only[Bool.and_eq_true,Bool.not_eq_true',List.elem_eq_contains,List.contains_eq_mem,decide_eq_false_iff_not]at hc;obtain⟨⟨⟨⟨⟨⟨⟨c1,c5⟩,c6⟩,c7⟩,c8⟩,c2⟩,c3⟩,c4⟩:=hc
     cases Nat.eq_of_beq_eq_true c1
     cases Nat.eq_of_beq_eq_true c5
     cases Nat.eq_of_beq_eq_true c6
     cases Nat.eq_of_beq_eq_true c7
     cases Nat.eq_of_beq_eq_true c8
     cases Nat.eq_of_beq_eq_true c2;obtain⟨l,r,l',rfl,hp,hk⟩:=h.h;have q1:=((a7 η η is b).1 c3).trans hb;have q2:=((a7 η η is b2).1 c4).trans hb2;have:=cT.fz (l1:=[.ptr b v 0]) hm (hp.own _ b v b2 v2 q1 q2);rw[kv is c4]at this;exact⟨_,_,_,this,hk⟩
   ·exact h.elim
  ·rename_i v' tc fl is hb hm
   split at h
   ·rename_i ht
    cases hc:(Nat.beq v v'&&Nat.beq tc iQ && !is.elem b && !is.elem t)with
    |false=>rw[hc]at h;exact h.elim
    |true=>
     rw[hc,cond_true,F.ct]at h;simp only[Bool.and_eq_true,Bool.not_eq_true',List.elem_eq_contains,List.contains_eq_mem,decide_eq_false_iff_not]at hc;obtain⟨⟨⟨c1,c2⟩,c3⟩,c4⟩:=hc
     cases Nat.eq_of_beq_eq_true c1
     cases Nat.eq_of_beq_eq_true c2;obtain⟨l,r,l',e,hp,hk⟩:=h.h;have:=zD e;subst this;have q1:=((a7 η η is b).1 c3).trans hb;have q2:=((a7 η η is t).1 c4).trans ht;have:=cT.fz (l1:=[.ptr b v 0]) hm (hp.new rfl _ b v t q1 q2);rw[kv is c4]at this;exact⟨_,_,_,this,hk⟩
   ·exact h.elim
  ·exact h.elim
 ·exact h.elim
instance{Γ:Nat→Option (List F)}{t:Nat}{η:Env}{f:Nat}{l:List D}{k:Kr Prop}[IL f]:Arm (dg Tryz.prog Γ t η f l k) (bwE Γ t η f l k):=⟨Lj⟩
def Lw(b v:Nat):D→Bool
 |.fr (.vl (.pointer none))=>true
 |.ptr b0 v0 0=>Nat.beq b b0&&Nat.beq v v0
 |_=>false
def Lt:D→Bool
 |.fr (.vl (.slice none 0 0))=>true
 |.own _ _=>true
 |_=>false
def ccE(η:Env)(l:List D)(k:Kr Prop):Prop:=match l with
 |[.ptr b v 0]=>(match η b with
  |some (.va v' tc [ad,sl])=>bif Nat.beq v v'&&Nat.beq tc iQ&&Lw b v ad&&Lt sl then k (.tp []) [b] [(b,.va v iQ [.ptr b v 0,sl])]else False
  |_=>False)
 |_=>False
theorem Mq{Γ:Nat→Option (List F)}{t:Nat}{η:Env}{l:List D}{k:Kr Prop}(h:ccE η l k):dg Tryz.prog Γ t η 173 l k:=by
 unfold ccE at h
 split at h
 ·rename_i b v
  split at h
  ·rename_i v' tc ad sl hb
   cases hc:(Nat.beq v v'&&Nat.beq tc iQ&&Lw b v ad&&Lt sl)with
   |false=>rw[hc]at h;exact h.elim
   |true=>
    rw[hc]at h;simp only[Bool.and_eq_true]at hc;obtain⟨⟨⟨c1,c2⟩,hx⟩,hy⟩:=hc
    cases Nat.eq_of_beq_eq_true c1
    cases Nat.eq_of_beq_eq_true c2;unfold Lw at hx;unfold Lt at hy;refine⟨_,_,_,KM hb ?_ ?_ Γ,h⟩
    ·split at hx
     ·exact .inl rfl
     ·rw[Bool.and_eq_true]at hx;obtain⟨h1,h2⟩:=hx
      cases Nat.eq_of_beq_eq_true h1
      cases Nat.eq_of_beq_eq_true h2;exact .inr rfl
     ·cases hx
    ·split at hy
     ·exact .inl rfl
     ·exact .inr ⟨_,_,rfl⟩
     ·cases hy
  ·exact h.elim
 ·exact h.elim
instance{Γ:Nat→Option (List F)}{t:Nat}{η:Env}{l:List D}{k:Kr Prop}:Arm (dg Tryz.prog Γ t η 173 l k) (ccE η l k):=⟨Mq⟩
structure stK(rows:List (List F))(k:List UInt8→Prop):Prop where
 h:∃l,rows=l.map byR∧l≠[]∧l.length≤1000000000∧k l
instance{l:List UInt8}{k:List UInt8→Prop}:Arm (stK (l.map byR) k) (SdA (l≠[]∧l.length≤1000000000) (k l)):=⟨fun⟨h,hk⟩=>⟨l,rfl,h.1,h.2,hk⟩⟩
def stE(η:Env)(l:List D)(k:Kr Prop):Prop:=match l with
 |[.ptr b v 0]=>(match η b with
  |some (.va v' tc [.ptr b0 v0 0,.own b2 v2])=>(match η b2 with
   |some (.ro v2' e 1 rows)=>bif Nat.beq v v'&&Nat.beq b b0&&Nat.beq v v0&&Nat.beq tc iQ&&Nat.beq e 5&&Nat.beq v2 v2' then stK rows fun l=>k (.fr (.vl (.string ⟨l.toArray⟩))) [b,b2] [(b,.gone v),(b2,.gone v2)]else False
   |_=>False)
  |_=>False)
 |_=>False
theorem LR{Γ:Nat→Option (List F)}{t:Nat}{η:Env}{l:List D}{k:Kr Prop}(h:stE η l k):dg Tryz.prog Γ t η 154 l k:=by
 unfold stE at h
 split at h
 ·rename_i b v
  split at h
  ·rename_i v' tc b0 v0 b2 v2 hb
   split at h
   ·rename_i v2' e rows hb2
    cases hc:(Nat.beq v v'&&Nat.beq b b0&&Nat.beq v v0&&Nat.beq tc iQ&&Nat.beq e 5&&Nat.beq v2 v2')with
    |false=>rw[hc]at h;exact h.elim
    |true=>
     rw[hc,cond_true]at h;simp only[Bool.and_eq_true]at hc;obtain⟨⟨⟨⟨⟨c1,c5⟩,c6⟩,c7⟩,c8⟩,c2⟩:=hc
     cases Nat.eq_of_beq_eq_true c1
     cases Nat.eq_of_beq_eq_true c5
     cases Nat.eq_of_beq_eq_true c6
     cases Nat.eq_of_beq_eq_true c7
     cases Nat.eq_of_beq_eq_true c8
     cases Nat.eq_of_beq_eq_true c2;obtain⟨l,rfl,h0,hl,hk⟩:=h.h;exact⟨_,_,_,KG hb hb2 h0 hl Γ,hk⟩
   ·exact h.elim
  ·exact h.elim
 ·exact h.elim
instance{Γ:Nat→Option (List F)}{t:Nat}{η:Env}{l:List D}{k:Kr Prop}:Arm (dg Tryz.prog Γ t η 154 l k) (stE η l k):=⟨LR⟩
end Go.Km
end
section
namespace Go.Km
open Go Go.Vc Go.Proofs Go.aa Go.Proofs.YtpbichnnflabdaaGreatDoor
set_option maxRecDepth 100000
set_option maxHeartbeats 0
instance:IL 179:=⟨trivial⟩
instance:IL 153:=⟨trivial⟩
theorem C8{n:Int}(h:0≤n∧n≤255):byR (UInt8.ofNat n.toNat)=[byF n]:=by
 unfold byR;rw[UInt8.toNat_ofNat_of_lt' (by show n.toNat<256;omega),Int.toNat_of_nonneg h.1]
instance(l:List UInt8)(n:Int):HB X1.Γ 179 l [byF n] (.vl .nilIface) (l++[UInt8.ofNat n.toNat]) (0≤n∧n≤255∧l.length≤1000000000):=⟨fun h=>by
 obtain⟨h1,h2,h3⟩:=h;refine⟨fun η b_ v_ b2_ v2_ h1_ h2_=>?_,fun e η b_ v_ t_ h1_ h2_=>?_⟩
 ·refine w5 dV rfl rfl ?_ h1_ h2_;intro vs_;repeat' first|exact k9|refine k2 ?_|apply kA|apply kI;intro hc|refine k8 ?_|apply kL;intro hl
  exact cR.i rfl (by rw[List.map_append,List.map_singleton,C8 ⟨h1,h2⟩];rfl)
 ·subst e;refine wH dV rfl rfl ?_ h1_ h2_;intro vs_;repeat' first|exact k9|refine k2 ?_|apply kA|apply kI;intro hc|refine k8 ?_|apply kL;intro hl
  exact cR.i rfl (by rw[List.nil_append,List.map_singleton,C8 ⟨h1,h2⟩];rfl)⟩
instance(l:List UInt8)(s:ByteArray):HB X1.Γ 153 l [stF s] (.tp [inF s.size,.vl .nilIface]) (l++s.data.toList) (s.size≤1000000000∧l.length≤1000000000):=⟨fun h=>by
 obtain⟨h1,h2⟩:=h;refine⟨fun η b_ v_ b2_ v2_ h1_ h2_=>?_,fun e η b_ v_ t_ h1_ h2_=>?_⟩
 ·refine w5 dV rfl rfl ?_ h1_ h2_;intro vs_;repeat' first|exact k9|refine k2 ?_|apply kA|apply kI;intro hc|refine k8 ?_|apply kL;intro hl
  exact cR.i rfl (by rw[List.map_append];rfl)
 ·subst e;refine wH dV rfl rfl ?_ h1_ h2_;intro vs_;repeat' first|exact k9|refine k2 ?_|apply kA|apply kI;intro hc|refine k8 ?_|apply kL;intro hl
  exact cR.i rfl (by rw[List.nil_append];rfl)⟩
end Go.Km
namespace Go.Proofs.YtpbichnnflabdaaGreatDoor
open Go Go.Sl Go.RowKit
theorem H4(args:Array Value)(w:World):(callFunc 202 args).run Tryz.prog w=((Extern.BytealgIndexByte.indexByte args).run Tryz.prog w).andThen fun v w'=>.ok (.value v) w':=
 run_callFunc_extern Tryz.func202 (by kernel_rfl) (by kernel_rfl) (by kernel_rfl) (by kernel_rfl) args w
theorem Bt(s:ByteArray)(c:Int)(w:World):Calls Tryz.prog 198 #[.string s,.int .u8 c] w (rL w (.int .i64 (Lib.indexByte s.data.toList c.toNat.toUInt8))):=by
 refine TC.calls (l:=[.string s,.int .u8 c]) Tryz.func198 rfl Tryz.ntmps198 rfl (St.start w) ?_
 repeat' (first|((apply T.ev_;exact rfl;exact Ev.MW (vs:=[.string s,.int .u8 c]) H4 rfl (fun w=>Lib.run_indexByteString s c w)))|(refine W1 ?_)|(refine W2 (fun hc=>?_) (fun hc=>?_))|(intro _))
 exact TX.o4 rfl rfl (fun w' hw=>rL.eq hw rfl)
end Go.Proofs.YtpbichnnflabdaaGreatDoor
namespace Go.aa
open Go
def yD(n:Nat):UInt8:=if n<10 then(48+n).toUInt8 else(87+n).toUInt8
def BZ(left:ByteArray)(b:Int):Bool:=decide (32≤b)&&decide (b≤126) && !decide (b=92)&&decide (Lib.indexByte left.data.toList b.toNat.toUInt8<0)
def cD(left:ByteArray)(c:UInt8):List UInt8:=
 if BZ left (c.toNat:Int)=true then[c]else if c.toNat=10 then[92,110]else if c.toNat=13 then[92,114]else if c.toNat=9 then[92,116]
 else if c.toNat=92∨0≤Lib.indexByte left.data.toList ((c.toNat:Int).toNat.toUInt8)then[92,c]else[92,120,yD (c.toNat/16),yD (c.toNat % 16)]
end Go.aa
namespace Go.Km
open Go Go.Vc Go.Proofs Go.aa Go.Proofs.YtpbichnnflabdaaGreatDoor
set_option maxRecDepth 100000
set_option maxHeartbeats 0
instance(s:ByteArray)(c:Int):C 198 [stF s,byF c] (inF (Lib.indexByte s.data.toList c.toNat.toUInt8)) true True:=⟨fun _=>Pure.ofV (l:=[.string s,.int .u8 c]) fun w=>Bt s c w⟩
instance(s:ByteArray)(c:Int):C 194 [stF s,byF c] (inF (Lib.indexByte s.data.toList c.toNat.toUInt8)) true True:=⟨fun h=>by
 refine kf rfl rfl ?_;repeat' (first|exact k9|refine k2 ?_|apply kA|apply kI;intro hc|refine k8 ?_|apply kL;intro hl)⟩
instance(b:Int)(left:ByteArray):C 193 [byF b,stF left] (boF (BZ left b)) true True:=⟨fun h=>by
 refine kf rfl rfl ?_;repeat' first|exact k9|refine k2 ?_|apply kA|apply kI;intro hc|refine k8 ?_|apply kL;intro hl
 all_goals(refine aq.b ?_ rfl;unfold BZ;simp_all [nS])
 all_goals omega⟩
abbrev ND:ByteArray:=⟨#[48,49,50,51,52,53,54,55,56,57,97,98,99,100,101,102]⟩
theorem Me:∀a:Nat,a<256→ND.data.toList[((a:Int).fdiv (2^min (Int.toNat 4) IntKind.u8.bits)).toNat]?=some (yD (a/16)):=by decide +kernel
theorem KN:∀a:Nat,a<256→ND.data.toList[(BitVec.ofInt IntKind.u8.bits (a:Int)&&&BitVec.ofInt IntKind.u8.bits 15).toNat % ((2:Int)^IntKind.u8.bits).natAbs]?=some (yD (a % 16)):=by decide +kernel
theorem Fj:∀a:Nat,a<256→0≤(a:Int).fdiv (2^min (Int.toNat 4) IntKind.u8.bits):=by decide +kernel
theorem wJ(l:List UInt8)(u:UInt8)(left:ByteArray)(hl:l.length≤900000000):BwP X1.Γ 189 l [byF (u.toNat:Int),stF left] (.tp []) (l++cD left u):=by
 have hu:u.toNat<256:=u.toNat_lt;have hx1:=Me u.toNat hu;have hx2:=KN u.toNat hu;have hx3:=Fj u.toNat hu;have hu2:UInt8.ofNat ((u.toNat:Int)).toNat=u:=by simp
 have hof:∀x:UInt8,UInt8.ofNat ((x.toNat:Int)).toNat=x:=fun x=>by simp
 have hb:∀(x:UInt8) (m:List UInt8),m.length≤1000000000→0≤(x.toNat:Int)∧(x.toNat:Int)≤255∧m.length≤1000000000:=fun x m h=>⟨by omega,by have:=x.toNat_lt;omega,h⟩
 have h2:∀x y:UInt8,(⟨#[x,y]⟩:ByteArray).size≤1000000000∧l.length≤1000000000:=fun _ _=>⟨(by show(2:Nat)≤1000000000;omega),by omega⟩
 refine⟨fun η b_ v_ b2_ v2_ h1_ h2_=>?_,fun e η b_ v_ t_ h1_ h2_=>?_⟩
 ·refine w5 dV rfl rfl ?_ h1_ h2_;intro vs_;repeat' first|exact k9|refine k2 ?_|apply kA|apply kI;intro hc|apply kL;intro hl|(((apply SdA.m;exact⟨h2 _ _⟩))<;>conv=>whnf)|(((apply SdA.m;exact⟨hb _ _ (by simp only[List.length_append,List.length_cons,List.length_nil,Array.length_toList];omega)⟩))<;>conv=>whnf)|refine k8 ?_|fail
  ·refine cR.i rfl ?_;rw[hu2,show cD left u=[u]from by rw[cD,if_pos hc]];rfl
  ·rename_i h0;refine cR.i rfl ?_;rw[show cD left u=[92,110]from by rw[cD,if_neg (by rw[h0];decide),if_pos (by omega)]];rfl
  ·rename_i h0 ha;refine cR.i rfl ?_;rw[show cD left u=[92,114]from by rw[cD,if_neg (by rw[h0];decide),if_neg (by omega),if_pos (by omega)]];rfl
  ·rename_i h0 ha hb';refine cR.i rfl ?_;rw[show cD left u=[92,116]from by rw[cD,if_neg (by rw[h0];decide),if_neg (by omega),if_neg (by omega),if_pos (by omega)]];rfl
  ·rename_i h0 ha hb' hc';refine cR.i rfl ?_;rw[hu2,show cD left u=[92,u]from by rw[cD,if_neg (by rw[h0];decide),if_neg (by omega),if_neg (by omega),if_neg (by omega),if_pos (.inl (by omega))],List.append_assoc];rfl
  ·rename_i h0 ha hb' hc' hd';refine cR.i rfl ?_;rw[hu2,show cD left u=[92,u]from by rw[cD,if_neg (by rw[h0];decide),if_neg (by omega),if_neg (by omega),if_neg (by omega),if_pos (.inr hc)],List.append_assoc];rfl
  ·rename_i h0 ha hb' hc' hd';refine cR.i rfl ?_;rw[hof,hof,show cD left u=[92,120,yD (u.toNat/16),yD (u.toNat % 16)]from by rw[cD,if_neg (by rw[h0];decide),if_neg (by omega),if_neg (by omega),if_neg (by omega),if_neg (fun h=>h.elim (fun h=>hd' (by omega)) (fun h=>by omega))],List.append_assoc,List.append_assoc];rfl
 ·subst e;refine wH dV rfl rfl ?_ h1_ h2_;intro vs_;repeat' first|exact k9|refine k2 ?_|apply kA|apply kI;intro hc|apply kL;intro hl|(((apply SdA.m;exact⟨h2 _ _⟩))<;>conv=>whnf)|(((apply SdA.m;exact⟨hb _ _ (by simp only[List.length_append,List.length_cons,List.length_nil,Array.length_toList];omega)⟩))<;>conv=>whnf)|refine k8 ?_|fail
  ·refine cR.i rfl ?_;rw[hu2,show cD left u=[u]from by rw[cD,if_pos hc]];rfl
  ·rename_i h0;refine cR.i rfl ?_;rw[show cD left u=[92,110]from by rw[cD,if_neg (by rw[h0];decide),if_pos (by omega)]];rfl
  ·rename_i h0 ha;refine cR.i rfl ?_;rw[show cD left u=[92,114]from by rw[cD,if_neg (by rw[h0];decide),if_neg (by omega),if_pos (by omega)]];rfl
  ·rename_i h0 ha hb';refine cR.i rfl ?_;rw[show cD left u=[92,116]from by rw[cD,if_neg (by rw[h0];decide),if_neg (by omega),if_neg (by omega),if_pos (by omega)]];rfl
  ·rename_i h0 ha hb' hc';refine cR.i rfl ?_;rw[hu2,show cD left u=[92,u]from by rw[cD,if_neg (by rw[h0];decide),if_neg (by omega),if_neg (by omega),if_neg (by omega),if_pos (.inl (by omega))],List.append_assoc];rfl
  ·rename_i h0 ha hb' hc' hd';refine cR.i rfl ?_;rw[hu2,show cD left u=[92,u]from by rw[cD,if_neg (by rw[h0];decide),if_neg (by omega),if_neg (by omega),if_neg (by omega),if_pos (.inr hc)],List.append_assoc];rfl
  ·rename_i h0 ha hb' hc' hd';refine cR.i rfl ?_;rw[hof,hof,show cD left u=[92,120,yD (u.toNat/16),yD (u.toNat % 16)]from by rw[cD,if_neg (by rw[h0];decide),if_neg (by omega),if_neg (by omega),if_neg (by omega),if_neg (fun h=>h.elim (fun h=>hd' (by omega)) (fun h=>by omega))],List.append_assoc,List.append_assoc];rfl
instance:IL 189:=⟨trivial⟩
instance(l:List UInt8)(u:UInt8)(left:ByteArray):HB X1.Γ 189 l [byF (u.toNat:Int),stF left] (.tp []) (l++cD left u) (l.length≤900000000):=⟨wJ l u left⟩
end Go.Km
end
section
namespace Go.Sl
open Go Go.RowKit
section
variable {P:Program}{n:FD}{s:Sg}{M:World→Prop}{ty:TypeId}
theorem u64_in{a:Nat}(h:a<18446744073709551616):IntKind.u64.wrap (a:Int)=(a:Int):=by rw[IntKind.wrap_u64];omega
theorem Ev.MX{x y:Operand}{t u:TypeId}{a b:Nat}(hx:ev s x=some (.int .u64 (a:Int)))(hy:ev s y=some (.int .u64 (b:Int)))(ha:a<18446744073709551616)(hb:b<18446744073709551616):Ev P n s M (.binOp .and t x y u) ty (.int .u64 ((a&&&b:Nat):Int)):=by
 refine⟨fun ac w o ho ht hf hm=>?_⟩;have hl:a&&&b<2^64:=Nat.and_lt_two_pow _ (by omega);have h1:(BitVec.ofInt 64 (a:Int)).toNat=a:=by
  rw[BitVec.ofInt_natCast,BitVec.toNat_ofNat];exact Nat.mod_eq_of_lt (by omega)
 have h2:(BitVec.ofInt 64 (b:Int)).toNat=b:=by
  rw[BitVec.ofInt_natCast,BitVec.toNat_ofNat];exact Nat.mod_eq_of_lt (by omega)
 have h3:IntKind.u64.wrap ((BitVec.ofInt 64 (a:Int)&&&BitVec.ofInt 64 (b:Int)).toNat:Int)=((a&&&b:Nat):Int):=by
  rw[BitVec.toNat_and,h1,h2];exact u64_in hl
 have h:(Op.intBits .and .u64 (a:Int) (b:Int)).run P w=.ok (.int .u64 ((a&&&b:Nat):Int)) w:=by
  rw[←h3];rfl
 simp[execOp,ho,hf.ev hx,hf.ev hy,eqGuard,binOp,h]
theorem Ev.MP{x:Operand}{t:TypeId}{a:Nat}(hx:ev s x=some (.int .u64 (a:Int)))(ha:a<18446744073709551616):Ev P n s M (.unOp .xor t x) ty (.int .u64 ((18446744073709551615-a:Nat):Int)):=by
 refine⟨fun ac w o ho ht hf hm=>?_⟩;have h1:(BitVec.ofInt 64 (a:Int))=BitVec.ofNat 64 a:=by rw[BitVec.ofInt_natCast]
 have h2:(BitVec.ofInt 64 18446744073709551615)=BitVec.allOnes 64:=by decide
 have h3:IntKind.u64.wrap ((BitVec.ofInt 64 18446744073709551615 ^^^ BitVec.ofInt 64 (a:Int)).toNat:Int)=((18446744073709551615-a:Nat):Int):=by
  rw[h1,h2,BitVec.xor_comm,BitVec.xor_allOnes,BitVec.toNat_not,BitVec.toNat_ofNat,Nat.mod_eq_of_lt (by omega)];exact u64_in (by omega)
 have h:(Op.unary .xor (.int .u64 (a:Int))).run P w=.ok (.int .u64 ((18446744073709551615-a:Nat):Int)) w:=by
  rw[←h3];rfl
 simp[execOp,ho,hf.ev hx,h]
theorem Ev.Nz{x:Operand}{t:TypeId}{a:Nat}(hx:ev s x=some (.int .u64 (a:Int)))(h0:a≠0)(ha:a<18446744073709551616):Ev P n s M (.unOp .neg t x) ty (.int .u64 ((18446744073709551616-a:Nat):Int)):=by
 refine⟨fun ac w o ho ht hf hm=>?_⟩;have h:IntKind.u64.wrap (0-(a:Int))=((18446744073709551616-a:Nat):Int):=by rw[IntKind.wrap_u64];omega
 have h':IntKind.u64.wrap (-(a:Int))=((18446744073709551616-a:Nat):Int):=by rw[IntKind.wrap_u64];omega
 simp[execOp,ho,hf.ev hx,Op.unary,Op.intArith,h']
theorem Ev.NK{x y:Operand}{t u:TypeId}{a b:Nat}(hx:ev s x=some (.int .u64 (a:Int)))(hy:ev s y=some (.int .u64 (b:Int))):Ev P n s M (.binOp .mul t x y u) ty (.int .u64 ((a*b % 18446744073709551616:Nat):Int)):=by
 refine⟨fun ac w o ho ht hf hm=>?_⟩;have h:IntKind.u64.wrap ((a:Int)*(b:Int))=((a*b % 18446744073709551616:Nat):Int):=by rw[IntKind.wrap_u64,←Int.natCast_mul];omega
 simp[execOp,ho,hf.ev hx,hf.ev hy,eqGuard,binOp,Op.intArith,h]
theorem Ev.Nm{x y:Operand}{t u:TypeId}{a:Nat}(hx:ev s x=some (.int .u64 (a:Int)))(hy:ev s y=some (.int .u64 58)):Ev P n s M (.binOp .shr t x y u) ty (.int .u64 ((a/288230376151711744:Nat):Int)):=by
 refine⟨fun ac w o ho ht hf hm=>?_⟩;have h1:(a:Int).fdiv (2^58)=((a/288230376151711744:Nat):Int):=by
  rw[Int.fdiv_eq_ediv_of_nonneg _ (by omega)];rfl
 have h:(Op.shift .shr .u64 (a:Int) .u64 58).run P w=.ok (.int .u64 ((a/288230376151711744:Nat):Int)) w:=by
  rw[←h1];rfl
 simp[execOp,ho,hf.ev hx,hf.ev hy,eqGuard,binOp,h]
class AE(P:Program)(t:Nat)(len:outParam Nat):Prop where
 run:∀(cs:Array Value) (v:Value) (i:Nat) (k:IntKind) (w:World),i<len→cs[i]?=some v→(Instr.index t (.agg cs) (.int k (i:Int))).run P w=.ok v w
theorem AE.of{t len e:Nat}{d:TypeDesc}(hu:P.underlying t=some (.array len e))(hs:(P.info? e).map (·.size)=some 1)(hd:P.underlying e=some d)(hd':(match d with | .struct _ | .array _ _=>true|_=>false)=false):AE P t len:=by
 refine⟨fun cs v i k w hi hv=>?_⟩;obtain⟨⟨inf,h1,h2⟩⟩:=SZ.of hs
 cases d<;>simp at hd'<;>simp[Instr.index,asIntOf,run_underlying hu,hi,sizeOf,typeInfo,h1,h2,part,isAgg,run_underlying hd,hv]
theorem Ev.Dy{x y:Operand}{t len i:Nat}{k:IntKind}{cs:Array Value}{v:Value}[h:AE P t len](hx:ev s x=some (.agg cs))(hy:ev s y=some (.int k (i:Int)))(hi:i<len)(hv:cs[i]?=some v):Ev P n s M (.index t x y) ty v:=by
 refine⟨fun ac w o ho ht hf hm=>?_⟩;simp[execOp,ho,hf.ev hx,hf.ev hy,h.run cs v i k w hi hv]
theorem Ev.L9{x y:Operand}{t u:TypeId}{a b r:Nat}(e:a&&&b=r)(hx:ev s x=some (.int .u64 (a:Int)))(hy:ev s y=some (.int .u64 (b:Int)))(ha:a<18446744073709551616)(hb:b<18446744073709551616):Ev P n s M (.binOp .and t x y u) ty (.int .u64 (r:Int)):=e▸Ev.MX hx hy ha hb
theorem Ev.LM{x y:Operand}{t u:TypeId}{a b r:Nat}(e:a*b % 18446744073709551616=r)(hx:ev s x=some (.int .u64 (a:Int)))(hy:ev s y=some (.int .u64 (b:Int))):Ev P n s M (.binOp .mul t x y u) ty (.int .u64 (r:Int)):=e▸Ev.NK hx hy
theorem Ev.Ln{x y:Operand}{t u:TypeId}{a r:Nat}(e:a/288230376151711744=r)(hx:ev s x=some (.int .u64 (a:Int)))(hy:ev s y=some (.int .u64 58)):Ev P n s M (.binOp .shr t x y u) ty (.int .u64 (r:Int)):=e▸Ev.Nm hx hy
end
end Go.Sl
namespace Go.aa
open Go
def iB(x:Nat):List Nat:=(List.range 64).filter fun i=>x.testBit i
theorem Aw:iB 0=[]:=by simp[iB]
theorem wP{p:Nat→Bool}{n k:Nat}(hk:k<n)(hp:p k=true)(hl:∀i,i<k→p i=false):(List.range n).filter p=k::(List.range n).filter (fun i=>p i && !decide (i=k)):=by
 obtain⟨d,rfl⟩:∃d,n=k+(d+1):=⟨n-k-1,by omega⟩
 have e:List.range (k+(d+1))=List.range k++k::(List.range' (k+1) d):=by
  rw[List.range_eq_range',List.range_eq_range',←List.range'_append_1];simp[List.range'_succ]
 have h1:(List.range k).filter p=[]:=List.filter_eq_nil_iff.2 (fun i hi=>by rw[hl i (List.mem_range.1 hi)];simp);have h2:(List.range k).filter (fun i=>p i && !decide (i=k))=[]:=List.filter_eq_nil_iff.2 (fun i hi=>by rw[hl i (List.mem_range.1 hi)];simp);have h3:(List.range' (k+1) d).filter p=(List.range' (k+1) d).filter (fun i=>p i && !decide (i=k)):=List.filter_congr (fun i hi=>by
  have:=(List.mem_range'_1.1 hi).1;have hne:i≠k:=by omega
  simp[hne])
 rw[e,List.filter_append,List.filter_append,List.filter_cons,List.filter_cons,h1,h2,h3];simp[hp]
theorem Ik{x k m:Nat}(hx:x=2^k*(2*m+1))(i:Nat):(x&&&(x-1)).testBit i=(x.testBit i && !decide (i=k)):=by
 have hpos:0<2^k:=Nat.two_pow_pos k;have e1:x=2^k*(2*m+1)+0:=by omega
 have e2:x-1=2^k*(2*m)+(2^k-1):=by rw[hx,Nat.mul_add];omega
 rw[Nat.testBit_and,e2,e1,Nat.testBit_two_pow_mul_add _ hpos,Nat.testBit_two_pow_mul_add _ (by omega)]
 by_cases h:i<k
 ·simp[h]
 ·rw[if_neg h,if_neg h]
  by_cases he:i=k
  ·subst he;simp
  ·obtain⟨j,hj⟩:∃j,i-k=j+1:=⟨i-k-1,by omega⟩
   rw[hj,Nat.testBit_succ,Nat.testBit_succ];have d1:(2*m+1)/2=m:=by omega
   have d2:2*m/2=m:=by omega
   rw[d1,d2];simp[he]
theorem BE{x:Nat}(h0:x≠0)(h:x<18446744073709551616):iB x=Lib.ctz 64 x::iB (x&&&(x-1))∧Lib.ctz 64 x<64:=by
 obtain⟨m,hm,hk⟩:=Lib.ctzFrom_spec 64 x (by omega) h;have e:Lib.ctz 64 x=Lib.ctzFrom 64 x:=by simp[Lib.ctz,h0]
 rw[e];generalize Lib.ctzFrom 64 x=k at *;refine⟨?_,hk⟩;have hb:∀i,x.testBit i=if i<k then false else(2*m+1).testBit (i-k):=fun i=>by
  have e1:x=2^k*(2*m+1)+0:=by omega
  rw[e1,Nat.testBit_two_pow_mul_add _ (Nat.two_pow_pos k)];simp
 unfold iB;rw[wP (p:=fun i=>x.testBit i) hk (by rw[hb];simp) (fun i hi=>by rw[hb,if_pos hi])]
 congr 1
 exact List.filter_congr (fun i _=>(Ik hm i).symm)
theorem yJ{x:Nat}(h0:x≠0):x&&&(x-1)<x:=by
 have:x&&&(x-1)≤x-1:=Nat.and_le_right;omega
theorem Hy{x b:Nat}(h:b∈iB x):b<64:=List.mem_range.1 (List.mem_filter.1 h).1
theorem wc(x:Nat):(iB x).length≤64:=by
 have:=List.length_filter_le (fun i=>x.testBit i) (List.range 64);rw[List.length_range]at this;exact this
def Bts.ws(s:Bts):List Nat:=[s.a.toNat,s.b.toNat,s.c.toNat,s.d.toNat]
def cg:Nat→List Nat→List Nat
 |_,[]=>[]
 |i,x::l=>(iB x).map (fun b=>i*64+b)++cg (i+1) l
def pS(s:Bts):List Nat:=cg 0 s.ws
theorem vW:∀(l:List Nat) (i:Nat),∀b∈cg i l,b<(i+l.length)*64
 |[],_,b,h=>by cases h
 |x::l,i,b,h=>by
  rw[List.length_cons];rcases List.mem_append.1 h with h|h
  ·obtain⟨c,hc,rfl⟩:=List.mem_map.1 h;have:=Hy hc;have e:(i+(l.length+1))*64=i*64+l.length*64+64:=by rw[Nat.add_mul,Nat.add_mul];omega
   omega
  ·have:=vW l (i+1) b h;have e:i+1+l.length=i+(l.length+1):=by omega
   rwa [e]at this
theorem pL{s:Bts}{b:Nat}(h:b∈pS s):b<256:=by
 have:=vW s.ws 0 b h;simpa [Bts.ws]using this
theorem nJ:∀(l:List Nat) (i:Nat),(cg i l).length≤64*l.length
 |[],_=>by simp[cg]
 |x::l,i=>by
  have h1:=wc x;have h2:=nJ l (i+1);simp only[cg,List.length_append,List.length_map,List.length_cons];omega
theorem Bl(s:Bts):(pS s).length≤256:=nJ s.ws 0
def c9(l:List (Nat×Nat))(b:Nat):List (Nat×Nat):=match l.getLast? with
 |some r=>if r.2+1=b then l.dropLast++[(r.1,b)]else l++[(b,b)]
 |none=>[(b,b)]
def rl(s:Bts):List (Nat×Nat):=(pS s).foldl c9 []
theorem ir(l:List (Nat×Nat))(r:Nat×Nat)(b:Nat):c9 (l++[r]) b=if r.2+1=b then l++[(r.1,b)]else l++[r]++[(b,b)]:=by
 unfold c9;rw[List.getLast?_concat,List.dropLast_concat]
theorem tV(b:Nat):c9 [] b=[(b,b)]:=rfl
theorem tW(l:List (Nat×Nat))(b:Nat):(c9 l b).length≤l.length+1:=by
 rcases bQ l with rfl|⟨l',r,rfl⟩
 ·simp[tV]
 ·rw[ir]
  split<;>simp
def rz(l:List (Nat×Nat)):Prop:=∀r∈l,r.1≤r.2∧r.2<256
theorem vy{l:List (Nat×Nat)}{b:Nat}(h:rz l)(hb:b<256):rz (c9 l b):=by
 rcases bQ l with rfl|⟨l',r,rfl⟩
 ·intro x hx;simp[tV]at hx;subst hx;exact⟨Nat.le_refl _,hb⟩
 ·rw[ir];have hr:=h r (by simp)
  split
  ·intro x hx;rcases List.mem_append.1 hx with hx|hx
   ·exact h x (by simp[hx])
   ·simp at hx;subst hx;exact⟨by simp only;omega,hb⟩
  ·intro x hx;rcases List.mem_append.1 hx with hx|hx
   ·exact h x hx
   ·simp at hx;subst hx;exact⟨Nat.le_refl _,hb⟩
theorem mh:∀(bs:List Nat) (l:List (Nat×Nat)),rz l→(∀b∈bs,b<256)→rz (bs.foldl c9 l)∧(bs.foldl c9 l).length≤l.length+bs.length
 |[],l,h,_=>⟨h,by simp⟩
 |b::bs,l,h,hb=>by
  obtain⟨h1,h2⟩:=mh bs (c9 l b) (vy h (hb b (by simp))) (fun x hx=>hb x (by simp[hx]));have:=tW l b;exact⟨h1,by simp only[List.foldl_cons,List.length_cons];omega⟩
theorem yo(s:Bts):rz (rl s)∧(rl s).length≤256:=by
 obtain⟨h1,h2⟩:=mh (pS s) [] (fun r hr=>by cases hr) (fun b hb=>pL hb);have:=Bl s;exact⟨h1,by simp only[List.length_nil]at h2;unfold rl;omega⟩
theorem nR:∀(l:List Nat) (i k:Nat),cg i l=cg i (l.take k)++cg (i+k) (l.drop k)
 |[],i,k=>by simp[cg]
 |x::l,i,0=>by simp[cg]
 |x::l,i,k+1=>by
  rw[List.take_succ_cons,List.drop_succ_cons,cg,cg,nR l (i+1) k,List.append_assoc,show i+1+k=i+(k+1)by omega]
end Go.aa
namespace Go.Proofs.YtpbichnnflabdaaGreatDoor
open Go Go.Sl Go.RowKit Go.aa
instance:AE Tryz.prog 44 4:=AE.of Tryz.underlying44 (by kernel_rfl) Tryz.underlying42 rfl
def Of:Nat→List Value
 |0=>[.int .u64 0,.int .u64 0,.int .u64 0,.int .u64 0]
 |1=>[.int .u64 18446744073709551615,.int .u64 0,.int .u64 0,.int .u64 0]
 |2=>[.int .u64 18446744073709551615,.int .u64 18446744073709551615,.int .u64 0,.int .u64 0]
 |3=>[.int .u64 18446744073709551615,.int .u64 18446744073709551615,.int .u64 18446744073709551615,.int .u64 0]
 |_=>[.int .u64 18446744073709551615,.int .u64 18446744073709551615,.int .u64 18446744073709551615,.int .u64 18446744073709551615]
theorem Ev.uj{P:Program}{n:FD}{s:Sg}{M:World→Prop}{ty:TypeId}{x:Operand}{t:TypeId}(hx:ev s x=some (.int .u64 0)):Ev P n s M (.unOp .xor t x) ty (.int .u64 18446744073709551615):=Ev.MP (a:=0) hx (by decide)
set_option maxRecDepth 20000 in
theorem H3(w:World):Calls Tryz.prog 195 #[.agg #[.int .u64 0,.int .u64 0,.int .u64 0,.int .u64 0]] w (rL w (.agg #[.int .u64 18446744073709551615,.int .u64 18446744073709551615,.int .u64 18446744073709551615,.int .u64 18446744073709551615])):=by
 refine TC.calls (l:=[.agg #[.int .u64 0,.int .u64 0,.int .u64 0,.int .u64 0]]) Tryz.func195 rfl Tryz.ntmps195 rfl (St.start w) ?_
 repeat' (first|(refine W1 ?_)|(refine W2 (fun hc=>?_) (fun hc=>?_))|(intro _))
 rename_i b1 b2;refine TC.NC (ι:=Nat) 0 (fun i r=>(6,.int .i64 i)::r) (fun i=>St w [blk b2 [.int .u64 0,.int .u64 0,.int .u64 0,.int .u64 0] 44,blk b1 (Of i) 44]) (fun i=>i≤4) (fun i=>4-i) KpA HD (fun _ h=>h) (Nat.zero_le _) ?_;intro i hi
 by_cases hlt:i<4
 ·have e:i=0∨i=1∨i=2∨i=3:=by omega
  rcases e with rfl|rfl|rfl|rfl
  all_goals
   repeat' (first|((apply T.ev_;exact rfl;apply Ev.Dy;exact rfl;exact rfl;exact hlt;exact rfl))|((apply T.ev_;exact rfl;apply Ev.uj;exact rfl))|((apply T.ev_;exact rfl;apply Ev.wv;exact rfl;exact rfl;exact hlt))|(refine W1 ?_)|(refine W2 (fun hc=>?_) (fun hc=>?_))|(intro _))
  ·exact TX.round 1 (by decide) (by decide) HD (fun w' hw=>hw)
  ·exact TX.round 2 (by decide) (by decide) HD (fun w' hw=>hw)
  ·exact TX.round 3 (by decide) (by decide) HD (fun w' hw=>hw)
  ·exact TX.round 4 (by decide) (by decide) HD (fun w' hw=>hw)
 ·have hck:decide ((i:Int)<4)=false:=decide_eq_false (by omega);obtain rfl:i=4:=by omega
  repeat' (first|(refine W1 ?_)|(refine W2 (fun hc=>?_) (fun hc=>?_))|(intro _))
  exact TX.Cm (rs:=[.cell 2 44]) (vs:=[.agg #[.int .u64 18446744073709551615,.int .u64 18446744073709551615,.int .u64 18446744073709551615,.int .u64 18446744073709551615]]) rfl (.cell rfl (C6 (cs:=[.int .u64 18446744073709551615,.int .u64 18446744073709551615,.int .u64 18446744073709551615,.int .u64 18446744073709551615]) AtA rfl) .nil) (fun w' hw=>rL.eq hw rfl)
theorem JS(w:World):Calls Tryz.prog 190 #[] w (rL w (.agg #[.int .u64 18446744073709551615,.int .u64 18446744073709551615,.int .u64 18446744073709551615,.int .u64 18446744073709551615])):=by
 refine TC.calls (l:=[]) Tryz.func190 rfl Tryz.ntmps190 rfl (St.start w) ?_
 repeat' (first|((apply T.Gc (f:=195);exact rfl;exact rfl;exact fun w' _=>H3 w'))|(refine W1 ?_)|(refine W2 (fun hc=>?_) (fun hc=>?_))|(intro _))
 exact TX.Cm (rs:=[.cell 0 44]) (vs:=[.agg #[.int .u64 18446744073709551615,.int .u64 18446744073709551615,.int .u64 18446744073709551615,.int .u64 18446744073709551615]]) rfl (.cell rfl (C6 (cs:=[.int .u64 18446744073709551615,.int .u64 18446744073709551615,.int .u64 18446744073709551615,.int .u64 18446744073709551615]) AtA rfl) .nil) (fun w' hw=>rL.eq hw rfl)
def Et(w:World):Prop:=∀i,i<64→w.cell? ⟨3,i,none⟩=some (.int .u8 ((Lib.deBruijn64tab.getD i 0:Nat):Int))
theorem Et.st{w0 w:World}{L:List HP}(h:Et w0)(hs:St w0 L w):Et w:=fun i hi=>hs.Hi (h i hi)
theorem Lz(x:Nat)(w:World)(h0:x≠0)(hx:x<18446744073709551616)(hT:Et w):Calls Tryz.prog 200 #[.int .u64 (x:Int)] w (rL w (.int .i64 ((Lib.ctz 64 x:Nat):Int))):=by
 refine TC.calls (l:=[.int .u64 (x:Int)]) Tryz.func200 rfl Tryz.ntmps200 rfl (St.start w) ?_;obtain⟨hlow,hk⟩:=Lib.lowest_bit 64 x h0 hx;obtain⟨hi,htab⟩:=Lib.deBruijn64_at _ hk;generalize Lib.ctz 64 x=k at *;have hp:2^k<18446744073709551616:=Nat.pow_lt_pow_right (by decide) hk;obtain⟨a,ha⟩:=exEq (2^k);have hlow':x&&&(18446744073709551616-x)=a:=by rw[ha];exact hlow
 rw[←ha]at hi htab hp;obtain⟨m,hm⟩:∃m,a*285870213051353865 % 18446744073709551616=m:=⟨_,rfl⟩
 rw[hm]at hi htab;obtain⟨j,hj⟩:∃j,m/288230376151711744=j:=⟨_,rfl⟩
 rw[hj]at hi htab;have hc:decide ((x:Int)=0)=false:=decide_eq_false (by omega);have ht:=fun w' (hw':St w [] w')=>(Et.st hT hw') j hi
 rw[htab]at ht;have hn:18446744073709551616-x<18446744073709551616:=by omega
 repeat' (first|((apply T.ev_;exact rfl;apply Ev.Nz;exact rfl;exact h0;exact hx))|((apply T.ev_;exact rfl;apply Ev.L9 hlow';exact rfl;exact rfl;exact hx;exact hn))|((apply T.ev_;exact rfl;apply Ev.LM (b:=285870213051353865) hm;exact rfl;exact rfl))|((apply T.ev_;exact rfl;apply Ev.Ln hj;exact rfl;exact rfl))|((apply T.ev_;exact rfl;apply Ev.wv (i:=j);exact rfl;exact rfl;exact hi))|((apply T.ev_;exact rfl;apply Ev.Kt (p:=⟨3,0+j*1,none⟩);exact rfl;(intro w' hw';rw[Nat.mul_one,Nat.zero_add];exact ht w' hw')))|((apply T.ev_;exact rfl;apply Ev.CI;exact rfl;omega))|(refine W1 ?_)|(refine W2 (fun hc=>?_) (fun hc=>?_))|(intro _))
 exact TX.o4 rfl rfl (fun w' hw=>rL.eq hw rfl)
end Go.Proofs.YtpbichnnflabdaaGreatDoor
end
section
namespace Go.aa
open Go
def fB(left:ByteArray)(l:List UInt8):List UInt8:=l.flatMap (cD left)
def EG(s:ByteArray):List UInt8:=[34]++fB ⟨#[34]⟩ s.data.toList++[34]
theorem lj(left:ByteArray)(c:UInt8):(cD left c).length≤4:=by
 unfold cD
 repeat' split
 all_goals simp
theorem nE(left:ByteArray):∀l:List UInt8,(fB left l).length≤4*l.length
 |[]=>by simp[fB]
 |c::l=>by
  have h1:=lj left c;have h2:=nE left l;simp only[fB,List.flatMap_cons,List.length_append,List.length_cons]at h2 ⊢;omega
theorem xU(left:ByteArray)(l:List UInt8)(c:UInt8):fB left (l++[c])=fB left l++cD left c:=by simp[fB]
def ia:ByteArray:=⟨#[93,45,94]⟩
def wy(r:Nat×Nat):List UInt8:=cD ia r.1.toUInt8++(if 1<r.2-r.1 then[45]else[])++(if r.2≠r.1 then cD ia r.2.toUInt8 else[])
theorem FQ(r:Nat×Nat):(wy r).length≤9:=by
 have h1:=lj ia r.1.toUInt8;have h2:=lj ia r.2.toUInt8;unfold wy;simp only[List.length_append]
 split<;>split<;>simp only[List.length_nil,List.length_singleton]<;>omega
def ee(l:List (Nat×Nat)):List UInt8:=l.flatMap wy
theorem BJ(l:List (Nat×Nat))(r:Nat×Nat):ee (l++[r])=ee l++wy r:=by simp[ee]
theorem pQ:∀l:List (Nat×Nat),(ee l).length≤9*l.length
 |[]=>by simp[ee]
 |r::l=>by
  have h1:=FQ r;have h2:=pQ l;simp only[ee,List.flatMap_cons,List.length_append,List.length_cons]at h2 ⊢;omega
def Bts.all:Bts:=⟨18446744073709551615,18446744073709551615,18446744073709551615,18446744073709551615⟩
def iK(s:Bts):List UInt8:=if s=.all then[46]else[91]++ee (rl s)++[93]
theorem Be(s:Bts):(iK s).length≤3000:=by
 have h1:=pQ (rl s);have h2:=(yo s).2;unfold iK
 split
 ·simp
 ·simp only[List.length_append,List.length_singleton];omega
end Go.aa
namespace Go.Km
open Go Go.Vc Go.Proofs Go.aa Go.Proofs.YtpbichnnflabdaaGreatDoor
set_option maxRecDepth 100000
set_option maxHeartbeats 0
instance(s:ByteArray):C 186 [stF s] (stF ⟨(EG s).toArray⟩) true (s.size≤1000000):=⟨fun hs=>by
 have hsl:s.data.toList.length=s.size:=by rw[Array.length_toList];rfl
 refine kf rfl rfl ?_;repeat' first|exact k9|refine k2 ?_|apply kA|apply kI;intro hc|refine k8 ?_|apply kL;intro hl
 apply kCt [0,3,4] [];conv=>whnf
 refine Lp.ind (fun z:Nat=>s.size-z) (fun z=>z≤s.size) (fun z=>[(4,InD z)]) (fun z=>[(1,.ro 0 5 1 (([34]++fB ⟨#[34]⟩ (s.data.toList.take z)).map byR))]) (fun _=>_) 0 (by simp) rfl rfl rfl ?_
 rintro G i ih hi
 have hsl2:=nE ⟨#[34]⟩ (s.data.toList.take i);rw[List.length_take]at hsl2
 by_cases hx:i<s.size
 ·have hpre:([34]++fB ⟨#[34]⟩ (s.data.toList.take i)).length≤900000000:=by simp only[List.length_append,List.length_cons,List.length_nil];omega
  repeat' first|exact k9|refine k2 ?_|apply kA|apply kI;intro hc|refine k8 ?_|apply kL;intro hl
  apply kCt [0,3,4] [];conv=>whnf
  refine ih (i+1) _ _ _ (by omega) (by omega) rfl rfl ?_;rw[List.take_succ_eq_append_getElem (by omega),xU,←List.append_assoc];rfl
 ·have hpre:([34]++fB ⟨#[34]⟩ (s.data.toList.take i)).length≤1000000000:=by simp only[List.length_append,List.length_cons,List.length_nil];omega
  have hpre2:([34]++fB ⟨#[34]⟩ (s.data.toList.take i)++[34]).length≤1000000000:=by simp only[List.length_append,List.length_cons,List.length_nil];omega
  have e:EG s=[34]++fB ⟨#[34]⟩ (s.data.toList.take i)++[34]:=by rw[List.take_of_length_le (by omega)];rfl
  rw[e];generalize fB ⟨#[34]⟩ (s.data.toList.take i)=m at *
  repeat' first|exact k9|refine k2 ?_|apply kA|apply kI;intro hc|apply kL;intro hl|(((apply SdA.m;exact⟨⟨by simp,hpre2⟩⟩))<;>conv=>whnf)|refine k8 ?_|fail
  exact aq.s rfl rfl⟩
theorem IN{Z:Nat→Prop}{w:World}(hG:∀g cs,X1.Γ g=some cs→F.rep Z w (.pt cs.length [cs] 0 0) (.pointer (some ⟨g,0,none⟩))):Et w:=by
 have h0:X1.Γ 3=some (((List.range 64).map fun i=>Value.int .u8 ((Lib.deBruijn64tab.getD i 0:Nat):Int)).map F.vl):=by kernel_rfl
 have h:=hG _ _ h0;unfold F.rep at h;obtain⟨A,vr,hA,h1,h2,h3⟩:=h
 injection hA with hA
 injection hA with hA
 unfold F.aI at h3;obtain⟨u,us,rfl,h4,h5⟩:=h3;unfold F.aI at h5;subst h5;have:=pC h4;subst this;have hA':A=⟨3,0,none⟩:=by rw[hA];simp[Addr.add]
 obtain⟨a,ha,_,hc⟩:=h1.2.2 (by simp)
 cases ha;intro i hi;have:=hc i (.int .u8 ((Lib.deBruijn64tab.getD i 0:Nat):Int)) (by simp[hi]);rw[hA',Sl.add_lit,Nat.zero_add]at this;exact this
instance(x:Nat):C 200 [.vl (.int .u64 (x:Int))] (inF ((Lib.ctz 64 x:Nat):Int)) true (x≠0∧x<18446744073709551616):=⟨fun h=>⟨inferInstance,fun Z w vs hZ hG hr=>by
 rw[pC (l:=[.int .u64 (x:Int)]) hr];exact(Lz x w h.1 h.2 (IN hG)).mono fun e w' ⟨h1,h2⟩=>⟨_,h1,h2,by unfold F.rep;rfl⟩⟩⟩
instance:C 190 [] (.ag (btF Bts.all)) true True:=⟨fun _=>⟨inferInstance,fun Z w vs hZ hG hr=>by
 rw[pC (l:=[]) hr];exact(JS w).mono fun e w' ⟨h1,h2⟩=>⟨_,h1,h2,by unfold F.rep;exact⟨_,rfl,F.Fs [.int .u64 18446744073709551615,.int .u64 18446744073709551615,.int .u64 18446744073709551615,.int .u64 18446744073709551615]⟩⟩⟩⟩
theorem wsD{s:Bts}(h:s.wf){i:Nat}(hi:i<4):([D.fr (.vl (.int .u64 s.a)),D.fr (.vl (.int .u64 s.b)),D.fr (.vl (.int .u64 s.c)),D.fr (.vl (.int .u64 s.d))]:List D)[i*1]?=some (D.fr (.vl (.int .u64 ((s.ws.getD i 0:Nat):Int)))):=by
 obtain⟨h1,h2,h3,h4⟩:=h;have e:i=0∨i=1∨i=2∨i=3:=by omega
 rcases e with rfl|rfl|rfl|rfl
 ·exact congrArg (fun z=>some (D.fr (.vl (.int .u64 z)))) (show s.a=((s.a.toNat:Nat):Int)by omega)
 ·exact congrArg (fun z=>some (D.fr (.vl (.int .u64 z)))) (show s.b=((s.b.toNat:Nat):Int)by omega)
 ·exact congrArg (fun z=>some (D.fr (.vl (.int .u64 z)))) (show s.c=((s.c.toNat:Nat):Int)by omega)
 ·exact congrArg (fun z=>some (D.fr (.vl (.int .u64 z)))) (show s.d=((s.d.toNat:Nat):Int)by omega)
theorem NF{s:Bts}(h:s.wf){i:Nat}(hi:i<4):s.ws.getD i 0<18446744073709551616:=by
 obtain⟨h1,h2,h3,h4⟩:=h;have e:i=0∨i=1∨i=2∨i=3:=by omega
 rcases e with rfl|rfl|rfl|rfl
 ·show s.a.toNat<_;omega
 ·show s.b.toNat<_;omega
 ·show s.c.toNat<_;omega
 ·show s.d.toNat<_;omega
theorem Ae{s:Bts}{i:Nat}(hi:i<4):cg 0 (s.ws.take (i+1))=cg 0 (s.ws.take i)++(iB (s.ws.getD i 0)).map (fun b=>i*64+b):=by
 have e:i=0∨i=1∨i=2∨i=3:=by omega
 rcases e with rfl|rfl|rfl|rfl<;>simp[Bts.ws,cg]
theorem Ak{x:Nat}(hx:x<18446744073709551616)(h0:x≠0):IntKind.u64.wrap ((BitVec.ofInt IntKind.u64.bits (x:Int)&&&BitVec.ofInt IntKind.u64.bits ((x:Int)-1)).toNat:Int)=((x&&&(x-1):Nat):Int):=by
 have h1:(BitVec.ofInt 64 (x:Int)).toNat=x:=by
  rw[BitVec.ofInt_natCast,BitVec.toNat_ofNat];exact Nat.mod_eq_of_lt (by omega)
 have h2:(BitVec.ofInt 64 ((x:Int)-1)).toNat=x-1:=by
  rw[show(x:Int)-1=((x-1:Nat):Int)by omega,BitVec.ofInt_natCast,BitVec.toNat_ofNat];exact Nat.mod_eq_of_lt (by omega)
 show IntKind.u64.wrap ((BitVec.ofInt 64 (x:Int)&&&BitVec.ofInt 64 ((x:Int)-1)).toNat:Int)=_
 rw[BitVec.toNat_and,h1,h2];exact Sl.u64_in (Nat.lt_of_le_of_lt Nat.and_le_left hx)
abbrev ow(r:Nat×Nat):List F:=[byF (r.1:Int),byF (r.2:Int)]
instance(s:Bts):C 191 [.ag (btF s)] (.sl ((rl s).map ow)) true s.wf:=⟨fun hs=>by
 refine kf rfl rfl ?_;repeat' first|exact k9|refine k2 ?_|apply kA|apply kI;intro hc|refine k8 ?_|apply kL;intro hl
 apply Stp.By 2 242 244 2 rfl rfl;apply kCt [0,5,6] [3];conv=>whnf
 refine Lp.ind (fun z:Nat=>4-z) (fun z=>z≤4) (fun z=>[(6,InD z)]) (fun z=>[(3,.ro 0 244 2 (((cg 0 (s.ws.take z)).foldl c9 []).map ow))]) (fun _=>_) 0 (by omega) rfl rfl rfl ?_
 rintro G i ih hi
 by_cases hx:i<4
 ·have hv:(D.ag [D.fr (.vl (.int .u64 s.a)),D.fr (.vl (.int .u64 s.b)),D.fr (.vl (.int .u64 s.c)),D.fr (.vl (.int .u64 s.d))]).cells[i*1]?=some (D.fr (.vl (.int .u64 ((s.ws.getD i 0:Nat):Int)))):=wsD hs hx;have hx64:=NF hs hx;have hT:(cg 0 (s.ws.take (i+1))).foldl c9 []=((iB (s.ws.getD i 0)).map (fun b=>i*64+b)).foldl c9 ((cg 0 (s.ws.take i)).foldl c9 []):=by
   rw[←List.foldl_append,Ae hx]
  have hok:rz ((cg 0 (s.ws.take i)).foldl c9 []):=(mh _ [] (fun r hr=>by cases hr) fun b hb=>pL (s:=s) (by rw[pS,nR s.ws 0 i];simp[hb])).1;generalize s.ws.getD i 0=x0 at *;generalize hR0:(cg 0 (s.ws.take i)).foldl c9 []=R0 at *
  repeat' first|exact k9|refine k2 ?_|apply kA|apply kI;intro hc|refine k8 ?_|apply kL;intro hl
  apply kCt [0,3,4,5,6] [3];conv=>whnf
  have hR0l:R0.length+(iB x0).length≤64*(i+1):=by
   have h1:=(mh (cg 0 (s.ws.take i)) [] (fun r hr=>by cases hr) fun b hb=>pL (s:=s) (by rw[pS,nR s.ws 0 i];simp[hb])).2;have h2:=nJ (s.ws.take i) 0;have h3:=wc x0;rw[hR0]at h1;rw[List.length_take]at h2;simp only[List.length_nil]at h1;omega
  refine Lp.ind (fun z:Nat×List (Nat×Nat)=>z.1) (fun z=>z.1<18446744073709551616∧rz z.2∧z.2.length+(iB z.1).length≤64*(i+1)∧((iB z.1).map (fun b=>i*64+b)).foldl c9 z.2=(cg 0 (s.ws.take (i+1))).foldl c9 []) (fun z=>[(4,.fr (.vl (.int .u64 (z.1:Int))))]) (fun z=>[(3,.ro 0 244 2 (z.2.map ow))]) (fun _=>_) (x0,R0) ⟨hx64,hok,hR0l,hT.symm⟩ rfl rfl rfl ?_
  rintro G' ⟨x,R⟩ ih' ⟨hxx,hRk,hRl,hRT⟩
  dsimp only at hxx hRk hRl hRT ih' ⊢
  by_cases h0:x=0
  ·subst h0;rw[Aw,List.map_nil,List.foldl_nil]at hRT;subst hRT
   repeat' first|exact k9|refine k2 ?_|apply kA|apply kI;intro hc|refine k8 ?_|apply kL;intro hl
   apply kCt [0,5,6] [3];conv=>whnf
   exact ih (i+1) _ _ _ (by omega) (by omega) rfl rfl rfl
  ·obtain⟨hb1,hb2⟩:=BE h0 hxx;have hlt:=yJ h0;rw[hb1,List.map_cons,List.foldl_cons]at hRT;rw[hb1,List.length_cons]at hRl;have hb0:(i:Int)*64+((Lib.ctz 64 x:Nat):Int)=((i*64+Lib.ctz 64 x:Nat):Int):=by omega
   have hb3:i*64+Lib.ctz 64 x<256:=by omega
   have hnx:IntKind.u64.wrap ((BitVec.ofInt IntKind.u64.bits (x:Int)&&&BitVec.ofInt IntKind.u64.bits ((x:Int)-1)).toNat:Int)=((x&&&(x-1):Nat):Int):=Ak hxx h0;have hRT':∀R',R'=c9 R (i*64+Lib.ctz 64 x)→rz R'∧R'.length≤R.length+1∧((iB (x&&&(x-1))).map (fun b=>i*64+b)).foldl c9 R'=(cg 0 (s.ws.take (i+1))).foldl c9 []:=fun R' e=>by
    subst e;exact⟨vy hRk hb3,tW _ _,hRT⟩
   have hx0:(x:Int)≠0:=by omega
   rcases bQ R with rfl|⟨R,r,rfl⟩
   ·repeat' first|exact k9|refine k2 ?_|apply kA|apply kI;intro hc|refine k8 ?_|apply kL;intro hl
    apply kCt [0,3,4,5,6] [3];conv=>whnf
    obtain⟨c1,c2,c3⟩:=hRT' [(i*64+Lib.ctz 64 x,i*64+Lib.ctz 64 x)] rfl;refine ih' (x&&&(x-1),[(i*64+Lib.ctz 64 x,i*64+Lib.ctz 64 x)]) _ _ _ hlt ⟨by dsimp only;omega,c1,by simp only[List.length_cons,List.length_nil]at hRl ⊢;omega,c3⟩ rfl ?_ ?_
    ·dsimp only;rw[←hnx];rfl
    ·dsimp only;rw[List.map_singleton,ow,←hb0];rfl
   ·have hlast:∀h,(R++[r])[((List.map ow (R++[r])).length-1:Int).toNat]'h=r:=by
     intro h;simp[List.getElem_append]
    have hr2:=(hRk r (by simp))
    simp only[List.length_append,List.length_cons,List.length_nil]at hRl;have hwr:IntKind.i64.wrap (r.2:Int)=(r.2:Int):=wrap_i64 ⟨by omega,by omega⟩
    repeat' first|exact k9|refine k2 ?_|apply kA|apply kI;intro hc|apply kL;intro hl|((rw[hlast];rw[hwr])<;>conv=>whnf)|refine k8 ?_|fail
    ·skip
     have hcn:r.2+1=i*64+Lib.ctz 64 x:=by omega
     apply kCt [0,3,4,5,6] [3];conv=>whnf
     obtain⟨c1,c2,c3⟩:=hRT' (R++[(r.1,i*64+Lib.ctz 64 x)]) (by rw[ir,if_pos hcn]);refine ih' (x&&&(x-1),R++[(r.1,i*64+Lib.ctz 64 x)]) _ _ _ hlt ⟨by dsimp only;omega,c1,by simp only[List.length_append,List.length_cons,List.length_nil]at hRl ⊢;omega,c3⟩ rfl ?_ ?_
     ·dsimp only;rw[←hnx];rfl
     ·have hrow:∀h,(List.map ow (R++[r])).set (((List.map ow (R++[r])).length:Int)-1).toNat (setAt (ow ((R++[r])[(((List.map ow (R++[r])).length:Int)-1).toNat]'h)) 1 [F.vl (.int .u8 ((i:Int)*64+((Lib.ctz 64 x:Nat):Int)))])=List.map ow (R++[(r.1,i*64+Lib.ctz 64 x)]):=by
       intro h;rw[hlast h];have e:(((List.map ow (R++[r])).length:Int)-1).toNat=(List.map ow R).length:=by simp
       rw[e,List.map_append,List.map_singleton,List.set_append_right _ _ (Nat.le_refl _),Nat.sub_self,List.map_append,List.map_singleton,hb0];rfl
      exact congrArg (fun z=>jv [(3,B.ro 0 244 2 z)] G'.h) (hrow _)
    ·skip
     have hcn:¬r.2+1=i*64+Lib.ctz 64 x:=by omega
     apply kCt [0,3,4,5,6] [3];conv=>whnf
     obtain⟨c1,c2,c3⟩:=hRT' (R++[r]++[(i*64+Lib.ctz 64 x,i*64+Lib.ctz 64 x)]) (by rw[ir,if_neg hcn]);refine ih' (x&&&(x-1),R++[r]++[(i*64+Lib.ctz 64 x,i*64+Lib.ctz 64 x)]) _ _ _ hlt ⟨by dsimp only;omega,c1,by simp only[List.length_append,List.length_cons,List.length_nil]at hRl ⊢;omega,c3⟩ rfl ?_ ?_
     ·dsimp only;rw[←hnx];rfl
     ·have hrow:List.map ow (R++[r])++[[F.vl (.int .u8 ((i:Int)*64+((Lib.ctz 64 x:Nat):Int))),F.vl (.int .u8 ((i:Int)*64+((Lib.ctz 64 x:Nat):Int)))]]=List.map ow (R++[r]++[(i*64+Lib.ctz 64 x,i*64+Lib.ctz 64 x)]):=by
       rw[List.map_append (l₁:=R++[r]),List.map_singleton,hb0]
      exact congrArg (fun z=>jv [(3,B.ro 0 244 2 z)] G'.h) hrow
 ·obtain rfl:i=4:=by omega
  repeat' first|exact k9|refine k2 ?_|apply kA|apply kI;intro hc|refine k8 ?_|apply kL;intro hl
  refine aq.j rfl ?_;simp only[cN,oK,lk,Nat.beq,cond_true];simp[F.flat,F.flat.lu]⟩
theorem Mn{s t:Bts}(h:[s.a,s.b,s.c,s.d]=[t.a,t.b,t.c,t.d]):s=t:=by
 obtain⟨a,b,c,d⟩:=s;obtain⟨a',b',c',d'⟩:=t;simp only[List.cons.injEq]at h;obtain⟨rfl,rfl,rfl,rfl,_⟩:=h;rfl
instance(l:List UInt8)(n:Nat)(left:ByteArray):HB X1.Γ 189 l [byF (n:Int),stF left] (.tp []) (l++cD left n.toUInt8) (n<256∧l.length≤900000000):=⟨fun h=>by
 have:=wJ l n.toUInt8 left h.2
 rwa [show n.toUInt8.toNat=n from Nat.mod_eq_of_lt h.1]at this⟩
theorem Bj{l:List (Nat×Nat)}{i:Nat}(h:i<l.length):ee (l.take (i+1))=ee (l.take i)++wy (l[i]):=by
 rw[List.take_succ_eq_append_getElem h,BJ]
instance(s:Bts):C 187 [.ag (btF s)] (stF ⟨(iK s).toArray⟩) true s.wf:=⟨fun hs=>by
 have hrk:=yo s;refine kf rfl rfl ?_;repeat' first|exact k9|refine k2 ?_|apply kA|apply kI;intro hc|refine k8 ?_|apply kL;intro hl
 ·skip
  have e:iK s=[46]:=by rw[iK,if_pos (Mn hc)]
  rw[e];exact aq.s rfl rfl
 ·skip
  have e:iK s=[91]++ee (rl s)++[93]:=by rw[iK,if_neg fun h=>hc (by rw[h])]
  rw[e];generalize rl s=l at *;apply kCt [3,11,12,13] [];conv=>whnf
  refine Lp.ind (fun z:Nat=>l.length-z) (fun z=>z≤l.length) (fun z=>[(13,InD z)]) (fun z=>[(1,.ro 0 5 1 (([91]++ee (l.take z)).map byR))]) (fun _=>_) 0 (by omega) rfl rfl rfl ?_
  rintro G i ih hi
  have hsl2:=pQ (l.take i);rw[List.length_take]at hsl2
  by_cases hx:i<l.length
  ·have hpre:([91]++ee (l.take i)).length≤900000000:=by simp only[List.length_append,List.length_cons,List.length_nil];omega
   have hr:=hrk.1 l[i] (List.getElem_mem hx);have hm1:=lj ia l[i].1.toUInt8;have hm2:=lj ia l[i].2.toUInt8;rw[ia]at hm1 hm2;have hlx:∀m:List UInt8,m.length≤13→([91]++ee (l.take i)++m).length≤900000000:=fun m hm=>by rw[List.length_append,List.length_append];simp only[List.length_cons,List.length_nil];omega
   have hl1:=hlx (cD ⟨#[93,45,94]⟩ l[i].1.toUInt8) (by omega);have hl2:=hlx (cD ⟨#[93,45,94]⟩ l[i].1.toUInt8++[45]) (by simp only[List.length_append,List.length_cons,List.length_nil];omega);rw[←List.append_assoc]at hl2;have hl3:([91]++ee (l.take i)++cD ⟨#[93,45,94]⟩ l[i].1.toUInt8++[UInt8.ofNat (Int.toNat 45)]).length≤900000000:=hl2;have hrun:=Bj hx;have hfin:∀m,m=wy l[i]→[91]++ee (l.take i)++m=[91]++ee (l.take (i+1)):=fun m e=>by rw[hrun,e,List.append_assoc]
   repeat' first|exact k9|refine k2 ?_|apply kA|apply kI;intro hc|refine k8 ?_|apply kL;intro hl
   ·apply kCt [3,11,12,13] [];conv=>whnf
    refine ih (i+1) _ _ _ (by omega) (by omega) rfl rfl ?_;rw[←hfin (cD ⟨#[93,45,94]⟩ l[i].1.toUInt8++[45]++cD ⟨#[93,45,94]⟩ l[i].2.toUInt8) (by rw[wy,if_pos (by omega),if_pos (by omega)];rfl),←List.append_assoc,←List.append_assoc];rfl
   ·apply kCt [3,11,12,13] [];conv=>whnf
    refine ih (i+1) _ _ _ (by omega) (by omega) rfl rfl ?_;rw[←hfin (cD ⟨#[93,45,94]⟩ l[i].1.toUInt8) (by rw[wy,if_neg (by omega),if_neg (by omega),List.append_nil,List.append_nil];rfl)];rfl
   ·apply kCt [3,11,12,13] [];conv=>whnf
    refine ih (i+1) _ _ _ (by omega) (by omega) rfl rfl ?_;rw[←hfin (cD ⟨#[93,45,94]⟩ l[i].1.toUInt8++cD ⟨#[93,45,94]⟩ l[i].2.toUInt8) (by rw[wy,if_neg (by omega),if_pos (by omega),List.append_nil];rfl),←List.append_assoc];rfl
  ·have hpre2:([91]++ee (l.take i)).length≤1000000000:=by simp only[List.length_append,List.length_cons,List.length_nil];omega
   have e:[91]++ee l++[93]=[91]++ee (l.take i)++[93]:=by rw[List.take_of_length_le (by omega)]
   have hpre3:([91]++ee (l.take i)++[93]).length≤1000000000:=by simp only[List.length_append,List.length_cons,List.length_nil];omega
   rw[e];generalize ee (l.take i)=m at *
   repeat' first|exact k9|refine k2 ?_|apply kA|apply kI;intro hc|apply kL;intro hl|(((apply SdA.m;exact⟨⟨by simp,hpre3⟩⟩))<;>conv=>whnf)|refine k8 ?_|fail
   exact aq.s rfl rfl⟩
end Go.Km
end
section
namespace Go.aa
open Go
def eo(n:Nat):List UInt8:=if n<10 then[UInt8.ofNat (48+n)]else[UInt8.ofNat (48+n/10),UInt8.ofNat (48+n % 10)]
theorem mn(n:Nat):(eo n).length≤2:=by unfold eo;split<;>simp
def mT(a b:Int):List UInt8:=
 if ¬(0≤a∧a≤99∧(b=-1∨a≤b∧b≤99))then[]
 else if a=0∧b=1 then[63]else if a=0∧b=-1 then[42]else if a=1∧b=-1 then[43]
 else if a=b then[123]++eo a.toNat++[125]else if b=-1 then[123]++eo a.toNat++[44,125]else[123]++eo a.toNat++[44]++eo b.toNat++[125]
def bl(n:Nod):List UInt8:=
 if n.kind=0∨n.kind=2 then EG n.text else if n.kind=1 then iK n.set else if n.kind=3 then n.text.data.toList
 else if n.kind=9 then[60]++n.text.data.toList++[58,32]else if n.kind=7 then[38]else if n.kind=8 then[33]else[]
def dm(k:Int):List UInt8:=if k=4 then[32]else if k=5 then[32,47,32]else[]
def bV(n:Nod):List UInt8:=if n.kind=6 then mT n.min n.max else if n.kind=9 then[62]else[]
def cU(node kid:Int):Bool:=
 if node=5 then decide (kid=5)else if node=4∨node=7∨node=8 then decide (kid=4∨kid=5)
 else if node=6 then decide (kid=4∨kid=5∨kid=6∨kid=7∨kid=8)else false
end Go.aa
namespace Go.Km
open Go Go.Vc Go.Proofs Go.aa Go.Proofs.YtpbichnnflabdaaGreatDoor
set_option maxRecDepth 100000
set_option maxHeartbeats 0
theorem pj(a b:ByteArray):szS (uU a b)=szS a+szS b:=by simp[szS,uU]
theorem qw(l:List UInt8):szS ⟨l.toArray⟩=l.length:=by simp[szS]
theorem J5(l m:List UInt8):uU ⟨l.toArray⟩ ⟨m.toArray⟩=⟨(l++m).toArray⟩:=by simp[uU]
theorem G7(C:ByteArray)(hC:∀m<10,ko C m (m+1)=⟨(eo m).toArray⟩){n:Int}(h0:0≤n)(h1:n<10):ko C n.toNat (n+1).toNat=⟨(eo n.toNat).toArray⟩:=by
 rw[show(n+1).toNat=n.toNat+1 by omega];exact hC _ (by omega)
theorem Gk(C:ByteArray)(hC:∀m<100,10≤m→ko C (m*2) (m*2+2)=⟨(eo m).toArray⟩){n:Int}(h0:10≤n)(h1:n≤99):ko C (n*2).toNat (n*2+2).toNat=⟨(eo n.toNat).toArray⟩:=by
 rw[show(n*2).toNat=n.toNat*2 by omega,show(n*2+2).toNat=n.toNat*2+2 by omega];exact hC _ (by omega) (by omega)
instance(n:Int):C 204 [inF n] (stF ⟨(eo n.toNat).toArray⟩) true (0≤n∧n≤99):=⟨fun h=>by
 refine kf rfl rfl ?_;repeat' first|exact k9|refine k2 ?_|apply kA|apply kI;intro hc|refine k8 ?_|apply kL;intro hl
 ·exact⟨Nat.le_trans (show _≤36 by omega) (by decide)⟩
 ·exact aq.s (G7 _ (by decide +kernel) h.1 (by assumption)) rfl
 ·exact⟨Nat.le_trans (show _≤200 by omega) (by decide +kernel)⟩
 ·exact aq.s (Gk _ (by decide +kernel) (by assumption) h.2) rfl
⟩
instance(n:Int):C 203 [inF n,inF 10] (stF ⟨(eo n.toNat).toArray⟩) true (0≤n∧n≤99):=⟨fun h=>by
 refine kf rfl rfl ?_;repeat' (first|exact k9|refine k2 ?_|apply kA|apply kI;intro hc|refine k8 ?_|apply kL;intro hl)⟩
instance(n:Int):C 201 [inF n] (stF ⟨(eo n.toNat).toArray⟩) true (0≤n∧n≤99):=⟨fun h=>by
 refine kf rfl rfl ?_;repeat' (first|exact k9|refine k2 ?_|apply kA|apply kI;intro hc|refine k8 ?_|apply kL;intro hl)⟩
instance(n:Int):C 197 [inF n] (stF ⟨(eo n.toNat).toArray⟩) true (0≤n∧n≤99):=⟨fun h=>by
 refine kf rfl rfl ?_;repeat' (first|exact k9|refine k2 ?_|apply kA|apply kI;intro hc|refine k8 ?_|apply kL;intro hl)⟩
instance(n:Int):C 192 [inF n] (stF ⟨(eo n.toNat).toArray⟩) true (0≤n∧n≤99):=⟨fun h=>by
 refine kf rfl rfl ?_;repeat' first|exact k9|refine k2 ?_|apply kA|apply kI;intro hc|refine k8 ?_|apply kL;intro hl
⟩
abbrev Iz(a b:Int):Nod:=⟨6,⟨0,0,0,0⟩,⟨#[]⟩,a,b,[]⟩
theorem yI(a b:Int):fits (Iz a b) 1=decide (0≤a∧a≤99∧(b=-1∨a≤b∧b≤99)):=by
 show(decide _&&decide _&&decide _&&decide _&&decide _&&(decide _||decide _&&decide _))=_
 by_cases h1:0≤a<;>by_cases h2:a≤99<;>by_cases h3:b=-1<;>by_cases h4:a≤b<;>by_cases h5:b≤99<;>simp[Bts.zero, *]
instance(a b:Int):C 188 [inF a,inF b] (stF ⟨(mT a b).toArray⟩) true (Iz a b).wf:=⟨fun h=>by
 refine kf rfl rfl ?_;repeat' first|exact k9|refine k2 ?_|apply kA|apply kI;intro hc|refine k8 ?_|apply kL;intro hl
 ·rw[yI,decide_eq_true_eq]at hc;have hab:mT a b=if a=0∧b=1 then[63]else if a=0∧b=-1 then[42]else if a=1∧b=-1 then[43]else if a=b then[123]++eo a.toNat++[125]else if b=-1 then[123]++eo a.toNat++[44,125]else[123]++eo a.toNat++[44]++eo b.toNat++[125]:=by rw[mT,if_neg (fun g=>g hc)]
  have ha:(eo a.toNat).length≤2:=mn _;have hb:(eo b.toNat).length≤2:=mn _;apply Stp.on
  repeat' first|exact k9|refine k2 ?_|apply kA|apply kI;intro hc|refine k8 ?_|apply kL;intro hl
  all_goals try apply Stp.on
  all_goals repeat' first|exact k9|refine k2 ?_|apply kA|apply kI;intro hc|refine k8 ?_|apply kL;intro hl
  all_goals try apply Stp.on
  all_goals repeat' first|exact k9|refine k2 ?_|apply kA|apply kI;intro hc|refine k8 ?_|apply kL;intro hl
  all_goals try apply Stp.on
  all_goals repeat' first|exact k9|refine k2 ?_|apply kA|apply kI;intro hc|refine k8 ?_|apply kL;intro hl
  all_goals first
   |exact⟨by simp only[pj,qw,List.length_cons,List.length_nil];omega⟩
   |(
     refine aq.s ?_ rfl
     try simp only[J5]
     rw[hab]
     repeat' first
      |rw[if_pos (by omega)]
      |rw[if_neg (by omega)])
 ·rw[yI,decide_eq_false_iff_not]at hc;refine aq.s ?_ rfl;rw[mT,if_pos hc]⟩
instance(a b:Int):C 181 [byF a,byF b] (boF (cU a b)) true True:=⟨fun h=>by
 refine kf rfl rfl ?_;repeat' first|exact k9|refine k2 ?_|apply kA|apply kI;intro hc|refine k8 ?_|apply kL;intro hl
 all_goals(refine aq.b ?_ rfl;simp[cU,dO, *])⟩
instance(n:Nod):C 180 [.ag (a8 n)] (stF ⟨(bl n).toArray⟩) true ((0≤n.kind∧n.kind≤9)∧n.set.wf∧n.text.size≤1000000):=⟨fun h=>by
 obtain⟨h1,h2,h3⟩:=h;obtain⟨kind,set,text,lo,hi,kids⟩:=n;dsimp only at h1 h2 h3;have hk:kind=0∨kind=1∨kind=2∨kind=3∨kind=4∨kind=5∨kind=6∨kind=7∨kind=8∨kind=9:=by omega
 rcases hk with rfl|rfl|rfl|rfl|rfl|rfl|rfl|rfl|rfl|rfl
 all_goals refine kf rfl rfl ?_;repeat' first|exact k9|refine k2 ?_|apply kA|apply kI;intro hc|refine k8 ?_|apply kL;intro hl
 all_goals try exact aq.s rfl rfl
 all_goals exact⟨by have hsz:szS text≤1000000:=h3;simp only[pj,qw,List.length_cons,List.length_nil];omega⟩⟩
instance(n:Nod):C 182 [.ag (a8 n)] (stF ⟨(bV n).toArray⟩) true ((0≤n.kind∧n.kind≤9)∧n.wf):=⟨fun h=>by
 obtain⟨h1,h2⟩:=h;have hr:(Iz n.min n.max).wf:=⟨⟨by show(0:Int)≤6;omega,by show(6:Int)≤255;omega⟩,by simp[Bts.wf],by show(0:Nat)≤_;omega,h2.min,h2.max,⟨by simp,by simp⟩⟩
 clear h2;obtain⟨kind,set,text,lo,hi,kids⟩:=n;dsimp only at h1 hr;have hk:kind=0∨kind=1∨kind=2∨kind=3∨kind=4∨kind=5∨kind=6∨kind=7∨kind=8∨kind=9:=by omega
 rcases hk with rfl|rfl|rfl|rfl|rfl|rfl|rfl|rfl|rfl|rfl
 all_goals refine kf rfl rfl ?_;repeat' first|exact k9|refine k2 ?_|apply kA|apply kI;intro hc|refine k8 ?_|apply kL;intro hl
 all_goals exact aq.s rfl rfl⟩
end Go.Km
end
