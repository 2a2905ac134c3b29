/- The texts that the card needs, part 7. -/
import Derived.Test.YthebhpcjcihjgaaGreatDoorP5
set_option linter.all false
section
namespace Go.Km
open Go Go.Vc Go.Proofs Go.ab
set_option maxRecDepth 100000
set_option maxHeartbeats 0
abbrev bsF(l:List Bool):List (List F):=l.map fun b=>[boF b]
theorem tC{t:Tre}(h:cO 0 t.nodes (List.replicate t.nodes.length false)=none):ao t=false:=by simp[ao,h]
theorem Ch{t:Tre}{tk:List Bool}(h:cO 0 t.nodes (List.replicate t.nodes.length false)=some tk)(h0:0≤t.root)(h1:t.root<t.nodes.length):ao t=(List.range t.nodes.length).all fun i=>!(tk.getD i false==decide ((i:Int)=t.root)):=by
 simp[ao,h,h0,h1]
theorem zT{i k:Int}{l:List Int}{tk:List Bool}(h:k<0∨i≤k∨tk.getD k.toNat false=true):cv i (k :: l) tk=none:=by rw[cv,if_pos h]
theorem wT{i k:Int}{l:List Int}{tk:List Bool}(h:¬(k<0∨i≤k∨tk.getD k.toNat false=true)):cv i (k :: l) tk=cv i l (tk.set k.toNat true):=by rw[cv,if_neg h]
instance(t:Tre):C 31 [aw t] (boF (ao t)) true t.wf:=⟨fun ht=>by
 have hlen:=ht.len;simp only[b9] at hlen;refine kf rfl rfl ?_;repeat' first|exact k9|refine k2 ?_|apply kA|apply kI;intro hc|refine k8 ?_|apply kL;intro hl
 ·refine aa.b ?_ rfl;simp[ao];omega
 ·refine aa.b ?_ rfl;simp[ao];omega
 rename_i h0;apply kCt [1,3,26,27,28] [];conv=>whnf
 refine Lp.ind (fun x:Nat×List Bool=>t.nodes.length - x.1) (fun x=>x.1≤t.nodes.length∧x.2.length=t.nodes.length∧cO 0 t.nodes (List.replicate t.nodes.length false)=cO x.1 (t.nodes.drop x.1) x.2) (fun x=>[(28,InD x.1)]) (fun x=>[(1,.ro 0 4 1 (bsF x.2))]) (fun _=>(boF (ao t),true)) (0,List.replicate t.nodes.length false) ⟨by simp,by simp,rfl⟩ rfl rfl ?_ ?_
 ·rw[show bsF (List.replicate t.nodes.length false)=List.replicate (List.map aT t.nodes).length [boF false] by simp];rfl
 rintro G ⟨i,tk⟩ ih ⟨hi,htk,hT⟩
 dsimp only at hi htk hT ih ⊢
 repeat' first|exact k9|refine k2 ?_|apply kA|apply kI;intro hc|refine k8 ?_|apply kL;intro hl
 ·rename_i hx;exact⟨ht.nodes _ (Of hx)⟩
 ·rename_i hx;generalize hn:t.nodes[i]=n at *;have hkl:=(ht.nodes n (hn▸Of hx)).kids.1;simp only[eX] at hkl;rw[Oz hx,hn,cO,if_pos hc] at hT;apply kCt [1,3,4,26,27,28,40,41,42] [];conv=>whnf
  refine Lp.ind (fun x:Nat×List Bool=>n.kids.length - x.1) (fun x=>x.1≤n.kids.length∧x.2.length=t.nodes.length∧cv i n.kids tk=cv i (n.kids.drop x.1) x.2) (fun x=>[(42,InD x.1)]) (fun x=>[(1,.ro 0 4 1 (bsF x.2))]) (fun _=>(boF (ao t),true)) (0,tk) ⟨by simp,htk,rfl⟩ rfl rfl rfl ?_
  rintro G' ⟨j,tk'⟩ ih' ⟨hj,htk',hK⟩
  dsimp only at hj htk' hK ih' ⊢;have hno:∀h:j<n.kids.length,(n.kids[j]<0∨(i:Int)≤n.kids[j]∨tk'.getD n.kids[j].toNat false=true)→ao t=false:=by
   intro h hh;rw[Oz h,zT hh] at hK;exact tC (by rw[hT,hK];rfl)
  repeat' first|exact k9|refine k2 ?_|apply kA|apply kI;intro hc|refine k8 ?_|apply kL;intro hl
  ·exact aa.b (hno (by omega) (.inl hc)).symm rfl
  ·exact aa.b (hno (by omega) (.inr (.inl hc))).symm rfl
  ·have h1:n.kids[j].toNat<tk'.length:=by omega
   exact aa.b (hno (by omega) (.inr (.inr (by rw[List.getD_eq_getElem?_getD,Oe h1];exact hc)))).symm rfl
  ·have hjl:j<n.kids.length:=by omega
   have h1:n.kids[j].toNat<tk'.length:=by omega
   apply kCt [1,3,4,26,27,28,40,41,42] [];conv=>whnf
   refine ih' (j+1,tk'.set n.kids[j].toNat true) _ _ _ (by dsimp only;omega) ⟨by dsimp only;omega,by simp[htk'],?_⟩ rfl rfl (by simp only[bsF,List.map_set];rfl);rw[hK,Oz hjl,wT];rw[List.getD_eq_getElem?_getD,Oe h1]
   rintro(h|h|h)
   ·omega
   ·omega
   ·rw[show(some tk'[n.kids[j].toNat]).getD false=tk'[n.kids[j].toNat] from rfl,hc] at h
    cases h
  ·apply kCt [1,3,26,27,28] [];conv=>whnf
   rw[OE (by omega)] at hK;refine ih (i+1,tk') _ _ _ (by dsimp only;omega) ⟨by dsimp only;omega,htk',?_⟩ rfl rfl rfl;rw[hT,hK];rfl
 ·rename_i hx;refine aa.b ?_ rfl;rw[tC];rw[hT,Oz hx,cO,if_neg (by rw[hc];decide)]
 ·rw[OE (by omega)] at hT;have hR:=Ch hT h0 (by omega);apply kCt [1,64,65,66] [];conv=>whnf
  refine Lp.ind (fun x:Nat=>t.nodes.length - x) (fun x=>x≤t.nodes.length∧∀y,y<x→(tk.getD y false==decide ((y:Int)=t.root))=false) (fun x=>[(66,InD x)]) (fun x=>[]) (fun _=>(boF (ao t),true)) 0 ⟨by simp,by simp⟩ rfl rfl rfl ?_
  rintro G' j ih' ⟨hj,hA⟩
  repeat' first|exact k9|refine k2 ?_|apply kA|apply kI;intro hc|refine k8 ?_|apply kL;intro hl
  ·have h1:j<tk.length:=by omega
   refine aa.b ?_ rfl;rw[hR,eq_comm,QL];refine⟨j,by simp;omega,?_⟩;rw[List.getD_eq_getElem?_getD,Oe h1];rw[dG] at hc
   revert hc
   show qj tk[j] _=true→¬(!(tk[j]==_))=true
   cases tk[j]<;>cases decide ((j:Int)=t.root)<;>simp[qj]
  ·have h1:j<tk.length:=by omega
   apply kCt [1,64,65,66] [];conv=>whnf
   refine ih' (j+1) _ _ _ (by omega) ⟨by omega,fun y hy=>?_⟩ rfl rfl rfl;rcases Pu y j with h|h
   ·exact hA y h
   ·have:y=j:=by omega
    subst this;rw[List.getD_eq_getElem?_getD,Oe h1];rw[dG] at hc
    revert hc
    show qj tk[y] _=false→(tk[y]==_)=false
    cases tk[y]<;>cases decide ((y:Int)=t.root)<;>simp[qj]
  ·refine aa.b ?_ rfl;rw[hR,eq_comm,OF];intro y hy;rw[hA y (by simp at hy;omega)];rfl⟩
set_option maxRecDepth 100000
set_option maxHeartbeats 0
instance(t:Tre):C 63 [aw t] (inF (iF t)) true t.wf:=⟨fun ht=>by
 refine kf rfl rfl ?_;repeat' first|exact k9|refine k2 ?_|apply kA|apply kI;intro hc|refine k8 ?_|apply kL;intro hl
 all_goals (refine aa.n ?_ rfl;simp[iF,hc])⟩
instance(k a b c d:Int)(s:ByteArray)(x y:Int):C 29 [.ag [byF k,.vl (.int .u64 a),.vl (.int .u64 b),.vl (.int .u64 c),.vl (.int .u64 d),stF s,inF x,inF y,.sl []]] (aw (my ⟨k,⟨a,b,c,d⟩,s,x,y,[]⟩)) false True:=⟨fun _=>by
 refine kf rfl rfl ?_;repeat' first|exact k9|refine k2 ?_|apply kA|apply kI;intro hc|refine k8 ?_|apply kL;intro hl
 exact aa.i rfl⟩
instance:C 39 [] (aw (my dB)) false True:=⟨fun _=>by
 refine kf rfl rfl ?_;repeat' first|exact k9|refine k2 ?_|apply kA|apply kI;intro hc|refine k8 ?_|apply kL;intro hl
 exact aa.i rfl⟩
instance(s:ByteArray):C 11 [stF s] (aw (my ⟨2,.zero,s,0,0,[]⟩)) false True:=⟨fun _=>by
 refine kf rfl rfl ?_;repeat' first|exact k9|refine k2 ?_|apply kA|apply kI;intro hc|refine k8 ?_|apply kL;intro hl
 exact aa.i rfl⟩
theorem room{ch:Int→List Int}{n:Nat}{node:Int}{op out:List Int}(hn:0<n)(hN:(dfs ch n [node]).length≤17592186044416)(he:out++dfs (fw ch) n op.reverse=dfs (fw ch) n [node]):out.length+op.length≤17592186044416:=by
 have h1:=dA (ch:=fw ch) n op.reverse hn;have h2:=congrArg List.length he;rw[fJ n [node],Oh] at h2;simp at h1;omega
structure xf{α:Type}(out cur:List α)(k:Nat):Prop where
 len:cur.length=out.length
 at_:∀j,j<out.length→cur[j]?=if j<k∨out.length≤j+k then out[out.length - 1 - j]? else out[j]?
theorem xf.zero{α:Type}(out:List α):xf out out 0:=⟨rfl,fun j hj=>by rw[if_neg (by omega)]⟩
theorem xf.done{α:Type}{out cur:List α}{k:Nat}(h:xf out cur k)(hk:out.length≤2 * k+1):cur=out.reverse:=by
 apply Qc;intro j;rcases Pu j out.length with hj|hj
 ·rw[h.at_ j hj,List.getElem?_reverse hj]
  split
  ·rfl
  ·have:out.length - 1 - j=j:=by omega
   rw[this]
 ·rw[OG (by rw[h.len];exact hj),OG (by simpa using hj)]
theorem xf.step{α:Type}{out cur:List α}{k:Nat}(h:xf out cur k)(hk:2 * k+1<out.length){x y:α}(hx:cur[k]?=some x)(hy:cur[out.length - 1 - k]?=some y):xf out ((cur.set k y).set (out.length - 1 - k) x) (k+1):=by
 refine⟨by simp[h.len],fun j hj=>?_⟩;have hl:=h.len;rw[h.at_ k (by omega),if_neg (by omega)] at hx;rw[h.at_ _ (by omega),if_neg (by omega)] at hy
 by_cases e:out.length - 1 - k=j
 ·subst e;rw[Qf (by simp;omega),if_pos (by omega),show out.length - 1 - (out.length - 1 - k)=k by omega,hx]
 ·rw[Qq e]
  by_cases e2:k=j
  ·subst e2;rw[Qf (by omega),if_pos (by omega),hy]
  ·rw[Qq e2,h.at_ j hj]
   by_cases c:j<k∨out.length≤j+k
   ·rw[if_pos c,if_pos (by omega)]
   ·rw[if_neg c,if_neg (by omega)]
instance(t:Tre)(node:Int):C 72 [aw t,inF node] (isF (aU t node)) true (t.wf∧ax t∧0≤node∧node<t.nodes.length):=⟨fun h=>by
 obtain⟨ht,hR,h0,hn⟩:=h;have hlen:=ht.len;simp only[b9] at hlen;refine kf rfl rfl ?_;repeat' first|exact k9|refine k2 ?_|apply kA|apply kI;intro hc|refine k8 ?_|apply kL;intro hl
 apply Stp.on;obtain⟨nd,rfl⟩:∃nd:Nat,node=nd:=⟨node.toNat,by omega⟩
 have hnl:nd<t.nodes.length:=by omega
 have hch:=hR.kok.ah;have hN:=fP hR h0 hn;have hkl:=(ht.nodes _ (Of hnl)).kids.1;simp only[eX] at hkl
 repeat' first|exact k9|refine k2 ?_|apply kA|apply kI;intro hc|refine k8 ?_|apply kL;intro hl
 have hkn:t.nodes[nd].kids=ah t.nodes nd:=aM (Oe hnl);apply kCt [2,5,6] [];conv=>whnf
 refine Lp.ind (fun x:List Int×List Int=>(dfs (fw (ah t.nodes)) t.nodes.length x.1.reverse).length) (fun x=>(∀k∈x.1,0≤k∧k<t.nodes.length)∧x.2++dfs (fw (ah t.nodes)) t.nodes.length x.1.reverse=dfs (fw (ah t.nodes)) t.nodes.length [(nd:Int)]) (fun _=>[])
  (fun x=>[(1,.ro 0 3 1 (x.2.map ikF)),(2,.ro 0 3 1 (x.1.map ikF))]) (fun _=>(isF (aU t nd),true)) (t.nodes[nd].kids,[(nd:Int)]) ⟨?_,?_⟩ rfl rfl rfl ?_
 ·dsimp only;intro k hk;rw[hkn] at hk;have:=hch nd k hk;omega
 ·dsimp only;rw[aS hch.rev (by omega) (by omega),hkn,bT,Oj];rfl
 rintro G ⟨op,out⟩ ih ⟨hop,he⟩
 dsimp only at hop he ih ⊢;have hrm:=room (node:=(nd:Int)) (by omega) (by rw[aU,(dc _ _ _).length_eq] at hN;omega) he;rcases bx op with rfl|⟨init,x,rfl⟩
 ·repeat' first|exact k9|refine k2 ?_|apply kA|apply kI;intro hc|refine k8 ?_|apply kL;intro hl
  have hb:aU t nd=out.reverse:=by
   simp only[QS,bT,Oj] at he;rw[he,aU,show[(nd:Int)]=[(nd:Int)].reverse from rfl,oV];rfl
  apply kCt [0,2,3] [5];conv=>whnf
  refine Lp.ind (fun x:Nat×List Int=>out.length - x.1) (fun x=>xf out x.2 x.1∧2 * x.1≤out.length+1) (fun x=>[(2,InD x.1),(3,InD ((out.length:Int) - 1 - x.1))]) (fun x=>[(0,.ro 0 3 1 (x.2.map ikF))]) (fun _=>(isF (aU t nd),true)) (0,out) ⟨.zero out,by simp⟩ rfl ?_ rfl ?_
  ·simp only[Ok,Rg,Qh];rfl
  rintro G' ⟨k,cur⟩ ih' ⟨hI,hk⟩
  dsimp only at hI hk ih' ⊢;have hcl:=hI.len
  repeat' first|exact k9|refine k2 ?_|apply kA|apply kI;intro hc|refine k8 ?_|apply kL;intro hl
  ·have h1:k<cur.length:=by omega
   have h2:out.length - 1 - k<cur.length:=by omega
   have e:((out.length:Int) - 1 - k).toNat=out.length - 1 - k:=by omega
   apply kCt [0,2,3] [5];conv=>whnf
   refine ih' (k+1,(cur.set k cur[out.length - 1 - k]).set (out.length - 1 - k) cur[k]) _ _ _ (by dsimp only;omega) ⟨hI.step (by omega) (Oe h1) (Oe h2),by dsimp only;omega⟩ rfl ?_ ?_
   ·dsimp only;rw[show(out.length:Int) - 1 - ((k+1:Nat):Int)=out.length - 1 - k - 1 by omega];rfl
   ·simp only[List.map_set,e];rfl
  ·have hcur:=hI.done (by omega);subst hcur;refine aa.j ?_ ?_
   ·rw[hb]
   ·simp only[cY,qw,lk,Nat.beq,cond_true];simp[F.flat,F.flat.lK]
 ·have hx:=hop x (by simp);obtain⟨i,rfl⟩:∃i:Nat,x=i:=⟨x.toNat,by omega⟩
  have hlast:∀h,(init++[(i:Int)])[((List.map ikF (init++[(i:Int)])).length - 1:Int).toNat]'h=(i:Int):=by
   intro h;simp[P3]
  have hil:i<t.nodes.length:=by omega
  have hkn2:t.nodes[i].kids=ah t.nodes i:=aM (Oe hil);have hkl2:=(ht.nodes _ (Of hil)).kids.1;simp only[eX] at hkl2;rw[OW,Pe,Pg,aS hch.rev (by omega) (by omega)] at he;have hE:(init++t.nodes[i].kids).reverse=fw (ah t.nodes) i++init.reverse:=by
   rw[OW,hkn2];rfl
  have he2:(out++[(i:Int)])++dfs (fw (ah t.nodes)) t.nodes.length (init++t.nodes[i].kids).reverse=dfs (fw (ah t.nodes)) t.nodes.length [(nd:Int)]:=by
   rw[hE,bD,List.append_assoc];exact he
  have hrm2:=room (node:=(nd:Int)) (by omega) (by rw[aU,(dc _ _ _).length_eq] at hN;omega) he2;simp only[Oh,Og,Ol] at hrm hrm2
  repeat' first|exact k9|refine k2 ?_|apply kA|apply kI;intro hc|apply kL;intro hl|((rw[hlast])<;>conv=>whnf)|refine k8 ?_|fail
  apply kCt [2,5,6] [];conv=>whnf
  refine ih (init++t.nodes[i].kids,out++[(i:Int)]) _ _ _ ?_ ⟨?_,?_⟩ rfl rfl ?_
  ·dsimp only;rw[hE,OW,Pe,Pg,aS hch.rev (by omega) (by omega),bD];simp
  ·intro k hk;rcases Oy.1 hk with hk|hk
   ·exact hop k (by simp[hk])
   ·rw[hkn2] at hk;have:=hch i k hk;omega
  ·exact he2
  ·dsimp only;rw[show List.map ikF (init++t.nodes[i].kids)=List.take ((List.map ikF (init++[(i:Int)])).length - 1:Int).toNat (List.map ikF (init++[(i:Int)]))++List.map ikF t.nodes[i].kids from by simp[PZ],show List.map ikF (out++[(i:Int)])=List.map ikF out++[ikF i] from by simp];rfl⟩
set_option maxRecDepth 100000
set_option maxHeartbeats 0
theorem pQ{α:Type}{xs ys:List α}(h:xs.length=ys.length):List.take ys.length xs++List.drop xs.length ys=xs:=by
 rw[Om (by omega),OE (by omega),Oj]
def eJ{α:Type}(f:α→α)(i:Nat)(l:List α):List α:=(l.take i).map f++l.drop i
theorem qJ{α:Type}(f:α→α)(i:Nat)(l:List α):(eJ f i l).length=l.length:=by
 simp[eJ];omega
theorem oz{α:Type}(f:α→α)(l:List α):eJ f 0 l=l:=by simp[eJ]
theorem qD{α:Type}(f:α→α){i:Nat}{l:List α}(h:l.length≤i):eJ f i l=l.map f:=by simp[eJ,Om h,OE h]
theorem pZ{α:Type}(f:α→α){i:Nat}{l:List α}(h:i<l.length)(hz0:i<(eJ f i l).length):(eJ f i l)[i]'hz0=l[i]:=by
 simp only[eJ];rw[Qo (by simp;omega)];simp[O5 (Nat.le_of_lt h)]
theorem ql{α:Type}(f:α→α){i:Nat}{l:List α}(h:i<l.length):(eJ f i l).set i (f l[i])=eJ f (i+1) l:=by
 have e:i - ((l.take i).map f).length=0:=by simp;omega
 have e2:(l.take (i+1)).map f=(l.take i).map f++[f l[i]]:=by
  rw[List.take_succ,Oe h,List.map_append];rfl
 simp only[eJ];rw[Oz h,PF _ _ (by simp;omega),e,P7,e2,List.append_assoc];rfl
def wR(d:Int)(n:Nod):Nod:={ n with kids:=n.kids.map (· + d) }
instance(ns:List Nod)(d:Int):C 82 [.sl (ns.map aT),inF d] (.sl ((b8 ns d).map aT)) false (ns.length≤1466015503701∧(∀n∈ns,n.wf)∧(∀n∈ns,∀k∈n.kids,-9223372036854775808≤k+d∧k+d≤9223372036854775807)):=⟨fun h=>by
 obtain⟨hlen,hw,hk⟩:=h;refine kf rfl rfl ?_;repeat' first|exact k9|refine k2 ?_|apply kA|apply kI;intro hc|refine k8 ?_|apply kL;intro hl
 apply kCt [1,5,16,17,18] [];conv=>whnf
 refine Lp.ind (fun x:Nat=>ns.length - x) (fun x=>x≤ns.length) (fun x=>[(17,InD ns.length),(18,InD x)]) (fun x=>[(0,.ro 0 45 9 ((eJ (wR d) x ns).map aT))]) (fun _=>(.sl ((b8 ns d).map aT),false)) 0 (by simp) rfl ?_ ?_ ?_
 ·simp only[Oh,Ou,OX,Px,Ok,Nat.min_self,Pt,Qj];rfl
 ·rw[oz,pQ (by simp)];rfl
 rintro G i ih hi
 by_cases hx:i<ns.length
 ·obtain⟨n,hn⟩:=exEq (ns[i]);have hci:∀h,(eJ (wR d) i ns)[i]'h=n:=fun h=>by rw[hn];exact pZ _ hx h
  have hkl:n.kids.length≤17592186044416:=by rw[hn];exact(hw _ (Of hx)).kids.1
  have hkk:∀k∈n.kids,-9223372036854775808≤k+d∧k+d≤9223372036854775807:=by rw[hn];exact hk _ (Of hx)
  have hfin:(eJ (wR d) i ns).set i (wR d n)=eJ (wR d) (i+1) ns:=by rw[hn];exact ql _ hx
  have hcl:=qJ (wR d) i ns;generalize eJ (wR d) i ns=cur at *
  repeat' first|exact k9|refine k2 ?_|apply kA|apply kI;intro hc|apply kL;intro hl|((simp only[hci])<;>conv=>whnf)|refine k8 ?_|fail
  ·have hn0:n.kids=[]:=OJ (by simp only[hci] at hc;omega);apply kCt [1,5,16,17,18] [];conv=>whnf
   refine ih (i+1) _ _ _ (by omega) (by omega) rfl rfl ?_;rw[←hfin,List.map_set,show wR d n={ n with kids:=[] } by simp[wR,hn0]];rfl
  ·apply kCt [1,5,6,8,16,17,18,40,41] [];conv=>whnf
   refine Lp.ind (fun x:Nat=>n.kids.length - x) (fun x=>x≤n.kids.length) (fun x=>[(40,InD n.kids.length),(41,InD x)]) (fun x=>[(1,.ro 0 3 1 ((eJ (· + d) x n.kids).map ikF))]) (fun _=>(.sl ((b8 ns d).map aT),false)) 0 (by simp) rfl ?_ ?_ ?_
   ·rw[pQ (by simp),Ok];rfl
   ·rw[oz,pQ (by simp)];rfl
   rintro G' j ih' hj
   by_cases hy:j<n.kids.length
   ·have hcj:∀h,(eJ (· + d) j n.kids)[j]'h=n.kids[j]:=fun h=>pZ _ hy h
    have hkj:=hkk _ (Of hy);have hfj:=ql (· + d) hy;have hcm:=qJ (· + d) j n.kids;generalize eJ (· + d) j n.kids=cur' at *
    repeat' first|exact k9|refine k2 ?_|apply kA|apply kI;intro hc|apply kL;intro hl|((simp only[hcj])<;>conv=>whnf)|refine k8 ?_|fail
    apply kCt [1,5,6,8,16,17,18,40,41] [];conv=>whnf
    refine ih' (j+1) _ _ _ (by omega) (by omega) rfl rfl ?_;rw[←hfj,List.map_set];rfl
   ·rw[qD _ (by omega)]
    repeat' first|exact k9|refine k2 ?_|apply kA|apply kI;intro hc|refine k8 ?_|apply kL;intro hl
    apply kCt [1,5,16,17,18] [];conv=>whnf
    refine ih (i+1) _ _ _ (by omega) (by omega) rfl rfl ?_;rw[←hfin,List.map_set,List.set_set];rfl
 ·rw[qD _ (by omega)]
  repeat' first|exact k9|refine k2 ?_|apply kA|apply kI;intro hc|refine k8 ?_|apply kL;intro hl
  exact aa.i rfl⟩
instance(t:Tre)(node:Int):C 33 [aw t,inF node] (aw (aC t node)) false (t.wf∧ax t∧0≤node∧node<t.nodes.length):=⟨fun h=>by
 obtain⟨ht,hR,h0,hn⟩:=h;have hlen:=ht.len;simp only[b9] at hlen;have hN:=fP hR h0 hn;refine kf rfl rfl ?_;repeat' first|exact k9|refine k2 ?_|apply kA|apply kI;intro hc|refine k8 ?_|apply kL;intro hl
 apply kCt [2,4,6,7,24,25,26] [];conv=>whnf
 have hmem:=uC hR h0 hn;have htot:aC t node=⟨bo t.nodes 0 (List.replicate t.nodes.length 0) (aU t node),(aU t node).length - 1⟩:=rfl;generalize hl:aU t node=l at *;refine Lp.ind (fun x:Nat×List Int×List Nod=>l.length - x.1) (fun x=>x.1≤l.length∧x.2.1.length=t.nodes.length∧x.2.2.length=x.1∧x.2.2++bo t.nodes x.1 x.2.1 (l.drop x.1)=(aC t node).nodes) (fun x=>[(26,InD x.1)])
  (fun x=>[(2,.ro 0 3 1 (x.2.1.map ikF)),(3,.ro 0 45 9 (x.2.2.map aT))]) (fun _=>(aw (aC t node),false)) (0,List.replicate t.nodes.length 0,[]) ⟨by simp,by simp,rfl,by rw[htot];rfl⟩ rfl rfl ?_ ?_
 ·rw[show(List.replicate t.nodes.length (0:Int)).map ikF=List.replicate (t.nodes.map aT).length (ikF 0) by simp];rfl
 rintro G ⟨i,pl,acc⟩ ih ⟨hi,hpl,hac,hT⟩
 dsimp only at hi hpl hac hT ih ⊢
 by_cases hx:i<l.length
 ·obtain⟨k,hk⟩:∃k:Nat,l[i]=k:=⟨l[i].toNat,by have:=hmem _ (Of hx);omega⟩
  have hkn:k<t.nodes.length:=by have:=hmem _ (Of hx);omega
  have hli:∀h,l[i]'h=(k:Int):=fun _=>hk
  obtain⟨n,hnk⟩:=exEq (t.nodes[k]);have hni:∀h,t.nodes[k]'h=n:=fun _=>hnk.symm
  have hkl:n.kids.length≤17592186044416:=by rw[hnk];exact(ht.nodes _ (Of hkn)).kids.1
  have hkw:∀x∈n.kids,0≤x∧x<t.nodes.length:=by
   intro x hxk;have:=hR.kok k n (by rw[hnk];exact Oe hkn) x hxk;omega
  rw[Oz hx,bo,hk,Oo,List.getD_eq_getElem?_getD,Oe hkn,←hnk] at hT;simp only[PK] at hT;have hps:(pl.set k (i:Int)).length=t.nodes.length:=by simp[hpl]
  have hpe:List.map ikF (pl.set k (i:Int))=(List.map ikF pl).set k (ikF i):=by rw[List.map_set]
  repeat' first|exact k9|refine k2 ?_|apply kA|apply kI;intro hc|apply kL;intro hl|((simp only[hli,Oo])<;>conv=>whnf)|((simp only[hni])<;>conv=>whnf)|refine k8 ?_|fail
  ·apply kCt [2,4,6,7,10,11,24,25,26,52,53,54] [];conv=>whnf
   refine Lp.ind (fun x:Nat=>n.kids.length - x) (fun x=>x≤n.kids.length) (fun x=>[(53,InD n.kids.length),(54,InD x)]) (fun x=>[(2,.ro 0 3 1 ((pl.set k (i:Int)).map ikF)),(5,.ro 0 3 1 ((eJ (fun x=>(pl.set k (i:Int)).getD x.toNat 0) x n.kids).map ikF))]) (fun _=>(aw (aC t node),false)) 0 (by simp) rfl ?_ ?_ ?_
   ·rw[pQ (by simp),show(List.map ikF n.kids).length=n.kids.length from Ok ..];rfl
   ·rw[oz,pQ (by simp),hpe];rfl
   rintro G' j ih' hj
   by_cases hy:j<n.kids.length
   ·have hcj:∀h,(eJ (fun x=>(pl.set k (i:Int)).getD x.toNat 0) j n.kids)[j]'h=n.kids[j]:=fun h=>pZ _ hy h
    have hkj:=hkw _ (Of hy);have hfj:=ql (fun x=>(pl.set k (i:Int)).getD x.toNat 0) hy;have hcm:=qJ (fun x=>(pl.set k (i:Int)).getD x.toNat 0) j n.kids;generalize eJ (fun x=>(pl.set k (i:Int)).getD x.toNat 0) j n.kids=cur' at *;have hg:(pl.set k (i:Int)).getD n.kids[j].toNat 0=(pl.set k (i:Int))[n.kids[j].toNat]'(by omega):=by
     rw[List.getD_eq_getElem?_getD,Oe (by omega)];rfl
    repeat' first|exact k9|refine k2 ?_|apply kA|apply kI;intro hc|apply kL;intro hl|((simp only[hcj])<;>conv=>whnf)|refine k8 ?_|fail
    apply kCt [2,4,6,7,10,11,24,25,26,52,53,54] [];conv=>whnf
    refine ih' (j+1) _ _ _ (by omega) (by omega) rfl rfl ?_;rw[←hfj,List.map_set (l:=cur'),hg];rfl
   ·rw[qD _ (by omega)]
    repeat' first|exact k9|refine k2 ?_|apply kA|apply kI;intro hc|refine k8 ?_|apply kL;intro hl
    apply kCt [2,4,6,7,24,25,26] [];conv=>whnf
    refine ih (i+1,pl.set k (i:Int),acc++[{ n with kids:=n.kids.map fun x=>(pl.set k (i:Int)).getD x.toNat 0 }]) _ _ _ (by dsimp only;omega) ⟨by dsimp only;omega,hps,by simp[hac],by simpa using hT⟩ rfl rfl ?_;rw[List.map_append];rfl
  ·apply Stp.on;have hn0:n.kids=[]:=OJ (by simp only[hli,Oo,hni] at hc;omega)
   repeat' first|exact k9|refine k2 ?_|apply kA|apply kI;intro hc|refine k8 ?_|apply kL;intro hl
   apply kCt [2,4,6,7,24,25,26] [];conv=>whnf
   rw[hn0] at hT;refine ih (i+1,pl.set k (i:Int),acc++[{ n with kids:=[] }]) _ _ _ (by dsimp only;omega) ⟨by dsimp only;omega,hps,by simp[hac],by simpa using hT⟩ rfl rfl ?_;rw[List.map_append,hpe];rfl
 ·rw[OE (by omega),bo,Oj] at hT
  repeat' first|exact k9|refine k2 ?_|apply kA|apply kI;intro hc|refine k8 ?_|apply kL;intro hl
  refine aa.i ?_;rw[show aw (aC t node)=F.ag [F.sl ((aC t node).nodes.map aT),inF ((aC t node).root)] from rfl,←hT,htot,Ok,show acc.length=l.length by omega]⟩
set_option maxRecDepth 100000
set_option maxHeartbeats 0
instance(t:Tre):C 81 [aw t] (aw (aW t)) false t.wf:=⟨fun ht=>by
 refine kf rfl rfl ?_;repeat' first|exact k9|refine k2 ?_|apply kA|apply kI;intro hc|refine k8 ?_|apply kL;intro hl
 ·exact⟨ht,ak hc,(ak hc).root⟩
 ·exact aa.i (by rw[jE hc])
 ·exact aa.i (by rw[kE hc];rfl)⟩
instance(t:Tre):C 45 [aw t] (.ag (aT (av t))) true t.wf:=⟨fun ht=>by
 refine kf rfl rfl ?_;repeat' first|exact k9|refine k2 ?_|apply kA|apply kI;intro hc|refine k8 ?_|apply kL;intro hl
 ·exact⟨(ak hc).root.1⟩
 ·exact⟨by have:=(ak hc).root;omega⟩
 ·refine aa.j ?_ rfl;rw[av,if_pos hc,List.getD_eq_getElem?_getD,Oe (by assumption)];rfl
 ·refine aa.j ?_ rfl;rw[av,if_neg (by rw[hc];decide)];rfl⟩
def iT(t:Tre)(node:Int):Tre×Bool:=if ao t=true∧0≤node∧node<t.nodes.length then (aC t node,true) else (.zero,false)
instance(t:Tre)(i:Int):C 114 [aw t,inF i] (.tp [aw (iT t i).1,boF (iT t i).2]) false t.wf:=⟨fun ht=>by
 refine kf rfl rfl ?_;repeat' first|exact k9|refine k2 ?_|apply kA|apply kI;intro hc|refine k8 ?_|apply kL;intro hl
 ·exact aa.i (by rw[iT,if_neg (by omega)];rfl)
 ·exact aa.i (by rw[iT,if_neg (by omega)];rfl)
 ·exact⟨ht,ak (by assumption),by omega,by omega⟩
 ·exact aa.i (by rw[iT,if_pos ⟨by assumption,by omega,by omega⟩])
 ·exact aa.i (by rw[iT,if_neg (by rw[hc];simp)];rfl)⟩
theorem HZ{α:Type}{a b:List α}{i:Nat}{ha:i<a.length}{hb:i<b.length}(h:a[i]≠b[i]):a≠b:=by
 rintro rfl
 exact h rfl
theorem py{α:Type}{a b:List α}{i:Nat}(h:a.take i=b.take i)(ha:i<a.length)(hb:i<b.length)(e:a[i]=b[i]):a.take (i+1)=b.take (i+1):=by
 rw[List.take_succ,List.take_succ,h,Oe ha,Oe hb,e]
theorem mn{α:Type}{a b:List α}{i:Nat}(h:a.take i=b.take i)(ha:a.length≤i)(hb:b.length≤i):a=b:=by
 rwa [Om ha,Om hb] at h
def ef(D:List Int)(d:Int)(m:Nat):List Int:=D++d :: List.replicate m 0
theorem yX(D:List Int)(d:Int)(m:Nat):(ef D d m).length=D.length+m+1:=by simp[ef];omega
theorem Ct{D:List Int}{d:Int}{m i:Nat}(e:D.length=i)(h:i<(ef D d m).length):(ef D d m)[i]'h=d:=by
 subst e;simp[ef]
theorem DF{D:List Int}{d:Int}{m k:Nat}(e:k<D.length)(h:k<(ef D d m).length):(ef D d m)[k]'h=D.getD k 0:=by
 simp[ef,P3,e]
theorem o3{D:List Int}{d y:Int}{m i:Nat}(e:D.length=i):(ef D d m).set i y=ef D y m:=by
 subst e;simp[ef]
theorem CX(a b:Int):(bif leI a b then b else a)=max a b:=by
 rw[ed]
 by_cases h:a≤b
 ·rw[decide_eq_true h];simp only[cond_true];omega
 ·rw[decide_eq_false h];simp only[cond_false];omega
theorem Nod.tE{n m:Nod}:n=m↔n.kind=m.kind∧n.set=m.set∧n.text=m.text∧n.min=m.min∧n.max=m.max∧n.kids=m.kids:=by
 cases n;cases m;simp
theorem Bts.tE{a b:Bts}:a=b↔[a.a,a.b,a.c,a.d]=[b.a,b.b,b.c,b.d]:=by
 cases a;cases b;simp
instance(a b:List Int):C 73 [isF a,isF b] (boF (decide (a=b))) true (a.length≤17592186044416∧b.length≤17592186044416):=⟨fun h=>by
 obtain⟨h1,h2⟩:=h;refine kf rfl rfl ?_;repeat' first|exact k9|refine k2 ?_|apply kA|apply kI;intro hc|refine k8 ?_|apply kL;intro hl
 ·have hab:a.length=b.length:=by omega
  apply kCt [0,1,12,13] [];conv=>whnf
  refine Lp.ind (fun x:Nat=>a.length - x) (fun x=>x≤a.length∧a.take x=b.take x) (fun x=>[(13,InD x)]) (fun _=>[]) (fun _=>(boF (decide (a=b)),true)) 0 ⟨by simp,by simp⟩ rfl rfl rfl ?_
  rintro G i ih ⟨hi,hT⟩
  repeat' first|exact k9|refine k2 ?_|apply kA|apply kI;intro hc|refine k8 ?_|apply kL;intro hl
  ·apply kCt [0,1,12,13] [];conv=>whnf
   exact ih (i+1) _ _ _ (by omega) ⟨by omega,py hT (by omega) (by omega) hc⟩ rfl rfl rfl
  ·exact aa.b (by rw[decide_eq_false (HZ hc)]) rfl
  ·exact aa.b (by rw[decide_eq_true (mn hT (by omega) (by omega))]) rfl
 ·exact aa.b (by rw[decide_eq_false (fun e=>by rw[e] at hc;omega)]) rfl⟩
instance(a b:Nod):C 34 [.ag (aT a),.ag (aT b)] (boF (decide (a=b))) true (a.wf∧b.wf):=⟨fun h=>by
 have ha:=h.1.kids.1;have hb:=h.2.kids.1;simp only[eX] at ha hb;refine kf rfl rfl ?_;repeat' first|exact k9|refine k2 ?_|apply kA|apply kI;intro hc|refine k8 ?_|apply kL;intro hl
 all_goals (refine aa.b ?_ rfl;rw[OV];simp_all [Nod.tE,Bts.tE])⟩
instance(a b:List Nod):C 32 [.sl (a.map aT),.sl (b.map aT),.cl 34 []] (boF (decide (a=b))) true ((a.length≤1466015503701∧∀n∈a,n.wf)∧(b.length≤1466015503701∧∀n∈b,n.wf)):=⟨fun h=>by
 obtain⟨⟨h1,w1⟩,h2,w2⟩:=h;refine kf rfl rfl ?_;repeat' first|exact k9|refine k2 ?_|apply kA|apply kI;intro hc|refine k8 ?_|apply kL;intro hl
 ·have hab:a.length=b.length:=by omega
  apply kCt [1,2,15,16,17] [];conv=>whnf
  refine Lp.ind (fun x:Nat=>a.length - x) (fun x=>x≤a.length∧a.take x=b.take x) (fun x=>[(17,InD x)]) (fun _=>[]) (fun _=>(boF (decide (a=b)),true)) 0 ⟨by simp,by simp⟩ rfl rfl rfl ?_
  rintro G i ih ⟨hi,hT⟩
  repeat' first|exact k9|refine k2 ?_|apply kA|apply kI;intro hc|refine k8 ?_|apply kL;intro hl
  ·exact⟨w1 _ (Of _),w2 _ (Of _)⟩
  ·apply kCt [1,2,15,16,17] [];conv=>whnf
   exact ih (i+1) _ _ _ (by omega) ⟨by omega,py hT (by omega) (by omega) hc⟩ rfl rfl rfl
  ·exact aa.b (by rw[decide_eq_false (HZ hc)]) rfl
  ·exact aa.b (by rw[decide_eq_true (mn hT (by omega) (by omega))]) rfl
 ·exact aa.b (by rw[decide_eq_false (fun e=>by rw[e] at hc;omega)]) rfl⟩
instance(a b:Tre):C 16 [aw a,aw b] (boF (j9 a b)) true (a.wf∧b.wf):=⟨fun h=>by
 obtain⟨ha,hb⟩:=h;refine kf rfl rfl ?_;repeat' first|exact k9|refine k2 ?_|apply kA|apply kI;intro hc|refine k8 ?_|apply kL;intro hl
 ·exact⟨ha,ak (by assumption),(ak (by assumption)).root⟩
 ·exact⟨hb,ak (by assumption),(ak (by assumption)).root⟩
 ·rename_i h1;have ra:=ak h1;have rb:=ak hc;have wa:=(je ha ra ra.root.1 ra.root.2).1;have wb:=(je hb rb rb.root.1 rb.root.2).1;exact⟨⟨wa.len,wa.nodes⟩,wb.len,wb.nodes⟩
 all_goals (refine aa.b ?_ rfl;simp_all [j9])
 all_goals try omega⟩
instance(t:Tre):C 128 [aw t] (inF (gL t)) true t.wf:=⟨fun ht=>by
 have hlen:=ht.len;simp only[b9] at hlen;refine kf rfl rfl ?_;repeat' first|exact k9|refine k2 ?_|apply kA|apply kI;intro hc|refine k8 ?_|apply kL;intro hl
 ·have hR:=ak hc;have hP:gL t=(iz t.nodes []).getD t.root.toNat 0:=by rw[gL,if_pos hc]
  apply kCt [1,3,16,17,18] [];conv=>whnf
  refine Lp.ind (fun x:Nat×List Int=>t.nodes.length - x.1) (fun x=>x.1≤t.nodes.length∧x.2.length=x.1∧(∀y∈x.2,0≤y∧y≤x.1)∧iz t.nodes []=iz (t.nodes.drop x.1) x.2) (fun x=>[(18,InD x.1)]) (fun x=>[(1,.ro 0 3 1 ((x.2++List.replicate (t.nodes.length - x.1) 0).map ikF))]) (fun _=>(inF (gL t),true)) (0,[]) ⟨by simp,rfl,by simp,rfl⟩ rfl rfl ?_ ?_
  ·simp only[OH,O9];rw[show(List.replicate t.nodes.length (0:Int)).map ikF=List.replicate (t.nodes.map aT).length (ikF 0) by simp];rfl
  rintro G ⟨i,L⟩ ih ⟨hi,hD,hb,hT⟩
  dsimp only at hi hD hb hT ih ⊢
  by_cases hx:i<t.nodes.length
  ·obtain⟨n,hn⟩:=exEq (t.nodes[i]);have hni:∀h,t.nodes[i]'h=n:=fun _=>hn.symm
   have hkl:n.kids.length≤17592186044416:=by rw[hn];exact(ht.nodes _ (Of hx)).kids.1
   obtain⟨m,hm⟩:∃m,t.nodes.length - i=m+1:=⟨t.nodes.length - i - 1,by omega⟩
   rw[hm,show L++List.replicate (m+1) 0=ef L 0 m from rfl];rw[Oz hx,←hn,iz] at hT;have hkw:∀x∈n.kids,0≤x∧x<i:=fun x hxk=>hR.kok i n (by rw[hn];exact Oe hx) x hxk
   repeat' first|exact k9|refine k2 ?_|apply kA|apply kI;intro hc|apply kL;intro hl|((simp only[hni])<;>conv=>whnf)|refine k8 ?_|fail
   apply kCt [1,3,4,16,17,18,24,25,26] [];conv=>whnf
   refine Lp.ind (fun x:Nat×Int=>n.kids.length - x.1) (fun x=>x.1≤n.kids.length∧0≤x.2∧x.2≤i∧fB L 0 n.kids=fB L x.2 (n.kids.drop x.1)) (fun x=>[(26,InD x.1)]) (fun x=>[(1,.ro 0 3 1 ((ef L x.2 m).map ikF))]) (fun _=>(inF (gL t),true)) (0,0) ⟨by simp,by simp,by simp,rfl⟩ rfl rfl rfl ?_
   rintro G' ⟨j,d⟩ ih' ⟨hj,hd0,hd1,hK⟩
   dsimp only at hj hd0 hd1 hK ih' ⊢;have hlr:=yX L d m;have hai:∀h:i<(ef L d m).length,(ef L d m)[i]'h=d:=fun h=>Ct hD h
   by_cases hy:j<n.kids.length
   ·have hkj:=hkw _ (Of hy);have hal:∀h:n.kids[j].toNat<(ef L d m).length,(ef L d m)[n.kids[j].toNat]'h=L.getD n.kids[j].toNat 0:=fun h=>DF (by omega) h
    have hdb:0≤L.getD n.kids[j].toNat 0∧L.getD n.kids[j].toNat 0≤i:=by
     rw[List.getD_eq_getElem?_getD,Oe (by omega)];exact hb _ (Of _)
    rw[Oz hy,fB] at hK;have hds:(ef L d m).set i (max d (L.getD n.kids[j].toNat 0))=ef L (max d (L.getD n.kids[j].toNat 0)) m:=o3 hD;generalize ef L d m=cur at *
    repeat' first|exact k9|refine k2 ?_|apply kA|apply kI;intro hc|apply kL;intro hl|((simp only[hai,hal])<;>conv=>whnf)|refine k8 ?_|fail
    apply kCt [1,3,4,16,17,18,24,25,26] [];conv=>whnf
    refine ih' (j+1,max d (L.getD n.kids[j].toNat 0)) _ _ _ (by dsimp only;omega) ⟨by dsimp only;omega,by dsimp only;omega,by dsimp only;omega,hK⟩ rfl rfl ?_;dsimp only;rw[←hds,List.map_set,←CX];rfl
   ·rw[OE (by omega),fB] at hK;have hds:(ef L d m).set i (d+1)=ef L (d+1) m:=o3 hD;generalize ef L d m=cur at *
    repeat' first|exact k9|refine k2 ?_|apply kA|apply kI;intro hc|apply kL;intro hl|((simp only[hai])<;>conv=>whnf)|refine k8 ?_|fail
    apply kCt [1,3,16,17,18] [];conv=>whnf
    refine ih (i+1,L++[d+1]) _ _ _ (by dsimp only;omega) ⟨by dsimp only;omega,by simp[hD],?_,by rw[hT,hK]⟩ rfl rfl ?_
    ·intro y hy;dsimp only at hy ⊢;rcases Oy.1 hy with hy|hy
     ·have:=hb y hy;omega
     ·simp at hy;omega
    ·dsimp only;rw[show t.nodes.length - (i+1)=m by omega,show L++[d+1]++List.replicate m 0=ef L (d+1) m by simp[ef],←hds,List.map_set];rfl
  ·rw[OE (by omega),iz] at hT;rw[show t.nodes.length - i=0 by omega,Qe,Oj];have hrt:=hR.root;have hrl:t.root.toNat<L.length:=by omega
   repeat' first|exact k9|refine k2 ?_|apply kA|apply kI;intro hc|refine k8 ?_|apply kL;intro hl
   refine aa.n ?_ rfl;rw[hP,hT,List.getD_eq_getElem?_getD,Oe hrl];rfl
 ·exact aa.n (by rw[gL,if_neg (by rw[hc];decide)]) rfl⟩
instance(t:Tre):C 46 [aw t] (dO (ae t)) false t.wf:=⟨fun ht=>by
 have hlen:=ht.len;simp only[b9] at hlen;have hwx:=wu ht
 cases hri:ao t with
 | false=>
  have h1:=kE hri;have h2:ae t=[]:=by rw[ae,if_neg (by rw[hri];simp)]
  have h3:(aW t).nodes.length=0:=by rw[h1];rfl
  refine kf rfl rfl ?_;repeat' first|exact k9|refine k2 ?_|apply kA|apply kI;intro hc|refine k8 ?_|apply kL;intro hl
  exact aa.i (by rw[h2];rfl)
 | true=>
  obtain⟨n,Fk,hF,hb,hf⟩:=fX (ak hri);have hsz:=dF (ak hri);have hk0:ae t=Fk.trees:=by rw[ae,if_pos hri,hF];rfl
  have hC:aW t=aR (.cons n Fk .nil):=by rw[eQ hri,hF]
  have hsz':Fk.size+1=t.nodes.length:=by rw[←hsz,hF];simp[Fo.size]
  have hl:(aW t).nodes.length=Fk.size+1:=by rw[hC];show((Fo.cons n Fk .nil).ar 0).length=_;rw[Fo.cT];rfl
  have hroot:(aW t).root=(Fk.size:Int):=by rw[hC];show(((Fk.size+1+0:Nat):Int) - 1)=_;omega
  have hnod:(aW t).nodes=Fk.ar 0++[{ n with kids:=Fk.bX 0 }]:=by rw[hC];show(Fo.cons n Fk .nil).ar 0=_;simp[Fo.ar]
  have hg:∀h:(aW t).root.toNat<(aW t).nodes.length,(aW t).nodes[(aW t).root.toNat]'h={ n with kids:=Fk.bX 0 }:=by
   intro h;simp only[hroot,Oo,hnod];rw[Qo (by rw[Fo.cT];omega)];simp
  have htl:(Fk.bX 0).length=Fk.len:=Fo.kh Fk 0;have hls:=Fo.zB Fk;have hround:∀(A:Fo) (m:Nod) (j r:Fo),A.app (.cons m j r)=Fk→A.len<Fk.len∧A.size+j.size+1≤Fk.size∧(∀h:A.len<(Fk.bX 0).length,(Fk.bX 0)[A.len]'h=((A.size+j.size:Nat):Int))∧
    ((aW t).nodes.take (A.size+j.size+1)).drop A.size=(Fo.cons m j .nil).ar A.size∧b8 ((Fo.cons m j .nil).ar A.size) (-(A.size:Int))=(aR (.cons m j .nil)).nodes∧(aR (.cons m j .nil)).root=(j.size:Int)∧(A.app (.cons m j .nil)).app r=Fk∧(A.app (.cons m j .nil)).trees=A.trees++[aR (.cons m j .nil)]:=by
   intro A m j r hAB;have e0:Fk.size=A.size+(j.size+1+r.size):=by rw[←hAB,Fo.eo];rfl
   have e1:Fk.len=A.len+(r.len+1):=by rw[←hAB,Fo.mT];rfl
   refine⟨by omega,by omega,?_,?_,?_,?_,?_,?_⟩
   ·intro h;have hkk:(Fk.bX 0)[A.len]?=some ((A.size+j.size:Nat):Int):=by
     rw[←hAB,Fo.tv,OL (by rw[Fo.kh];omega),Fo.kh,Pt,OS];rfl
    rw[Oe h] at hkk;exact Option.some.inj hkk
   ·have e2:(aW t).nodes=A.ar 0++((Fo.cons m j .nil).ar A.size++(r.ar (A.size+j.size+1)++[{ n with kids:=Fk.bX 0 }])):=by
     rw[hnod,←hAB,Fo.AG,OS];simp[Fo.ar]
    rw[e2,Q8,P8 (by rw[Fo.cT];omega),OE (by rw[Fo.cT];omega),OH,PM (by rw[Fo.cT];simp[Fo.size];omega),Om (by rw[Fo.cT];simp[Fo.size];omega)]
   ·show b8 ((Fo.cons m j .nil).ar A.size) (-(A.size:Int))=(Fo.cons m j .nil).ar 0
    rw[show A.size=0+A.size by omega,←Fo.oW,OS];simp only[b8,Rv];conv=>rhs;rw[←List.map_id ((Fo.cons m j .nil).ar 0)]
    refine Pk fun x _=>?_
    cases x;simp[Function.comp_def,Int.add_neg_cancel_right]
   ·show(((j.size+1+0:Nat):Int) - 1)=_
    omega
   ·rw[Fo.m4];exact hAB
   ·rw[Fo.fe];rfl
  have hrow:∀(A:Fo) (m:Nod) (j r:Fo),A.app (.cons m j r)=Fk→fg (aR (.cons m j .nil))=[F.sl ((b8 (List.drop A.size (List.take (A.size+j.size+1) (aW t).nodes)) (0 - (A.size:Int))).map aT),inF (((A.size+j.size:Nat):Int) - A.size)]:=by
   intro A m j r hAB;obtain⟨f1,f2,f3,f4,f5,f6,f7,f8⟩:=hround A m j r hAB;rw[f4,Int.zero_sub,f5,show(((A.size+j.size:Nat):Int) - A.size)=j.size by omega,←f6]
  have hpre:∀(A:Fo) (m:Nod) (j r:Fo),A.app (.cons m j r)=Fk→(List.drop A.size (List.take (A.size+j.size+1) (aW t).nodes)).length≤1466015503701∧(∀n∈List.drop A.size (List.take (A.size+j.size+1) (aW t).nodes),n.wf)∧(∀n∈List.drop A.size (List.take (A.size+j.size+1) (aW t).nodes),∀k∈n.kids,-9223372036854775808≤k+(0 - (A.size:Int))∧k+(0 - (A.size:Int))≤9223372036854775807):=by
   intro A m j r hAB;obtain⟨f1,f2,f3,f4,f5,f6,f7,f8⟩:=hround A m j r hAB;have hsub:∀x∈List.drop A.size (List.take (A.size+j.size+1) (aW t).nodes),x∈(aW t).nodes:=fun x hx=>OC (OM hx)
   have hR:=(Ap t).trans hri;refine⟨by simp only[OX,Ou];omega,fun x hx=>hwx.nodes x (hsub x hx),fun x hx k hk=>?_⟩;obtain⟨i,hi,rfl⟩:=OT (hsub x hx);have:=(ak hR).kok i _ (Oe hi) k hk;omega
  rw[hk0];refine kf rfl rfl ?_;repeat' first|exact k9|refine k2 ?_|apply kA|apply kI;intro hc|apply kL;intro hl|((simp only[hg])<;>conv=>whnf)|refine k8 ?_|fail
  cases hFk:Fk with
  | nil=>
   subst hFk;apply Stp.on
   repeat' first|exact k9|refine k2 ?_|apply kA|apply kI;intro hc|refine k8 ?_|apply kL;intro hl
   exact aa.i rfl
  | cons m j r=>
   obtain⟨f1,f2,f3,f4,f5,f6,f7,f8⟩:=hround .nil m j r hFk.symm;have g3:∀h:0<(Fk.bX 0).length,(Fk.bX 0)[0]'h=(j.size:Int):=fun h=>(f3 h).trans (by simp[Fo.size])
   have e3:((j.size:Int)+1).toNat=j.size+1:=by omega
   rw[←hFk];apply Stp.on
   repeat' first|exact k9|refine k2 ?_|apply kA|apply kI;intro hc|apply kL;intro hl|((simp only[g3])<;>conv=>whnf)|((simp only[e3])<;>conv=>whnf)|((simp only[←List.map_take,←List.map_drop])<;>conv=>whnf)|refine k8 ?_|fail
   ·have:=hpre .nil m j r hFk.symm;simp only[Fo.size,OS] at this;exact⟨this⟩
   have h0:=hrow .nil m j r hFk.symm;simp only[Fo.size,OS] at h0;apply kCt [1,3,4,19,20,21] [];conv=>whnf
   refine Lp.ind (fun x:Fo×Fo=>x.2.len) (fun x=>x.1.app x.2=Fk) (fun x=>[(21,InD x.1.len),(4,InD x.1.size)]) (fun x=>[(1,.ro 0 38 2 (x.1.trees.map fg))]) (fun _=>(dO Fk.trees,false)) (.cons m j .nil,r) hFk.symm rfl rfl ?_ ?_
   ·rw[show(Fo.cons m j .nil).trees.map fg=[fg (aR (.cons m j .nil))] from rfl,h0];rfl
   rintro G ⟨A,B⟩ ih hAB
   dsimp only at hAB ih ⊢
   cases B with
   | nil=>
    have hA:A=Fk:=by rw[←hAB,Fo.Db]
    subst hA
    repeat' first|exact k9|refine k2 ?_|apply kA|apply kI;intro hc|refine k8 ?_|apply kL;intro hl
   | cons m' j' r'=>
    obtain⟨f1,f2,f3,f4,f5,f6,f7,f8⟩:=hround A m' j' r' hAB;have e4:(((A.size+j'.size:Nat):Int)+1).toNat=A.size+j'.size+1:=by omega
    have hAl:A.trees.length=A.len:=Fo.bq A
    repeat' first|exact k9|refine k2 ?_|apply kA|apply kI;intro hc|apply kL;intro hl|((simp only[f3])<;>conv=>whnf)|((simp only[e4])<;>conv=>whnf)|((simp only[←List.map_take,←List.map_drop])<;>conv=>whnf)|refine k8 ?_|fail
    ·exact⟨hpre A m' j' r' hAB⟩
    apply kCt [1,3,4,19,20,21] [];conv=>whnf
    refine ih (A.app (.cons m' j' .nil),r') _ _ _ (by simp only[Fo.len];omega) f7 rfl ?_ ?_
    ·dsimp only;rw[Fo.mT,Fo.eo];rfl
    ·dsimp only;rw[f8,List.map_append,show List.map fg [aR (.cons m' j' .nil)]=[fg (aR (.cons m' j' .nil))] from rfl,hrow A m' j' r' hAB];rfl⟩
set_option maxRecDepth 100000
set_option maxHeartbeats 0
theorem M4(kind sa sb sc sd:Int)(text:ByteArray)(lo hi:Int)(K:List (List F))(l:List Tre)(hn:(⟨kind,⟨sa,sb,sc,sd⟩,text,lo,hi,[]⟩:Nod).wf)(hl:l.length≤1466015503701)(hw:∀t∈l,t.wf)(ht:tot l+1≤1466015503701) :
  Pure Tryz.prog X1.Γ 136 [.ag [byF kind,.vl (.int .u64 sa),.vl (.int .u64 sb),.vl (.int .u64 sc),.vl (.int .u64 sd),stF text,inF lo,inF hi,.sl K],dO l]
   (.tp [aw (ofP ⟨kind,⟨sa,sb,sc,sd⟩,text,lo,hi,[]⟩ l).1,boF (ofP ⟨kind,⟨sa,sb,sc,sd⟩,text,lo,hi,[]⟩ l).2]) false:=by
 obtain⟨n,hnn⟩:∃n:Nod,n=⟨kind,⟨sa,sb,sc,sd⟩,text,lo,hi,[]⟩:=⟨_,rfl⟩
 have hF:∀x,fits ⟨kind,⟨sa,sb,sc,sd⟩,text,lo,hi,[]⟩ x=fits n x:=fun x=>by rw[hnn]
 rw[←hnn];refine kf rfl rfl ?_;repeat' first|exact k9|refine k2 ?_|apply kA|apply kI;intro hc|refine k8 ?_|apply kL;intro hl
 ·have hfit:fits n l.length=true:=by rw[←hF];exact hc
  have hno:jQ l [] []=none→ofP n l=(.zero,false):=fun h=>by rw[ofP,if_pos hfit,h]
  have hyes:∀a ks,jQ l [] []=some (a,ks)→ofP n l=(⟨a++[{ n with kids:=ks }],a.length⟩,true):=fun a ks h=>by rw[ofP,if_pos hfit,h]
  have hmv:∀k∈l,ao k=true→∀d:Nat,d≤1466015503701→(aC k k.root).nodes.length≤k.nodes.length∧((aC k k.root).nodes.length≤1466015503701∧(∀n∈(aC k k.root).nodes,n.wf)∧(∀n∈(aC k k.root).nodes,∀x∈n.kids,-9223372036854775808≤x+(d:Int)∧x+(d:Int)≤9223372036854775807)):=by
   intro k hk hr d hd;have hR:=ak hr;obtain⟨w1,w2⟩:=je (hw k hk) hR hR.root.1 hR.root.2;have hlen:=w1.len;simp only[b9] at hlen w2;exact⟨jz hR hR.root.1 hR.root.2,hlen,w1.nodes,fun n hn x hx=>by have:=w2 n hn x hx;omega⟩
  have hml:∀(xs:List Nod) (d:Int),(b8 xs d).length=xs.length:=fun xs d=>by simp[b8]
  cases hll:l with
  | nil=>
   subst hll;apply Stp.on
   repeat' first|exact k9|refine k2 ?_|apply kA|apply kI;intro hc|refine k8 ?_|apply kL;intro hl
   refine aa.i ?_;rw[hyes [] [] rfl,hnn];rfl
  | cons k rest=>
   rw[←hll];have hl0:∀h:0<l.length,l[0]'h=k:=fun h=>by simp[hll]
   have hkl:k∈l:=by simp[hll]
   have hl1:0<l.length:=by simp[hll]
   have hd1:l.drop 1=rest:=by simp[hll]
   have hwk:=hw k hkl;have htk:k.nodes.length+tot rest=tot l:=by rw[hll,fE]
   apply Stp.on
   cases hr:ao k with
   | false=>
    repeat' first|exact k9|refine k2 ?_|apply kA|apply kI;intro hc|apply kL;intro hl|((simp only[hl0])<;>conv=>whnf)|refine k8 ?_|fail
    refine aa.i ?_;rw[hno (by rw[hll,jQ,if_neg (by rw[hr];decide)])];rfl
   | true=>
    have hRk:=ak hr;have hpk:k.wf∧ax k∧0≤k.root∧k.root<k.nodes.length:=⟨hwk,hRk,hRk.root⟩
    obtain⟨hm1,hm2⟩:=hmv k hkl hr 0 (by omega);have hm3:=hml (aC k k.root).nodes 0;rw[Qh] at hm2
    repeat' first|exact k9|refine k2 ?_|apply kA|apply kI;intro hc|apply kL;intro hl|((simp only[hl0])<;>conv=>whnf)|refine k8 ?_|fail
    apply kCt [2,4,6,7,16,17,18] [];conv=>whnf
    refine Lp.ind (fun x:Nat×List Nod×List Int=>l.length - x.1) (fun x=>0<x.1∧x.1≤l.length∧x.2.2.length=x.1∧x.2.1.length+tot (l.drop x.1)≤tot l∧jQ l [] []=jQ (l.drop x.1) x.2.1 x.2.2) (fun x=>[(18,InD x.1)]) (fun x=>[(2,.ro 0 45 9 (x.2.1.map aT)),(3,.ro 0 3 1 (x.2.2.map ikF))]) (fun _=>(.tp [aw (ofP n l).1,boF (ofP n l).2],false))
     (1,b8 (aC k k.root).nodes 0,[(((aC k k.root).nodes.length:Nat):Int) - 1]) ⟨by dsimp only;omega,by dsimp only;rw[hll];simp,rfl,?_,?_⟩ rfl rfl ?_ ?_
    ·dsimp only;rw[hd1,hm3];omega
    ·dsimp only;rw[hd1,hll,jQ,if_pos hr];simp
    ·simp only[Ok,hm3];rfl
    rintro G ⟨i,ar,ks⟩ ih ⟨hi0,hi1,hks,hto,hT⟩
    dsimp only at hi0 hi1 hks hto hT ih ⊢
    by_cases hx:i<l.length
    ·obtain⟨q,hq⟩:=exEq (l[i]);have hqi:∀h:i<l.length,l[i]'h=q:=fun _=>hq.symm
     have hql:q∈l:=by rw[hq];exact Of hx
     have hwq:=hw q hql;rw[Oz hx,←hq] at hT hto;rw[fE] at hto;rw[jQ] at hT
     cases hrq:ao q with
     | false=>
      rw[if_neg (by rw[hrq];decide)] at hT
      repeat' first|exact k9|refine k2 ?_|apply kA|apply kI;intro hc|apply kL;intro hl|((simp only[hqi])<;>conv=>whnf)|refine k8 ?_|fail
      refine aa.i ?_;rw[hno hT];rfl
     | true=>
      rw[if_pos hrq] at hT;have hRq:=ak hrq;have hpq:q.wf∧ax q∧0≤q.root∧q.root<q.nodes.length:=⟨hwq,hRq,hRq.root⟩
      obtain⟨hm4,hm5⟩:=hmv q hql hrq ar.length (by omega);have hm6:=hml (aC q q.root).nodes ar.length;have har:(List.map aT ar).length=ar.length:=Ok ..
      repeat' first|exact k9|refine k2 ?_|apply kA|apply kI;intro hc|apply kL;intro hl|((simp only[hqi])<;>conv=>whnf)|((simp only[har])<;>conv=>whnf)|refine k8 ?_|fail
      apply kCt [2,4,6,7,16,17,18] [];conv=>whnf
      refine ih (i+1,ar++b8 (aC q q.root).nodes ar.length,ks++[((ar.length+(aC q q.root).nodes.length:Nat):Int) - 1]) _ _ _ (by dsimp only;omega) ⟨by dsimp only;omega,by dsimp only;omega,by simp[hks],by simp only[Oh,hm6];omega,hT⟩ rfl rfl ?_;have e1:(List.map aT ar++List.map aT (b8 (aC q q.root).nodes ar.length)).length=ar.length+(aC q q.root).nodes.length:=by simp only[Oh,Ok,hm6]
      rw[e1];dsimp only;rw[show List.map aT (ar++b8 (aC q q.root).nodes ar.length)=List.map aT ar++List.map aT (b8 (aC q q.root).nodes ar.length) from List.map_append ..,show List.map ikF (ks++[((ar.length+(aC q q.root).nodes.length:Nat):Int) - 1])=List.map ikF ks++[ikF (((ar.length+(aC q q.root).nodes.length:Nat):Int) - 1)] from by simp];rfl
    ·rw[OE (by omega),jQ] at hT;rw[hyes _ _ hT,hnn]
     repeat' first|exact k9|refine k2 ?_|apply kA|apply kI;intro hc|refine k8 ?_|apply kL;intro hl
     refine aa.i ?_;simp only[aw,fg,List.map_append];refine congrArg (fun z=>F.tp [F.ag [F.sl (List.map aT ar++[[byF kind,F.vl (.int .u64 sa),F.vl (.int .u64 sb),F.vl (.int .u64 sc),F.vl (.int .u64 sd),stF text,inF lo,inF hi,F.sl (List.map ikF ks)]]),inF z],boF true]) ?_;simp
 ·refine aa.i ?_;rw[ofP,if_neg (by rw[←hF,hc];decide)];rfl
instance(kind sa sb sc sd:Int)(text:ByteArray)(lo hi:Int)(K:List (List F))(l:List Tre):C 136 [.ag [byF kind,.vl (.int .u64 sa),.vl (.int .u64 sb),.vl (.int .u64 sc),.vl (.int .u64 sd),stF text,inF lo,inF hi,.sl K],dO l]
  (.tp [aw (ofP ⟨kind,⟨sa,sb,sc,sd⟩,text,lo,hi,[]⟩ l).1,boF (ofP ⟨kind,⟨sa,sb,sc,sd⟩,text,lo,hi,[]⟩ l).2]) false ((⟨kind,⟨sa,sb,sc,sd⟩,text,lo,hi,[]⟩:Nod).wf∧l.length≤1466015503701∧(∀t∈l,t.wf)∧tot l+1≤1466015503701):=⟨fun h=>M4 kind sa sb sc sd text lo hi K l h.1 h.2.1 h.2.2.1 h.2.2.2⟩
instance(t:Tre):C 96 [aw t] (boF (kO t)) true t.wf:=⟨fun ht=>by
 refine kf rfl rfl ?_;repeat' first|exact k9|refine k2 ?_|apply kA|apply kI;intro hc|refine k8 ?_|apply kL;intro hl
 all_goals (refine aa.b ?_ rfl;simp_all [kO,ed])
 all_goals try omega⟩
end Go.Km
end
section
namespace Go.Km
open Go Go.Vc Go.Proofs Go.ab Go.Proofs.YthebhpcjcihjgaaGreatDoor
set_option maxRecDepth 100000
set_option maxHeartbeats 0
instance:Bt 172:=⟨trivial⟩
instance:Bt 152:=⟨trivial⟩
instance:Bt 173:=⟨trivial⟩
instance:Bt 153:=⟨trivial⟩
instance:Bt 154:=⟨trivial⟩
instance:Bt 138:=⟨trivial⟩
instance:Mz 155:=⟨trivial⟩
theorem lX{α β:Type}(f:α→β)(l:List α)(a:α):List.map f (l++[a])=List.map f l++[f a]:=by simp
abbrev jW(k a b c d:Int)(s:ByteArray)(x y:Int)(K:List (List F)):List F:=[byF k,.vl (.int .u64 a),.vl (.int .u64 b),.vl (.int .u64 c),.vl (.int .u64 d),stF s,inF x,inF y,.sl K]
instance(L:List Nod)(k a b c d:Int)(s:ByteArray)(x y:Int)(K:List (List F)):HA Tryz.prog X1.Γ 172 169 45 9 (L.map aT) [.ag (jW k a b c d s x y K)] (inF L.length) (L.map aT++[jW k a b c d s x y K]) (L.length<1466015503701):=⟨fun hL=>by
 refine⟨fun η b_ v_ b2_ v2_ h1_ h2_=>m6 fH rfl rfl ?_ h1_ h2_⟩;intro vs_;repeat' first|exact k9|refine k2 ?_|apply kA|apply kI;intro hc|refine k8 ?_|apply kL;intro hl
 exact dI.n (by simp) rfl⟩
instance(L:List Nod)(k a b c d:Int)(s:ByteArray)(x y:Int)(K:List (List F))(ks:List Int):HA Tryz.prog X1.Γ 152 169 45 9 (L.map aT) [.ag (jW k a b c d s x y K),.sl (ks.map ikF)] (inF L.length) (L.map aT++[jW k a b c d s x y (ks.map ikF)]) (L.length<1466015503701):=⟨fun hL=>by
 refine⟨fun η b_ v_ b2_ v2_ h1_ h2_=>m6 fH rfl rfl ?_ h1_ h2_⟩;intro vs_;repeat' first|exact k9|refine k2 ?_|apply kA|apply kI;intro hc|refine k8 ?_|apply kL;intro hl
 exact dI.i rfl rfl⟩
theorem jq(L:List Nod){q:Nat}(h:q<L.length):bj L (q:Int)=(L[((q:Nat):Int).toNat]'(by simpa using h)).kind:=by
 unfold bj;simp[List.getD_eq_getElem?_getD,Oe h]
def flK(L:List Nod)(k:Int)(l:List Int):List Int:=if k=4 then uE L l else l
theorem Hw(L:List Nod)(k x:Int)(l:List Int):flK L k (x :: l)=(if k=4∧bj L x=0 then [] else [x])++flK L k l:=by
 unfold flK uE
 by_cases h:k=4<;>by_cases h2:bj L x=0<;>simp[h,h2]
abbrev JoK(L:List Nod)(k a b c d:Int)(s:ByteArray)(x y:Int)(ks:List Int)(e:Nod):List Nod×Int:=uu L ⟨k,⟨a,b,c,d⟩,s,x,y,[]⟩ e (flK L k ks)
instance(L:List Nod)(k a b c d:Int)(s:ByteArray)(x y:Int)(K:List (List F))(ks:List Int)(k' a' b' c' d':Int)(s':ByteArray)(x' y':Int):HA Tryz.prog X1.Γ 173 169 45 9 (L.map aT) [.ag (jW k a b c d s x y K),.sl (ks.map ikF),.ag (jW k' a' b' c' d' s' x' y' [])]
  (inF (JoK L k a b c d s x y ks ⟨k',⟨a',b',c',d'⟩,s',x',y',[]⟩).2) ((JoK L k a b c d s x y ks ⟨k',⟨a',b',c',d'⟩,s',x',y',[]⟩).1.map aT) (L.length<1466015503701∧ks.length≤17592186044416∧∀x∈ks,0≤x∧x<(L.length:Int)):=⟨fun h=>by
 obtain⟨hL,hkl,hks⟩:=h;refine⟨fun η b_ v_ b2_ v2_ h1_ h2_=>m6 fH rfl rfl ?_ h1_ h2_⟩;intro vs_;repeat' first|exact k9|refine k2 ?_|apply kA|apply kI;intro hc|refine k8 ?_|apply kL;intro hl
 apply Stp.Ip 7 25 3 1 rfl rfl;apply kCt [4,5,7,9,10,14,15,16] [];conv=>whnf
 obtain⟨RR,hRR⟩:∃RR:List Nod×Int,RR=JoK L k a b c d s x y ks ⟨k',⟨a',b',c',d'⟩,s',x',y',[]⟩:=⟨_,rfl⟩
 rw[←hRR];refine Lp.ind (fun z:Nat×List Int=>ks.length - z.1) (fun z=>z.1≤ks.length∧z.2.length≤z.1∧(∀x∈z.2,0≤x∧x<(L.length:Int))∧z.2++flK L k (ks.drop z.1)=flK L k ks) (fun z=>[(16,InD z.1)]) (fun z=>[(6,.ro 0 3 1 (z.2.map ikF))]) (fun _=>_) (0,[]) ⟨by simp,by simp,by simp,by simp⟩ rfl rfl rfl ?_
 rintro G ⟨i,P⟩ ih ⟨hi,hP,hPm,hT⟩
 dsimp only at hi hP hPm hT ih ⊢
 by_cases hx:i<ks.length
 ·have hk0:=hks _ (Of hx);rw[Oz hx,Hw] at hT;obtain⟨q,hq⟩:∃q:Nat,ks[i]=q:=⟨ks[i].toNat,by omega⟩
  have hqi:∀h:i<ks.length,ks[i]'h=(q:Int):=fun _=>hq
  rw[hq] at hT hk0
  repeat' first|exact k9|refine k2 ?_|apply kA|apply kI;intro hc|apply kL;intro hl|((simp only[hqi])<;>conv=>whnf)|refine k8 ?_|fail
  ·apply kCt [4,5,7,9,10,14,15,16] [];conv=>whnf
   refine ih (i+1,P) _ _ _ (by dsimp only;omega) ⟨by dsimp only;omega,by dsimp only;omega,hPm,?_⟩ rfl rfl rfl;rename_i h4;have h0:=hc;simp only[hqi] at h0;rw[if_pos ⟨h4,by rw[jq L (by omega)];exact h0⟩,OH] at hT;exact hT
  ·rename_i h4;have h0:=hc;simp only[hqi] at h0;rw[if_neg (fun h=>h0 (by rw[←jq L (by omega)];exact h.2))] at hT;apply kCt [4,5,7,9,10,14,15,16] [];conv=>whnf
   refine ih (i+1,P++[(q:Int)]) _ _ _ (by dsimp only;omega) ⟨by dsimp only;omega,by simp;omega,?_,by simpa using hT⟩ rfl rfl (by simp only[List.map_append];rfl);intro x hx;rcases Oy.1 hx with hx|hx
   ·exact hPm x hx
   ·simp at hx;omega
  ·rename_i h4;rw[if_neg (fun h=>hc h.1)] at hT;apply kCt [4,5,7,9,10,14,15,16] [];conv=>whnf
   refine ih (i+1,P++[(q:Int)]) _ _ _ (by dsimp only;omega) ⟨by dsimp only;omega,by simp;omega,?_,by simpa using hT⟩ rfl rfl (by simp only[List.map_append];rfl);intro x hx;rcases Oy.1 hx with hx|hx
   ·exact hPm x hx
   ·simp at hx;omega
 ·rw[OE (by omega),show flK L k []=[] by simp[flK,uE],Oj] at hT;have hR2:RR=uu L ⟨k,⟨a,b,c,d⟩,s,x,y,[]⟩ ⟨k',⟨a',b',c',d'⟩,s',x',y',[]⟩ P:=by rw[hRR,hT]
  clear hRR;subst hR2
  repeat' first|exact k9|refine k2 ?_|apply kA|apply kI;intro hc|refine k8 ?_|apply kL;intro hl
  ·obtain rfl:P=[]:=OJ (by omega);exact dI.i rfl (by simp only[uu,List.map_append];rfl)
  ·obtain⟨p,rfl⟩:∃p,P=[p]:=P2.1 (by omega);exact dI.i rfl rfl
  ·rename_i h0
   match P,h0,hc with
   | [],h0,_=>simp at h0
   | [p],_,h1=>simp at h1
   | p :: q :: l,_,_=>exact dI.i rfl (by simp only[uu,List.map_append];rfl)⟩
instance(L:List Nod)(a b c d:Int)(s:ByteArray)(x y:Int)(K:List (List F))(ks:List Int):HA Tryz.prog X1.Γ 153 169 45 9 (L.map aT) [.ag (jW 4 a b c d s x y K),.sl (ks.map ikF)]
  (inF (lP L ⟨4,⟨a,b,c,d⟩,s,x,y,[]⟩ ks).2) ((lP L ⟨4,⟨a,b,c,d⟩,s,x,y,[]⟩ ks).1.map aT) (L.length<1466015503701∧ks.length≤17592186044416∧∀x∈ks,0≤x∧x<(L.length:Int)):=⟨fun h=>by
 refine⟨fun η b_ v_ b2_ v2_ h1_ h2_=>m6 fH rfl rfl ?_ h1_ h2_⟩;intro vs_;repeat' first|exact k9|refine k2 ?_|apply kA|apply kI;intro hc|refine k8 ?_|apply kL;intro hl
 exact dI.i rfl rfl⟩
instance(L:List Nod)(a b c d:Int)(s:ByteArray)(x y:Int)(K:List (List F))(ks:List Int):HA Tryz.prog X1.Γ 154 169 45 9 (L.map aT) [.ag (jW 5 a b c d s x y K),.sl (ks.map ikF)]
  (inF (lP L ⟨5,⟨a,b,c,d⟩,s,x,y,[]⟩ ks).2) ((lP L ⟨5,⟨a,b,c,d⟩,s,x,y,[]⟩ ks).1.map aT) (L.length<1466015503701∧ks.length≤17592186044416∧∀x∈ks,0≤x∧x<(L.length:Int)):=⟨fun h=>by
 refine⟨fun η b_ v_ b2_ v2_ h1_ h2_=>m6 fH rfl rfl ?_ h1_ h2_⟩;intro vs_;repeat' first|exact k9|refine k2 ?_|apply kA|apply kI;intro hc|refine k8 ?_|apply kL;intro hl
 exact dI.i rfl rfl⟩
instance(L:List Nod)(node:Int):HR Tryz.prog X1.Γ 155 169 45 9 (L.map aT) [inF node]
  (isF (chO L node)) (L.length≤1466015503701∧cb (ah L)∧0≤node∧node<L.length∧(dfs (ah L) L.length [node]).length≤1466015503701):=⟨fun h=>by
 obtain⟨hL,hch,h0,hn,hroom⟩:=h;obtain⟨nd,rfl⟩:∃nd:Nat,node=nd:=⟨node.toNat,by omega⟩
 have hlt:nd<L.length:=by omega
 obtain⟨n,hnn⟩:=exEq (L[nd]);have hni:∀h:nd<L.length,L[nd]'h=n:=fun _=>hnn.symm
 have hkA:bj L nd=n.kind:=by rw[jq L hlt,hnn];rfl
 have hkk:n.kids=ah L nd:=aM (by rw[hnn];exact Oe hlt);refine⟨fun η b_ v_ b2_ v2_ h1_ h2_=>Ku fH rfl rfl ?_ h1_ h2_⟩;intro vs_;repeat' first|exact k9|refine k2 ?_|apply kA|apply kI;intro hc|apply kL;intro hl|((simp only[Oo,hni])<;>conv=>whnf)|refine k8 ?_|fail
 rotate_left 2
 ·refine dI.i ?_ rfl;rename_i h4;rw[chO,hkA,if_neg (by simp only[hni] at h4 hc;omega),←hkk];rfl
 all_goals
  have hkd:n.kind=4∨n.kind=5:=by simp only[hni] at hc;omega
  have hR:chO L nd=cH L n.kind L.length [(nd:Int)]:=by
   unfold chO;rw[hkA,if_pos hkd,jn hch (by omega) (by omega),hkA,if_pos rfl,bb,Oj]
  generalize chO L nd=R at *;clear hc;apply Stp.fW 6 3 1 rfl rfl;refine Stp.Lw (by rfl) ?_;apply kCt [0,5,6,7] [];conv=>whnf
  refine Lp.ind (fun z:List Int×List Int=>(dfs (ah L) L.length z.1.reverse).length) (fun z=>(∀x∈z.1,0≤x∧x<L.length)∧z.2++cH L n.kind L.length z.1.reverse=R∧z.2.length+(dfs (ah L) L.length z.1.reverse).length≤1466015503701) (fun _=>[]) (fun z=>[(3,.ro 0 3 1 (z.2.map ikF)),(5,.ro 0 3 1 (z.1.map ikF))]) (fun _=>_) ([(nd:Int)],[]) ⟨by simp;omega,by simpa using hR.symm,by simpa using hroom⟩ rfl rfl rfl ?_
  rintro G ⟨op,out⟩ ih ⟨hop,he,hrm⟩
  dsimp only at hop he hrm ih ⊢;rcases bx op with rfl|⟨init,i,rfl⟩
  ·simp only[QS,bb,Oj] at he;subst he
   repeat' first|exact k9|refine k2 ?_|apply kA|apply kI;intro hc|refine k8 ?_|apply kL;intro hl
   exact dI.i rfl rfl
  ·have hi:=hop i (by simp);obtain⟨i,rfl⟩:∃y:Nat,i=y:=⟨i.toNat,by omega⟩
   have hlti:i<L.length:=by omega
   obtain⟨m,hm⟩:=exEq (L[i]);have hmi:∀h:i<L.length,L[i]'h=m:=fun _=>hm.symm
   have hkm:bj L i=m.kind:=by rw[jq L hlti,hm];rfl
   have hkids:m.kids=ah L i:=aM (by rw[hm];exact Oe hlti);have hlast:∀h,(init++[(i:Int)])[((List.map ikF (init++[(i:Int)])).length - 1:Int).toNat]'h=(i:Int):=by
    intro h;simp[P3]
   have htake:List.take ((List.map ikF (init++[(i:Int)])).length - 1:Int).toNat (List.map ikF (init++[(i:Int)]))=List.map ikF init:=by simp[PZ]
   rw[OW,Pe,Pg,jn hch (by omega) (by omega),hkm,←hkids] at he;rw[OW,Pe,Pg,aS hch (by omega) (by omega),←hkids] at hrm;simp only[Oh,Og] at hrm;have hg1:=dA (ch:=ah L) L.length m.kids (by omega);have hg2:=dA (ch:=ah L) L.length init.reverse (by omega);rw[Rr] at hg2
   repeat' first|exact k9|refine k2 ?_|apply kA|apply kI;intro hc|apply kL;intro hl|((rw[hlast])<;>conv=>whnf)|((simp only[Oo,hmi])<;>conv=>whnf)|refine k8 ?_|fail
   ·refine Stp.JH 4 25 3 1 (by rfl) (by rfl) htake ?_;apply kCt [0,1,3] [0,5,6,7];conv=>whnf
    refine Lp.ind (fun z:Nat=>m.kids.length - z) (fun z=>z≤m.kids.length) (fun z=>[(3,InD ((m.kids.length:Int) - 1 - z))]) (fun z=>[(7,.ro 0 3 1 ((init++m.kids.reverse.take z).map ikF))]) (fun _=>_) 0 (by simp) rfl ?_ ?_ ?_
    ·simp only[Ok,Rg,Qh];rfl
    ·simp only[Pd,Oj];rfl
    rintro G' z ih' hz
    by_cases hy:z<m.kids.length
    ·repeat' first|exact k9|refine k2 ?_|apply kA|apply kI;intro hc|refine k8 ?_|apply kL;intro hl
     apply kCt [0,1,3] [0,5,6,7];conv=>whnf
     refine ih' (z+1) _ _ _ (by omega) (by omega) rfl ?_ ?_
     ·rw[show(m.kids.length:Int) - 1 - ((z+1:Nat):Int)=m.kids.length - 1 - z - 1 by omega];rfl
     ·have e:init++m.kids.reverse.take (z+1)=(init++m.kids.reverse.take z)++[m.kids[((m.kids.length:Int) - 1 - z).toNat]'(by omega)]:=by
       rw[List.take_succ_eq_append_getElem (by simpa using hy),List.append_assoc]
       congr 3
       rw[List.getElem_reverse]
       congr 1
       omega
      rw[e,lX];rfl
    ·rw[Om (by simp;omega)]
     repeat' first|exact k9|refine k2 ?_|apply kA|apply kI;intro hc|refine k8 ?_|apply kL;intro hl
     refine Stp.K1 (by rfl) (by rfl) (by rfl) ?_;apply kCt [0,5,6,7] [];conv=>whnf
     have hmk:m.kind=n.kind:=by
      have:L[i].kind=n.kind:=by assumption
      rw[←hm] at this;exact this
     rw[if_pos hmk] at he;refine ih (init++m.kids.reverse,out) _ _ _ ?_ ⟨?_,?_,?_⟩ rfl rfl rfl
     ·dsimp only;rw[OW,OW,Pe,Pg,Rj,bD,aS hch (by omega) (by omega),←hkids];simp only[Og,Oh];omega
     ·intro x hx;rcases Oy.1 hx with hx|hx
      ·exact hop x (by simp[hx])
      ·rw[List.mem_reverse,hkids] at hx;have:=hch i x hx;omega
     ·dsimp only;rw[OW,Rj,DS];exact he
     ·dsimp only;rw[OW,Rj,bD,Oh];omega
   ·refine Stp.JH 4 25 3 1 (by rfl) (by rfl) htake ?_;apply kCt [0,5,6,7] [];conv=>whnf
    rw[if_neg (by simp only[Oo,hmi] at hc;exact hc)] at he;refine ih (init,out++[(i:Int)]) _ _ _ (by dsimp only;rw[OW,Pe,Pg,aS hch (by omega) (by omega)];simp only[Og,Oh];omega) ⟨fun x hx=>hop x (by simp[hx]),by rw[←he];simp,by simp only[Oh,Og,Ol];omega⟩ rfl rfl (by simp only[List.map_append];rfl)⟩
set_option maxRecDepth 100000
set_option maxHeartbeats 0
def kM(L:List Nod)(l:List Int):List Nod:=l.foldl (fun ms k=>ms.set k.toNat { ms.getD k.toNat .zero with kids:=chO L k }) L
theorem qK(L:List Nod)(l:List Int)(k:Int):kM L (l++[k])=(kM L l).set k.toNat { (kM L l).getD k.toNat .zero with kids:=chO L k }:=by
 unfold kM;rw[List.foldl_append];rfl
theorem ud{L:List Nod}:∀(l:List Int),(∀k∈l,0≤k∧k<(L.length:Int))→Mod L (kM L l):=by
 intro l;rcases bx l with rfl|⟨l,k,rfl⟩
 ·intro _;exact Mod.refl L
 ·intro h;have ih:=ud l fun x hx=>h x (by simp[hx])
  obtain⟨k,rfl⟩:∃q:Nat,k=q:=⟨k.toNat,by have:=h k (by simp);omega⟩
  have hk:k<(kM L l).length:=by rw[ih.len];have:=h k (by simp);omega
  rw[qK,Oo,List.getD_eq_getElem?_getD,Oe hk];exact ih.set (Oe hk)
termination_by l=>l.length
decreasing_by
 all_goals simp_wf
 all_goals (subst_vars;simp)
theorem F1{L:List Nod}{l:List Int}(h:∀k∈l,0≤k∧k<(L.length:Int)):(kM L l).length=L.length:=(ud l h).len
theorem yI{L:List Nod}:∀(l:List Int),(∀k∈l,0≤k∧k<(L.length:Int))→∀(x:Nat) m,(x:Int)∈l→(kM L l)[x]?=some m→m.kids=chO L x:=by
 intro l;rcases bx l with rfl|⟨l,k,rfl⟩
 ·intro _ x m hx;simp at hx
 ·intro h x m hx hm;have ih:=yI l fun x hx=>h x (by simp[hx])
  obtain⟨k,rfl⟩:∃q:Nat,k=q:=⟨k.toNat,by have:=h k (by simp);omega⟩
  have hk:k<(kM L l).length:=by rw[F1 fun x hx=>h x (by simp[hx])];have:=h k (by simp);omega
  rw[qK,Oo] at hm
  by_cases e:k=x
  ·subst e;rw[Qf hk] at hm
   cases hm;rfl
  ·rw[Qq e] at hm;refine ih x m ?_ hm;rcases Oy.1 hx with hx|hx
   ·exact hx
   ·simp at hx;omega
termination_by l=>l.length
decreasing_by
 all_goals simp_wf
 all_goals (subst_vars;simp)
theorem JK{L ms:List Nod}(hch:cb (ah L))(hm:Mod L ms){i:Nat}(hi:i<ms.length):chO ms i=chO L i:=by
 rcases hm.chO hch i with h|h
 ·exact h
 ·have hk:=hm.kind i;have e:bj ms i=(ms[i]).kind:=by rw[jq ms hi];rfl
  rw[←hm.EB (Oe hi) (by omega) (by omega)];unfold chO;rw[if_neg (by omega)];exact(aM (Oe hi)).symm
instance(L:List Nod)(node:Int):HA Tryz.prog X1.Γ 138 169 45 9 (L.map aT) [inF node]
  (aw (aC ⟨opA L,0⟩ node)) ((kM L (dfs (fw (chO L)) L.length [node])).map aT) (L.length≤1466015503701∧cb (ah L)∧0≤node∧node<L.length∧∀x,(dfs (ah L) L.length [node]).count x≤1):=⟨fun h=>by
 obtain⟨hL,hch,h0,hn,hnd⟩:=h;have hcO:=ml hch;have hallO:=xb hch h0 hn hnd;have hroom:∀(op out:List Int),out++dfs (fw (chO L)) L.length op.reverse=dfs (fw (chO L)) L.length [node]→out.length+op.length≤1466015503701:=by
  intro op out he;have h1:=dA (ch:=fw (chO L)) L.length op.reverse (by omega);have h2:=congrArg List.length he;rw[fJ L.length [node],Oh] at h2;simp at h1;omega
 refine⟨fun η b_ v_ b2_ v2_ h1_ h2_=>m6 fH rfl rfl ?_ h1_ h2_⟩;intro vs_;repeat' first|exact k9|refine k2 ?_|apply kA|apply kI;intro hc|refine k8 ?_|apply kL;intro hl
 apply Stp.fW 5 3 1 rfl rfl;apply kCt [0,4,5,6] [];conv=>whnf
 refine Lp.ind (fun z:List Int×List Int=>(dfs (fw (chO L)) L.length z.1.reverse).length) (fun z=>(∀x∈z.1,0≤x∧x<L.length)∧(∀x∈z.2,0≤x∧x<L.length)∧z.2++dfs (fw (chO L)) L.length z.1.reverse=dfs (fw (chO L)) L.length [node]) (fun _=>[]) (fun z=>[(1,.ro 0 45 9 ((kM L z.2).map aT)),(3,.ro 0 3 1 (z.2.map ikF)),(4,.ro 0 3 1 (z.1.map ikF))]) (fun _=>_) ([node],[]) ⟨by intro x hx;simp at hx;subst hx;exact⟨h0,hn⟩,by simp,rfl⟩ rfl rfl rfl ?_
 rintro G ⟨op,out⟩ ih ⟨hop,hout,he⟩
 dsimp only at hop hout he ih ⊢;have hrm:=hroom op out he;have hMod:=ud out hout;have hml:=hMod.len;rcases bx op with rfl|⟨init,i,rfl⟩
 ·simp only[QS,bT,Oj] at he;have hol:out.length≤L.length:=by rw[he,fJ];exact hallO
  have hP:out.reverse=jU (chO L) L.length [node]:=by rw[he,show[node]=[node].reverse from rfl,oV];rfl
  repeat' first|exact k9|refine k2 ?_|apply kA|apply kI;intro hc|refine k8 ?_|apply kL;intro hl
  apply kCt [0,2,3] [0,4,5];conv=>whnf
  refine Lp.ind (fun x:Nat×List Int=>out.length - x.1) (fun x=>xf out x.2 x.1∧2 * x.1≤out.length+1) (fun x=>[(2,InD x.1),(3,InD ((out.length:Int) - 1 - x.1))]) (fun x=>[(0,.ro 0 3 1 (x.2.map ikF))]) (fun _=>_) (0,out) ⟨.zero out,by simp⟩ rfl ?_ rfl ?_
  ·simp only[Ok,Rg,Qh];rfl
  rintro G' ⟨k,cur⟩ ih' ⟨hI,hk⟩
  dsimp only at hI hk ih' ⊢;have hcl:=hI.len
  repeat' first|exact k9|refine k2 ?_|apply kA|apply kI;intro hc|refine k8 ?_|apply kL;intro hl
  ·have h1:k<cur.length:=by omega
   have h2:out.length - 1 - k<cur.length:=by omega
   have e:((out.length:Int) - 1 - k).toNat=out.length - 1 - k:=by omega
   apply kCt [0,2,3] [0,4,5];conv=>whnf
   refine ih' (k+1,(cur.set k cur[out.length - 1 - k]).set (out.length - 1 - k) cur[k]) _ _ _ (by dsimp only;omega) ⟨hI.step (by omega) (Oe h1) (Oe h2),by dsimp only;omega⟩ rfl ?_ ?_
   ·dsimp only;rw[show(out.length:Int) - 1 - ((k+1:Nat):Int)=out.length - 1 - k - 1 by omega];rfl
   ·simp only[List.map_set,e];rfl
  ·have hcur:=hI.done (by omega);subst hcur;clear ih' ih hI hcl;have hmemO:∀x∈out.reverse,0≤x∧x<(L.length:Int):=fun x hx=>hout x (by simpa using hx)
   have hdone:=yI out hout;have hP2:∀x∈out.reverse,x∈dfs (chO L) L.length [node]:=fun x hx=>by rw[hP,(dc _ _ _).mem_iff] at hx;exact hx
   have hmo:∀x∈out.reverse,∀m,(kM L out)[x.toNat]?=some m→m.kids=chO L x∧(opA L)[x.toNat]?=some m∧m.kids.length≤L.length:=by
    intro x hx m hm;obtain⟨x,rfl⟩:∃q:Nat,x=q:=⟨x.toNat,by have:=hmemO x hx;omega⟩
    have hk:=hdone x m (by simpa using hx) hm;refine⟨hk,Lk hMod hm hk,?_⟩;rw[hk];have h1:=jC hcO L.length L.length [node] (by intro k hk;simp at hk;subst hk;exact⟨h0,hn⟩) (Ov _) x (hP2 x hx);have:=hmemO x hx;rw[aS hcO (by omega) (by omega),bT,Oj,Og] at h1;have h2:=dA (ch:=chO L) L.length (chO L x) (by omega);omega
   have htk:aC ⟨opA L,0⟩ node=⟨bo (opA L) 0 (List.replicate L.length 0) out.reverse,out.reverse.length - 1⟩:=by
    unfold aC aU;simp only;rw[lA,show ah (opA L)=chO L from funext fun k=>pr L k,←hP]
   have hlr:out.length=out.reverse.length:=by simp
   rw[hlr] at hol;rw[htk,←he];generalize hms:kM L out=ms at *;clear hP2 hP htk hop hdone hMod hlr;apply kCt [0,4,8,9,66,67,68] [];conv=>whnf
   generalize out.reverse=l at *;obtain⟨RR,hRR⟩:=exEq (bo (opA L) 0 (List.replicate L.length 0) l);rw[←hRR];refine Lp.ind (fun z:Nat×List Int×List Nod=>l.length - z.1) (fun z=>z.1≤l.length∧z.2.1.length=L.length∧z.2.2.length=z.1∧z.2.2++bo (opA L) z.1 z.2.1 (l.drop z.1)=RR) (fun z=>[(68,InD z.1)]) (fun z=>[(3,.ro 0 3 1 (z.2.1.map ikF)),(4,.ro 0 45 9 (z.2.2.map aT))]) (fun _=>_) (0,List.replicate L.length 0,[]) ⟨by simp,by simp,rfl,by rw[hRR];rfl⟩ rfl rfl ?_ ?_
   ·rw[show(List.replicate L.length (0:Int)).map ikF=List.replicate (ms.map aT).length (ikF 0) by simp[hml]];rfl
   rintro G ⟨i,pl,no⟩ ih ⟨hi,hpl,hno,hT⟩
   dsimp only at hi hpl hno hT ih ⊢
   by_cases hx:i<l.length
   ·obtain⟨x,hxl⟩:∃x:Nat,l[i]=x:=⟨l[i].toNat,by have:=hmemO _ (Of hx);omega⟩
    have hxi:∀h:i<l.length,l[i]'h=(x:Int):=fun _=>hxl
    have hm1:=hmemO _ (Of hx);rw[hxl] at hm1;have hxm:x<ms.length:=by omega
    have hxp:x<pl.length:=by omega
    obtain⟨q1,q2,q3⟩:=hmo _ (Of hx) _ (by rw[hxl];exact Oe hxm);rw[hxl] at q1 q2;rw[Oo] at q2;have hkb:∀y∈ms[x].kids,0≤y∧y<(L.length:Int):=fun y hy=>by
     rw[q1] at hy;have:=hcO x y hy;omega
    rw[Oz hx,hxl,bo] at hT;simp only[Oo,List.getD_eq_getElem?_getD,q2,PK] at hT;obtain⟨n,hn0⟩:=exEq (ms[x]);have hni:∀h:x<ms.length,ms[x]'h=n:=fun _=>hn0.symm
    rw[←hn0] at q1 q3 hkb hT
    repeat' first|exact k9|refine k2 ?_|apply kA|apply kI;intro hc|apply kL;intro hl|((simp only[hxi])<;>conv=>whnf)|((simp only[hni])<;>conv=>whnf)|((simp only[Oo])<;>conv=>whnf)|refine k8 ?_|fail
    apply Stp.fW 13 3 1 rfl rfl;apply kCt [0,4,8,9,12,13,66,67,68,85,86,87] [];conv=>whnf
    obtain⟨plx,hplx⟩:∃plx:List Int,plx=pl.set x (i:Int):=⟨_,rfl⟩
    rw[←hplx] at hT;have hpl2:plx.length=L.length:=by rw[hplx];simpa using hpl
    refine Lp.ind (fun z:Nat=>n.kids.length - z) (fun z=>z≤n.kids.length) (fun z=>[(87,InD z)]) (fun z=>[(3,.ro 0 3 1 (plx.map ikF)),(6,.ro 0 3 1 (((n.kids.take z).map fun y=>plx[y.toNat]?.getD 0).map ikF))]) (fun _=>_) 0 (by simp) rfl rfl ?_ ?_
    ·rw[hplx,List.map_set];rfl
    rintro G' j ih' hj
    by_cases hy:j<n.kids.length
    ·have hkj:=hkb _ (Of hy);have hget:∀h:(n.kids[j]).toNat<plx.length,plx[(n.kids[j]).toNat]'h=plx[(n.kids[j]).toNat]?.getD 0:=fun h=>by rw[Oe h];rfl
     repeat' first|exact k9|refine k2 ?_|apply kA|apply kI;intro hc|refine k8 ?_|apply kL;intro hl
     apply kCt [0,4,8,9,12,13,66,67,68,85,86,87] [];conv=>whnf
     refine ih' (j+1) _ _ _ (by omega) (by omega) rfl rfl ?_;rw[List.take_succ_eq_append_getElem hy,List.map_append,List.map_append,OK,←hget (by omega)];rfl
    ·rw[Om (by omega)]
     repeat' first|exact k9|refine k2 ?_|apply kA|apply kI;intro hc|refine k8 ?_|apply kL;intro hl
     apply kCt [0,4,8,9,66,67,68] [];conv=>whnf
     refine ih (i+1,plx,no++[{ n with kids:=n.kids.map fun y=>plx[y.toNat]?.getD 0 }]) _ _ _ (by dsimp only;omega) ⟨by dsimp only;omega,hpl2,by simp[hno],by dsimp only;rw[←hT];simp⟩ rfl rfl ?_;dsimp only;rw[lX aT];rfl
   ·rw[OE (by omega),bo,Oj] at hT;subst hT
    repeat' first|exact k9|refine k2 ?_|apply kA|apply kI;intro hc|refine k8 ?_|apply kL;intro hl
    exact dI.i (by rw[Ok,show(no.length:Int)=l.length by omega];rfl) rfl
 ·have hi:=hop i (by simp);obtain⟨i,rfl⟩:∃y:Nat,i=y:=⟨i.toNat,by omega⟩
  have hlti:i<(kM L out).length:=by omega
  have hlast:∀h,(init++[(i:Int)])[((List.map ikF (init++[(i:Int)])).length - 1:Int).toNat]'h=(i:Int):=by
   intro h;simp[P3]
  simp only[Oh,Og,Ol] at hrm;rw[OW,Pe,Pg,aS hcO.rev (by omega) (by omega)] at he;have hmemI:(i:Int)∈dfs (chO L) L.length [node]:=by
   have:(i:Int)∈dfs (fw (chO L)) L.length [node]:=by rw[←he];simp
   have h2:=oV (chO L) L.length [node];rw[Pe] at h2;rw[←(dc (chO L) L.length [node]).mem_iff,←h2];simpa using this
  have hpre:(kM L out).length≤1466015503701∧cb (ah (kM L out))∧0≤(i:Int)∧(i:Int)<(kM L out).length∧(dfs (ah (kM L out)) (kM L out).length [(i:Int)]).length≤1466015503701:=
   ⟨by omega,Mod.Mk hch hMod,by omega,by omega,by have:=Mod.room hch hMod h0 hn hnd hmemI;omega⟩
  have hcO2:chO (kM L out) i=chO L i:=JK hch hMod hlti;have hkl:(chO L i).length≤L.length:=by
   have h1:=jC hcO L.length L.length [node] (by intro k hk;simp at hk;subst hk;exact⟨h0,hn⟩) (Ov _) i hmemI;rw[aS hcO (by omega) (by omega),bT,Oj,Og] at h1;have h2:=dA (ch:=chO L) L.length (chO L i) (by omega);omega
  repeat' first|exact k9|refine k2 ?_|apply kA|apply kI;intro hc|apply kL;intro hl|((rw[hlast])<;>conv=>whnf)|((simp only[hcO2])<;>conv=>whnf)|refine k8 ?_|fail
  apply kCt [0,4,5,6] [];conv=>whnf
  refine ih (init++chO L i,out++[(i:Int)]) _ _ _ ?_ ⟨?_,?_,?_⟩ rfl rfl ?_
  ·dsimp only;rw[OW,OW,Pe,Pg,aS hcO.rev (by omega) (by omega),bD];simp only[Og,Oh];have:(chO L i).reverse=fw (chO L) i:=rfl;rw[this];omega
  ·intro x hx;rcases Oy.1 hx with hx|hx
   ·exact hop x (by simp[hx])
   ·have:=hcO i x hx;omega
  ·intro x hx;rcases Oy.1 hx with hx|hx
   ·exact hout x hx
   ·simp at hx;omega
  ·dsimp only;rw[OW,bD,←he];simp[fw]
  ·dsimp only;rw[qK,Oo,List.getD_eq_getElem?_getD,Oe hlti,List.map_set,show List.map ikF (out++[(i:Int)])=List.map ikF out++[ikF i] from lX _ _ _,show List.map ikF (init++chO L i)=List.take ((List.map ikF (init++[(i:Int)])).length - 1:Int).toNat (List.map ikF (init++[(i:Int)]))++List.map ikF (chO L i) from by simp[PZ]];rfl⟩
abbrev H2:F:=.ag [.cl 152 [],.cl 152 [],.cl 152 [],.cl 152 [],.cl 153 [],.cl 154 [],.cl 152 [],.cl 152 [],.cl 152 [],.cl 152 []]
instance:C 137 [] H2 false True:=⟨fun _=>by
 refine kf rfl rfl ?_;repeat' (first|exact k9|refine k2 ?_|apply kA|apply kI;intro hc|refine k8 ?_|apply kL;intro hl)⟩
end Go.Km
end
section
namespace Go.ab
theorem sM.last{t:Tre}(hR:ax t){ar:List Nod}{pl:List Int}(h:sM t t.nodes.length ar pl) :
  (0≤pl.getD t.root.toNat 0∧pl.getD t.root.toNat 0<ar.length)∧aF ar ar.length [pl.getD t.root.toNat 0]=(foT t).nrm∧∀x,(dfs (ah ar) ar.length [pl.getD t.root.toNat 0]).count x≤1:=by
 have h0:=hR.root;obtain⟨r,hr⟩:∃r:Nat,t.root=r:=⟨t.root.toNat,by omega⟩
 have hd:=h.den r (by omega);rw[hr,Oo];refine⟨⟨hd.pos,hd.lt⟩,?_,fun x=>?_⟩
 ·rw[hd.fo,foT,hr]
 ·have hm:(r:Int)∈unC t t.nodes.length:=by
   have h1:=m3 t t.nodes.length (r:Int);have hc:=hR.count r (by omega);rw[if_pos hr.symm] at hc;rw[Om (Ov _),if_pos ⟨by omega,by omega,O8.1 hc⟩] at h1;exact Qk.1 (by omega)
  have hs:[pl.getD r 0].Sublist ((unC t t.nodes.length).map fun k=>pl.getD k.toNat 0):=List.singleton_sublist.2 (Pq.2 ⟨r,hm,by rw[Oo]⟩);exact OA (jS hs x) (h.nd x)
theorem JT{n:Nod}{c:Int}(h:fits n c=true):0≤n.kind∧n.kind<10:=by
 unfold fits at h
 repeat' split at h
 all_goals first|omega|(simp at h)
end Go.ab
namespace Go.Km
open Go Go.Vc Go.Proofs Go.ab Go.Proofs.YthebhpcjcihjgaaGreatDoor
set_option maxRecDepth 100000
set_option maxHeartbeats 0
theorem B1{ar:List Nod}{n:Nod}{K:List Int}(h4:n.kind≠4)(h5:n.kind≠5):lP ar n K=(ar++[{ n with kids:=K }],(ar.length:Int)):=by
 unfold lP;rw[if_neg h4,if_neg h5]
instance(t:Tre):C 115 [aw t] (.tp [aw (dU t).1,boF (dU t).2]) false t.wf:=⟨fun ht=>by
 have hlen:=ht.len;simp only[b9] at hlen
 cases hr:ao t with
 | false=>
  rw[kn hr];refine kf rfl rfl ?_;repeat' first|exact k9|refine k2 ?_|apply kA|apply kI;intro hc|refine k8 ?_|apply kL;intro hl
  exact aa.i rfl
 | true=>
  rw[dH hr];have hR:=ak hr;refine kf rfl rfl ?_;repeat' first|exact k9|refine k2 ?_|apply kA|apply kI;intro hc|refine k8 ?_|apply kL;intro hl
  apply Stp.Ip 6 169 45 9 rfl rfl;apply kCt [1,2,4,5,6,22,23,24] [];conv=>whnf
  refine Lp.ind (fun z:Nat×List Nod×List Int=>t.nodes.length - z.1) (fun z=>z.1≤t.nodes.length∧sM t z.1 z.2.1 z.2.2) (fun z=>[(24,InD z.1)]) (fun z=>[(3,.ro 0 45 9 (z.2.1.map aT)),(5,.ro 0 3 1 ((z.2.2++List.replicate (t.nodes.length - z.1) 0).map ikF))]) (fun _=>_) (0,[],[]) ⟨by simp,sM.zero t⟩ rfl rfl ?_ ?_
  ·have e:List.map ikF ([]++List.replicate (t.nodes.length - 0) (0:Int))=List.replicate (t.nodes.map aT).length (ikF 0):=by simp
   dsimp only;rw[e];rfl
  rintro G ⟨i,ar,pl⟩ ih ⟨hi,hI⟩
  dsimp only at hi hI ih ⊢;have hpl:=hI.len;have hal:=hI.MR
  by_cases hx:i<t.nodes.length
  ·obtain⟨n,hn⟩:=exEq (t.nodes[i]);have hni:∀h:i<t.nodes.length,t.nodes[i]'h=n:=fun _=>hn.symm
   have hget:t.nodes[i]?=some n:=by rw[hn];exact Oe hx
   have hst:=hI.step hR hget;obtain⟨hK,hF⟩:=places hI (by omega) n.kids (hR.kok i n hget);have hkb:=hR.kok i n hget;have hkl:n.kids.length≤17592186044416:=(ht.nodes n (by rw[hn];exact Of hx)).kids.1;obtain⟨K,hKe⟩:=exEq (n.kids.map fun k=>pl.getD k.toNat 0);rw[←hKe] at hK hF hst;have hset:∀p,List.map ikF ((pl++[p])++List.replicate (t.nodes.length - (i+1)) 0)=(List.map ikF (pl++List.replicate (t.nodes.length - i) 0)).set i (ikF p):=fun p=>by
    rw[←List.map_set,show t.nodes.length - i=(t.nodes.length - (i+1))+1 by omega,PQ,IY pl _ 0 p hpl];simp
   have hKl:K.length=n.kids.length:=by rw[hKe];simp
   have hjp:ar.length<1466015503701∧K.length≤17592186044416∧∀x∈K,0≤x∧x<(ar.length:Int):=⟨by omega,by omega,hK⟩
   repeat' first|exact k9|refine k2 ?_|apply kA|apply kI;intro hc|apply kL;intro hl|((simp only[hni])<;>conv=>whnf)|refine k8 ?_|fail
   apply Stp.fW 9 3 1 rfl rfl;apply kCt [1,2,4,5,6,7,8,9,22,23,24,30,31,32] [];conv=>whnf
   refine Lp.ind (fun z:Nat=>n.kids.length - z) (fun z=>z≤n.kids.length) (fun z=>[(32,InD z)]) (fun z=>[(7,.ro 0 3 1 ((K.take z).map ikF))]) (fun _=>_) 0 (by simp) rfl rfl rfl ?_
   rintro G' j ih' hj
   by_cases hy:j<n.kids.length
   ·have hkj:=hkb _ (Of hy);have hKj:K[j]'(by omega)=pl.getD (n.kids[j]).toNat 0:=by simp[hKe]
    have hpk:∀h:(n.kids[j]).toNat<(pl++List.replicate (t.nodes.length - i) 0).length,(pl++List.replicate (t.nodes.length - i) (0:Int))[(n.kids[j]).toNat]'h=K[j]'(by omega):=fun h=>by
     rw[hKj,PT (by omega),List.getD_eq_getElem?_getD,Oe (by omega)];rfl
    repeat' first|exact k9|refine k2 ?_|apply kA|apply kI;intro hc|apply kL;intro hl|((simp only[hpk])<;>conv=>whnf)|refine k8 ?_|fail
    apply kCt [1,2,4,5,6,7,8,9,22,23,24,30,31,32] [];conv=>whnf
    refine ih' (j+1) _ _ _ (by omega) (by omega) rfl rfl ?_;rw[List.take_succ_eq_append_getElem (by omega),lX];rfl
   ·rw[Om (by omega)];have hkd:=JT (hR.fits i n hget);clear ih' hj;obtain⟨R2,hR2⟩:=exEq (lP ar n K);rw[←hR2] at hst;obtain⟨kind,⟨sa,sb,sc,sd⟩,text,lo,hi',kids⟩:=n;dsimp only at hkd hkl hkb hKl hy;have:kind=0∨kind=1∨kind=2∨kind=3∨kind=4∨kind=5∨kind=6∨kind=7∨kind=8∨kind=9:=by omega
    rcases this with rfl|rfl|rfl|rfl|rfl|rfl|rfl|rfl|rfl|rfl
    all_goals (repeat' (first|exact k9|refine k2 ?_|apply kA|apply kI;intro hc|refine k8 ?_|apply kL;intro hl))
    all_goals apply kCt [1,2,4,5,6,22,23,24] [];conv=>whnf
    all_goals refine ih (i+1,R2.1,pl++[R2.2]) _ _ _ (by dsimp only;omega) ⟨by dsimp only;omega,hst⟩ rfl rfl ?_
    all_goals dsimp only
    all_goals rw[hset,hR2]
    all_goals first|rfl|(rw[B1 (by dsimp only;decide) (by dsimp only;decide),lX aT];rfl)
  ·obtain rfl:i=t.nodes.length:=by omega
   obtain⟨⟨p0,p1⟩,pf,pc⟩:=sM.last hR hI;have hr0:=hR.root;have hpr:∀h:t.root.toNat<(pl++List.replicate (t.nodes.length - t.nodes.length) 0).length,(pl++List.replicate (t.nodes.length - t.nodes.length) (0:Int))[t.root.toNat]'h=pl.getD t.root.toNat 0:=fun h=>by
    rw[PT (by omega),List.getD_eq_getElem?_getD,Oe (by omega)];rfl
   generalize pl.getD t.root.toNat 0=node at *;have hpre:ar.length≤1466015503701∧cb (ah ar)∧0≤node∧node<ar.length∧∀x,(dfs (ah ar) ar.length [node]).count x≤1:=⟨by omega,hI.kok.ah,p0,p1,pc⟩
   have htk:aC ⟨opA ar,0⟩ node=aR (foT t).norm:=by
    rw[DY hI.kok.ah p0 p1 pc,pf,Fo.yb (ov hr).1]
   repeat' (first|exact k9|refine k2 ?_|apply kA|apply kI;intro hc|apply kL;intro hl|((simp only[hpr])<;>conv=>whnf)|((simp only[htk])<;>conv=>whnf)|refine k8 ?_|fail)⟩
set_option maxRecDepth 100000
set_option maxHeartbeats 0
abbrev t2F(r:Tre×Bool):F:=.tp [aw r.1,boF r.2]
theorem HJ(k a b c d:Int)(s:ByteArray)(x y:Int)(K:List (List F))(l:List Tre)(hn:(⟨k,⟨a,b,c,d⟩,s,x,y,[]⟩:Nod).wf)(hl:l.length≤1466015503701)(hw:∀t∈l,t.wf)(ht:tot l+1≤1466015503701)(h45:(k=4∨k=5)→2≤l.length) :
  Pure Tryz.prog X1.Γ 112 [.ag (jW k a b c d s x y K),dO l] (t2F (eG ⟨k,⟨a,b,c,d⟩,s,x,y,[]⟩ l)) false:=by
 have hof:=Le (n:=⟨k,⟨a,b,c,d⟩,s,x,y,[]⟩) (l:=l) rfl h45;have hpre:(⟨k,⟨a,b,c,d⟩,s,x,y,[]⟩:Nod).wf∧l.length≤1466015503701∧(∀t∈l,t.wf)∧tot l+1≤1466015503701:=⟨hn,hl,hw,ht⟩
 have hwf:=Ci (n:=⟨k,⟨a,b,c,d⟩,s,x,y,[]⟩) (l:=l) hn hw (by unfold b9;exact ht);rw[hof];generalize hr:ofP ⟨k,⟨a,b,c,d⟩,s,x,y,[]⟩ l=r at *;refine kf rfl rfl ?_;repeat' first|exact k9|refine k2 ?_|apply kA|apply kI;intro hc|apply kL;intro hl|((simp only[hr])<;>conv=>whnf)|refine k8 ?_|fail
 all_goals (rw[hr] at hc;refine aa.i ?_;rw[hc];rfl)
instance(k a b c d:Int)(s:ByteArray)(x y:Int)(K:List (List F))(l:List Tre):C 112 [.ag (jW k a b c d s x y K),dO l] (t2F (eG ⟨k,⟨a,b,c,d⟩,s,x,y,[]⟩ l)) false ((⟨k,⟨a,b,c,d⟩,s,x,y,[]⟩:Nod).wf∧l.length≤1466015503701∧(∀t∈l,t.wf)∧tot l+1≤1466015503701∧((k=4∨k=5)→2≤l.length)):=⟨fun h=>HJ k a b c d s x y K l h.1 h.2.1 h.2.2.1 h.2.2.2.1 h.2.2.2.2⟩
instance(k a b c d:Int)(s:ByteArray)(x y:Int)(K:List (List F))(t:Tre):C 112 [.ag (jW k a b c d s x y K),.sl [fg t]] (t2F (eG ⟨k,⟨a,b,c,d⟩,s,x,y,[]⟩ [t])) false ((⟨k,⟨a,b,c,d⟩,s,x,y,[]⟩:Nod).wf∧t.wf∧t.nodes.length+1≤1466015503701∧k≠4∧k≠5):=⟨fun h=>HJ k a b c d s x y K [t] h.1 (by simp) (by simpa using h.2.1) (by simpa [tot] using h.2.2.1) (fun h2=>by rcases h2 with h2|h2;exact absurd h2 h.2.2.2.1;exact absurd h2 h.2.2.2.2)⟩
instance(l:List Tre):C 83 [dO l] (t2F (eG b5 l)) false (l.length≤1466015503701∧(∀t∈l,t.wf)∧tot l+1≤1466015503701):=⟨fun h=>by
 obtain⟨hl,hw,ht⟩:=h;have hwf:=kx
 match l,hl,hw,ht with
 | [],hl,hw,ht=>
  refine kf rfl rfl ?_;repeat' first|exact k9|refine k2 ?_|apply kA|apply kI;intro hc|refine k8 ?_|apply kL;intro hl
  exact aa.i rfl
 | [t],hl,hw,ht=>
  have hwt:t.wf:=hw t (by simp);rw[IC (by simp) t];refine kf rfl rfl ?_;repeat' first|exact k9|refine k2 ?_|apply kA|apply kI;intro hc|refine k8 ?_|apply kL;intro hl
 | t :: u :: l,hl,hw,ht=>
  have hpre:(⟨4,⟨0,0,0,0⟩,⟨#[]⟩,0,0,[]⟩:Nod).wf∧(t :: u :: l).length≤1466015503701∧(∀x∈(t :: u :: l),x.wf)∧tot (t :: u :: l)+1≤1466015503701∧(((4:Int)=4∨(4:Int)=5)→2≤(t :: u :: l).length):=⟨hwf,hl,hw,ht,fun _=>by simp⟩
  have h0:((t :: u :: l).length:Int)≠0:=by simp only[Og];omega
  have h1:((t :: u :: l).length:Int)≠1:=by simp only[Og];omega
  generalize t :: u :: l=L at *;refine kf rfl rfl ?_;repeat' first|exact k9|refine k2 ?_|apply kA|apply kI;intro hc|refine k8 ?_|apply kL;intro hl
  exact aa.i rfl⟩
instance(t:Tre)(lo hi:Int):C 79 [aw t,inF lo,inF hi] (t2F (eG ⟨6,.zero,⟨#[]⟩,lo,hi,[]⟩ [t])) false (t.wf∧t.nodes.length+1≤1466015503701∧(⟨6,.zero,⟨#[]⟩,lo,hi,[]⟩:Nod).wf):=⟨fun h=>by
 have hpre:(⟨6,⟨0,0,0,0⟩,⟨#[]⟩,lo,hi,[]⟩:Nod).wf∧t.wf∧t.nodes.length+1≤1466015503701∧(6:Int)≠4∧(6:Int)≠5:=⟨h.2.2,h.1,h.2.1,by decide,by decide⟩
 refine kf rfl rfl ?_;repeat' first|exact k9|refine k2 ?_|apply kA|apply kI;intro hc|refine k8 ?_|apply kL;intro hl
 exact aa.i rfl⟩
theorem My{a b c:Prop}[Decidable a][Decidable b][Decidable c](h:¬(a∨b∧c)):(!(decide a||decide b&&decide c))=true:=by
 by_cases h1:a<;>by_cases h2:b<;>by_cases h3:c<;>simp_all
instance(t:Tre):C 60 [aw t] (boF (dY t)) true t.wf:=⟨fun ht=>by
 have hlen:=ht.len;simp only[b9] at hlen
 cases hr:ao t with
 | false=>
  rw[s7 hr];refine kf rfl rfl ?_;repeat' first|exact k9|refine k2 ?_|apply kA|apply kI;intro hc|refine k8 ?_|apply kL;intro hl
 | true=>
  have hR:=ak hr;unfold dY;rw[hr,PG];refine kf rfl rfl ?_;repeat' first|exact k9|refine k2 ?_|apply kA|apply kI;intro hc|refine k8 ?_|apply kL;intro hl
  apply kCt [1,12,13,14] [];conv=>whnf
  refine Lp.ind (fun z:Nat=>t.nodes.length - z) (fun z=>z≤t.nodes.length∧∀y,∀h:y<t.nodes.length,y<z→eB t.nodes t.nodes[y]=true) (fun z=>[(14,InD z)]) (fun z=>[]) (fun _=>(boF (t.nodes.all (eB t.nodes)),true)) 0 ⟨by simp,fun y _ h=>by omega⟩ rfl rfl rfl ?_
  rintro G i ih ⟨hi,hA⟩
  by_cases hx:i<t.nodes.length
  ·obtain⟨n,hn⟩:=exEq (t.nodes[i]);have hni:∀h:i<t.nodes.length,t.nodes[i]'h=n:=fun _=>hn.symm
   have hget:t.nodes[i]?=some n:=by rw[hn];exact Oe hx
   have hkb:=hR.kok i n hget;have hkl:n.kids.length≤17592186044416:=(ht.nodes n (by rw[hn];exact Of hx)).kids.1;have hno:eB t.nodes n=false→t.nodes.all (eB t.nodes)=false:=fun h=>by
    rw[QL];exact⟨n,by rw[hn];exact Of hx,by rw[h];decide⟩
   have hnx:eB t.nodes n=true→∀y,∀h:y<t.nodes.length,y<i+1→eB t.nodes t.nodes[y]=true:=fun h y hy hyi=>by
    rcases Pu y i with h1|h1
    ·exact hA y hy h1
    ·have:y=i:=by omega
     subst this;rw[hni];exact h
   repeat' first|exact k9|refine k2 ?_|apply kA|apply kI;intro hc|apply kL;intro hl|((simp only[hni])<;>conv=>whnf)|refine k8 ?_|fail
   rotate_left 2
   ·rename_i h4;simp only[hni] at h4 hc;have hN:eB t.nodes n=true:=by
     unfold eB;simp[h4,hc]
    apply kCt [1,12,13,14] [];conv=>whnf
    exact ih (i+1) _ _ _ (by omega) ⟨by omega,hnx hN⟩ rfl rfl rfl
   all_goals
    have h45:n.kind=4∨n.kind=5:=by simp only[hni] at hc;omega
    clear hc;apply kCt [1,4,12,13,14,27,28,29] [];conv=>whnf
    refine Lp.ind (fun z:Nat=>n.kids.length - z) (fun z=>z≤n.kids.length∧∀y,∀h:y<n.kids.length,y<z→¬(bj t.nodes n.kids[y]=n.kind∨bj t.nodes n.kids[y]=0∧n.kind=4)) (fun z=>[(29,InD z)]) (fun z=>[]) (fun _=>(boF (t.nodes.all (eB t.nodes)),true)) 0 ⟨by simp,fun y _ h=>by omega⟩ rfl rfl rfl ?_
    rintro G' j ih' ⟨hj,hB⟩
    by_cases hy:j<n.kids.length
    ·obtain⟨q,hq⟩:∃q:Nat,n.kids[j]=q:=⟨(n.kids[j]).toNat,by have:=hkb _ (Of hy);omega⟩
     have hqi:∀h:j<n.kids.length,n.kids[j]'h=(q:Int):=fun _=>hq
     have hql:q<t.nodes.length:=by have:=hkb _ (Of hy);omega
     have hkq:=jq t.nodes hql;have hbad:(bj t.nodes (q:Int)=n.kind∨bj t.nodes (q:Int)=0∧n.kind=4)→eB t.nodes n=false:=fun h=>by
      unfold eB;rw[PX];refine⟨by rcases h45 with e|e<;>simp[e],?_⟩;rw[QL];refine⟨n.kids[j],Of hy,?_⟩;rw[hq];rcases h with h|⟨h,h'⟩
      ·rw[decide_eq_true h];simp
      ·rw[decide_eq_true h,decide_eq_true h'];simp
     have hok:¬(bj t.nodes (q:Int)=n.kind∨bj t.nodes (q:Int)=0∧n.kind=4)→∀y,∀h:y<n.kids.length,y<j+1→¬(bj t.nodes n.kids[y]=n.kind∨bj t.nodes n.kids[y]=0∧n.kind=4):=fun h y hy2 hyj=>by
      rcases Pu y j with h1|h1
      ·exact hB y hy2 h1
      ·have:y=j:=by omega
       subst this;rw[hq];exact h
     have hke:∀h:(n.kids[j]).toNat<t.nodes.length,(t.nodes[(n.kids[j]).toNat]'h).kind=bj t.nodes (q:Int):=fun h=>by simp only[hqi];exact hkq.symm
     generalize bj t.nodes (q:Int)=kq at *
     repeat' first|exact k9|refine k2 ?_|apply kA|apply kI;intro hc|refine k8 ?_|apply kL;intro hl
     ·simp only[hke] at hc;exact aa.b (hno (hbad (.inl hc))).symm rfl
     ·rename_i h0;simp only[hke] at h0;exact aa.b (hno (hbad (.inr ⟨h0,hc⟩))).symm rfl
     ·rename_i h1 h0;simp only[hke] at h1 h0;apply kCt [1,4,12,13,14,27,28,29] [];conv=>whnf
      exact ih' (j+1) _ _ _ (by omega) ⟨by omega,hok fun h=>h.elim h1 fun h=>hc h.2⟩ rfl rfl rfl
     ·rename_i h1;simp only[hke] at h1 hc;apply kCt [1,4,12,13,14,27,28,29] [];conv=>whnf
      exact ih' (j+1) _ _ _ (by omega) ⟨by omega,hok fun h=>h.elim h1 fun h=>hc h.1⟩ rfl rfl rfl
    ·have hN:eB t.nodes n=true:=by
      unfold eB;rw[Pp];refine .inr (OF.2 fun x hx=>?_);obtain⟨y,hy2,rfl⟩:=QO.1 hx;have:=hB y hy2 (by omega);exact My this
     repeat' first|exact k9|refine k2 ?_|apply kA|apply kI;intro hc|refine k8 ?_|apply kL;intro hl
     apply kCt [1,12,13,14] [];conv=>whnf
     exact ih (i+1) _ _ _ (by omega) ⟨by omega,hnx hN⟩ rfl rfl rfl
  ·repeat' first|exact k9|refine k2 ?_|apply kA|apply kI;intro hc|refine k8 ?_|apply kL;intro hl
   refine aa.b ?_ rfl;rw[eq_comm,OF];intro x hx2;obtain⟨y,hy2,rfl⟩:=QO.1 hx2;exact hA y hy2 (by omega)⟩
end Go.Km
end
section
namespace Go.Sl
open Go.RowKit
class FW(F:Fence):Prop where
 fn:∀f,F.fn f
 depth:F.depth=none
section
variable {F:Fence} [FW F] {m:Nat} {P:Program} {ops:Array Oper} {Q:Exit→Act→World→Prop} {rest:List Oper} {n:FD} {s:Sg} {M:World→Prop}
 {op:Op} {ty:TypeId} {pos:String} {af:Array Edge} {d:Nat} {v:Value}
end
section
variable {P:Program} {C:World→Prop} {ops:Array Oper} {ks:Nat→Kd} {Q:Exit→Act→World→Prop}
def pk(l:List Oper)(r:List Nat):List Oper:=r.map fun i=>l.getD i default
def kr(ks:Nat→Kd)(r:List Nat)(i:Nat):Kd:=ks (r.getD i 0)
theorem wP{l:List Oper}:∀(done rest:List Nat),(∀i∈rest,i<l.length)→xP P C l.toArray (kr ks (done++rest)) Q done.length (pk l rest)=Cw P C l.toArray ks Q rest
 | done,[],_=>rfl
 | done,i :: rest,h=>by
  have ih:=wP (done++[i]) rest (fun j hj=>h j (by simp[hj]));rw[List.append_assoc,Pg,Oh] at ih;have hi:l[i]?=some (l.getD i default):=by
   have:=h i (by simp);simp[List.getD_eq_getElem?_getD,this]
  have hk:kr ks (done++i :: rest) done.length=ks i:=by simp[kr]
  funext a w
  simp only[pk,OB,xP,Cw,opI,Ra,hi,hk];simp only[pk] at ih;rw[←ih];rfl
end
section
variable {P:Program} {C:World→Prop} {ops:Array Oper} {ks:Nat→Kd} {Q:Exit→Act→World→Prop}
def inN(k:Nat)(l:List Nat):Bool:=l.any fun x=>Nat.beq x k
theorem CO{k:Nat}{l:List Nat}:inN k l=true↔k∈l:=by
 simp only[inN,Po]
 constructor
 ·rintro⟨x,hx,e⟩
  rw[←Nat.eq_of_beq_eq_true e];exact hx
 ·intro h;exact⟨k,h,by simp⟩
def FR(k:Nat):List Nat→List Nat
 | []=>[]
 | x :: l=>bif Nat.beq x k then l else x :: FR k l
theorem od(k:Nat):∀l:List Nat,FR k l=l.erase k
 | []=>rfl
 | x :: l=>by
  rw[FR,List.erase_cons,od k l]
  cases h:Nat.beq x k with
  | true=>rw[Nat.eq_of_beq_eq_true h];simp
  | false=>
   have:(x==k)=false:=by
    cases hb:x==k with
    | false=>rfl
    | true=>rw[eq_of_beq hb] at h;simp at h
   simp[this]
def La(ops:Array Oper)(rem:List Nat)(i:Nat):Bool:=
 match ops[i]? with
 | some o=>o.after.all fun e=>!Region.binds .any e || !inN e.on rem
 | none=>false
def nE(ops:Array Oper)(rem:List Nat):List Nat:=rem.filter fun i=>La ops rem i
theorem dh{rem:List Nat}{i:Nat}:i∈nE ops rem↔i∈rem∧∃o,ops[i]?=some o∧∀e∈o.after,Region.binds .any e=true→e.on ∉ rem:=by
 rw[nE,Qu]
 constructor
 ·rintro⟨h1,h2⟩
  refine⟨h1,?_⟩;unfold La at h2
  cases ho:ops[i]? with
  | none=>rw[ho] at h2;cases h2
  | some o=>
   rw[ho] at h2;refine⟨o,rfl,fun e he hb hm=>?_⟩;have:=(P1.1 h2) e he;simp only[hb,QJ,Qy,Pc] at this;rw[CO.2 hm] at this
   cases this
 ·rintro⟨h1,o,ho,h2⟩
  refine⟨h1,?_⟩;unfold La;rw[ho];refine P1.2 fun e he=>?_
  cases hb:Region.binds .any e with
  | false=>rfl
  | true=>
   have:=h2 e he hb
   cases hi:inN e.on rem with
   | false=>rfl
   | true=>exact absurd (CO.1 hi) this
def wpN(P:Program)(C:World→Prop)(ops:Array Oper)(ks:Nat→Kd)(Q:Exit→Act→World→Prop):Nat→List Nat→Act→World→Prop
 | 0,_=>fun a w=>Q .normal a w
 | f+1,rem=>fun a w=>match (nE ops rem).find? fun i=>(ks i).still with
  | some i=>opI P C ops ks i (wpN P C ops ks Q f (rem.erase i)) a w
  | none=>∀i∈nE ops rem,opI P C ops ks i (wpN P C ops ks Q f (rem.erase i)) a w
theorem Ko{k i:Nat}{K:Act→World→Prop}(hsel:Region.noSelect ops=true)(hpk:yz ops ks k i=true){a:Act}{w:World}(h1:opI P C ops ks k (fun a w=>opI P C ops ks i K a w) a w) :
  opI P C ops ks i (opI P C ops ks k K) a w:=by
 unfold opI at h1 ⊢;unfold yz at hpk
 cases hk:ops[k]? with
 | none=>
  simp only[hk] at h1;exact h1
 | some o1=>
  cases hi:ops[i]? with
  | none=>
   simp only[hk,hi] at h1 ⊢;exact h1
  | some o2=>
   simp only[hk,hi,Oi] at h1 hpk ⊢;exact LF (Two.of hpk.1 (Region.noSelect_spec hsel k o1 · · hk) (Region.noSelect_spec hsel i o2 · · hi)) hpk.2 h1
structure Up(ops:Array Oper)(rem:List Nat):Prop where
 nodup:rem.Nodup
 closed:∀j o,ops[j]?=some o→j ∉ rem→∀e∈o.after,Region.binds .any e=true→e.on ∉ rem
theorem Up.erase{rem:List Nat}{i:Nat}(h:Up ops rem)(hi:i∈nE ops rem):Up ops (rem.erase i):=by
 refine⟨h.nodup.erase i,fun j o ho hj e he hb hm=>?_⟩;have hm':=Rf hm
 by_cases hji:j=i
 ·subst hji;obtain⟨_,o',ho',ha⟩:=dh.1 hi;rw[ho] at ho'
  cases ho';exact ha e he hb hm'
 ·refine h.closed j o ho (fun hh=>hj ?_) e he hb hm';exact(Rk hji).2 hh
theorem we{rem:List Nat}{i j:Nat}(hj:j∈nE ops rem)(hij:j≠i):j∈nE ops (rem.erase i):=by
 obtain⟨h1,o,ho,ha⟩:=dh.1 hj;exact dh.2 ⟨(Rk hij).2 h1,o,ho,fun e he hb hm=>ha e he hb (Rf hm)⟩
theorem qf{rem:List Nat}(hc:∀j o,ops[j]?=some o→j ∉ rem→∀e∈o.after,Region.binds .any e=true→e.on ∉ rem) :
  ∀(f i k:Nat) (o:Oper),ops[i]?=some o→(∀e∈o.after,Region.binds .any e=true→e.on ∉ rem)→eb ops f i k=true→k ∉ rem
 | 0,_,_,_,_,_,h=>by simp[eb] at h
 | f+1,i,k,o,ho,ha,h=>by
  unfold eb at h;rw[ho] at h;simp only at h;obtain⟨e,he,hb⟩:=Array.any_eq_true'.1 h;simp only[Oi,Pp] at hb;have hl:=ha e he hb.1;rcases hb.2 with hb2|hb2
  ·have:=Nat.eq_of_beq_eq_true hb2;rw[←this];exact hl
  ·cases ho':ops[e.on]? with
   | none=>
    cases f with
    | zero=>simp[eb] at hb2
    | succ f=>simp[eb,ho'] at hb2
   | some o'=>exact qf hc f e.on k o' ho' (hc _ _ ho' hl) hb2
def IH(ops:Array Oper)(ks:Nat→Kd):Bool:=
 Region.noSelect ops&&(List.range ops.size).all fun i=>
  (match ops[i]? with|some o=>o.after.all fun e=>!Region.binds .any e||Nat.blt e.on i|none=>true) &&
  (!(ks i).still||(List.range ops.size).all fun j=>Nat.beq i j||(yz ops ks i j||(eb ops 6 i j||eb ops 6 j i)))
structure BOk(ops:Array Oper)(ks:Nat→Kd):Prop where
 sel:Region.noSelect ops=true
 back:∀i o,ops[i]?=some o→∀e∈o.after,Region.binds .any e=true→e.on<i
 pair:∀i j,i<ops.size→j<ops.size→i≠j→(ks i).still=true→yz ops ks i j=true∨eb ops 6 i j=true∨eb ops 6 j i=true
theorem BOk.of(h:IH ops ks=true):BOk ops ks:=by
 simp only[IH,Oi,OF,Pf] at h;obtain⟨h1,h2⟩:=h;refine⟨h1,fun i o ho e he hb=>?_,fun i j hi hj hij hs=>?_⟩
 ·have:=(h2 i (OO.1 ho).1).1;rw[ho] at this;have h5:=(P1.1 this) e he;simp only[hb,QJ,Qy] at h5;exact cF h5
 ·have:=(h2 i hi).2;simp only[hs,QJ,Qy,OF,Pf,Pp] at this;rcases this j hj with h|h|h
  ·exact absurd (Nat.eq_of_beq_eq_true h) hij
  ·exact .inl h
  ·exact .inr h
theorem BOk.two(h:BOk ops ks){rem:List Nat}(hu:Up ops rem){i j:Nat}(hi:i∈nE ops rem)(hj:j∈nE ops rem)(hij:i≠j)(hs:(ks i).still=true):yz ops ks i j=true:=by
 obtain⟨hi1,oi,hoi,hia⟩:=dh.1 hi;obtain⟨hj1,oj,hoj,hja⟩:=dh.1 hj;rcases h.pair i j (OO.1 hoi).1 (OO.1 hoj).1 hij hs with h|h|h
 ·exact h
 ·exact absurd hj1 (qf hu.closed 6 i j oi hoi hia h)
 ·exact absurd hi1 (qf hu.closed 6 j i oj hoj hja h)
theorem qp{rem:List Nat}{i f:Nat}(hi:i∈rem)(hl:rem.length=f+1):(rem.erase i).length=f:=by
 rw[List.length_erase_of_mem hi,hl];rfl
theorem Lq(hok:BOk ops ks):∀(f:Nat),
  (∀rem:List Nat,rem.length=f+1→Up ops rem→∀j∈nE ops rem,∀a w,wpN P C ops ks Q (f+1) rem a w→opI P C ops ks j (wpN P C ops ks Q f (rem.erase j)) a w)∧
  (∀rem:List Nat,rem.length=f+1→Up ops rem→∀i∈nE ops rem,(ks i).still=true→∀a w,opI P C ops ks i (wpN P C ops ks Q f (rem.erase i)) a w→wpN P C ops ks Q (f+1) rem a w):=by
 intro f
 induction f with
 | zero=>
  have key:∀rem:List Nat,rem.length=0+1→∀i∈rem,∀j∈rem,i=j:=by
   intro rem hl i hi j hj
   match rem,hl with
   | [x],_=>simp at hi hj;rw[hi,hj]
  refine⟨fun rem hl hu j hj a w h=>?_,fun rem hl hu i hi hs a w h=>?_⟩
  ·unfold wpN at h
   split at h
   ·rename_i i hf;have:=key rem hl i (dh.1 (Qp hf)).1 j (dh.1 hj).1;rw[←this];exact h
   ·exact h j hj
  ·unfold wpN
   split
   ·rename_i j hf;have:=key rem hl i (dh.1 hi).1 j (dh.1 (Qp hf)).1;rw[←this];exact h
   ·rename_i hf;have:=List.find?_eq_none.1 hf i hi;rw[hs] at this;exact absurd rfl this
 | succ f ih=>
  obtain⟨ihA,ihB⟩:=ih;have step:∀rem:List Nat,rem.length=f+1+1→Up ops rem→∀i∈nE ops rem,∀j∈nE ops rem,i≠j→(ks i).still=true→∀a w,opI P C ops ks i (wpN P C ops ks Q (f+1) (rem.erase i)) a w→
    opI P C ops ks j (wpN P C ops ks Q (f+1) (rem.erase j)) a w:=by
   intro rem hl hu i hi j hj hij hs a w h;have h1:opI P C ops ks i (fun a w=>opI P C ops ks j (wpN P C ops ks Q f ((rem.erase i).erase j)) a w) a w:=
    opI.mono (fun a w hh=>ihA _ (qp (dh.1 hi).1 hl) (hu.erase hi) j (we hj (Ne.symm hij)) a w hh) h
   have h2:=Ko hok.sel (hok.two hu hi hj hij hs) h1;rw[List.erase_comm] at h2;exact opI.mono (fun a w hh=>ihB _ (qp (dh.1 hj).1 hl) (hu.erase hj) i (we hi hij) hs a w hh) h2
  refine⟨fun rem hl hu j hj a w h=>?_,fun rem hl hu i hi hs a w h=>?_⟩
  ·rw[wpN] at h
   split at h
   ·rename_i i hf;have hi:=Qp hf;have hs:(ks i).still=true:=by simpa using List.find?_some hf
    by_cases hij:i=j
    ·rw[←hij];exact h
    ·exact step rem hl hu i hi j hj hij hs a w h
   ·exact h j hj
  ·rw[wpN]
   split
   ·rename_i j hf
    by_cases hij:i=j
    ·rw[←hij];exact h
    ·exact step rem hl hu i hi j (Qp hf) hij hs a w h
   ·rename_i hf;have:=List.find?_eq_none.1 hf i hi;rw[hs] at this;exact absurd rfl this
structure N4(ops:Array Oper)(rem:List Nat)(listed:Array Bool):Prop where
 size:listed.size=ops.size
 mem:∀i,i∈rem↔(i<ops.size∧listed.getD i true=false)
 up:Up ops rem
theorem He(hok:BOk ops ks):∀(fuel:Nat) (rem:List Nat) (listed:Array Bool) (a:Act) (w:World),rem.length=fuel→N4 ops rem listed→wpN P C ops ks Q fuel rem a w→wpAny P .any ops Q fuel listed a w:=by
 intro fuel
 induction fuel with
 | zero=>
  intro rem listed a w hl inv h;obtain rfl:=OJ hl;refine⟨?_,h⟩;rw[List.eq_nil_iff_forall_not_mem];intro j hj;obtain⟨h1,o,ho,_⟩:=mem_ready.1 hj;have:=(inv.mem j).2 ⟨(OO.1 ho).1,h1⟩;simp at this
 | succ fuel ih=>
  intro rem listed a w hl inv h;have hrdy:∀i,i∈Region.ready .any ops listed↔i∈nE ops rem:=by
   intro i;rw[mem_ready,dh,inv.mem i]
   constructor
   ·rintro⟨h1,o,ho,h2⟩
    refine⟨⟨(OO.1 ho).1,h1⟩,o,ho,fun e he hb hm=>?_⟩;have hh:=h2 e he hb;have hx:=(inv.mem e.on).1 hm;rw[r9 (by rw[inv.size];exact hx.1),hh] at hx
    cases hx.2
   ·rintro⟨⟨h0,h1⟩,o,ho,h2⟩
    refine⟨h1,o,ho,fun e he hb=>?_⟩;have hlt:=hok.back i o ho e he hb
    cases hle:listed.getD e.on false with
    | true=>rfl
    | false=>exact absurd ((inv.mem e.on).2 ⟨by omega,by rw[r9 (by rw[inv.size];omega)];exact hle⟩) (h2 e he hb)
  refine⟨fun hnil=>?_,fun i hi=>?_⟩
  ·
   have hne:rem≠[]:=by rintro rfl;simp at hl
   have hex:∃i,i∈rem∧∀k∈rem,i≤k:=by
    have:∀l:List Nat,l≠[]→∃i,i∈l∧∀k∈l,i≤k:=by
     intro l
     induction l with
     | nil=>intro h;exact absurd rfl h
     | cons x l ihl=>
      intro _
      by_cases hn:l=[]
      ·subst hn;exact⟨x,by simp,by simp⟩
      ·obtain⟨i,hi,hk⟩:=ihl hn
       by_cases hxi:x≤i
       ·refine⟨x,by simp,fun k hkm=>?_⟩;rcases OD.1 hkm with rfl|hkm
        ·exact Ov _
        ·exact OA hxi (hk k hkm)
       ·refine⟨i,by simp[hi],fun k hkm=>?_⟩;rcases OD.1 hkm with rfl|hkm
        ·omega
        ·exact hk k hkm
    exact this rem hne
   obtain⟨i,him,hmin⟩:=hex;have hlt:=((inv.mem i).1 him).1;have:i∈Region.ready .any ops listed:=(hrdy i).2 (dh.2 ⟨him,_,Qn hlt,fun e he hb hm=>by
    have h1:=hok.back i _ (Qn hlt) e he hb;have h2:=hmin _ hm;omega⟩)
   rw[hnil] at this
   cases this
  ·have hi':=(hrdy i).1 hi;obtain⟨hun,oi,hoi,hall⟩:=mem_ready.1 hi;have hilt:i<ops.size:=(OO.1 hoi).1;have hA:=(Lq (P:=P) (C:=C) (Q:=Q) hok fuel).1 rem hl inv.up i hi' a w h;refine wpOp_mono (fun a' w' hh=>?_) (yJ (Q:=Q) hA);refine ih (rem.erase i) (listed.setIfInBounds i true) a' w' (qp (dh.1 hi').1 hl) ⟨by simp[inv.size],fun j=>?_,inv.up.erase hi'⟩ hh
   by_cases hji:j=i
   ·subst hji
    constructor
    ·intro hm;exact absurd hm (by rw[inv.up.nodup.mem_erase_iff];simp)
    ·rintro⟨_,hm⟩
     have:j<listed.size:=by rw[inv.size];exact hilt
     simp[this] at hm
   ·have e1:(listed.setIfInBounds i true).getD j true=listed.getD j true:=getD_set_ne true (fun e=>hji e.symm);rw[e1,←inv.mem j,Rk hji]
theorem yg{id:Nat}{a:Act}{w:World}(hm:P.follows .mixedOrders=true)(hok:IH ops ks=true)(h:wpN P C ops ks Q ops.size (List.range ops.size) a { w with drawn:=w.drawn+1 }):(Code.region id ops true).wp P Q a w:=by
 refine wp_region_any hm (He (BOk.of hok) _ (List.range ops.size) _ a _ (by simp) ⟨by simp,fun i=>?_,List.nodup_range,fun j o ho hj=>?_⟩ h)
 ·rw[Pf]
  constructor
  ·intro hi;exact⟨hi,by simp[hi]⟩
  ·exact fun hi=>hi.1
 ·exact absurd (Pf.2 (OO.1 ho).1) hj
inductive Tr where
 | fin
 | seg (r:List Nat) (t:Tr)
 | both (a b:Tr)
def Tr.eqB:Tr→Tr→Bool
 | .fin,.fin=>true
 | .seg r t,.seg r' t'=>r==r'&&Tr.eqB t t'
 | .both a b,.both a' b'=>Tr.eqB a a'&&Tr.eqB b b'
 | _,_=>false
theorem Tr.w9:∀{a b:Tr},Tr.eqB a b=true→a=b
 | .fin,.fin,_=>rfl
 | .seg r t,.seg r' t',h=>by
  simp only[Tr.eqB,Oi,beq_iff_eq] at h;rw[h.1,Tr.w9 h.2]
 | .both a b,.both a' b',h=>by
  simp only[Tr.eqB,Oi] at h;rw[Tr.w9 h.1,Tr.w9 h.2]
 | .fin,.seg ..,h=>by simp[Tr.eqB] at h
 | .fin,.both ..,h=>by simp[Tr.eqB] at h
 | .seg ..,.fin,h=>by simp[Tr.eqB] at h
 | .seg ..,.both ..,h=>by simp[Tr.eqB] at h
 | .both ..,.fin,h=>by simp[Tr.eqB] at h
 | .both ..,.seg ..,h=>by simp[Tr.eqB] at h
def Tr.cons(i:Nat):Tr→Tr
 | .seg r t=>.seg (i :: r) t
 | t=>.seg [i] t
def Tr.alts:List Tr→Tr
 | []=>.fin
 | [t]=>t
 | t :: l=>.both t (Tr.alts l)
def wpT(P:Program)(C:World→Prop)(ops:Array Oper)(ks:Nat→Kd)(Q:Exit→Act→World→Prop):Tr→Act→World→Prop
 | .fin=>fun a w=>Q .normal a w
 | .seg r t=>Cw P C ops ks (fun _=>wpT P C ops ks Q t) r
 | .both x y=>fun a w=>wpT P C ops ks Q x a w∧wpT P C ops ks Q y a w
def Hj(ops:Array Oper)(ks:Nat→Kd):Nat→List Nat→Tr
 | 0,_=>.fin
 | f+1,rem=>match (nE ops rem).find? fun i=>(ks i).still with
  | some i=>Tr.cons i (Hj ops ks f (FR i rem))
  | none=>Tr.alts ((nE ops rem).map fun i=>Tr.cons i (Hj ops ks f (FR i rem)))
theorem z4{i:Nat}{t:Tr}{a:Act}{w:World}(h:wpT P C ops ks Q (Tr.cons i t) a w):opI P C ops ks i (wpT P C ops ks Q t) a w:=by
 cases t<;>exact h
theorem yS:∀{l:List Tr} {a:Act} {w:World},wpT P C ops ks Q (Tr.alts l) a w→∀t∈l,wpT P C ops ks Q t a w
 | [],_,_,_,t,ht=>by cases ht
 | [x],_,_,h,t,ht=>by
  rw[Pj] at ht;rw[ht];exact h
 | x :: y :: l,a,w,h,t,ht=>by
  rcases OD.1 ht with rfl|ht
  ·exact h.1
  ·exact yS h.2 t ht
theorem uP:∀(f:Nat) (rem:List Nat) (a:Act) (w:World),wpT P C ops ks Q (Hj ops ks f rem) a w→wpN P C ops ks Q f rem a w
 | 0,_,a,w,h=>h
 | f+1,rem,a,w,h=>by
  unfold Hj at h;rw[wpN]
  split
  ·rename_i i hf;rw[hf] at h;simp only[od] at h;exact opI.mono (fun a w hh=>uP f _ a w hh) (z4 h)
  ·rename_i hf;intro i hi;rw[hf] at h;simp only[od] at h;have:=yS h _ (Pq.2 ⟨i,hi,rfl⟩);exact opI.mono (fun a w hh=>uP f _ a w hh) (z4 this)
structure TT(P:Program)(C:World→Prop)(l:List Oper)(ks:Nat→Kd)(Q:Exit→Act→World→Prop)(t:Tr)(n:FD)(s:Sg)(M:World→Prop):Prop where
 go:∀a w,Fr n s a→M w→wpT P C l.toArray ks Q t a w
theorem TC.N2 {n:FD} {s:Sg} {w0:World} {L:List HP} {id:Nat} {l:List Oper} (ovr:List (Nat×Kd)) (t:Tr) (hm:P.follows .mixedOrders=true) (hok:(IH l.toArray (kds l ovr)&&Tr.eqB (Hj l.toArray (kds l ovr) l.length (List.range l.length)) t)=true)
  (h:TT P (St w0 L) l (kds l ovr) Q t n s (St w0 L)):TC P (.region id l.toArray true) Q n s (St w0 L):=by
 simp only[Oi] at hok;refine⟨fun a w hf hw=>yg (C:=St w0 L) hm hok.1 (uP _ _ _ _ ?_)⟩;have:=h.go a w.drew hf hw.drew;rw[←Tr.w9 hok.2] at this;simpa using this
variable {l:List Oper} {n:FD} {s:Sg} {M:World→Prop}
theorem TT.fin(k:TX Q .normal n s M):TT P C l ks Q .fin n s M:=⟨fun a w hf hm=>k.go a w hf hm⟩
theorem TX.tree{t:Tr}(k:TT P C l ks Q t n s M):TX (fun _=>wpT P C l.toArray ks Q t) .normal n s M:=⟨fun a w hf hm=>k.go a w hf hm⟩
theorem TT.seg{r:List Nat}{t:Tr}(hr:(r.all fun i=>Nat.blt i l.length)=true)(k:TL P C l.toArray (kr ks r) (fun _=>wpT P C l.toArray ks Q t) 0 (pk l r) n s M):TT P C l ks Q (.seg r t) n s M:=by
 refine⟨fun a w hf hm=>?_⟩;have:=k.go a w hf hm;have e:=wP (P:=P) (C:=C) (Q:=fun _=>wpT P C l.toArray ks Q t) (ks:=ks) (l:=l) [] r (fun i hi=>cF (OF.1 hr i hi));rw[OH,Ol] at e;rw[e] at this;exact this
end
end Go.Sl
end
section
namespace Go.Sl
open Go
theorem Ev.Ni {P:Program} {n:FD} {s:Sg} {M:World→Prop} {ty:TypeId} {f:FuncId} {e:Array Value→Sem Value} {xs:List Operand} {vs:List Value} {tys:Array TypeId} {v:Value}
  (hf':∀args w,(callFunc f args).run P w=((e args).run P w).andThen fun v w'=>.ok (.value v) w') (hxs:evs s xs=some vs) (hv:∀w,(e vs.toArray).run P w=.ok v w) :
  Ev P n s M (.call { callee:=.value (.func f),args:=xs.toArray,argTypes:=tys }) ty v:=by
 refine⟨fun a w o ho ht hf hm=>?_⟩;have h1:=wY hf hxs;have h2:=hv w;simp[execOp,ho,resolve,Deferred.ofValue,Act.eval,invoke,hf' _ w,h1,h2]
end Go.Sl
namespace Go.Sl
open Go
section
variable {P:Program} {n:FD} {s:Sg} {M:World→Prop} {ty:TypeId}
theorem Ev.Dc{x y:Operand}{t te u:TypeId}{a:Option Addr}(hp:P.underlying t=some (.pointer te))(hx:ev s x=some (.pointer a))(hy:ev s y=some (.pointer none)):Ev P n s M (.binOp .eql t x y u) ty (.bool a.isNone):=by
 refine⟨fun ac w o ho ht hf hm=>?_⟩;have h:(Op.equal t (.pointer a) (.pointer none)).run P w=.ok a.isNone w:=by
  show(Op.equalIn (9999+1) t (.pointer a) (.pointer none)).run P w=_
  rw[Op.equalIn]
  cases a<;>simp[run_underlying hp]
 simp[execOp,ho,hf.ev hx,hf.ev hy,eqGuard,binOp,h]
theorem Ev.Hi{x y:Operand}{t te u:TypeId}{j:TypeInfo}{a:Addr}(hp:P.underlying t=some (.pointer te))(hj:P.info? te=some j)(hx:ev s x=some (.pointer (some a)))(hy:ev s y=some (.pointer (some a))):Ev P n s M (.binOp .neq t x y u) ty (.bool false):=by
 refine⟨fun ac w o ho ht hf hm=>?_⟩;have h:=Lib.run_neq_ptr_same w a hp hj;simp[execOp,ho,hf.ev hx,hf.ev hy,eqGuard,h]
theorem Ev.ER{x:Operand}{src dst t e:TypeId}{j:TypeInfo}{cells:Nat}{a:Addr}(hs:P.underlying src=some (.pointer t))(hd:P.underlying dst=some .unsafePointer)(ht:P.info? t=some j)(hj:j.size≠0)(hx:ev s x=some (.pointer (some a)))(hsh:∀w,M w→w.shape? a.block=some (e,cells))(hoff:a.off<cells) :
  Ev P n s M (.convert src dst x) ty (.pointer (some a)):=by
 refine⟨fun ac w o ho ht' hf hm=>?_⟩;have h:=Lib.run_to_unsafe w a hs hd ht hj (hsh w hm) hoff;simp[execOp,ho,hf.ev hx,h]
theorem Ev.zn{x:Operand}{src dst u e:TypeId}{j:TypeInfo}{cells:Nat}{a:Addr}(hs:P.underlying src=some .unsafePointer)(hd:P.underlying dst=some (.pointer u))(hu:P.info? u=some j)(hx:ev s x=some (.pointer (some a)))(hsh:∀w,M w→w.shape? a.block=some (e,cells))(hl:liesAt P P.depth e (cells / P.cellsOf e) a.off u 1=true) :
  Ev P n s M (.convert src dst x) ty (.pointer (some a)):=by
 refine⟨fun ac w o ho ht' hf hm=>?_⟩;have h:=Lib.run_from_unsafe w a hs hd hu (hsh w hm) hl;simp[execOp,ho,hf.ev hx,h]
theorem St.wk{w0 w:World}{L:List HP}{b t:Nat}{cs:List Value}(h:St w0 L w)(ha:At L (blk b cs t)):w.shape? b=some (t,cs.length):=by
 have:=h.yL ha;simp[World.shape?,this]
end
end Go.Sl
namespace Go.Proofs.YthebhpcjcihjgaaGreatDoor
open Go Go.Sl Go.RowKit
theorem Hx:(Tryz.prog.info? 188).map (·.size)=some 2:=by kernel_rfl
theorem Hf:liesAt Tryz.prog Tryz.prog.depth 188 (2 / Tryz.prog.cellsOf 188) 0 188 1=true:=by kernel_rfl
theorem zY(args:Array Value)(w:World):(callFunc 180 args).run Tryz.prog w=((Extern.AbiNoEscape.same args).run Tryz.prog w).andThen fun v w'=>.ok (.value v) w':=
 run_callFunc_extern Tryz.func180 (by kernel_rfl) (by kernel_rfl) (by kernel_rfl) (by kernel_rfl) args w
abbrev xH(b:Nat)(ad:Option Addr)(p:Option Addr×Nat)(n:Nat):HP:=blk b [.pointer ad,.slice p.1 n p.2] 188
set_option maxRecDepth 20000 in
theorem vb{w0:World}{L0:List HP}(b:Nat)(ad:Option Addr)(p:Option Addr×Nat)(n:Nat)(w:World)(had:ad=none∨ad=some ⟨b,0,none⟩)(hw:St w0 (xH b ad p n :: L0) w) :
  Calls Tryz.prog 158 #[.pointer (some ⟨b,0,none⟩)] w (fun e w'=>∃x:Unit,e=.returned (.tuple #[])∧St w0 (xH b (some ⟨b,0,none⟩) p n :: L0) w'):=by
 obtain⟨j,hj,hjs⟩:=QD.1 Hx;refine TC.calls (l:=[.pointer (some ⟨b,0,none⟩)]) (M:=St w0 (xH b ad p n :: L0)) Tryz.func158 rfl Tryz.ntmps158 rfl hw ?_;have hne:j.size≠0:=by rw[hjs];decide
 have u1:Tryz.prog.underlying 185=some (.pointer 188):=Tryz.underlying185;have u2:Tryz.prog.underlying 221=some .unsafePointer:=Tryz.underlying221;have hl:=Hf;rcases had with rfl|rfl
 ·repeat' (first|((apply T.ev_;exact rfl;apply Ev.Dc u1;exact rfl;exact rfl))|((apply T.ev_;exact rfl;apply Ev.ER u1 u2 hj hne;exact rfl;exact(fun w hw=>St.wk (b:=b) hw .here);exact QU 1))|((apply T.ev_;exact rfl;apply Ev.Ni (vs:=[.pointer (some ⟨b,0,none⟩)]) zY;exact rfl;exact(fun w=>Lib.run_noEscape w _)))|((apply T.ev_;exact rfl;apply Ev.zn u2 u1 hj;exact rfl;exact(fun w hw=>St.wk (b:=b) hw .here);exact hl))|(refine W1 ?_)|(refine W2 (fun hc=>?_) (fun hc=>?_))|(intro _))
  exact TX.ML rfl (fun w' hw=>⟨(),rfl,hw⟩)
 ·repeat' (first|((apply T.ev_;exact rfl;apply Ev.Dc u1;exact rfl;exact rfl))|((apply T.ev_;exact rfl;apply Ev.Hi u1 hj;exact rfl;exact rfl))|(refine W1 ?_)|(refine W2 (fun hc=>?_) (fun hc=>?_))|(intro _))
  exact TX.ML rfl (fun w' hw=>⟨(),rfl,hw⟩)
def zF(l:List UInt8):List (List Value):=l.map fun x=>[.int .u8 (x.toNat:Int)]
abbrev Ix(p:Option Addr×Nat)(n:Nat)(l:List UInt8):HP:=own 5 1 p.1 n p.2 (zF l)
end Go.Proofs.YthebhpcjcihjgaaGreatDoor
namespace Go.Sl
open Go Go.RowKit Go.Lib
section
variable {P:Program} {n:FD} {s:Sg} {ty:TypeId} {w0:World} {L:List HP} {M:World→Prop}
theorem Chg.freeze{w:World}{g:Nat}{S1:Nat→Prop}(hg:S1 g)(k:Nat):Chg w (w.freeze ⟨g,0,none⟩ k) S1:=by
 unfold World.freeze
 split
 ·exact Chg.refl
 ·exact⟨rfl,rfl,rfl,by simp,fun b hb hn=>by
   simp only[Array.getElem?_modify];rw[if_neg (fun e=>hn (by rw[←e];exact hg))]⟩
def hAt(g:Nat):HP:=⟨fun S _=>S g,fun h hh=>h _ hh,fun _ h=>h⟩
theorem HG(l:List Value):(l.map fun v=>[v]).flatten=l:=by
 induction l with
 | nil=>rfl
 | cons v l ih=>simp only[OB,Ph,ih];rfl
theorem Ac.NL {x y:Operand} {pt it e c g:Nat} {l:List UInt8} {L0:List HP} (hp:P.underlying pt=some (.pointer e)) (hc:P.cellsOf e=1) (h0:l≠[]) (hl:l.length≤1000000000) (hx:ev s x=some (.pointer (some ⟨g,0,none⟩))) (hy:ev s y=some (.int .i64 (l.length:Int)))
  (hdl:Del L (own e 1 (some ⟨g,0,none⟩) l.length c ((l.map fun b=>Value.int .u8 (b.toNat:Int)).map fun v=>[v])) L0):Ac P n s (St w0 L) (.call { callee:=.builtin .unsafeString,args:=#[x,y],argTypes:=#[pt,it] }) ty (ι:=Unit) (fun _=>.string ⟨l.toArray⟩) (fun _=>St w0 (hAt g :: L0)):=by
 refine⟨fun a w o ho ht' hf hm=>?_⟩;obtain⟨S1,g1,g2,g3⟩:=(hm.del hdl).upd (H':=hAt g) Upd.here;have hS:S1 g:=g2.2.2.2 g rfl;have hcell:∀j x,l[j]?=some x→w.cell? ((⟨g,0,none⟩:Addr).add j)=some (.int .u8 x.toNat):=fun j x hj=>by
  refine g2.1.cells (g:=g) rfl j _ ?_;rw[HG,Pv,hj];rfl
 have hrow:∃cur:Array Value,w.heap[g]?=some (.cells cur e (0,0))∧l.length≤cur.size:=by
  rcases g2.1.2 with ⟨hv,_⟩|⟨g',cap,cur,hv,_,hg,hnc,_,hcs,_⟩
  ·injection hv with a1;cases a1
  ·injection hv with a1 a2 a3
   injection a1 with a1
   injection a1 with a1
   subst a1;exact⟨cur,hg,by omega⟩
 obtain⟨cur,hg,hcur⟩:=hrow;have hr:=run_unsafeString_row (P:=P) w pt it ty e hp hc g cur.size (by simp[World.shape?,hg]) l h0 hcur (by omega) hcell;refine⟨(),w.freeze ⟨g,0,none⟩ l.length,?_,(g3 S1 (w.freeze ⟨g,0,none⟩ l.length) (Chg.freeze hS l.length) (fun b hb=>.inl hb) hS)⟩;simp[execOp,ho,resolve,hf.ev hx,hf.ev hy,invoke,builtin,ht',hr]
theorem Ev.AD{x:Operand}{t:TypeId}{a:Addr}{k c:Nat}(hx:ev s x=some (.slice (some a) k c))(hc:c≠0):Ev P n s M (.call { callee:=.builtin .unsafeSliceData,args:=#[x],argTypes:=#[t] }) ty (.pointer (some a)):=by
 refine⟨fun ac w o ho ht' hf hm=>?_⟩;have h:=run_unsafeSliceData_row (P:=P) w #[t] ty a k c hc;simp[execOp,ho,resolve,hf.ev hx,invoke,builtin,ht',h]
theorem Ac.M0{op:Op}{v:Value}(h:Ev P n s M op ty v):Ac P n s M op ty (ι:=Unit) (fun _=>v) (fun _=>M):=⟨fun a w o ho ht hf hm=>⟨(),w,h.go a w o ho ht hf hm,hm⟩⟩
end
end Go.Sl
namespace Go.Proofs.YthebhpcjcihjgaaGreatDoor
open Go Go.Sl Go.RowKit Go.Lib
theorem EX:Tryz.prog.cellsOf 5=1:=by kernel_rfl
set_option maxRecDepth 20000 in
theorem FL{w0:World}{L0:List HP}(b:Nat)(ad:Option Addr)(p:Option Addr×Nat)(l:List UInt8)(w:World)(h0:l≠[])(hl:l.length≤1000000000)(hw:St w0 (xH b ad p l.length :: Ix p l.length l :: L0) w) :
  Calls Tryz.prog 149 #[.pointer (some ⟨b,0,none⟩)] w (fun e w'=>∃x:Nat,e=.returned (.string ⟨l.toArray⟩)∧(∃a,p.1=some a∧a.block=x)∧St w0 (hAt x :: xH b ad p l.length :: L0) w'):=by
 have hpos:0<l.length:=by cases l with
  | nil=>exact absurd rfl h0
  | cons _ _=>simp
 obtain⟨A,c⟩:=p;have hon:=hw.Ii (H:=Ix (A,c) l.length l) (.there .here);have hAg:∃g,A=some ⟨g,0,none⟩∧c≠0:=by
  rcases hon.1.2 with ⟨hv,h⟩|⟨g,cap,cur,hv,_,_,hnc,_⟩
  ·omega
  ·injection hv with a1 a2 a3
   exact⟨g,a1,by omega⟩
 obtain⟨g,rfl,hc⟩:=hAg;refine TC.calls (l:=[.pointer (some ⟨b,0,none⟩)]) (M:=St w0 (xH b ad (some ⟨g,0,none⟩,c) l.length :: Ix (some ⟨g,0,none⟩,c) l.length l :: L0)) Tryz.func149 rfl Tryz.ntmps149 rfl hw ?_
 repeat' (first|((refine TC.N2 [(4,.dZ)] (.seg [0,1,2,3,5,6,7,8,9,4,10,11] .fin) mixed (by kernel_rfl) (TT.seg rfl ?_)))|((apply TL.dZ (d:=7);exact rfl;exact rfl;exact(fun _ h=>h);exact Ac.M0 (Ev.AD rfl hc);exact(fun _ _ h=>h)))|(refine W1 ?_)|(refine W2 (fun hc=>?_) (fun hc=>?_))|(intro _))
 refine TL.xY rfl rfl (Ac.NL Tryz.underlying202 EX h0 hl rfl rfl (L0:=xH b ad (some ⟨g,0,none⟩,c) l.length :: L0) (by
  have e:zF l=(l.map fun b=>Value.int .u8 (b.toNat:Int)).map fun v=>[v]:=by unfold zF;rw[Rv];rfl
  rw[←e];exact .there .here)) (fun _=>?_)
 repeat' (first|((apply TX.tree))|((apply TT.fin))|(refine W1 ?_)|(refine W2 (fun hc=>?_) (fun hc=>?_))|(intro _))
 exact TX.x7 rfl rfl (fun w' hw=>⟨g,rfl,⟨_,rfl,rfl⟩,hw⟩)
end Go.Proofs.YthebhpcjcihjgaaGreatDoor
namespace Go.Km
open Go Go.RowKit Go.Vc Go.Proofs Go.Proofs.YthebhpcjcihjgaaGreatDoor
open Go.Sl hiding lk
def hFr(W:World)(B:Nat→Prop):HP:=⟨fun S w=>∀g,B g→S g∧w.heap[g]?=W.heap[g]?,fun h hh g hg=>⟨h _ (hh g hg).1,(hh g hg).2⟩,fun h hh g hg=>⟨(hh g hg).1,(h g (hh g hg).1).trans (hh g hg).2⟩⟩
def yd(w:World):World:={ w with heap:=#[] }
abbrev jY:Nat:=188
theorem Ly{η:Env}{b v:Nat}{ad sl:D}(h1:η b=some (.va v jY [ad,sl]))(had:ad=.fr (.vl (.pointer none))∨ad=.ptr b v 0)(hsl:sl=vd∨∃b2 v2,sl=.own b2 v2)(Γ:Nat→Option (List F)) :
  fj Tryz.prog Γ η 158 [.ptr b v 0] (.tp []) [b] [(b,.va v jY [.ptr b v 0,sl])]:=by
 refine⟨fun η' hη W c O w vs hΓ hp ho hvs=>⟨inferInstance,?_⟩⟩;have hb:η' b=some (.va v jY [ad,sl]):=(hη b (by simp)).trans h1;obtain⟨g,us,k1,k2,k3,k4,k5⟩:=hp.pc b _ hb;unfold D.aq at k2;obtain⟨u0,us1,rfl,m1,k2⟩:=k2;unfold D.aq at k2;obtain⟨u1,us2,rfl,m2,k2⟩:=k2;unfold D.aq at k2;subst k2;unfold D.aq at hvs;obtain⟨y,ys,rfl,n1,n2⟩:=hvs;unfold D.aq at n2;subst n2;unfold D.rep at n1;obtain⟨g',n3,rfl⟩:=n1;rw[k1] at n3
 cases n3;have hu1:∃p:Option Addr×Nat,∃n,u1=.slice p.1 n p.2:=by
  rcases hsl with rfl|⟨b2,v2,rfl⟩
  ·unfold D.rep F.rep at m2;exact⟨(none,0),0,m2⟩
  ·unfold D.rep at m2;obtain⟨A,m,k,_,e⟩:=m2;exact⟨(A,k),m,e⟩
 have hu0:∃ad':Option Addr,u0=.pointer ad'∧(ad'=none∨ad'=some ⟨g,0,none⟩):=by
  rcases had with rfl|rfl
  ·unfold D.rep F.rep at m1;exact⟨none,m1,.inl rfl⟩
  ·unfold D.rep at m1;obtain⟨g',n3,e⟩:=m1;rw[k1] at n3
   cases n3;exact⟨_,e,.inr rfl⟩
 obtain⟨p,n,rfl⟩:=hu1;obtain⟨ad',rfl,had'⟩:=hu0;have hlt:g<w.heap.size:=hp.lt b g k4;have hst:St (yd w) [xH g ad' p n,hFr w fun x=>x<w.heap.size∧x≠g] w:=
  ⟨⟨rfl,rfl,rfl,by simp[yd],fun x hx=>absurd hx (Nat.not_lt_zero _)⟩,fun x=>x=g,fun x hx=>⟨Oq _,by subst hx;exact hlt⟩,⟨rfl,k5⟩,fun x=>x<w.heap.size∧x≠g,fun x hx=>⟨⟨Oq _,hx.1⟩,hx.2⟩,fun x hx=>⟨hx,rfl⟩,trivial⟩
 refine(vb g ad' p n w had' hst).mono fun e w' ⟨_,he,hst'⟩=>⟨.tuple #[],he,?_⟩;obtain⟨hbl,S1,hS1,⟨hb1,hb2⟩,S2,hS2,hfr,_⟩:=hst';have hsz:w.heap.size≤w'.heap.size:=by
  by_cases hm:w.heap.size - 1=g
  ·have:=(hS1 g hb1).2;omega
  ·have:=(hS2 _ (hfr (w.heap.size - 1) ⟨by omega,hm⟩).1).1.2;omega
 have hch:Chg w w' (O b):=⟨hbl.os,hbl.tape,hbl.output,hsz,fun x hx hn=>(hfr x ⟨hx,fun e=>hn (by rw[e];exact k4)⟩).2⟩
 refine⟨_,_,_,c,_,⟨rfl,rfl,rfl⟩,Cf.le.refl c,by unfold D.rep;exact⟨[],rfl,by unfold D.aq;rfl⟩,hp.upd (S':=O b) hch (fun x hx=>.inl hx) (Cf.le.refl c) rfl rfl (hp.cS hb rfl) ⟨g,[.pointer (some ⟨g,0,none⟩),.slice p.1 n p.2],k1,?_,rfl,k4,hb2⟩,ho.upd hch (fun x hx=>.inl hx) rfl rfl⟩;unfold D.aq;refine⟨_,_,rfl,by unfold D.rep;exact⟨g,k1,rfl⟩,?_⟩;unfold D.aq;exact⟨_,_,rfl,m2,by unfold D.aq;rfl⟩
theorem CE{Z:Nat→Prop}{w:World}:∀{l:List UInt8} {vr:List (List Value)},F.aI Z w (l.map byR) vr→vr=zF l
 | [],vr,h=>by simpa [F.aI,zF] using h
 | x :: l,vr,h=>by
  rw[OB] at h;unfold F.aI at h;obtain⟨u,us,rfl,h1,h2⟩:=h;unfold byR F.aq at h1;obtain⟨a,b,rfl,h3,h4⟩:=h1;unfold F.rep at h3;unfold F.aq at h4;rw[h3,h4,CE h2];rfl
theorem LQ{η:Env}{b v b2 v2:Nat}{l:List UInt8}(h1:η b=some (.va v jY [.ptr b v 0,.own b2 v2]))(h2:η b2=some (.ro v2 5 1 (l.map byR)))(h0:l≠[])(hl:l.length≤1000000000)(Γ:Nat→Option (List F)) :
  fj Tryz.prog Γ η 149 [.ptr b v 0] (.fr (.vl (.string ⟨l.toArray⟩))) [b,b2] [(b,.gone v),(b2,.gone v2)]:=by
 refine⟨fun η' hη W c O w vs hΓ hp ho hvs=>⟨inferInstance,?_⟩⟩;have hb:η' b=some (.va v jY [.ptr b v 0,.own b2 v2]):=(hη b (by simp)).trans h1;have hb2:η' b2=some (.ro v2 5 1 (l.map byR)):=(hη b2 (by simp)).trans h2;have hne:b≠b2:=fun e=>by rw[e,hb2] at hb;cases hb
 have hpos:0<l.length:=by cases l with
  | nil=>exact absurd rfl h0
  | cons _ _=>simp
 obtain⟨g,us,k1,k2,k3,k4,k5⟩:=hp.pc b _ hb;obtain⟨A,k,vr,j1,j2,j3,j4⟩:=hp.pc b2 _ hb2;have:=CE j2;subst this;rw[Ok] at j1 j4;unfold D.aq at k2;obtain⟨u0,us1,rfl,m1,k2⟩:=k2;unfold D.aq at k2;obtain⟨u1,us2,rfl,m2,k2⟩:=k2;unfold D.aq at k2;subst k2;unfold D.aq at hvs;obtain⟨y,ys,rfl,n1,n2⟩:=hvs;unfold D.aq at n2;subst n2;unfold D.rep at n1 m1 m2;obtain⟨g',n3,rfl⟩:=n1;rw[k1] at n3
 cases n3;obtain⟨g',n3,rfl⟩:=m1;rw[k1] at n3
 cases n3;obtain⟨A',m',k',n3,rfl⟩:=m2;rw[j1] at n3
 cases n3;obtain⟨gb,hA⟩:∃gb,A=some ⟨gb,0,none⟩:=by
  rcases j4.1.2 with ⟨hv,h⟩|⟨g,cap,cur,hv,_⟩
  ·omega
  ·injection hv with a1
   exact⟨g,a1⟩
 subst hA;have hOb:O b2 gb:=j4.2.2.2 gb rfl;have hgb:g≠gb:=fun e=>hne (hp.apart _ _ _ k4 (by rw[e];exact hOb))
 have hlt:g<w.heap.size:=hp.lt b g k4;have hltb:gb<w.heap.size:=hp.lt b2 gb hOb;have hst:St (yd w) [xH g (some ⟨g,0,none⟩) (some ⟨gb,0,none⟩,k) l.length,Ix (some ⟨gb,0,none⟩,k) l.length l,hFr w fun x=>x<w.heap.size∧x≠g∧x≠gb] w:=
  ⟨⟨rfl,rfl,rfl,by simp[yd],fun x hx=>absurd hx (Nat.not_lt_zero _)⟩,fun x=>x=g,fun x hx=>⟨Oq _,by subst hx;exact hlt⟩,⟨rfl,k5⟩,fun x=>x=gb,fun x hx=>⟨⟨Oq _,by subst hx;exact hltb⟩,by subst hx;exact fun e=>hgb e.symm⟩,⟨j4.1,j4.2.1,j4.2.2.1,fun x hx=>by simp only[Value.ownBlock,PA] at hx;exact hx.symm⟩,fun x=>x<w.heap.size∧x≠g∧x≠gb,fun x hx=>⟨⟨⟨Oq _,hx.1⟩,hx.2.1⟩,hx.2.2⟩,fun x hx=>⟨hx,rfl⟩,trivial⟩
 refine(FL g (some ⟨g,0,none⟩) (some ⟨gb,0,none⟩,k) l w h0 hl hst).mono fun e w' ⟨x,he,⟨a,ha,hax⟩,hst'⟩=>⟨.string ⟨l.toArray⟩,he,?_⟩
 cases ha
 cases hax;obtain⟨hbl,S0,hS0,hb0,S1,hS1,⟨hb1,hb2'⟩,S2,hS2,hfr,_⟩:=hst';have hsz:w.heap.size≤w'.heap.size:=by
  by_cases hm:w.heap.size - 1=gb
  ·have:=(hS0 gb hb0).2;omega
  ·by_cases hm2:w.heap.size - 1=g
   ·have:=(hS1 g hb1).1.2;omega
   ·have:=(hS2 _ (hfr (w.heap.size - 1) ⟨by omega,hm2,hm⟩).1).1.1.2;omega
 have hch:Chg w w' (O b2):=⟨hbl.os,hbl.tape,hbl.output,hsz,fun x hx hn=>by
  by_cases e:x=g
  ·rw[e,hb2',k5]
  ·exact(hfr x ⟨hx,e,fun e2=>hn (by rw[e2];exact hOb)⟩).2⟩
 have hp1:=hp.upd (S':=O b2) (x':=.gone v2) hch (fun x hx=>.inl hx) (Cf.le.refl c) rfl rfl (hp.cS hb2 rfl) trivial;have ho1:=ho.upd (b:=b2) (S':=O b2) hch (fun x hx=>.inl hx) rfl rfl;have hbx:up η' b2 (.gone v2) b=some (.va v jY [.ptr b v 0,.own b2 v2]):=by rw[aK (Ne.symm hne)];exact hb
 have hp2:=hp1.upd (b:=b) (S':=upO O b2 (O b2) b) (x':=.gone v) Chg.refl (fun x hx=>.inl hx) (Cf.le.refl c) rfl rfl (hp1.cS hbx rfl) trivial;exact⟨_,_,_,c,_,⟨rfl,rfl,rfl⟩,Cf.le.refl c,by unfold D.rep F.rep;rfl,hp2,ho1.upd Chg.refl (fun x hx=>.inl hx) rfl rfl⟩
section
variable {P:Program}
theorem xm {X:Tx} (hX:mA P X) {f:FuncId} {fi:Fi} (hf:X.fi f=some fi) {tc e sz:Nat} {rows rows':List (List F)} {l:List F} {r:F} (hN:Nat.ble (l.length+1) fi.N=true)
  (hrun:∀vs,Sn P X f (⟨r.toD,[(0,.va 0 tc [.ptr 0 0 0,.own 1 0]),(1,.ro 0 e sz rows'),(2,.gh 0 vs (.ptr 0 0 0 :: l.map F.toD))]⟩:wS) ⟨⟨f,fi.N,pP 0 (.ptr 0 0 0 :: l.map F.toD),[.code fi.body],[],none⟩,[],[(2,.gh 0 vs (.ptr 0 0 0 :: l.map F.toD)),(0,.va 0 tc [.ptr 0 0 0,.own 1 0]),(1,.ro 0 e sz rows)],3⟩)
  {η:Env} {b v b2 v2:Nat} (h1:η b=some (.va v tc [.ptr b v 0,.own b2 v2])) (h2:η b2=some (.ro v2 e sz rows)) :
  fj P X.Γ η f (.ptr b v 0 :: l.map F.toD) r.toD [b,b2] [(b,.va v tc [.ptr b v 0,.own b2 (nv η b2)]),(b2,.ro (nv η b2) e sz rows')]:=by
 have hne:Nat.beq b b2=false:=by
  rw[←Bool.not_eq_true];intro h;have:=Nat.eq_of_beq_eq_true h;subst this;rw[h1] at h2
  cases h2
 have hne':Nat.beq b2 b=false:=by rw[←Bool.not_eq_true];intro h;rw[Nat.eq_of_beq_eq_true h,Pm] at hne;cases hne
 have hlk:∀{x y:B} {i:Nat} {z:B},lk [(b,x),(b2,y)] i=some z→(i=b∧z=x)∨(i=b2∧z=y):=by
  intro x y i z h;simp only[lk] at h
  cases e1:Nat.beq b i with
  | true=>rw[e1] at h;cases h;exact .inl ⟨(Nat.eq_of_beq_eq_true e1).symm,rfl⟩
  | false=>
   rw[e1] at h
   cases e2:Nat.beq b2 i with
   | true=>rw[e2] at h;cases h;exact .inr ⟨(Nat.eq_of_beq_eq_true e2).symm,rfl⟩
   | false=>rw[e2] at h;cases h
 have l1:∀{x y:B},lk [(b,x),(b2,y)] b=some x:=by intro x y;simp[lk]
 have l2:∀{x y:B},lk [(b,x),(b2,y)] b2=some y:=by intro x y;simp[lk,hne]
 have ho:∀{u u2:Nat},eN [(b,u),(b2,u2)]=true:=by intro u u2;simp[eN,hne']
 have hp:∀{u u2:Nat},cW [(b,u),(b2,u2)] b u 0=some 0:=by intro u u2;simp[cW]
 have hp2:∀{u u2:Nat},cW [(b,u),(b2,u2)] b2 u2 0=some 1:=by intro u u2;simp[cW,hne']
 refine j5 hX hf (x:=[]) (x0:=[]) (l:=.ptr b v 0 :: l.map F.toD) (l0:=.ptr 0 0 0 :: l.map F.toD) (m0:=[(b,v),(b2,v2)]) (μ:=[(b,v),(b2,nv η b2)]) (hb:=[(b,.va v tc [.ptr b v 0,.own b2 v2]),(b2,.ro v2 e sz rows)]) (h0:=[(0,.va 0 tc [.ptr 0 0 0,.own 1 0]),(1,.ro 0 e sz rows)]) (d':=r.toD) (ds':=.ptr 0 0 0 :: l.map F.toD) (h'':=[(0,.va 0 tc [.ptr 0 0 0,.own 1 0]),(1,.ro 0 e sz rows')]) ⟨ho,ho,?_,?_,?_,?_,?_,?_⟩ ?_ ?_ rfl (fun _ _ _ _ _ _=>⟨[],by simp[D.aq]⟩) ?_ (kv _ _) ?_ (fun vs=>by rw[Oj];exact hrun vs)
 ·intro i x h;rcases hlk h with ⟨rfl,rfl⟩|⟨rfl,rfl⟩
  ·exact⟨h1,O3 ..⟩
  ·exact⟨h2,ON _ (O3 ..)⟩
 ·intro i u h;simp only[OD,Pz,or_false,Qa] at h;rcases h with ⟨rfl,rfl⟩|⟨rfl,rfl⟩
  ·exact⟨_,l1⟩
  ·exact⟨_,l2⟩
 ·intro i x h;rcases hlk h with ⟨rfl,rfl⟩|⟨rfl,rfl⟩
  ·exact O3 ..
  ·exact ON _ (O3 ..)
 ·intro i x h;rcases hlk h with ⟨rfl,rfl⟩|⟨rfl,rfl⟩
  ·exact⟨rfl,.inl ⟨0,rfl⟩⟩
  ·exact⟨rfl,.inl ⟨1,rfl⟩⟩
 ·intro i x y h hy;rcases hlk h with ⟨rfl,rfl⟩|⟨rfl,rfl⟩
  ·rw[h1] at hy
   cases hy;exact Ov _
  ·rw[h2] at hy
   cases hy;show v2≤nv η i
   unfold nv;rw[h2];exact Nat.le_succ _
 ·intro i j u h
  match i,h with
  | 0,h=>cases h;exact .inr (.inl ⟨0,0,rfl,rfl⟩)
  | 1,h=>cases h;exact .inl rfl
 ·simp only[iW,l1,l2,B.ver,Pm,cond_true,iA,bm,cj,hp,hp2]
 ·simp only[bm,cj,hp,ja]
 ·rw[Og,Ok];exact hN
 ·simp only[iW,l1,l2,B.ver,Pm,cond_true,iA,bm,cj,hp,hp2]
theorem xX {X:Tx} (hX:mA P X) {f:FuncId} {fi:Fi} (hf:X.fi f=some fi) {tc e sz:Nat} {rows':List (List F)} {l:List F} {r:F} (hN:Nat.ble (l.length+1) fi.N=true)
  (hrun:∀vs,Sn P X f (⟨r.toD,[(0,.va 0 tc [.ptr 0 0 0,.own 1 0]),(1,.ro 0 e sz rows'),(2,.gh 0 vs (.ptr 0 0 0 :: l.map F.toD))]⟩:wS) ⟨⟨f,fi.N,pP 0 (.ptr 0 0 0 :: l.map F.toD),[.code fi.body],[],none⟩,[],[(1,.gh 0 vs (.ptr 0 0 0 :: l.map F.toD)),(0,.va 0 tc [.fr (.vl (.pointer none)),.fr (.vl (.slice none 0 0))])],2⟩)
  {η:Env} {b v b2:Nat} (h1:η b=some (.va v tc [.fr (.vl (.pointer none)),.fr (.vl (.slice none 0 0))])) (h2:η b2=none) :
  fj P X.Γ η f (.ptr b v 0 :: l.map F.toD) r.toD [b,b2] [(b,.va v tc [.ptr b v 0,.own b2 (nv η b2)]),(b2,.ro (nv η b2) e sz rows')]:=by
 have hne:Nat.beq b b2=false:=by
  rw[←Bool.not_eq_true];intro h;have:=Nat.eq_of_beq_eq_true h;subst this;rw[h1] at h2
  cases h2
 have hne':Nat.beq b2 b=false:=by rw[←Bool.not_eq_true];intro h;rw[Nat.eq_of_beq_eq_true h,Pm] at hne;cases hne
 have hlk:∀{x y:B} {i:Nat} {z:B},lk [(b,x),(b2,y)] i=some z→(i=b∧z=x)∨(i=b2∧z=y):=by
  intro x y i z h;simp only[lk] at h
  cases e1:Nat.beq b i with
  | true=>rw[e1] at h;cases h;exact .inl ⟨(Nat.eq_of_beq_eq_true e1).symm,rfl⟩
  | false=>
   rw[e1] at h
   cases e2:Nat.beq b2 i with
   | true=>rw[e2] at h;cases h;exact .inr ⟨(Nat.eq_of_beq_eq_true e2).symm,rfl⟩
   | false=>rw[e2] at h;cases h
 have l1:∀{x y:B},lk [(b,x),(b2,y)] b=some x:=by intro x y;simp[lk]
 have l2:∀{x y:B},lk [(b,x),(b2,y)] b2=some y:=by intro x y;simp[lk,hne]
 have ho:∀{u u2:Nat},eN [(b,u),(b2,u2)]=true:=by intro u u2;simp[eN,hne']
 have hp:∀{u u2:Nat},cW [(b,u),(b2,u2)] b u 0=some 0:=by intro u u2;simp[cW]
 have hp2:∀{u u2:Nat},cW [(b,u),(b2,u2)] b2 u2 0=some 1:=by intro u u2;simp[cW,hne']
 refine j5 hX hf (x:=[]) (x0:=[]) (l:=.ptr b v 0 :: l.map F.toD) (l0:=.ptr 0 0 0 :: l.map F.toD) (m0:=[(b,v)]) (μ:=[(b,v),(b2,nv η b2)]) (hb:=[(b,.va v tc [.fr (.vl (.pointer none)),.fr (.vl (.slice none 0 0))])]) (h0:=[(0,.va 0 tc [.fr (.vl (.pointer none)),.fr (.vl (.slice none 0 0))])]) (d':=r.toD) (ds':=.ptr 0 0 0 :: l.map F.toD) (h'':=[(0,.va 0 tc [.ptr 0 0 0,.own 1 0]),(1,.ro 0 e sz rows')]) ⟨rfl,ho,?_,?_,?_,?_,?_,?_⟩ ?_ ?_ rfl (fun _ _ _ _ _ _=>⟨[],by simp[D.aq]⟩) ?_ (kv _ _) ?_ (fun vs=>by rw[Oj];exact hrun vs)
 ·intro i x h;simp only[lk] at h
  cases e1:Nat.beq b i with
  | true=>
   rw[e1] at h
   cases h
   cases Nat.eq_of_beq_eq_true e1;exact⟨h1,O3 ..⟩
  | false=>rw[e1] at h;cases h
 ·intro i u h;simp only[OD,Pz,or_false,Qa] at h;obtain⟨rfl,rfl⟩:=h;exact⟨_,l1⟩
 ·intro i x h;rcases hlk h with ⟨rfl,rfl⟩|⟨rfl,rfl⟩
  ·exact O3 ..
  ·exact ON _ (O3 ..)
 ·intro i x h;rcases hlk h with ⟨rfl,rfl⟩|⟨rfl,rfl⟩
  ·exact⟨rfl,.inl ⟨0,rfl⟩⟩
  ·exact⟨rfl,.inl ⟨1,rfl⟩⟩
 ·intro i x y h hy;rcases hlk h with ⟨rfl,rfl⟩|⟨rfl,rfl⟩
  ·rw[h1] at hy
   cases hy;exact Ov _
  ·rw[h2] at hy
   cases hy
 ·intro i j u h
  match i,h with
  | 0,h=>cases h;exact .inr (.inl ⟨0,0,rfl,rfl⟩)
  | 1,h=>cases h;exact .inl rfl
 ·simp only[iW,lk,B.ver,Pm,cond_true,iA,bm,cj]
 ·simp only[bm,cj,cW,Pm,cond_true,ja]
 ·rw[Og,Ok];exact hN
 ·simp only[iW,l1,l2,B.ver,Pm,cond_true,iA,bm,cj,hp,hp2]
end
structure BwP(Γ:Nat→Option (List F))(f:FuncId)(l:List UInt8)(a:List F)(r:F)(l':List UInt8):Prop where
 own:∀(η:Env) (b v b2 v2:Nat),η b=some (.va v jY [.ptr b v 0,.own b2 v2])→η b2=some (.ro v2 5 1 (l.map byR))→fj Tryz.prog Γ η f (.ptr b v 0 :: a.map F.toD) r.toD [b,b2] [(b,.va v jY [.ptr b v 0,.own b2 (nv η b2)]),(b2,.ro (nv η b2) 5 1 (l'.map byR))]
 new:l=[]→∀(η:Env) (b v t:Nat),η b=some (.va v jY [.fr (.vl (.pointer none)),vd])→η t=none→fj Tryz.prog Γ η f (.ptr b v 0 :: a.map F.toD) r.toD [b,t] [(b,.va v jY [.ptr b v 0,.own t (nv η t)]),(t,.ro (nv η t) 5 1 (l'.map byR))]
class HB(Γ:Nat→Option (List F))(f:Nat)(l:List UInt8)(a:List F)(r:outParam F)(l':outParam (List UInt8))(pre:outParam Prop):Prop where
 h:pre→BwP Γ f l a r l'
structure bwK(Γ:Nat→Option (List F))(f:Nat)(rows:List (List F))(a:List F)(k:F→List UInt8→Prop):Prop where
 h:∃l r l',rows=l.map byR∧BwP Γ f l a r l'∧k r l'
instance{Γ:Nat→Option (List F)}{f:Nat}{l l':List UInt8}{a:List F}{r:F}{pre:Prop}{k:F→List UInt8→Prop}[hc:HB Γ f l a r l' pre]:Arm (bwK Γ f (l.map byR) a k) (SdA pre (k r l')):=⟨fun ⟨h,hk⟩=>⟨l,r,l',rfl,hc.h h,hk⟩⟩
instance{Γ:Nat→Option (List F)}{f:Nat}{l':List UInt8}{a:List F}{r:F}{pre:Prop}{k:F→List UInt8→Prop}[hc:HB Γ f [] a r l' pre]:Arm (bwK Γ f [] a k) (SdA pre (k r l')):=⟨fun ⟨h,hk⟩=>⟨[],r,l',rfl,hc.h h,hk⟩⟩
class Je(f:Nat):Prop where
 h:True
def bwE(Γ:Nat→Option (List F))(t:Nat)(η:Env)(f:Nat)(l:List D)(k:Kr Prop):Prop:=match l with
 | .ptr b v 0 :: ds=>(match η b,cX (D.toF η 6) ds with
  | some (.va v' tc [.ptr b0 v0 0,.own b2 v2]),some (fl,is)=>(match η b2 with
   | some (.ro v2' e 1 rows)=>bif Nat.beq v v'&&Nat.beq b b0&&Nat.beq v v0&&Nat.beq tc jY&&Nat.beq e 5&&Nat.beq v2 v2' && !is.elem b && !is.elem b2 then F.fos fl fun fl=>bwK Γ f rows fl fun r l'=>k r.toD (b :: b2 :: is) ((b,.va v jY [.ptr b v 0,.own b2 (nv η b2)]) :: (b2,.ro (nv η b2) 5 1 (l'.map byR)) :: aZ η is) else False
   | _=>False)
  | some (.va v' tc [.fr (.vl (.pointer none)),.fr (.vl (.slice none 0 0))]),some (fl,is)=>(match η t with
   | none=>bif Nat.beq v v'&&Nat.beq tc jY && !is.elem b && !is.elem t then F.fos fl fun fl=>bwK Γ f [] fl fun r l'=>k r.toD (b :: t :: is) ((b,.va v jY [.ptr b v 0,.own t (nv η t)]) :: (t,.ro (nv η t) 5 1 (l'.map byR)) :: aZ η is) else False
   | some _=>False)
  | _,_=>False)
 | _=>False
theorem Am{l:List UInt8}(h:[]=l.map byR):l=[]:=by cases l with
 | nil=>rfl
 | cons a l=>cases h
theorem Kk{Γ:Nat→Option (List F)}{t:Nat}{η:Env}{f:Nat}{l:List D}{k:Kr Prop}(h:bwE Γ t η f l k):fQ Tryz.prog Γ t η f l k:=by
 unfold bwE at h
 split at h
 ·rename_i b v ds
  split at h
  ·rename_i v' tc b0 v0 b2 v2 fl is hb hm
   split at h
   ·rename_i v2' e rows hb2
    cases hc:(Nat.beq v v'&&Nat.beq b b0&&Nat.beq v v0&&Nat.beq tc jY&&Nat.beq e 5&&Nat.beq v2 v2' && !is.elem b && !is.elem b2) with
    | false=>rw[hc] at h;exact h.elim
    | true=>
     rw[hc,cond_true,F.da] at h;simp only[Oi,Pc,QH,QN,decide_eq_false_iff_not] at hc;obtain⟨⟨⟨⟨⟨⟨⟨c1,c5⟩,c6⟩,c7⟩,c8⟩,c2⟩,c3⟩,c4⟩:=hc
     cases Nat.eq_of_beq_eq_true c1
     cases Nat.eq_of_beq_eq_true c5
     cases Nat.eq_of_beq_eq_true c6
     cases Nat.eq_of_beq_eq_true c7
     cases Nat.eq_of_beq_eq_true c8
     cases Nat.eq_of_beq_eq_true c2;obtain⟨l,r,l',rfl,hp,hk⟩:=h.h;have q1:=((bg η η is b).1 c3).trans hb;have q2:=((bg η η is b2).1 c4).trans hb2;have:=fj.fz (l1:=[.ptr b v 0]) hm (hp.own _ b v b2 v2 q1 q2);rw[l7 is c4] at this;exact⟨_,_,_,this,hk⟩
   ·exact h.elim
  ·rename_i v' tc fl is hb hm
   split at h
   ·rename_i ht
    cases hc:(Nat.beq v v'&&Nat.beq tc jY && !is.elem b && !is.elem t) with
    | false=>rw[hc] at h;exact h.elim
    | true=>
     rw[hc,cond_true,F.da] at h;simp only[Oi,Pc,QH,QN,decide_eq_false_iff_not] at hc;obtain⟨⟨⟨c1,c2⟩,c3⟩,c4⟩:=hc
     cases Nat.eq_of_beq_eq_true c1
     cases Nat.eq_of_beq_eq_true c2;obtain⟨l,r,l',e,hp,hk⟩:=h.h;have:=Am e;subst this;have q1:=((bg η η is b).1 c3).trans hb;have q2:=((bg η η is t).1 c4).trans ht;have:=fj.fz (l1:=[.ptr b v 0]) hm (hp.new rfl _ b v t q1 q2);rw[l7 is c4] at this;exact⟨_,_,_,this,hk⟩
   ·exact h.elim
  ·exact h.elim
 ·exact h.elim
instance{Γ:Nat→Option (List F)}{t:Nat}{η:Env}{f:Nat}{l:List D}{k:Kr Prop}[Je f]:Arm (fQ Tryz.prog Γ t η f l k) (bwE Γ t η f l k):=⟨Kk⟩
def Lc(b v:Nat):D→Bool
 | .fr (.vl (.pointer none))=>true
 | .ptr b0 v0 0=>Nat.beq b b0&&Nat.beq v v0
 | _=>false
def Lg:D→Bool
 | .fr (.vl (.slice none 0 0))=>true
 | .own _ _=>true
 | _=>false
def ccE(η:Env)(l:List D)(k:Kr Prop):Prop:=match l with
 | [.ptr b v 0]=>(match η b with
  | some (.va v' tc [ad,sl])=>bif Nat.beq v v'&&Nat.beq tc jY&&Lc b v ad&&Lg sl then k (.tp []) [b] [(b,.va v jY [.ptr b v 0,sl])] else False
  | _=>False)
 | _=>False
theorem Ls{Γ:Nat→Option (List F)}{t:Nat}{η:Env}{l:List D}{k:Kr Prop}(h:ccE η l k):fQ Tryz.prog Γ t η 158 l k:=by
 unfold ccE at h
 split at h
 ·rename_i b v
  split at h
  ·rename_i v' tc ad sl hb
   cases hc:(Nat.beq v v'&&Nat.beq tc jY&&Lc b v ad&&Lg sl) with
   | false=>rw[hc] at h;exact h.elim
   | true=>
    rw[hc] at h;simp only[Oi] at hc;obtain⟨⟨⟨c1,c2⟩,hx⟩,hy⟩:=hc
    cases Nat.eq_of_beq_eq_true c1
    cases Nat.eq_of_beq_eq_true c2;unfold Lc at hx;unfold Lg at hy;refine⟨_,_,_,Ly hb ?_ ?_ Γ,h⟩
    ·split at hx
     ·exact .inl rfl
     ·rw[Oi] at hx;obtain⟨h1,h2⟩:=hx
      cases Nat.eq_of_beq_eq_true h1
      cases Nat.eq_of_beq_eq_true h2;exact .inr rfl
     ·cases hx
    ·split at hy
     ·exact .inl rfl
     ·exact .inr ⟨_,_,rfl⟩
     ·cases hy
  ·exact h.elim
 ·exact h.elim
instance{Γ:Nat→Option (List F)}{t:Nat}{η:Env}{l:List D}{k:Kr Prop}:Arm (fQ Tryz.prog Γ t η 158 l k) (ccE η l k):=⟨Ls⟩
structure stK(rows:List (List F))(k:List UInt8→Prop):Prop where
 h:∃l,rows=l.map byR∧l≠[]∧l.length≤1000000000∧k l
instance{l:List UInt8}{k:List UInt8→Prop}:Arm (stK (l.map byR) k) (SdA (l≠[]∧l.length≤1000000000) (k l)):=⟨fun ⟨h,hk⟩=>⟨l,rfl,h.1,h.2,hk⟩⟩
def stE(η:Env)(l:List D)(k:Kr Prop):Prop:=match l with
 | [.ptr b v 0]=>(match η b with
  | some (.va v' tc [.ptr b0 v0 0,.own b2 v2])=>(match η b2 with
   | some (.ro v2' e 1 rows)=>bif Nat.beq v v'&&Nat.beq b b0&&Nat.beq v v0&&Nat.beq tc jY&&Nat.beq e 5&&Nat.beq v2 v2' then stK rows fun l=>k (.fr (.vl (.string ⟨l.toArray⟩))) [b,b2] [(b,.gone v),(b2,.gone v2)] else False
   | _=>False)
  | _=>False)
 | _=>False
theorem L2{Γ:Nat→Option (List F)}{t:Nat}{η:Env}{l:List D}{k:Kr Prop}(h:stE η l k):fQ Tryz.prog Γ t η 149 l k:=by
 unfold stE at h
 split at h
 ·rename_i b v
  split at h
  ·rename_i v' tc b0 v0 b2 v2 hb
   split at h
   ·rename_i v2' e rows hb2
    cases hc:(Nat.beq v v'&&Nat.beq b b0&&Nat.beq v v0&&Nat.beq tc jY&&Nat.beq e 5&&Nat.beq v2 v2') with
    | false=>rw[hc] at h;exact h.elim
    | true=>
     rw[hc,cond_true] at h;simp only[Oi] at hc;obtain⟨⟨⟨⟨⟨c1,c5⟩,c6⟩,c7⟩,c8⟩,c2⟩:=hc
     cases Nat.eq_of_beq_eq_true c1
     cases Nat.eq_of_beq_eq_true c5
     cases Nat.eq_of_beq_eq_true c6
     cases Nat.eq_of_beq_eq_true c7
     cases Nat.eq_of_beq_eq_true c8
     cases Nat.eq_of_beq_eq_true c2;obtain⟨l,rfl,h0,hl,hk⟩:=h.h;exact⟨_,_,_,LQ hb hb2 h0 hl Γ,hk⟩
   ·exact h.elim
  ·exact h.elim
 ·exact h.elim
instance{Γ:Nat→Option (List F)}{t:Nat}{η:Env}{l:List D}{k:Kr Prop}:Arm (fQ Tryz.prog Γ t η 149 l k) (stE η l k):=⟨L2⟩
end Go.Km
end
