/- The texts that the card needs, part 8. -/
import Derived.Test.YtoklkjkmbfebjaaGreatDoorP6
set_option linter.all false
section
namespace Go.Km
open Go Go.Vc Go.Proofs Go.aa
set_option maxRecDepth 100000
set_option maxHeartbeats 0
abbrev bsF(l:List Bool):List (List F):=l.map fun b=>[boF b]
theorem tb{t:Tre}(h:cc 0 t.nodes (List.replicate t.nodes.length false)=none):au t=false:=by simp[au,h]
theorem BZ{t:Tre}{tk:List Bool}(h:cc 0 t.nodes (List.replicate t.nodes.length false)=some tk)(h0:0≤t.root)(h1:t.root<t.nodes.length):au t=(List.range t.nodes.length).all fun i=>!(tk.getD i false==decide ((i:Int)=t.root)):=by
 simp[au,h,h0,h1]
theorem yR{i k:Int}{l:List Int}{tk:List Bool}(h:k<0∨i≤k∨tk.getD k.toNat false=true):bQ i (k :: l) tk=none:=by rw[bQ,if_pos h]
theorem xq{i k:Int}{l:List Int}{tk:List Bool}(h:¬(k<0∨i≤k∨tk.getD k.toNat false=true)):bQ i (k :: l) tk=bQ i l (tk.set k.toNat true):=by rw[bQ,if_neg h]
instance(t:Tre):C 24 [az t] (boF (au t)) true t.wf:=⟨fun ht=>by
 have hlen:=ht.len;simp only[ca] at hlen;refine kf rfl rfl ?_;repeat' first|exact k9|refine k2 ?_|apply kA|apply kI;intro hc|refine k8 ?_|apply kL;intro hl
 ·refine ao.b ?_ rfl;simp[au];omega
 ·refine ao.b ?_ rfl;simp[au];omega
 rename_i h0;apply kCt [1,3,26,27,28] [];conv=>whnf
 refine Lp.ind (fun x:Nat×List Bool=>t.nodes.length - x.1) (fun x=>x.1≤t.nodes.length∧x.2.length=t.nodes.length∧cc 0 t.nodes (List.replicate t.nodes.length false)=cc x.1 (t.nodes.drop x.1) x.2) (fun x=>[(28,InD x.1)]) (fun x=>[(1,.ro 0 4 1 (bsF x.2))]) (fun _=>(boF (au t),true)) (0,List.replicate t.nodes.length false) ⟨by simp,by simp,rfl⟩ rfl rfl ?_ ?_
 ·rw[show bsF (List.replicate t.nodes.length false)=List.replicate (List.map aU t.nodes).length [boF false] by simp];rfl
 rintro G ⟨i,tk⟩ ih ⟨hi,htk,hT⟩
 dsimp only at hi htk hT ih ⊢
 repeat' first|exact k9|refine k2 ?_|apply kA|apply kI;intro hc|refine k8 ?_|apply kL;intro hl
 ·rename_i hx;exact⟨ht.nodes _ (List.getElem_mem hx)⟩
 ·rename_i hx;generalize hn:t.nodes[i]=n at *;have hkl:=(ht.nodes n (hn▸List.getElem_mem hx)).kids.1;simp only[dS] at hkl;rw[List.drop_eq_getElem_cons hx,hn,cc,if_pos hc] at hT;apply kCt [1,3,4,26,27,28,40,41,42] [];conv=>whnf
  refine Lp.ind (fun x:Nat×List Bool=>n.kids.length - x.1) (fun x=>x.1≤n.kids.length∧x.2.length=t.nodes.length∧bQ i n.kids tk=bQ i (n.kids.drop x.1) x.2) (fun x=>[(42,InD x.1)]) (fun x=>[(1,.ro 0 4 1 (bsF x.2))]) (fun _=>(boF (au t),true)) (0,tk) ⟨by simp,htk,rfl⟩ rfl rfl rfl ?_
  rintro G' ⟨j,tk'⟩ ih' ⟨hj,htk',hK⟩
  dsimp only at hj htk' hK ih' ⊢;have hno:∀h:j<n.kids.length,(n.kids[j]<0∨(i:Int)≤n.kids[j]∨tk'.getD n.kids[j].toNat false=true)→au t=false:=by
   intro h hh;rw[List.drop_eq_getElem_cons h,yR hh] at hK;exact tb (by rw[hT,hK];rfl)
  repeat' first|exact k9|refine k2 ?_|apply kA|apply kI;intro hc|refine k8 ?_|apply kL;intro hl
  ·exact ao.b (hno (by omega) (.inl hc)).symm rfl
  ·exact ao.b (hno (by omega) (.inr (.inl hc))).symm rfl
  ·have h1:n.kids[j].toNat<tk'.length:=by omega
   exact ao.b (hno (by omega) (.inr (.inr (by rw[List.getD_eq_getElem?_getD,List.getElem?_eq_getElem h1];exact hc)))).symm rfl
  ·have hjl:j<n.kids.length:=by omega
   have h1:n.kids[j].toNat<tk'.length:=by omega
   apply kCt [1,3,4,26,27,28,40,41,42] [];conv=>whnf
   refine ih' (j+1,tk'.set n.kids[j].toNat true) _ _ _ (by dsimp only;omega) ⟨by dsimp only;omega,by simp[htk'],?_⟩ rfl rfl (by simp only[bsF,List.map_set];rfl);rw[hK,List.drop_eq_getElem_cons hjl,xq];rw[List.getD_eq_getElem?_getD,List.getElem?_eq_getElem h1]
   rintro(h|h|h)
   ·omega
   ·omega
   ·rw[show(some tk'[n.kids[j].toNat]).getD false=tk'[n.kids[j].toNat] from rfl,hc] at h
    cases h
  ·apply kCt [1,3,26,27,28] [];conv=>whnf
   rw[List.drop_of_length_le (by omega)] at hK;refine ih (i+1,tk') _ _ _ (by dsimp only;omega) ⟨by dsimp only;omega,htk',?_⟩ rfl rfl rfl;rw[hT,hK];rfl
 ·rename_i hx;refine ao.b ?_ rfl;rw[tb];rw[hT,List.drop_eq_getElem_cons hx,cc,if_neg (by rw[hc];decide)]
 ·rw[List.drop_of_length_le (by omega)] at hT;have hR:=BZ hT h0 (by omega);apply kCt [1,64,65,66] [];conv=>whnf
  refine Lp.ind (fun x:Nat=>t.nodes.length - x) (fun x=>x≤t.nodes.length∧∀y,y<x→(tk.getD y false==decide ((y:Int)=t.root))=false) (fun x=>[(66,InD x)]) (fun x=>[]) (fun _=>(boF (au t),true)) 0 ⟨by simp,by simp⟩ rfl rfl rfl ?_
  rintro G' j ih' ⟨hj,hA⟩
  repeat' first|exact k9|refine k2 ?_|apply kA|apply kI;intro hc|refine k8 ?_|apply kL;intro hl
  ·have h1:j<tk.length:=by omega
   refine ao.b ?_ rfl;rw[hR,eq_comm,List.all_eq_false];refine⟨j,by simp;omega,?_⟩;rw[List.getD_eq_getElem?_getD,List.getElem?_eq_getElem h1];rw[dd] at hc
   revert hc
   show pS tk[j] _=true→¬(!(tk[j]==_))=true
   cases tk[j]<;>cases decide ((j:Int)=t.root)<;>simp[pS]
  ·have h1:j<tk.length:=by omega
   apply kCt [1,64,65,66] [];conv=>whnf
   refine ih' (j+1) _ _ _ (by omega) ⟨by omega,fun y hy=>?_⟩ rfl rfl rfl;rcases Nat.lt_or_ge y j with h|h
   ·exact hA y h
   ·have:y=j:=by omega
    subst this;rw[List.getD_eq_getElem?_getD,List.getElem?_eq_getElem h1];rw[dd] at hc
    revert hc
    show pS tk[y] _=false→(tk[y]==_)=false
    cases tk[y]<;>cases decide ((y:Int)=t.root)<;>simp[pS]
  ·refine ao.b ?_ rfl;rw[hR,eq_comm,List.all_eq_true];intro y hy;rw[hA y (by simp at hy;omega)];rfl⟩
set_option maxRecDepth 100000
set_option maxHeartbeats 0
instance(t:Tre):C 112 [az t] (inF (sD t)) true t.wf:=⟨fun ht=>by
 refine kf rfl rfl ?_;repeat' first|exact k9|refine k2 ?_|apply kA|apply kI;intro hc|refine k8 ?_|apply kL;intro hl
 all_goals (refine ao.n ?_ rfl;simp[sD,hc])⟩
instance(k a b c d:Int)(s:ByteArray)(x y:Int):C 22 [.ag [byF k,.vl (.int .u64 a),.vl (.int .u64 b),.vl (.int .u64 c),.vl (.int .u64 d),stF s,inF x,inF y,.sl []]] (az (oP ⟨k,⟨a,b,c,d⟩,s,x,y,[]⟩)) false True:=⟨fun _=>by
 refine kf rfl rfl ?_;repeat' first|exact k9|refine k2 ?_|apply kA|apply kI;intro hc|refine k8 ?_|apply kL;intro hl
 exact ao.i rfl⟩
instance:C 37 [] (az (oP dU)) false True:=⟨fun _=>by
 refine kf rfl rfl ?_;repeat' first|exact k9|refine k2 ?_|apply kA|apply kI;intro hc|refine k8 ?_|apply kL;intro hl
 exact ao.i rfl⟩
instance(s:ByteArray):C 10 [stF s] (az (oP ⟨2,.zero,s,0,0,[]⟩)) false True:=⟨fun _=>by
 refine kf rfl rfl ?_;repeat' first|exact k9|refine k2 ?_|apply kA|apply kI;intro hc|refine k8 ?_|apply kL;intro hl
 exact ao.i rfl⟩
theorem room{ch:Int→List Int}{n:Nat}{node:Int}{op out:List Int}(hn:0<n)(hN:(dfs ch n [node]).length≤17592186044416)(he:out++dfs (ef ch) n op.reverse=dfs (ef ch) n [node]):out.length+op.length≤17592186044416:=by
 have h1:=dg (ch:=ef ch) n op.reverse hn;have h2:=congrArg List.length he;rw[eo n [node],List.length_append] at h2;simp at h1;omega
structure xn{α:Type}(out cur:List α)(k:Nat):Prop where
 len:cur.length=out.length
 at_:∀j,j<out.length→cur[j]?=if j<k∨out.length≤j+k then out[out.length - 1 - j]? else out[j]?
theorem xn.zero{α:Type}(out:List α):xn out out 0:=⟨rfl,fun j hj=>by rw[if_neg (by omega)]⟩
theorem xn.done{α:Type}{out cur:List α}{k:Nat}(h:xn out cur k)(hk:out.length≤2 * k+1):cur=out.reverse:=by
 apply List.ext_getElem?;intro j;rcases Nat.lt_or_ge j out.length with hj|hj
 ·rw[h.at_ j hj,List.getElem?_reverse hj]
  split
  ·rfl
  ·have:out.length - 1 - j=j:=by omega
   rw[this]
 ·rw[List.getElem?_eq_none (by rw[h.len];exact hj),List.getElem?_eq_none (by simpa using hj)]
theorem xn.step{α:Type}{out cur:List α}{k:Nat}(h:xn out cur k)(hk:2 * k+1<out.length){x y:α}(hx:cur[k]?=some x)(hy:cur[out.length - 1 - k]?=some y):xn out ((cur.set k y).set (out.length - 1 - k) x) (k+1):=by
 refine⟨by simp[h.len],fun j hj=>?_⟩;have hl:=h.len;rw[h.at_ k (by omega),if_neg (by omega)] at hx;rw[h.at_ _ (by omega),if_neg (by omega)] at hy
 by_cases e:out.length - 1 - k=j
 ·subst e;rw[List.getElem?_set_self (by simp;omega),if_pos (by omega),show out.length - 1 - (out.length - 1 - k)=k by omega,hx]
 ·rw[List.getElem?_set_ne e]
  by_cases e2:k=j
  ·subst e2;rw[List.getElem?_set_self (by omega),if_pos (by omega),hy]
  ·rw[List.getElem?_set_ne e2,h.at_ j hj]
   by_cases c:j<k∨out.length≤j+k
   ·rw[if_pos c,if_pos (by omega)]
   ·rw[if_neg c,if_neg (by omega)]
instance(t:Tre)(node:Int):C 52 [az t,inF node] (isF (aQ t node)) true (t.wf∧aC t∧0≤node∧node<t.nodes.length):=⟨fun h=>by
 obtain⟨ht,hR,h0,hn⟩:=h;have hlen:=ht.len;simp only[ca] at hlen;refine kf rfl rfl ?_;repeat' first|exact k9|refine k2 ?_|apply kA|apply kI;intro hc|refine k8 ?_|apply kL;intro hl
 apply Stp.on;obtain⟨nd,rfl⟩:∃nd:Nat,node=nd:=⟨node.toNat,by omega⟩
 have hnl:nd<t.nodes.length:=by omega
 have hch:=hR.kok.ae;have hN:=fj hR h0 hn;have hkl:=(ht.nodes _ (List.getElem_mem hnl)).kids.1;simp only[dS] at hkl
 repeat' first|exact k9|refine k2 ?_|apply kA|apply kI;intro hc|refine k8 ?_|apply kL;intro hl
 have hkn:t.nodes[nd].kids=ae t.nodes nd:=aI (List.getElem?_eq_getElem hnl);apply kCt [2,5,6] [];conv=>whnf
 refine Lp.ind (fun x:List Int×List Int=>(dfs (ef (ae t.nodes)) t.nodes.length x.1.reverse).length) (fun x=>(∀k∈x.1,0≤k∧k<t.nodes.length)∧x.2++dfs (ef (ae t.nodes)) t.nodes.length x.1.reverse=dfs (ef (ae t.nodes)) t.nodes.length [(nd:Int)]) (fun _=>[])
  (fun x=>[(1,.ro 0 3 1 (x.2.map ikF)),(2,.ro 0 3 1 (x.1.map ikF))]) (fun _=>(isF (aQ t nd),true)) (t.nodes[nd].kids,[(nd:Int)]) ⟨?_,?_⟩ rfl rfl rfl ?_
 ·dsimp only;intro k hk;rw[hkn] at hk;have:=hch nd k hk;omega
 ·dsimp only;rw[aM hch.rev (by omega) (by omega),hkn,bk,List.append_nil];rfl
 rintro G ⟨op,out⟩ ih ⟨hop,he⟩
 dsimp only at hop he ih ⊢;have hrm:=room (node:=(nd:Int)) (by omega) (by rw[aQ,(cU _ _ _).length_eq] at hN;omega) he;rcases bm op with rfl|⟨init,x,rfl⟩
 ·repeat' first|exact k9|refine k2 ?_|apply kA|apply kI;intro hc|refine k8 ?_|apply kL;intro hl
  have hb:aQ t nd=out.reverse:=by
   simp only[List.reverse_nil,bk,List.append_nil] at he;rw[he,aQ,show[(nd:Int)]=[(nd:Int)].reverse from rfl,oG];rfl
  apply kCt [0,2,3] [5];conv=>whnf
  refine Lp.ind (fun x:Nat×List Int=>out.length - x.1) (fun x=>xn out x.2 x.1∧2 * x.1≤out.length+1) (fun x=>[(2,InD x.1),(3,InD ((out.length:Int) - 1 - x.1))]) (fun x=>[(0,.ro 0 3 1 (x.2.map ikF))]) (fun _=>(isF (aQ t nd),true)) (0,out) ⟨.zero out,by simp⟩ rfl ?_ rfl ?_
  ·simp only[List.length_map,Int.sub_zero,Int.natCast_zero];rfl
  rintro G' ⟨k,cur⟩ ih' ⟨hI,hk⟩
  dsimp only at hI hk ih' ⊢;have hcl:=hI.len
  repeat' first|exact k9|refine k2 ?_|apply kA|apply kI;intro hc|refine k8 ?_|apply kL;intro hl
  ·have h1:k<cur.length:=by omega
   have h2:out.length - 1 - k<cur.length:=by omega
   have e:((out.length:Int) - 1 - k).toNat=out.length - 1 - k:=by omega
   apply kCt [0,2,3] [5];conv=>whnf
   refine ih' (k+1,(cur.set k cur[out.length - 1 - k]).set (out.length - 1 - k) cur[k]) _ _ _ (by dsimp only;omega) ⟨hI.step (by omega) (List.getElem?_eq_getElem h1) (List.getElem?_eq_getElem h2),by dsimp only;omega⟩ rfl ?_ ?_
   ·dsimp only;rw[show(out.length:Int) - 1 - ((k+1:Nat):Int)=out.length - 1 - k - 1 by omega];rfl
   ·simp only[List.map_set,e];rfl
  ·have hcur:=hI.done (by omega);subst hcur;refine ao.j ?_ ?_
   ·rw[hb]
   ·simp only[cD,oL,lk,Nat.beq,cond_true];simp[F.flat,F.flat.lG]
 ·have hx:=hop x (by simp);obtain⟨i,rfl⟩:∃i:Nat,x=i:=⟨x.toNat,by omega⟩
  have hlast:∀h,(init++[(i:Int)])[((List.map ikF (init++[(i:Int)])).length - 1:Int).toNat]'h=(i:Int):=by
   intro h;simp[List.getElem_append]
  have hil:i<t.nodes.length:=by omega
  have hkn2:t.nodes[i].kids=ae t.nodes i:=aI (List.getElem?_eq_getElem hil);have hkl2:=(ht.nodes _ (List.getElem_mem hil)).kids.1;simp only[dS] at hkl2;rw[List.reverse_append,List.reverse_singleton,List.singleton_append,aM hch.rev (by omega) (by omega)] at he;have hE:(init++t.nodes[i].kids).reverse=ef (ae t.nodes) i++init.reverse:=by
   rw[List.reverse_append,hkn2];rfl
  have he2:(out++[(i:Int)])++dfs (ef (ae t.nodes)) t.nodes.length (init++t.nodes[i].kids).reverse=dfs (ef (ae t.nodes)) t.nodes.length [(nd:Int)]:=by
   rw[hE,bl,List.append_assoc];exact he
  have hrm2:=room (node:=(nd:Int)) (by omega) (by rw[aQ,(cU _ _ _).length_eq] at hN;omega) he2;simp only[List.length_append,List.length_cons,List.length_nil] at hrm hrm2
  repeat' first|exact k9|refine k2 ?_|apply kA|apply kI;intro hc|apply kL;intro hl|((rw[hlast])<;>conv=>whnf)|refine k8 ?_|fail
  apply kCt [2,5,6] [];conv=>whnf
  refine ih (init++t.nodes[i].kids,out++[(i:Int)]) _ _ _ ?_ ⟨?_,?_⟩ rfl rfl ?_
  ·dsimp only;rw[hE,List.reverse_append,List.reverse_singleton,List.singleton_append,aM hch.rev (by omega) (by omega),bl];simp
  ·intro k hk;rcases List.mem_append.1 hk with hk|hk
   ·exact hop k (by simp[hk])
   ·rw[hkn2] at hk;have:=hch i k hk;omega
  ·exact he2
  ·dsimp only;rw[show List.map ikF (init++t.nodes[i].kids)=List.take ((List.map ikF (init++[(i:Int)])).length - 1:Int).toNat (List.map ikF (init++[(i:Int)]))++List.map ikF t.nodes[i].kids from by simp[List.take_append],show List.map ikF (out++[(i:Int)])=List.map ikF out++[ikF i] from by simp];rfl⟩
set_option maxRecDepth 100000
set_option maxHeartbeats 0
theorem oQ{α:Type}{xs ys:List α}(h:xs.length=ys.length):List.take ys.length xs++List.drop xs.length ys=xs:=by
 rw[List.take_of_length_le (by omega),List.drop_of_length_le (by omega),List.append_nil]
def dG{α:Type}(f:α→α)(i:Nat)(l:List α):List α:=(l.take i).map f++l.drop i
theorem qj{α:Type}(f:α→α)(i:Nat)(l:List α):(dG f i l).length=l.length:=by
 simp[dG];omega
theorem nD{α:Type}(f:α→α)(l:List α):dG f 0 l=l:=by simp[dG]
theorem pK{α:Type}(f:α→α){i:Nat}{l:List α}(h:l.length≤i):dG f i l=l.map f:=by simp[dG,List.take_of_length_le h,List.drop_of_length_le h]
theorem ql{α:Type}(f:α→α){i:Nat}{l:List α}(h:i<l.length)(hz0:i<(dG f i l).length):(dG f i l)[i]'hz0=l[i]:=by
 simp only[dG];rw[List.getElem_append_right (by simp;omega)];simp[Nat.min_eq_left (Nat.le_of_lt h)]
theorem qg{α:Type}(f:α→α){i:Nat}{l:List α}(h:i<l.length):(dG f i l).set i (f l[i])=dG f (i+1) l:=by
 have e:i - ((l.take i).map f).length=0:=by simp;omega
 have e2:(l.take (i+1)).map f=(l.take i).map f++[f l[i]]:=by
  rw[List.take_succ,List.getElem?_eq_getElem h,List.map_append];rfl
 simp only[dG];rw[List.drop_eq_getElem_cons h,List.set_append_right _ _ (by simp;omega),e,List.set_cons_zero,e2,List.append_assoc];rfl
def wq(d:Int)(n:Nod):Nod:={ n with kids:=n.kids.map (· + d) }
instance(ns:List Nod)(d:Int):C 62 [.sl (ns.map aU),inF d] (.sl ((bK ns d).map aU)) false (ns.length≤1466015503701∧(∀n∈ns,n.wf)∧(∀n∈ns,∀k∈n.kids,-9223372036854775808≤k+d∧k+d≤9223372036854775807)):=⟨fun h=>by
 obtain⟨hlen,hw,hk⟩:=h;refine kf rfl rfl ?_;repeat' first|exact k9|refine k2 ?_|apply kA|apply kI;intro hc|refine k8 ?_|apply kL;intro hl
 apply kCt [1,5,16,17,18] [];conv=>whnf
 refine Lp.ind (fun x:Nat=>ns.length - x) (fun x=>x≤ns.length) (fun x=>[(17,InD ns.length),(18,InD x)]) (fun x=>[(0,.ro 0 54 9 ((dG (wq d) x ns).map aU))]) (fun _=>(.sl ((bK ns d).map aU),false)) 0 (by simp) rfl ?_ ?_ ?_
 ·simp only[List.length_append,List.length_take,List.length_drop,List.length_replicate,List.length_map,Nat.min_self,Nat.sub_self,Nat.add_zero];rfl
 ·rw[nD,oQ (by simp)];rfl
 rintro G i ih hi
 by_cases hx:i<ns.length
 ·obtain⟨n,hn⟩:=exEq (ns[i]);have hci:∀h,(dG (wq d) i ns)[i]'h=n:=fun h=>by rw[hn];exact ql _ hx h
  have hkl:n.kids.length≤17592186044416:=by rw[hn];exact(hw _ (List.getElem_mem hx)).kids.1
  have hkk:∀k∈n.kids,-9223372036854775808≤k+d∧k+d≤9223372036854775807:=by rw[hn];exact hk _ (List.getElem_mem hx)
  have hfin:(dG (wq d) i ns).set i (wq d n)=dG (wq d) (i+1) ns:=by rw[hn];exact qg _ hx
  have hcl:=qj (wq d) i ns;generalize dG (wq d) i ns=cur at *
  repeat' first|exact k9|refine k2 ?_|apply kA|apply kI;intro hc|apply kL;intro hl|((simp only[hci])<;>conv=>whnf)|refine k8 ?_|fail
  ·have hn0:n.kids=[]:=List.eq_nil_of_length_eq_zero (by simp only[hci] at hc;omega);apply kCt [1,5,16,17,18] [];conv=>whnf
   refine ih (i+1) _ _ _ (by omega) (by omega) rfl rfl ?_;rw[←hfin,List.map_set,show wq d n={ n with kids:=[] } by simp[wq,hn0]];rfl
  ·apply kCt [1,5,6,8,16,17,18,40,41] [];conv=>whnf
   refine Lp.ind (fun x:Nat=>n.kids.length - x) (fun x=>x≤n.kids.length) (fun x=>[(40,InD n.kids.length),(41,InD x)]) (fun x=>[(1,.ro 0 3 1 ((dG (· + d) x n.kids).map ikF))]) (fun _=>(.sl ((bK ns d).map aU),false)) 0 (by simp) rfl ?_ ?_ ?_
   ·rw[oQ (by simp),List.length_map];rfl
   ·rw[nD,oQ (by simp)];rfl
   rintro G' j ih' hj
   by_cases hy:j<n.kids.length
   ·have hcj:∀h,(dG (· + d) j n.kids)[j]'h=n.kids[j]:=fun h=>ql _ hy h
    have hkj:=hkk _ (List.getElem_mem hy);have hfj:=qg (· + d) hy;have hcm:=qj (· + d) j n.kids;generalize dG (· + d) j n.kids=cur' at *
    repeat' first|exact k9|refine k2 ?_|apply kA|apply kI;intro hc|apply kL;intro hl|((simp only[hcj])<;>conv=>whnf)|refine k8 ?_|fail
    apply kCt [1,5,6,8,16,17,18,40,41] [];conv=>whnf
    refine ih' (j+1) _ _ _ (by omega) (by omega) rfl rfl ?_;rw[←hfj,List.map_set];rfl
   ·rw[pK _ (by omega)]
    repeat' first|exact k9|refine k2 ?_|apply kA|apply kI;intro hc|refine k8 ?_|apply kL;intro hl
    apply kCt [1,5,16,17,18] [];conv=>whnf
    refine ih (i+1) _ _ _ (by omega) (by omega) rfl rfl ?_;rw[←hfin,List.map_set,List.set_set];rfl
 ·rw[pK _ (by omega)]
  repeat' first|exact k9|refine k2 ?_|apply kA|apply kI;intro hc|refine k8 ?_|apply kL;intro hl
  exact ao.i rfl⟩
instance(t:Tre)(node:Int):C 26 [az t,inF node] (az (aD t node)) false (t.wf∧aC t∧0≤node∧node<t.nodes.length):=⟨fun h=>by
 obtain⟨ht,hR,h0,hn⟩:=h;have hlen:=ht.len;simp only[ca] at hlen;have hN:=fj hR h0 hn;refine kf rfl rfl ?_;repeat' first|exact k9|refine k2 ?_|apply kA|apply kI;intro hc|refine k8 ?_|apply kL;intro hl
 apply kCt [2,4,6,7,24,25,26] [];conv=>whnf
 have hmem:=sR hR h0 hn;have htot:aD t node=⟨bb t.nodes 0 (List.replicate t.nodes.length 0) (aQ t node),(aQ t node).length - 1⟩:=rfl;generalize hl:aQ t node=l at *;refine Lp.ind (fun x:Nat×List Int×List Nod=>l.length - x.1) (fun x=>x.1≤l.length∧x.2.1.length=t.nodes.length∧x.2.2.length=x.1∧x.2.2++bb t.nodes x.1 x.2.1 (l.drop x.1)=(aD t node).nodes) (fun x=>[(26,InD x.1)])
  (fun x=>[(2,.ro 0 3 1 (x.2.1.map ikF)),(3,.ro 0 54 9 (x.2.2.map aU))]) (fun _=>(az (aD t node),false)) (0,List.replicate t.nodes.length 0,[]) ⟨by simp,by simp,rfl,by rw[htot];rfl⟩ rfl rfl ?_ ?_
 ·rw[show(List.replicate t.nodes.length (0:Int)).map ikF=List.replicate (t.nodes.map aU).length (ikF 0) by simp];rfl
 rintro G ⟨i,pl,acc⟩ ih ⟨hi,hpl,hac,hT⟩
 dsimp only at hi hpl hac hT ih ⊢
 by_cases hx:i<l.length
 ·obtain⟨k,hk⟩:∃k:Nat,l[i]=k:=⟨l[i].toNat,by have:=hmem _ (List.getElem_mem hx);omega⟩
  have hkn:k<t.nodes.length:=by have:=hmem _ (List.getElem_mem hx);omega
  have hli:∀h,l[i]'h=(k:Int):=fun _=>hk
  obtain⟨n,hnk⟩:=exEq (t.nodes[k]);have hni:∀h,t.nodes[k]'h=n:=fun _=>hnk.symm
  have hkl:n.kids.length≤17592186044416:=by rw[hnk];exact(ht.nodes _ (List.getElem_mem hkn)).kids.1
  have hkw:∀x∈n.kids,0≤x∧x<t.nodes.length:=by
   intro x hxk;have:=hR.kok k n (by rw[hnk];exact List.getElem?_eq_getElem hkn) x hxk;omega
  rw[List.drop_eq_getElem_cons hx,bb,hk,Int.toNat_natCast,List.getD_eq_getElem?_getD,List.getElem?_eq_getElem hkn,←hnk] at hT;simp only[Option.getD_some] at hT;have hps:(pl.set k (i:Int)).length=t.nodes.length:=by simp[hpl]
  have hpe:List.map ikF (pl.set k (i:Int))=(List.map ikF pl).set k (ikF i):=by rw[List.map_set]
  repeat' first|exact k9|refine k2 ?_|apply kA|apply kI;intro hc|apply kL;intro hl|((simp only[hli,Int.toNat_natCast])<;>conv=>whnf)|((simp only[hni])<;>conv=>whnf)|refine k8 ?_|fail
  ·apply kCt [2,4,6,7,10,11,24,25,26,52,53,54] [];conv=>whnf
   refine Lp.ind (fun x:Nat=>n.kids.length - x) (fun x=>x≤n.kids.length) (fun x=>[(53,InD n.kids.length),(54,InD x)]) (fun x=>[(2,.ro 0 3 1 ((pl.set k (i:Int)).map ikF)),(5,.ro 0 3 1 ((dG (fun x=>(pl.set k (i:Int)).getD x.toNat 0) x n.kids).map ikF))]) (fun _=>(az (aD t node),false)) 0 (by simp) rfl ?_ ?_ ?_
   ·rw[oQ (by simp),show(List.map ikF n.kids).length=n.kids.length from List.length_map ..];rfl
   ·rw[nD,oQ (by simp),hpe];rfl
   rintro G' j ih' hj
   by_cases hy:j<n.kids.length
   ·have hcj:∀h,(dG (fun x=>(pl.set k (i:Int)).getD x.toNat 0) j n.kids)[j]'h=n.kids[j]:=fun h=>ql _ hy h
    have hkj:=hkw _ (List.getElem_mem hy);have hfj:=qg (fun x=>(pl.set k (i:Int)).getD x.toNat 0) hy;have hcm:=qj (fun x=>(pl.set k (i:Int)).getD x.toNat 0) j n.kids;generalize dG (fun x=>(pl.set k (i:Int)).getD x.toNat 0) j n.kids=cur' at *;have hg:(pl.set k (i:Int)).getD n.kids[j].toNat 0=(pl.set k (i:Int))[n.kids[j].toNat]'(by omega):=by
     rw[List.getD_eq_getElem?_getD,List.getElem?_eq_getElem (by omega)];rfl
    repeat' first|exact k9|refine k2 ?_|apply kA|apply kI;intro hc|apply kL;intro hl|((simp only[hcj])<;>conv=>whnf)|refine k8 ?_|fail
    apply kCt [2,4,6,7,10,11,24,25,26,52,53,54] [];conv=>whnf
    refine ih' (j+1) _ _ _ (by omega) (by omega) rfl rfl ?_;rw[←hfj,List.map_set (l:=cur'),hg];rfl
   ·rw[pK _ (by omega)]
    repeat' first|exact k9|refine k2 ?_|apply kA|apply kI;intro hc|refine k8 ?_|apply kL;intro hl
    apply kCt [2,4,6,7,24,25,26] [];conv=>whnf
    refine ih (i+1,pl.set k (i:Int),acc++[{ n with kids:=n.kids.map fun x=>(pl.set k (i:Int)).getD x.toNat 0 }]) _ _ _ (by dsimp only;omega) ⟨by dsimp only;omega,hps,by simp[hac],by simpa using hT⟩ rfl rfl ?_;rw[List.map_append];rfl
  ·apply Stp.on;have hn0:n.kids=[]:=List.eq_nil_of_length_eq_zero (by simp only[hli,Int.toNat_natCast,hni] at hc;omega)
   repeat' first|exact k9|refine k2 ?_|apply kA|apply kI;intro hc|refine k8 ?_|apply kL;intro hl
   apply kCt [2,4,6,7,24,25,26] [];conv=>whnf
   rw[hn0] at hT;refine ih (i+1,pl.set k (i:Int),acc++[{ n with kids:=[] }]) _ _ _ (by dsimp only;omega) ⟨by dsimp only;omega,hps,by simp[hac],by simpa using hT⟩ rfl rfl ?_;rw[List.map_append,hpe];rfl
 ·rw[List.drop_of_length_le (by omega),bb,List.append_nil] at hT
  repeat' first|exact k9|refine k2 ?_|apply kA|apply kI;intro hc|refine k8 ?_|apply kL;intro hl
  refine ao.i ?_;rw[show az (aD t node)=F.ag [F.sl ((aD t node).nodes.map aU),inF ((aD t node).root)] from rfl,←hT,htot,List.length_map,show acc.length=l.length by omega]⟩
set_option maxRecDepth 100000
set_option maxHeartbeats 0
instance(t:Tre):C 61 [az t] (az (aT t)) false t.wf:=⟨fun ht=>by
 refine kf rfl rfl ?_;repeat' first|exact k9|refine k2 ?_|apply kA|apply kI;intro hc|refine k8 ?_|apply kL;intro hl
 ·exact⟨ht,aq hc,(aq hc).root⟩
 ·exact ao.i (by rw[jO hc])
 ·exact ao.i (by rw[ma hc];rfl)⟩
instance(t:Tre):C 43 [az t] (.ag (aU (a9 t))) true t.wf:=⟨fun ht=>by
 refine kf rfl rfl ?_;repeat' first|exact k9|refine k2 ?_|apply kA|apply kI;intro hc|refine k8 ?_|apply kL;intro hl
 ·exact⟨(aq hc).root.1⟩
 ·exact⟨by have:=(aq hc).root;omega⟩
 ·refine ao.j ?_ rfl;rw[a9,if_pos hc,List.getD_eq_getElem?_getD,List.getElem?_eq_getElem (by assumption)];rfl
 ·refine ao.j ?_ rfl;rw[a9,if_neg (by rw[hc];decide)];rfl⟩
def dA(t:Tre)(node:Int):Tre×Bool:=if au t=true∧0≤node∧node<t.nodes.length then (aD t node,true) else (.zero,false)
instance(t:Tre)(i:Int):C 83 [az t,inF i] (.tp [az (dA t i).1,boF (dA t i).2]) false t.wf:=⟨fun ht=>by
 refine kf rfl rfl ?_;repeat' first|exact k9|refine k2 ?_|apply kA|apply kI;intro hc|refine k8 ?_|apply kL;intro hl
 ·exact ao.i (by rw[dA,if_neg (by omega)];rfl)
 ·exact ao.i (by rw[dA,if_neg (by omega)];rfl)
 ·exact⟨ht,aq (by assumption),by omega,by omega⟩
 ·exact ao.i (by rw[dA,if_pos ⟨by assumption,by omega,by omega⟩])
 ·exact ao.i (by rw[dA,if_neg (by rw[hc];simp)];rfl)⟩
theorem Ka{α:Type}{a b:List α}{i:Nat}{ha:i<a.length}{hb:i<b.length}(h:a[i]≠b[i]):a≠b:=by
 rintro rfl
 exact h rfl
theorem CA{α:Type}{a b:List α}{i:Nat}(h:a.take i=b.take i)(ha:i<a.length)(hb:i<b.length)(e:a[i]=b[i]):a.take (i+1)=b.take (i+1):=by
 rw[List.take_succ,List.take_succ,h,List.getElem?_eq_getElem ha,List.getElem?_eq_getElem hb,e]
theorem zO{α:Type}{a b:List α}{i:Nat}(h:a.take i=b.take i)(ha:a.length≤i)(hb:b.length≤i):a=b:=by
 rwa [List.take_of_length_le ha,List.take_of_length_le hb] at h
def fZ(D:List Int)(d:Int)(m:Nat):List Int:=D++d :: List.replicate m 0
theorem Ih(D:List Int)(d:Int)(m:Nat):(fZ D d m).length=D.length+m+1:=by simp[fZ];omega
theorem JO{D:List Int}{d:Int}{m i:Nat}(e:D.length=i)(h:i<(fZ D d m).length):(fZ D d m)[i]'h=d:=by
 subst e;simp[fZ]
theorem IG{D:List Int}{d:Int}{m k:Nat}(e:k<D.length)(h:k<(fZ D d m).length):(fZ D d m)[k]'h=D.getD k 0:=by
 simp[fZ,List.getElem_append,e]
theorem yt{D:List Int}{d y:Int}{m i:Nat}(e:D.length=i):(fZ D d m).set i y=fZ D y m:=by
 subst e;simp[fZ]
theorem Jw(a b:Int):(bif leI a b then b else a)=max a b:=by
 rw[dt]
 by_cases h:a≤b
 ·rw[decide_eq_true h];simp only[cond_true];omega
 ·rw[decide_eq_false h];simp only[cond_false];omega
theorem Nod.Dv{n m:Nod}:n=m↔n.kind=m.kind∧n.set=m.set∧n.text=m.text∧n.min=m.min∧n.max=m.max∧n.kids=m.kids:=by
 cases n;cases m;simp
theorem Bts.Dv{a b:Bts}:a=b↔[a.a,a.b,a.c,a.d]=[b.a,b.b,b.c,b.d]:=by
 cases a;cases b;simp
instance(a b:List Int):C 53 [isF a,isF b] (boF (decide (a=b))) true (a.length≤17592186044416∧b.length≤17592186044416):=⟨fun h=>by
 obtain⟨h1,h2⟩:=h;refine kf rfl rfl ?_;repeat' first|exact k9|refine k2 ?_|apply kA|apply kI;intro hc|refine k8 ?_|apply kL;intro hl
 ·have hab:a.length=b.length:=by omega
  apply kCt [0,1,12,13] [];conv=>whnf
  refine Lp.ind (fun x:Nat=>a.length - x) (fun x=>x≤a.length∧a.take x=b.take x) (fun x=>[(13,InD x)]) (fun _=>[]) (fun _=>(boF (decide (a=b)),true)) 0 ⟨by simp,by simp⟩ rfl rfl rfl ?_
  rintro G i ih ⟨hi,hT⟩
  repeat' first|exact k9|refine k2 ?_|apply kA|apply kI;intro hc|refine k8 ?_|apply kL;intro hl
  ·apply kCt [0,1,12,13] [];conv=>whnf
   exact ih (i+1) _ _ _ (by omega) ⟨by omega,CA hT (by omega) (by omega) hc⟩ rfl rfl rfl
  ·exact ao.b (by rw[decide_eq_false (Ka hc)]) rfl
  ·exact ao.b (by rw[decide_eq_true (zO hT (by omega) (by omega))]) rfl
 ·exact ao.b (by rw[decide_eq_false (fun e=>by rw[e] at hc;omega)]) rfl⟩
instance(a b:Nod):C 27 [.ag (aU a),.ag (aU b)] (boF (decide (a=b))) true (a.wf∧b.wf):=⟨fun h=>by
 have ha:=h.1.kids.1;have hb:=h.2.kids.1;simp only[dS] at ha hb;refine kf rfl rfl ?_;repeat' first|exact k9|refine k2 ?_|apply kA|apply kI;intro hc|refine k8 ?_|apply kL;intro hl
 all_goals (refine ao.b ?_ rfl;rw[Bool.eq_iff_iff];simp_all [Nod.Dv,Bts.Dv])⟩
instance(a b:List Nod):C 25 [.sl (a.map aU),.sl (b.map aU),.cl 27 []] (boF (decide (a=b))) true ((a.length≤1466015503701∧∀n∈a,n.wf)∧(b.length≤1466015503701∧∀n∈b,n.wf)):=⟨fun h=>by
 obtain⟨⟨h1,w1⟩,h2,w2⟩:=h;refine kf rfl rfl ?_;repeat' first|exact k9|refine k2 ?_|apply kA|apply kI;intro hc|refine k8 ?_|apply kL;intro hl
 ·have hab:a.length=b.length:=by omega
  apply kCt [1,2,15,16,17] [];conv=>whnf
  refine Lp.ind (fun x:Nat=>a.length - x) (fun x=>x≤a.length∧a.take x=b.take x) (fun x=>[(17,InD x)]) (fun _=>[]) (fun _=>(boF (decide (a=b)),true)) 0 ⟨by simp,by simp⟩ rfl rfl rfl ?_
  rintro G i ih ⟨hi,hT⟩
  repeat' first|exact k9|refine k2 ?_|apply kA|apply kI;intro hc|refine k8 ?_|apply kL;intro hl
  ·exact⟨w1 _ (List.getElem_mem _),w2 _ (List.getElem_mem _)⟩
  ·apply kCt [1,2,15,16,17] [];conv=>whnf
   exact ih (i+1) _ _ _ (by omega) ⟨by omega,CA hT (by omega) (by omega) hc⟩ rfl rfl rfl
  ·exact ao.b (by rw[decide_eq_false (Ka hc)]) rfl
  ·exact ao.b (by rw[decide_eq_true (zO hT (by omega) (by omega))]) rfl
 ·exact ao.b (by rw[decide_eq_false (fun e=>by rw[e] at hc;omega)]) rfl⟩
instance(a b:Tre):C 15 [az a,az b] (boF (zK a b)) true (a.wf∧b.wf):=⟨fun h=>by
 obtain⟨ha,hb⟩:=h;refine kf rfl rfl ?_;repeat' first|exact k9|refine k2 ?_|apply kA|apply kI;intro hc|refine k8 ?_|apply kL;intro hl
 ·exact⟨ha,aq (by assumption),(aq (by assumption)).root⟩
 ·exact⟨hb,aq (by assumption),(aq (by assumption)).root⟩
 ·rename_i h1;have ra:=aq h1;have rb:=aq hc;have wa:=(gL ha ra ra.root.1 ra.root.2).1;have wb:=(gL hb rb rb.root.1 rb.root.2).1;exact⟨⟨wa.len,wa.nodes⟩,wb.len,wb.nodes⟩
 all_goals (refine ao.b ?_ rfl;simp_all [zK])
 all_goals try omega⟩
instance(t:Tre):C 111 [az t] (inF (nP t)) true t.wf:=⟨fun ht=>by
 have hlen:=ht.len;simp only[ca] at hlen;refine kf rfl rfl ?_;repeat' first|exact k9|refine k2 ?_|apply kA|apply kI;intro hc|refine k8 ?_|apply kL;intro hl
 ·have hR:=aq hc;have hP:nP t=(np t.nodes []).getD t.root.toNat 0:=by rw[nP,if_pos hc]
  apply kCt [1,3,16,17,18] [];conv=>whnf
  refine Lp.ind (fun x:Nat×List Int=>t.nodes.length - x.1) (fun x=>x.1≤t.nodes.length∧x.2.length=x.1∧(∀y∈x.2,0≤y∧y≤x.1)∧np t.nodes []=np (t.nodes.drop x.1) x.2) (fun x=>[(18,InD x.1)]) (fun x=>[(1,.ro 0 3 1 ((x.2++List.replicate (t.nodes.length - x.1) 0).map ikF))]) (fun _=>(inF (nP t),true)) (0,[]) ⟨by simp,rfl,by simp,rfl⟩ rfl rfl ?_ ?_
  ·simp only[List.nil_append,Nat.sub_zero];rw[show(List.replicate t.nodes.length (0:Int)).map ikF=List.replicate (t.nodes.map aU).length (ikF 0) by simp];rfl
  rintro G ⟨i,L⟩ ih ⟨hi,hD,hb,hT⟩
  dsimp only at hi hD hb hT ih ⊢
  by_cases hx:i<t.nodes.length
  ·obtain⟨n,hn⟩:=exEq (t.nodes[i]);have hni:∀h,t.nodes[i]'h=n:=fun _=>hn.symm
   have hkl:n.kids.length≤17592186044416:=by rw[hn];exact(ht.nodes _ (List.getElem_mem hx)).kids.1
   obtain⟨m,hm⟩:∃m,t.nodes.length - i=m+1:=⟨t.nodes.length - i - 1,by omega⟩
   rw[hm,show L++List.replicate (m+1) 0=fZ L 0 m from rfl];rw[List.drop_eq_getElem_cons hx,←hn,np] at hT;have hkw:∀x∈n.kids,0≤x∧x<i:=fun x hxk=>hR.kok i n (by rw[hn];exact List.getElem?_eq_getElem hx) x hxk
   repeat' first|exact k9|refine k2 ?_|apply kA|apply kI;intro hc|apply kL;intro hl|((simp only[hni])<;>conv=>whnf)|refine k8 ?_|fail
   apply kCt [1,3,4,16,17,18,24,25,26] [];conv=>whnf
   refine Lp.ind (fun x:Nat×Int=>n.kids.length - x.1) (fun x=>x.1≤n.kids.length∧0≤x.2∧x.2≤i∧iY L 0 n.kids=iY L x.2 (n.kids.drop x.1)) (fun x=>[(26,InD x.1)]) (fun x=>[(1,.ro 0 3 1 ((fZ L x.2 m).map ikF))]) (fun _=>(inF (nP t),true)) (0,0) ⟨by simp,by simp,by simp,rfl⟩ rfl rfl rfl ?_
   rintro G' ⟨j,d⟩ ih' ⟨hj,hd0,hd1,hK⟩
   dsimp only at hj hd0 hd1 hK ih' ⊢;have hlr:=Ih L d m;have hai:∀h:i<(fZ L d m).length,(fZ L d m)[i]'h=d:=fun h=>JO hD h
   by_cases hy:j<n.kids.length
   ·have hkj:=hkw _ (List.getElem_mem hy);have hal:∀h:n.kids[j].toNat<(fZ L d m).length,(fZ L d m)[n.kids[j].toNat]'h=L.getD n.kids[j].toNat 0:=fun h=>IG (by omega) h
    have hdb:0≤L.getD n.kids[j].toNat 0∧L.getD n.kids[j].toNat 0≤i:=by
     rw[List.getD_eq_getElem?_getD,List.getElem?_eq_getElem (by omega)];exact hb _ (List.getElem_mem _)
    rw[List.drop_eq_getElem_cons hy,iY] at hK;have hds:(fZ L d m).set i (max d (L.getD n.kids[j].toNat 0))=fZ L (max d (L.getD n.kids[j].toNat 0)) m:=yt hD;generalize fZ L d m=cur at *
    repeat' first|exact k9|refine k2 ?_|apply kA|apply kI;intro hc|apply kL;intro hl|((simp only[hai,hal])<;>conv=>whnf)|refine k8 ?_|fail
    apply kCt [1,3,4,16,17,18,24,25,26] [];conv=>whnf
    refine ih' (j+1,max d (L.getD n.kids[j].toNat 0)) _ _ _ (by dsimp only;omega) ⟨by dsimp only;omega,by dsimp only;omega,by dsimp only;omega,hK⟩ rfl rfl ?_;dsimp only;rw[←hds,List.map_set,←Jw];rfl
   ·rw[List.drop_of_length_le (by omega),iY] at hK;have hds:(fZ L d m).set i (d+1)=fZ L (d+1) m:=yt hD;generalize fZ L d m=cur at *
    repeat' first|exact k9|refine k2 ?_|apply kA|apply kI;intro hc|apply kL;intro hl|((simp only[hai])<;>conv=>whnf)|refine k8 ?_|fail
    apply kCt [1,3,16,17,18] [];conv=>whnf
    refine ih (i+1,L++[d+1]) _ _ _ (by dsimp only;omega) ⟨by dsimp only;omega,by simp[hD],?_,by rw[hT,hK]⟩ rfl rfl ?_
    ·intro y hy;dsimp only at hy ⊢;rcases List.mem_append.1 hy with hy|hy
     ·have:=hb y hy;omega
     ·simp at hy;omega
    ·dsimp only;rw[show t.nodes.length - (i+1)=m by omega,show L++[d+1]++List.replicate m 0=fZ L (d+1) m by simp[fZ],←hds,List.map_set];rfl
  ·rw[List.drop_of_length_le (by omega),np] at hT;rw[show t.nodes.length - i=0 by omega,List.replicate_zero,List.append_nil];have hrt:=hR.root;have hrl:t.root.toNat<L.length:=by omega
   repeat' first|exact k9|refine k2 ?_|apply kA|apply kI;intro hc|refine k8 ?_|apply kL;intro hl
   refine ao.n ?_ rfl;rw[hP,hT,List.getD_eq_getElem?_getD,List.getElem?_eq_getElem hrl];rfl
 ·exact ao.n (by rw[nP,if_neg (by rw[hc];decide)]) rfl⟩
instance(t:Tre):C 44 [az t] (mA (cA t)) false t.wf:=⟨fun ht=>by
 have hlen:=ht.len;simp only[ca] at hlen;have hwx:=Ea ht
 cases hri:au t with
 | false=>
  have h1:=ma hri;have h2:cA t=[]:=by rw[cA,if_neg (by rw[hri];simp)]
  have h3:(aT t).nodes.length=0:=by rw[h1];rfl
  refine kf rfl rfl ?_;repeat' first|exact k9|refine k2 ?_|apply kA|apply kI;intro hc|refine k8 ?_|apply kL;intro hl
  exact ao.i (by rw[h2];rfl)
 | true=>
  obtain⟨n,Fk,hF,hb,hf⟩:=fH (aq hri);have hsz:=gF (aq hri);have hk0:cA t=Fk.trees:=by rw[cA,if_pos hri,hF];rfl
  have hC:aT t=cP (.cons n Fk .nil):=by rw[fW hri,hF]
  have hsz':Fk.size+1=t.nodes.length:=by rw[←hsz,hF];simp[Fo.size]
  have hl:(aT t).nodes.length=Fk.size+1:=by rw[hC];show((Fo.cons n Fk .nil).ar 0).length=_;rw[Fo.cC];rfl
  have hroot:(aT t).root=(Fk.size:Int):=by rw[hC];show(((Fk.size+1+0:Nat):Int) - 1)=_;omega
  have hnod:(aT t).nodes=Fk.ar 0++[{ n with kids:=Fk.bB 0 }]:=by rw[hC];show(Fo.cons n Fk .nil).ar 0=_;simp[Fo.ar]
  have hg:∀h:(aT t).root.toNat<(aT t).nodes.length,(aT t).nodes[(aT t).root.toNat]'h={ n with kids:=Fk.bB 0 }:=by
   intro h;simp only[hroot,Int.toNat_natCast,hnod];rw[List.getElem_append_right (by rw[Fo.cC];omega)];simp
  have htl:(Fk.bB 0).length=Fk.len:=Fo.jj Fk 0;have hls:=Fo.zj Fk;have hround:∀(A:Fo) (m:Nod) (j r:Fo),A.app (.cons m j r)=Fk→A.len<Fk.len∧A.size+j.size+1≤Fk.size∧(∀h:A.len<(Fk.bB 0).length,(Fk.bB 0)[A.len]'h=((A.size+j.size:Nat):Int))∧
    ((aT t).nodes.take (A.size+j.size+1)).drop A.size=(Fo.cons m j .nil).ar A.size∧bK ((Fo.cons m j .nil).ar A.size) (-(A.size:Int))=(cP (.cons m j .nil)).nodes∧(cP (.cons m j .nil)).root=(j.size:Int)∧(A.app (.cons m j .nil)).app r=Fk∧(A.app (.cons m j .nil)).trees=A.trees++[cP (.cons m j .nil)]:=by
   intro A m j r hAB;have e0:Fk.size=A.size+(j.size+1+r.size):=by rw[←hAB,Fo.fY];rfl
   have e1:Fk.len=A.len+(r.len+1):=by rw[←hAB,Fo.rA];rfl
   refine⟨by omega,by omega,?_,?_,?_,?_,?_,?_⟩
   ·intro h;have hkk:(Fk.bB 0)[A.len]?=some ((A.size+j.size:Nat):Int):=by
     rw[←hAB,Fo.so,List.getElem?_append_right (by rw[Fo.jj];omega),Fo.jj,Nat.sub_self,Nat.zero_add];rfl
    rw[List.getElem?_eq_getElem h] at hkk;exact Option.some.inj hkk
   ·have e2:(aT t).nodes=A.ar 0++((Fo.cons m j .nil).ar A.size++(r.ar (A.size+j.size+1)++[{ n with kids:=Fk.bB 0 }])):=by
     rw[hnod,←hAB,Fo.Av,Nat.zero_add];simp[Fo.ar]
    rw[e2,List.drop_take,List.drop_append_of_le_length (by rw[Fo.cC];omega),List.drop_of_length_le (by rw[Fo.cC];omega),List.nil_append,List.take_append_of_le_length (by rw[Fo.cC];simp[Fo.size];omega),List.take_of_length_le (by rw[Fo.cC];simp[Fo.size];omega)]
   ·show bK ((Fo.cons m j .nil).ar A.size) (-(A.size:Int))=(Fo.cons m j .nil).ar 0
    rw[show A.size=0+A.size by omega,←Fo.pg,Nat.zero_add];simp only[bK,List.map_map];conv=>rhs;rw[←List.map_id ((Fo.cons m j .nil).ar 0)]
    refine List.map_congr_left fun x _=>?_
    cases x;simp[Function.comp_def,Int.add_neg_cancel_right]
   ·show(((j.size+1+0:Nat):Int) - 1)=_
    omega
   ·rw[Fo.vB];exact hAB
   ·rw[Fo.vU];rfl
  have hrow:∀(A:Fo) (m:Nod) (j r:Fo),A.app (.cons m j r)=Fk→fO (cP (.cons m j .nil))=[F.sl ((bK (List.drop A.size (List.take (A.size+j.size+1) (aT t).nodes)) (0 - (A.size:Int))).map aU),inF (((A.size+j.size:Nat):Int) - A.size)]:=by
   intro A m j r hAB;obtain⟨f1,f2,f3,f4,f5,f6,f7,f8⟩:=hround A m j r hAB;rw[f4,Int.zero_sub,f5,show(((A.size+j.size:Nat):Int) - A.size)=j.size by omega,←f6]
  have hpre:∀(A:Fo) (m:Nod) (j r:Fo),A.app (.cons m j r)=Fk→(List.drop A.size (List.take (A.size+j.size+1) (aT t).nodes)).length≤1466015503701∧(∀n∈List.drop A.size (List.take (A.size+j.size+1) (aT t).nodes),n.wf)∧(∀n∈List.drop A.size (List.take (A.size+j.size+1) (aT t).nodes),∀k∈n.kids,-9223372036854775808≤k+(0 - (A.size:Int))∧k+(0 - (A.size:Int))≤9223372036854775807):=by
   intro A m j r hAB;obtain⟨f1,f2,f3,f4,f5,f6,f7,f8⟩:=hround A m j r hAB;have hsub:∀x∈List.drop A.size (List.take (A.size+j.size+1) (aT t).nodes),x∈(aT t).nodes:=fun x hx=>List.mem_of_mem_take (List.mem_of_mem_drop hx)
   have hR:=(yd t).trans hri;refine⟨by simp only[List.length_drop,List.length_take];omega,fun x hx=>hwx.nodes x (hsub x hx),fun x hx k hk=>?_⟩;obtain⟨i,hi,rfl⟩:=List.getElem_of_mem (hsub x hx);have:=(aq hR).kok i _ (List.getElem?_eq_getElem hi) k hk;omega
  rw[hk0];refine kf rfl rfl ?_;repeat' first|exact k9|refine k2 ?_|apply kA|apply kI;intro hc|apply kL;intro hl|((simp only[hg])<;>conv=>whnf)|refine k8 ?_|fail
  cases hFk:Fk with
  | nil=>
   subst hFk;apply Stp.on
   repeat' first|exact k9|refine k2 ?_|apply kA|apply kI;intro hc|refine k8 ?_|apply kL;intro hl
   exact ao.i rfl
  | cons m j r=>
   obtain⟨f1,f2,f3,f4,f5,f6,f7,f8⟩:=hround .nil m j r hFk.symm;have g3:∀h:0<(Fk.bB 0).length,(Fk.bB 0)[0]'h=(j.size:Int):=fun h=>(f3 h).trans (by simp[Fo.size])
   have e3:((j.size:Int)+1).toNat=j.size+1:=by omega
   rw[←hFk];apply Stp.on
   repeat' first|exact k9|refine k2 ?_|apply kA|apply kI;intro hc|apply kL;intro hl|((simp only[g3])<;>conv=>whnf)|((simp only[e3])<;>conv=>whnf)|((simp only[←List.map_take,←List.map_drop])<;>conv=>whnf)|refine k8 ?_|fail
   ·have:=hpre .nil m j r hFk.symm;simp only[Fo.size,Nat.zero_add] at this;exact⟨this⟩
   have h0:=hrow .nil m j r hFk.symm;simp only[Fo.size,Nat.zero_add] at h0;apply kCt [1,3,4,19,20,21] [];conv=>whnf
   refine Lp.ind (fun x:Fo×Fo=>x.2.len) (fun x=>x.1.app x.2=Fk) (fun x=>[(21,InD x.1.len),(4,InD x.1.size)]) (fun x=>[(1,.ro 0 40 2 (x.1.trees.map fO))]) (fun _=>(mA Fk.trees,false)) (.cons m j .nil,r) hFk.symm rfl rfl ?_ ?_
   ·rw[show(Fo.cons m j .nil).trees.map fO=[fO (cP (.cons m j .nil))] from rfl,h0];rfl
   rintro G ⟨A,B⟩ ih hAB
   dsimp only at hAB ih ⊢
   cases B with
   | nil=>
    have hA:A=Fk:=by rw[←hAB,Fo.Dh]
    subst hA
    repeat' first|exact k9|refine k2 ?_|apply kA|apply kI;intro hc|refine k8 ?_|apply kL;intro hl
   | cons m' j' r'=>
    obtain⟨f1,f2,f3,f4,f5,f6,f7,f8⟩:=hround A m' j' r' hAB;have e4:(((A.size+j'.size:Nat):Int)+1).toNat=A.size+j'.size+1:=by omega
    have hAl:A.trees.length=A.len:=Fo.jg A
    repeat' first|exact k9|refine k2 ?_|apply kA|apply kI;intro hc|apply kL;intro hl|((simp only[f3])<;>conv=>whnf)|((simp only[e4])<;>conv=>whnf)|((simp only[←List.map_take,←List.map_drop])<;>conv=>whnf)|refine k8 ?_|fail
    ·exact⟨hpre A m' j' r' hAB⟩
    apply kCt [1,3,4,19,20,21] [];conv=>whnf
    refine ih (A.app (.cons m' j' .nil),r') _ _ _ (by simp only[Fo.len];omega) f7 rfl ?_ ?_
    ·dsimp only;rw[Fo.rA,Fo.fY];rfl
    ·dsimp only;rw[f8,List.map_append,show List.map fO [cP (.cons m' j' .nil)]=[fO (cP (.cons m' j' .nil))] from rfl,hrow A m' j' r' hAB];rfl⟩
set_option maxRecDepth 100000
set_option maxHeartbeats 0
theorem Ny(kind sa sb sc sd:Int)(text:ByteArray)(lo hi:Int)(K:List (List F))(l:List Tre)(hn:(⟨kind,⟨sa,sb,sc,sd⟩,text,lo,hi,[]⟩:Nod).wf)(hl:l.length≤1466015503701)(hw:∀t∈l,t.wf)(ht:tot l+1≤1466015503701) :
  Pure Tryz.prog X1.Γ 99 [.ag [byF kind,.vl (.int .u64 sa),.vl (.int .u64 sb),.vl (.int .u64 sc),.vl (.int .u64 sd),stF text,inF lo,inF hi,.sl K],mA l]
   (.tp [az (ofP ⟨kind,⟨sa,sb,sc,sd⟩,text,lo,hi,[]⟩ l).1,boF (ofP ⟨kind,⟨sa,sb,sc,sd⟩,text,lo,hi,[]⟩ l).2]) false:=by
 obtain⟨n,hnn⟩:∃n:Nod,n=⟨kind,⟨sa,sb,sc,sd⟩,text,lo,hi,[]⟩:=⟨_,rfl⟩
 have hF:∀x,fits ⟨kind,⟨sa,sb,sc,sd⟩,text,lo,hi,[]⟩ x=fits n x:=fun x=>by rw[hnn]
 rw[←hnn];refine kf rfl rfl ?_;repeat' first|exact k9|refine k2 ?_|apply kA|apply kI;intro hc|refine k8 ?_|apply kL;intro hl
 ·have hfit:fits n l.length=true:=by rw[←hF];exact hc
  have hno:iM l [] []=none→ofP n l=(.zero,false):=fun h=>by rw[ofP,if_pos hfit,h]
  have hyes:∀a ks,iM l [] []=some (a,ks)→ofP n l=(⟨a++[{ n with kids:=ks }],a.length⟩,true):=fun a ks h=>by rw[ofP,if_pos hfit,h]
  have hmv:∀k∈l,au k=true→∀d:Nat,d≤1466015503701→(aD k k.root).nodes.length≤k.nodes.length∧((aD k k.root).nodes.length≤1466015503701∧(∀n∈(aD k k.root).nodes,n.wf)∧(∀n∈(aD k k.root).nodes,∀x∈n.kids,-9223372036854775808≤x+(d:Int)∧x+(d:Int)≤9223372036854775807)):=by
   intro k hk hr d hd;have hR:=aq hr;obtain⟨w1,w2⟩:=gL (hw k hk) hR hR.root.1 hR.root.2;have hlen:=w1.len;simp only[ca] at hlen w2;exact⟨nQ hR hR.root.1 hR.root.2,hlen,w1.nodes,fun n hn x hx=>by have:=w2 n hn x hx;omega⟩
  have hml:∀(xs:List Nod) (d:Int),(bK xs d).length=xs.length:=fun xs d=>by simp[bK]
  cases hll:l with
  | nil=>
   subst hll;apply Stp.on
   repeat' first|exact k9|refine k2 ?_|apply kA|apply kI;intro hc|refine k8 ?_|apply kL;intro hl
   refine ao.i ?_;rw[hyes [] [] rfl,hnn];rfl
  | cons k rest=>
   rw[←hll];have hl0:∀h:0<l.length,l[0]'h=k:=fun h=>by simp[hll]
   have hkl:k∈l:=by simp[hll]
   have hl1:0<l.length:=by simp[hll]
   have hd1:l.drop 1=rest:=by simp[hll]
   have hwk:=hw k hkl;have htk:k.nodes.length+tot rest=tot l:=by rw[hll,kH]
   apply Stp.on
   cases hr:au k with
   | false=>
    repeat' first|exact k9|refine k2 ?_|apply kA|apply kI;intro hc|apply kL;intro hl|((simp only[hl0])<;>conv=>whnf)|refine k8 ?_|fail
    refine ao.i ?_;rw[hno (by rw[hll,iM,if_neg (by rw[hr];decide)])];rfl
   | true=>
    have hRk:=aq hr;have hpk:k.wf∧aC k∧0≤k.root∧k.root<k.nodes.length:=⟨hwk,hRk,hRk.root⟩
    obtain⟨hm1,hm2⟩:=hmv k hkl hr 0 (by omega);have hm3:=hml (aD k k.root).nodes 0;rw[Int.natCast_zero] at hm2
    repeat' first|exact k9|refine k2 ?_|apply kA|apply kI;intro hc|apply kL;intro hl|((simp only[hl0])<;>conv=>whnf)|refine k8 ?_|fail
    apply kCt [2,4,6,7,16,17,18] [];conv=>whnf
    refine Lp.ind (fun x:Nat×List Nod×List Int=>l.length - x.1) (fun x=>0<x.1∧x.1≤l.length∧x.2.2.length=x.1∧x.2.1.length+tot (l.drop x.1)≤tot l∧iM l [] []=iM (l.drop x.1) x.2.1 x.2.2) (fun x=>[(18,InD x.1)]) (fun x=>[(2,.ro 0 54 9 (x.2.1.map aU)),(3,.ro 0 3 1 (x.2.2.map ikF))]) (fun _=>(.tp [az (ofP n l).1,boF (ofP n l).2],false))
     (1,bK (aD k k.root).nodes 0,[(((aD k k.root).nodes.length:Nat):Int) - 1]) ⟨by dsimp only;omega,by dsimp only;rw[hll];simp,rfl,?_,?_⟩ rfl rfl ?_ ?_
    ·dsimp only;rw[hd1,hm3];omega
    ·dsimp only;rw[hd1,hll,iM,if_pos hr];simp
    ·simp only[List.length_map,hm3];rfl
    rintro G ⟨i,ar,ks⟩ ih ⟨hi0,hi1,hks,hto,hT⟩
    dsimp only at hi0 hi1 hks hto hT ih ⊢
    by_cases hx:i<l.length
    ·obtain⟨q,hq⟩:=exEq (l[i]);have hqi:∀h:i<l.length,l[i]'h=q:=fun _=>hq.symm
     have hql:q∈l:=by rw[hq];exact List.getElem_mem hx
     have hwq:=hw q hql;rw[List.drop_eq_getElem_cons hx,←hq] at hT hto;rw[kH] at hto;rw[iM] at hT
     cases hrq:au q with
     | false=>
      rw[if_neg (by rw[hrq];decide)] at hT
      repeat' first|exact k9|refine k2 ?_|apply kA|apply kI;intro hc|apply kL;intro hl|((simp only[hqi])<;>conv=>whnf)|refine k8 ?_|fail
      refine ao.i ?_;rw[hno hT];rfl
     | true=>
      rw[if_pos hrq] at hT;have hRq:=aq hrq;have hpq:q.wf∧aC q∧0≤q.root∧q.root<q.nodes.length:=⟨hwq,hRq,hRq.root⟩
      obtain⟨hm4,hm5⟩:=hmv q hql hrq ar.length (by omega);have hm6:=hml (aD q q.root).nodes ar.length;have har:(List.map aU ar).length=ar.length:=List.length_map ..
      repeat' first|exact k9|refine k2 ?_|apply kA|apply kI;intro hc|apply kL;intro hl|((simp only[hqi])<;>conv=>whnf)|((simp only[har])<;>conv=>whnf)|refine k8 ?_|fail
      apply kCt [2,4,6,7,16,17,18] [];conv=>whnf
      refine ih (i+1,ar++bK (aD q q.root).nodes ar.length,ks++[((ar.length+(aD q q.root).nodes.length:Nat):Int) - 1]) _ _ _ (by dsimp only;omega) ⟨by dsimp only;omega,by dsimp only;omega,by simp[hks],by simp only[List.length_append,hm6];omega,hT⟩ rfl rfl ?_;have e1:(List.map aU ar++List.map aU (bK (aD q q.root).nodes ar.length)).length=ar.length+(aD q q.root).nodes.length:=by simp only[List.length_append,List.length_map,hm6]
      rw[e1];dsimp only;rw[show List.map aU (ar++bK (aD q q.root).nodes ar.length)=List.map aU ar++List.map aU (bK (aD q q.root).nodes ar.length) from List.map_append ..,show List.map ikF (ks++[((ar.length+(aD q q.root).nodes.length:Nat):Int) - 1])=List.map ikF ks++[ikF (((ar.length+(aD q q.root).nodes.length:Nat):Int) - 1)] from by simp];rfl
    ·rw[List.drop_of_length_le (by omega),iM] at hT;rw[hyes _ _ hT,hnn]
     repeat' first|exact k9|refine k2 ?_|apply kA|apply kI;intro hc|refine k8 ?_|apply kL;intro hl
     refine ao.i ?_;simp only[az,fO,List.map_append];refine congrArg (fun z=>F.tp [F.ag [F.sl (List.map aU ar++[[byF kind,F.vl (.int .u64 sa),F.vl (.int .u64 sb),F.vl (.int .u64 sc),F.vl (.int .u64 sd),stF text,inF lo,inF hi,F.sl (List.map ikF ks)]]),inF z],boF true]) ?_;simp
 ·refine ao.i ?_;rw[ofP,if_neg (by rw[←hF,hc];decide)];rfl
instance(kind sa sb sc sd:Int)(text:ByteArray)(lo hi:Int)(K:List (List F))(l:List Tre):C 99 [.ag [byF kind,.vl (.int .u64 sa),.vl (.int .u64 sb),.vl (.int .u64 sc),.vl (.int .u64 sd),stF text,inF lo,inF hi,.sl K],mA l]
  (.tp [az (ofP ⟨kind,⟨sa,sb,sc,sd⟩,text,lo,hi,[]⟩ l).1,boF (ofP ⟨kind,⟨sa,sb,sc,sd⟩,text,lo,hi,[]⟩ l).2]) false ((⟨kind,⟨sa,sb,sc,sd⟩,text,lo,hi,[]⟩:Nod).wf∧l.length≤1466015503701∧(∀t∈l,t.wf)∧tot l+1≤1466015503701):=⟨fun h=>Ny kind sa sb sc sd text lo hi K l h.1 h.2.1 h.2.2.1 h.2.2.2⟩
instance(t:Tre):C 95 [az t] (boF (qY t)) true t.wf:=⟨fun ht=>by
 refine kf rfl rfl ?_;repeat' first|exact k9|refine k2 ?_|apply kA|apply kI;intro hc|refine k8 ?_|apply kL;intro hl
 all_goals (refine ao.b ?_ rfl;simp_all [qY,dt])
 all_goals try omega⟩
end Go.Km
end
section
namespace Go.Km
open Go Go.Vc Go.Proofs Go.aa Go.Proofs.YtoklkjkmbfebjaaGreatDoor
set_option maxRecDepth 100000
set_option maxHeartbeats 0
instance:B0 133:=⟨trivial⟩
instance:B0 114:=⟨trivial⟩
instance:B0 134:=⟨trivial⟩
instance:B0 115:=⟨trivial⟩
instance:B0 116:=⟨trivial⟩
instance:B0 101:=⟨trivial⟩
instance:Mr 117:=⟨trivial⟩
theorem ky{α β:Type}(f:α→β)(l:List α)(a:α):List.map f (l++[a])=List.map f l++[f a]:=by simp
abbrev iN(k a b c d:Int)(s:ByteArray)(x y:Int)(K:List (List F)):List F:=[byF k,.vl (.int .u64 a),.vl (.int .u64 b),.vl (.int .u64 c),.vl (.int .u64 d),stF s,inF x,inF y,.sl K]
instance(L:List Nod)(k a b c d:Int)(s:ByteArray)(x y:Int)(K:List (List F)):HA Tryz.prog X1.Γ 133 165 54 9 (L.map aU) [.ag (iN k a b c d s x y K)] (inF L.length) (L.map aU++[iN k a b c d s x y K]) (L.length<1466015503701):=⟨fun hL=>by
 refine⟨fun η b_ v_ b2_ v2_ h1_ h2_=>mc dZ rfl rfl ?_ h1_ h2_⟩;intro vs_;repeat' first|exact k9|refine k2 ?_|apply kA|apply kI;intro hc|refine k8 ?_|apply kL;intro hl
 exact cQ.n (by simp) rfl⟩
instance(L:List Nod)(k a b c d:Int)(s:ByteArray)(x y:Int)(K:List (List F))(ks:List Int):HA Tryz.prog X1.Γ 114 165 54 9 (L.map aU) [.ag (iN k a b c d s x y K),.sl (ks.map ikF)] (inF L.length) (L.map aU++[iN k a b c d s x y (ks.map ikF)]) (L.length<1466015503701):=⟨fun hL=>by
 refine⟨fun η b_ v_ b2_ v2_ h1_ h2_=>mc dZ rfl rfl ?_ h1_ h2_⟩;intro vs_;repeat' first|exact k9|refine k2 ?_|apply kA|apply kI;intro hc|refine k8 ?_|apply kL;intro hl
 exact cQ.i rfl rfl⟩
theorem ja(L:List Nod){q:Nat}(h:q<L.length):aR L (q:Int)=(L[((q:Nat):Int).toNat]'(by simpa using h)).kind:=by
 unfold aR;simp[List.getD_eq_getElem?_getD,List.getElem?_eq_getElem h]
def flK(L:List Nod)(k:Int)(l:List Int):List Int:=if k=4 then sH L l else l
theorem GI(L:List Nod)(k x:Int)(l:List Int):flK L k (x :: l)=(if k=4∧aR L x=0 then [] else [x])++flK L k l:=by
 unfold flK sH
 by_cases h:k=4<;>by_cases h2:aR L x=0<;>simp[h,h2]
abbrev JoK(L:List Nod)(k a b c d:Int)(s:ByteArray)(x y:Int)(ks:List Int)(e:Nod):List Nod×Int:=s7 L ⟨k,⟨a,b,c,d⟩,s,x,y,[]⟩ e (flK L k ks)
instance(L:List Nod)(k a b c d:Int)(s:ByteArray)(x y:Int)(K:List (List F))(ks:List Int)(k' a' b' c' d':Int)(s':ByteArray)(x' y':Int):HA Tryz.prog X1.Γ 134 165 54 9 (L.map aU) [.ag (iN k a b c d s x y K),.sl (ks.map ikF),.ag (iN k' a' b' c' d' s' x' y' [])]
  (inF (JoK L k a b c d s x y ks ⟨k',⟨a',b',c',d'⟩,s',x',y',[]⟩).2) ((JoK L k a b c d s x y ks ⟨k',⟨a',b',c',d'⟩,s',x',y',[]⟩).1.map aU) (L.length<1466015503701∧ks.length≤17592186044416∧∀x∈ks,0≤x∧x<(L.length:Int)):=⟨fun h=>by
 obtain⟨hL,hkl,hks⟩:=h;refine⟨fun η b_ v_ b2_ v2_ h1_ h2_=>mc dZ rfl rfl ?_ h1_ h2_⟩;intro vs_;repeat' first|exact k9|refine k2 ?_|apply kA|apply kI;intro hc|refine k8 ?_|apply kL;intro hl
 apply Stp.By 7 25 3 1 rfl rfl;apply kCt [4,5,7,9,10,14,15,16] [];conv=>whnf
 obtain⟨RR,hRR⟩:∃RR:List Nod×Int,RR=JoK L k a b c d s x y ks ⟨k',⟨a',b',c',d'⟩,s',x',y',[]⟩:=⟨_,rfl⟩
 rw[←hRR];refine Lp.ind (fun z:Nat×List Int=>ks.length - z.1) (fun z=>z.1≤ks.length∧z.2.length≤z.1∧(∀x∈z.2,0≤x∧x<(L.length:Int))∧z.2++flK L k (ks.drop z.1)=flK L k ks) (fun z=>[(16,InD z.1)]) (fun z=>[(6,.ro 0 3 1 (z.2.map ikF))]) (fun _=>_) (0,[]) ⟨by simp,by simp,by simp,by simp⟩ rfl rfl rfl ?_
 rintro G ⟨i,P⟩ ih ⟨hi,hP,hPm,hT⟩
 dsimp only at hi hP hPm hT ih ⊢
 by_cases hx:i<ks.length
 ·have hk0:=hks _ (List.getElem_mem hx);rw[List.drop_eq_getElem_cons hx,GI] at hT;obtain⟨q,hq⟩:∃q:Nat,ks[i]=q:=⟨ks[i].toNat,by omega⟩
  have hqi:∀h:i<ks.length,ks[i]'h=(q:Int):=fun _=>hq
  rw[hq] at hT hk0
  repeat' first|exact k9|refine k2 ?_|apply kA|apply kI;intro hc|apply kL;intro hl|((simp only[hqi])<;>conv=>whnf)|refine k8 ?_|fail
  ·apply kCt [4,5,7,9,10,14,15,16] [];conv=>whnf
   refine ih (i+1,P) _ _ _ (by dsimp only;omega) ⟨by dsimp only;omega,by dsimp only;omega,hPm,?_⟩ rfl rfl rfl;rename_i h4;have h0:=hc;simp only[hqi] at h0;rw[if_pos ⟨h4,by rw[ja L (by omega)];exact h0⟩,List.nil_append] at hT;exact hT
  ·rename_i h4;have h0:=hc;simp only[hqi] at h0;rw[if_neg (fun h=>h0 (by rw[←ja L (by omega)];exact h.2))] at hT;apply kCt [4,5,7,9,10,14,15,16] [];conv=>whnf
   refine ih (i+1,P++[(q:Int)]) _ _ _ (by dsimp only;omega) ⟨by dsimp only;omega,by simp;omega,?_,by simpa using hT⟩ rfl rfl (by simp only[List.map_append];rfl);intro x hx;rcases List.mem_append.1 hx with hx|hx
   ·exact hPm x hx
   ·simp at hx;omega
  ·rename_i h4;rw[if_neg (fun h=>hc h.1)] at hT;apply kCt [4,5,7,9,10,14,15,16] [];conv=>whnf
   refine ih (i+1,P++[(q:Int)]) _ _ _ (by dsimp only;omega) ⟨by dsimp only;omega,by simp;omega,?_,by simpa using hT⟩ rfl rfl (by simp only[List.map_append];rfl);intro x hx;rcases List.mem_append.1 hx with hx|hx
   ·exact hPm x hx
   ·simp at hx;omega
 ·rw[List.drop_of_length_le (by omega),show flK L k []=[] by simp[flK,sH],List.append_nil] at hT;have hR2:RR=s7 L ⟨k,⟨a,b,c,d⟩,s,x,y,[]⟩ ⟨k',⟨a',b',c',d'⟩,s',x',y',[]⟩ P:=by rw[hRR,hT]
  clear hRR;subst hR2
  repeat' first|exact k9|refine k2 ?_|apply kA|apply kI;intro hc|refine k8 ?_|apply kL;intro hl
  ·obtain rfl:P=[]:=List.eq_nil_of_length_eq_zero (by omega);exact cQ.i rfl (by simp only[s7,List.map_append];rfl)
  ·obtain⟨p,rfl⟩:∃p,P=[p]:=List.length_eq_one_iff.1 (by omega);exact cQ.i rfl rfl
  ·rename_i h0
   match P,h0,hc with
   | [],h0,_=>simp at h0
   | [p],_,h1=>simp at h1
   | p :: q :: l,_,_=>exact cQ.i rfl (by simp only[s7,List.map_append];rfl)⟩
instance(L:List Nod)(a b c d:Int)(s:ByteArray)(x y:Int)(K:List (List F))(ks:List Int):HA Tryz.prog X1.Γ 115 165 54 9 (L.map aU) [.ag (iN 4 a b c d s x y K),.sl (ks.map ikF)]
  (inF (j8 L ⟨4,⟨a,b,c,d⟩,s,x,y,[]⟩ ks).2) ((j8 L ⟨4,⟨a,b,c,d⟩,s,x,y,[]⟩ ks).1.map aU) (L.length<1466015503701∧ks.length≤17592186044416∧∀x∈ks,0≤x∧x<(L.length:Int)):=⟨fun h=>by
 refine⟨fun η b_ v_ b2_ v2_ h1_ h2_=>mc dZ rfl rfl ?_ h1_ h2_⟩;intro vs_;repeat' first|exact k9|refine k2 ?_|apply kA|apply kI;intro hc|refine k8 ?_|apply kL;intro hl
 exact cQ.i rfl rfl⟩
instance(L:List Nod)(a b c d:Int)(s:ByteArray)(x y:Int)(K:List (List F))(ks:List Int):HA Tryz.prog X1.Γ 116 165 54 9 (L.map aU) [.ag (iN 5 a b c d s x y K),.sl (ks.map ikF)]
  (inF (j8 L ⟨5,⟨a,b,c,d⟩,s,x,y,[]⟩ ks).2) ((j8 L ⟨5,⟨a,b,c,d⟩,s,x,y,[]⟩ ks).1.map aU) (L.length<1466015503701∧ks.length≤17592186044416∧∀x∈ks,0≤x∧x<(L.length:Int)):=⟨fun h=>by
 refine⟨fun η b_ v_ b2_ v2_ h1_ h2_=>mc dZ rfl rfl ?_ h1_ h2_⟩;intro vs_;repeat' first|exact k9|refine k2 ?_|apply kA|apply kI;intro hc|refine k8 ?_|apply kL;intro hl
 exact cQ.i rfl rfl⟩
instance(L:List Nod)(node:Int):HR Tryz.prog X1.Γ 117 165 54 9 (L.map aU) [inF node]
  (isF (chO L node)) (L.length≤1466015503701∧bw (ae L)∧0≤node∧node<L.length∧(dfs (ae L) L.length [node]).length≤1466015503701):=⟨fun h=>by
 obtain⟨hL,hch,h0,hn,hroom⟩:=h;obtain⟨nd,rfl⟩:∃nd:Nat,node=nd:=⟨node.toNat,by omega⟩
 have hlt:nd<L.length:=by omega
 obtain⟨n,hnn⟩:=exEq (L[nd]);have hni:∀h:nd<L.length,L[nd]'h=n:=fun _=>hnn.symm
 have hkA:aR L nd=n.kind:=by rw[ja L hlt,hnn];rfl
 have hkk:n.kids=ae L nd:=aI (by rw[hnn];exact List.getElem?_eq_getElem hlt);refine⟨fun η b_ v_ b2_ v2_ h1_ h2_=>Mh dZ rfl rfl ?_ h1_ h2_⟩;intro vs_;repeat' first|exact k9|refine k2 ?_|apply kA|apply kI;intro hc|apply kL;intro hl|((simp only[Int.toNat_natCast,hni])<;>conv=>whnf)|refine k8 ?_|fail
 rotate_left 2
 ·refine cQ.i ?_ rfl;rename_i h4;rw[chO,hkA,if_neg (by simp only[hni] at h4 hc;omega),←hkk];rfl
 all_goals
  have hkd:n.kind=4∨n.kind=5:=by simp only[hni] at hc;omega
  have hR:chO L nd=b7 L n.kind L.length [(nd:Int)]:=by
   unfold chO;rw[hkA,if_pos hkd,ic hch (by omega) (by omega),hkA,if_pos rfl,aX,List.append_nil]
  generalize chO L nd=R at *;clear hc;apply Stp.ng 6 3 1 rfl rfl;refine Stp.FU (by rfl) ?_;apply kCt [0,5,6,7] [];conv=>whnf
  refine Lp.ind (fun z:List Int×List Int=>(dfs (ae L) L.length z.1.reverse).length) (fun z=>(∀x∈z.1,0≤x∧x<L.length)∧z.2++b7 L n.kind L.length z.1.reverse=R∧z.2.length+(dfs (ae L) L.length z.1.reverse).length≤1466015503701) (fun _=>[]) (fun z=>[(3,.ro 0 3 1 (z.2.map ikF)),(5,.ro 0 3 1 (z.1.map ikF))]) (fun _=>_) ([(nd:Int)],[]) ⟨by simp;omega,by simpa using hR.symm,by simpa using hroom⟩ rfl rfl rfl ?_
  rintro G ⟨op,out⟩ ih ⟨hop,he,hrm⟩
  dsimp only at hop he hrm ih ⊢;rcases bm op with rfl|⟨init,i,rfl⟩
  ·simp only[List.reverse_nil,aX,List.append_nil] at he;subst he
   repeat' first|exact k9|refine k2 ?_|apply kA|apply kI;intro hc|refine k8 ?_|apply kL;intro hl
   exact cQ.i rfl rfl
  ·have hi:=hop i (by simp);obtain⟨i,rfl⟩:∃y:Nat,i=y:=⟨i.toNat,by omega⟩
   have hlti:i<L.length:=by omega
   obtain⟨m,hm⟩:=exEq (L[i]);have hmi:∀h:i<L.length,L[i]'h=m:=fun _=>hm.symm
   have hkm:aR L i=m.kind:=by rw[ja L hlti,hm];rfl
   have hkids:m.kids=ae L i:=aI (by rw[hm];exact List.getElem?_eq_getElem hlti);have hlast:∀h,(init++[(i:Int)])[((List.map ikF (init++[(i:Int)])).length - 1:Int).toNat]'h=(i:Int):=by
    intro h;simp[List.getElem_append]
   have htake:List.take ((List.map ikF (init++[(i:Int)])).length - 1:Int).toNat (List.map ikF (init++[(i:Int)]))=List.map ikF init:=by simp[List.take_append]
   rw[List.reverse_append,List.reverse_singleton,List.singleton_append,ic hch (by omega) (by omega),hkm,←hkids] at he;rw[List.reverse_append,List.reverse_singleton,List.singleton_append,aM hch (by omega) (by omega),←hkids] at hrm;simp only[List.length_append,List.length_cons] at hrm;have hg1:=dg (ch:=ae L) L.length m.kids (by omega);have hg2:=dg (ch:=ae L) L.length init.reverse (by omega);rw[List.length_reverse] at hg2
   repeat' first|exact k9|refine k2 ?_|apply kA|apply kI;intro hc|apply kL;intro hl|((rw[hlast])<;>conv=>whnf)|((simp only[Int.toNat_natCast,hmi])<;>conv=>whnf)|refine k8 ?_|fail
   ·refine Stp.JP 4 25 3 1 (by rfl) (by rfl) htake ?_;apply kCt [0,1,3] [0,5,6,7];conv=>whnf
    refine Lp.ind (fun z:Nat=>m.kids.length - z) (fun z=>z≤m.kids.length) (fun z=>[(3,InD ((m.kids.length:Int) - 1 - z))]) (fun z=>[(7,.ro 0 3 1 ((init++m.kids.reverse.take z).map ikF))]) (fun _=>_) 0 (by simp) rfl ?_ ?_ ?_
    ·simp only[List.length_map,Int.sub_zero,Int.natCast_zero];rfl
    ·simp only[List.take_zero,List.append_nil];rfl
    rintro G' z ih' hz
    by_cases hy:z<m.kids.length
    ·repeat' first|exact k9|refine k2 ?_|apply kA|apply kI;intro hc|refine k8 ?_|apply kL;intro hl
     apply kCt [0,1,3] [0,5,6,7];conv=>whnf
     refine ih' (z+1) _ _ _ (by omega) (by omega) rfl ?_ ?_
     ·rw[show(m.kids.length:Int) - 1 - ((z+1:Nat):Int)=m.kids.length - 1 - z - 1 by omega];rfl
     ·have e:init++m.kids.reverse.take (z+1)=(init++m.kids.reverse.take z)++[m.kids[((m.kids.length:Int) - 1 - z).toNat]'(by omega)]:=by
       rw[List.take_succ_eq_append_getElem (by simpa using hy),List.append_assoc]
       congr 3
       rw[List.getElem_reverse]
       congr 1
       omega
      rw[e,ky];rfl
    ·rw[List.take_of_length_le (by simp;omega)]
     repeat' first|exact k9|refine k2 ?_|apply kA|apply kI;intro hc|refine k8 ?_|apply kL;intro hl
     refine Stp.Gy (by rfl) (by rfl) (by rfl) ?_;apply kCt [0,5,6,7] [];conv=>whnf
     have hmk:m.kind=n.kind:=by
      have:L[i].kind=n.kind:=by assumption
      rw[←hm] at this;exact this
     rw[if_pos hmk] at he;refine ih (init++m.kids.reverse,out) _ _ _ ?_ ⟨?_,?_,?_⟩ rfl rfl rfl
     ·dsimp only;rw[List.reverse_append,List.reverse_append,List.reverse_singleton,List.singleton_append,List.reverse_reverse,bl,aM hch (by omega) (by omega),←hkids];simp only[List.length_cons,List.length_append];omega
     ·intro x hx;rcases List.mem_append.1 hx with hx|hx
      ·exact hop x (by simp[hx])
      ·rw[List.mem_reverse,hkids] at hx;have:=hch i x hx;omega
     ·dsimp only;rw[List.reverse_append,List.reverse_reverse,En];exact he
     ·dsimp only;rw[List.reverse_append,List.reverse_reverse,bl,List.length_append];omega
   ·refine Stp.JP 4 25 3 1 (by rfl) (by rfl) htake ?_;apply kCt [0,5,6,7] [];conv=>whnf
    rw[if_neg (by simp only[Int.toNat_natCast,hmi] at hc;exact hc)] at he;refine ih (init,out++[(i:Int)]) _ _ _ (by dsimp only;rw[List.reverse_append,List.reverse_singleton,List.singleton_append,aM hch (by omega) (by omega)];simp only[List.length_cons,List.length_append];omega) ⟨fun x hx=>hop x (by simp[hx]),by rw[←he];simp,by simp only[List.length_append,List.length_cons,List.length_nil];omega⟩ rfl rfl (by simp only[List.map_append];rfl)⟩
set_option maxRecDepth 100000
set_option maxHeartbeats 0
def jc(L:List Nod)(l:List Int):List Nod:=l.foldl (fun ms k=>ms.set k.toNat { ms.getD k.toNat .zero with kids:=chO L k }) L
theorem pN(L:List Nod)(l:List Int)(k:Int):jc L (l++[k])=(jc L l).set k.toNat { (jc L l).getD k.toNat .zero with kids:=chO L k }:=by
 unfold jc;rw[List.foldl_append];rfl
theorem tF{L:List Nod}:∀(l:List Int),(∀k∈l,0≤k∧k<(L.length:Int))→Mod L (jc L l):=by
 intro l;rcases bm l with rfl|⟨l,k,rfl⟩
 ·intro _;exact Mod.refl L
 ·intro h;have ih:=tF l fun x hx=>h x (by simp[hx])
  obtain⟨k,rfl⟩:∃q:Nat,k=q:=⟨k.toNat,by have:=h k (by simp);omega⟩
  have hk:k<(jc L l).length:=by rw[ih.len];have:=h k (by simp);omega
  rw[pN,Int.toNat_natCast,List.getD_eq_getElem?_getD,List.getElem?_eq_getElem hk];exact ih.set (List.getElem?_eq_getElem hk)
termination_by l=>l.length
decreasing_by
 all_goals simp_wf
 all_goals (subst_vars;simp)
theorem GN{L:List Nod}{l:List Int}(h:∀k∈l,0≤k∧k<(L.length:Int)):(jc L l).length=L.length:=(tF l h).len
theorem y8{L:List Nod}:∀(l:List Int),(∀k∈l,0≤k∧k<(L.length:Int))→∀(x:Nat) m,(x:Int)∈l→(jc L l)[x]?=some m→m.kids=chO L x:=by
 intro l;rcases bm l with rfl|⟨l,k,rfl⟩
 ·intro _ x m hx;simp at hx
 ·intro h x m hx hm;have ih:=y8 l fun x hx=>h x (by simp[hx])
  obtain⟨k,rfl⟩:∃q:Nat,k=q:=⟨k.toNat,by have:=h k (by simp);omega⟩
  have hk:k<(jc L l).length:=by rw[GN fun x hx=>h x (by simp[hx])];have:=h k (by simp);omega
  rw[pN,Int.toNat_natCast] at hm
  by_cases e:k=x
  ·subst e;rw[List.getElem?_set_self hk] at hm
   cases hm;rfl
  ·rw[List.getElem?_set_ne e] at hm;refine ih x m ?_ hm;rcases List.mem_append.1 hx with hx|hx
   ·exact hx
   ·simp at hx;omega
termination_by l=>l.length
decreasing_by
 all_goals simp_wf
 all_goals (subst_vars;simp)
theorem Iw{L ms:List Nod}(hch:bw (ae L))(hm:Mod L ms){i:Nat}(hi:i<ms.length):chO ms i=chO L i:=by
 rcases hm.chO hch i with h|h
 ·exact h
 ·have hk:=hm.kind i;have e:aR ms i=(ms[i]).kind:=by rw[ja ms hi];rfl
  rw[←hm.DJ (List.getElem?_eq_getElem hi) (by omega) (by omega)];unfold chO;rw[if_neg (by omega)];exact(aI (List.getElem?_eq_getElem hi)).symm
instance(L:List Nod)(node:Int):HA Tryz.prog X1.Γ 101 165 54 9 (L.map aU) [inF node]
  (az (aD ⟨opA L,0⟩ node)) ((jc L (dfs (ef (chO L)) L.length [node])).map aU) (L.length≤1466015503701∧bw (ae L)∧0≤node∧node<L.length∧∀x,(dfs (ae L) L.length [node]).count x≤1):=⟨fun h=>by
 obtain⟨hL,hch,h0,hn,hnd⟩:=h;have hcO:=lF hch;have hallO:=xk hch h0 hn hnd;have hroom:∀(op out:List Int),out++dfs (ef (chO L)) L.length op.reverse=dfs (ef (chO L)) L.length [node]→out.length+op.length≤1466015503701:=by
  intro op out he;have h1:=dg (ch:=ef (chO L)) L.length op.reverse (by omega);have h2:=congrArg List.length he;rw[eo L.length [node],List.length_append] at h2;simp at h1;omega
 refine⟨fun η b_ v_ b2_ v2_ h1_ h2_=>mc dZ rfl rfl ?_ h1_ h2_⟩;intro vs_;repeat' first|exact k9|refine k2 ?_|apply kA|apply kI;intro hc|refine k8 ?_|apply kL;intro hl
 apply Stp.ng 5 3 1 rfl rfl;apply kCt [0,4,5,6] [];conv=>whnf
 refine Lp.ind (fun z:List Int×List Int=>(dfs (ef (chO L)) L.length z.1.reverse).length) (fun z=>(∀x∈z.1,0≤x∧x<L.length)∧(∀x∈z.2,0≤x∧x<L.length)∧z.2++dfs (ef (chO L)) L.length z.1.reverse=dfs (ef (chO L)) L.length [node]) (fun _=>[]) (fun z=>[(1,.ro 0 54 9 ((jc L z.2).map aU)),(3,.ro 0 3 1 (z.2.map ikF)),(4,.ro 0 3 1 (z.1.map ikF))]) (fun _=>_) ([node],[]) ⟨by intro x hx;simp at hx;subst hx;exact⟨h0,hn⟩,by simp,rfl⟩ rfl rfl rfl ?_
 rintro G ⟨op,out⟩ ih ⟨hop,hout,he⟩
 dsimp only at hop hout he ih ⊢;have hrm:=hroom op out he;have hMod:=tF out hout;have hml:=hMod.len;rcases bm op with rfl|⟨init,i,rfl⟩
 ·simp only[List.reverse_nil,bk,List.append_nil] at he;have hol:out.length≤L.length:=by rw[he,eo];exact hallO
  have hP:out.reverse=iS (chO L) L.length [node]:=by rw[he,show[node]=[node].reverse from rfl,oG];rfl
  repeat' first|exact k9|refine k2 ?_|apply kA|apply kI;intro hc|refine k8 ?_|apply kL;intro hl
  apply kCt [0,2,3] [0,4,5];conv=>whnf
  refine Lp.ind (fun x:Nat×List Int=>out.length - x.1) (fun x=>xn out x.2 x.1∧2 * x.1≤out.length+1) (fun x=>[(2,InD x.1),(3,InD ((out.length:Int) - 1 - x.1))]) (fun x=>[(0,.ro 0 3 1 (x.2.map ikF))]) (fun _=>_) (0,out) ⟨.zero out,by simp⟩ rfl ?_ rfl ?_
  ·simp only[List.length_map,Int.sub_zero,Int.natCast_zero];rfl
  rintro G' ⟨k,cur⟩ ih' ⟨hI,hk⟩
  dsimp only at hI hk ih' ⊢;have hcl:=hI.len
  repeat' first|exact k9|refine k2 ?_|apply kA|apply kI;intro hc|refine k8 ?_|apply kL;intro hl
  ·have h1:k<cur.length:=by omega
   have h2:out.length - 1 - k<cur.length:=by omega
   have e:((out.length:Int) - 1 - k).toNat=out.length - 1 - k:=by omega
   apply kCt [0,2,3] [0,4,5];conv=>whnf
   refine ih' (k+1,(cur.set k cur[out.length - 1 - k]).set (out.length - 1 - k) cur[k]) _ _ _ (by dsimp only;omega) ⟨hI.step (by omega) (List.getElem?_eq_getElem h1) (List.getElem?_eq_getElem h2),by dsimp only;omega⟩ rfl ?_ ?_
   ·dsimp only;rw[show(out.length:Int) - 1 - ((k+1:Nat):Int)=out.length - 1 - k - 1 by omega];rfl
   ·simp only[List.map_set,e];rfl
  ·have hcur:=hI.done (by omega);subst hcur;clear ih' ih hI hcl;have hmemO:∀x∈out.reverse,0≤x∧x<(L.length:Int):=fun x hx=>hout x (by simpa using hx)
   have hdone:=y8 out hout;have hP2:∀x∈out.reverse,x∈dfs (chO L) L.length [node]:=fun x hx=>by rw[hP,(cU _ _ _).mem_iff] at hx;exact hx
   have hmo:∀x∈out.reverse,∀m,(jc L out)[x.toNat]?=some m→m.kids=chO L x∧(opA L)[x.toNat]?=some m∧m.kids.length≤L.length:=by
    intro x hx m hm;obtain⟨x,rfl⟩:∃q:Nat,x=q:=⟨x.toNat,by have:=hmemO x hx;omega⟩
    have hk:=hdone x m (by simpa using hx) hm;refine⟨hk,Lf hMod hm hk,?_⟩;rw[hk];have h1:=gX hcO L.length L.length [node] (by intro k hk;simp at hk;subst hk;exact⟨h0,hn⟩) (Nat.le_refl _) x (hP2 x hx);have:=hmemO x hx;rw[aM hcO (by omega) (by omega),bk,List.append_nil,List.length_cons] at h1;have h2:=dg (ch:=chO L) L.length (chO L x) (by omega);omega
   have htk:aD ⟨opA L,0⟩ node=⟨bb (opA L) 0 (List.replicate L.length 0) out.reverse,out.reverse.length - 1⟩:=by
    unfold aD aQ;simp only;rw[jJ,show ae (opA L)=chO L from funext fun k=>o6 L k,←hP]
   have hlr:out.length=out.reverse.length:=by simp
   rw[hlr] at hol;rw[htk,←he];generalize hms:jc L out=ms at *;clear hP2 hP htk hop hdone hMod hlr;apply kCt [0,4,8,9,66,67,68] [];conv=>whnf
   generalize out.reverse=l at *;obtain⟨RR,hRR⟩:=exEq (bb (opA L) 0 (List.replicate L.length 0) l);rw[←hRR];refine Lp.ind (fun z:Nat×List Int×List Nod=>l.length - z.1) (fun z=>z.1≤l.length∧z.2.1.length=L.length∧z.2.2.length=z.1∧z.2.2++bb (opA L) z.1 z.2.1 (l.drop z.1)=RR) (fun z=>[(68,InD z.1)]) (fun z=>[(3,.ro 0 3 1 (z.2.1.map ikF)),(4,.ro 0 54 9 (z.2.2.map aU))]) (fun _=>_) (0,List.replicate L.length 0,[]) ⟨by simp,by simp,rfl,by rw[hRR];rfl⟩ rfl rfl ?_ ?_
   ·rw[show(List.replicate L.length (0:Int)).map ikF=List.replicate (ms.map aU).length (ikF 0) by simp[hml]];rfl
   rintro G ⟨i,pl,no⟩ ih ⟨hi,hpl,hno,hT⟩
   dsimp only at hi hpl hno hT ih ⊢
   by_cases hx:i<l.length
   ·obtain⟨x,hxl⟩:∃x:Nat,l[i]=x:=⟨l[i].toNat,by have:=hmemO _ (List.getElem_mem hx);omega⟩
    have hxi:∀h:i<l.length,l[i]'h=(x:Int):=fun _=>hxl
    have hm1:=hmemO _ (List.getElem_mem hx);rw[hxl] at hm1;have hxm:x<ms.length:=by omega
    have hxp:x<pl.length:=by omega
    obtain⟨q1,q2,q3⟩:=hmo _ (List.getElem_mem hx) _ (by rw[hxl];exact List.getElem?_eq_getElem hxm);rw[hxl] at q1 q2;rw[Int.toNat_natCast] at q2;have hkb:∀y∈ms[x].kids,0≤y∧y<(L.length:Int):=fun y hy=>by
     rw[q1] at hy;have:=hcO x y hy;omega
    rw[List.drop_eq_getElem_cons hx,hxl,bb] at hT;simp only[Int.toNat_natCast,List.getD_eq_getElem?_getD,q2,Option.getD_some] at hT;obtain⟨n,hn0⟩:=exEq (ms[x]);have hni:∀h:x<ms.length,ms[x]'h=n:=fun _=>hn0.symm
    rw[←hn0] at q1 q3 hkb hT
    repeat' first|exact k9|refine k2 ?_|apply kA|apply kI;intro hc|apply kL;intro hl|((simp only[hxi])<;>conv=>whnf)|((simp only[hni])<;>conv=>whnf)|((simp only[Int.toNat_natCast])<;>conv=>whnf)|refine k8 ?_|fail
    apply Stp.ng 13 3 1 rfl rfl;apply kCt [0,4,8,9,12,13,66,67,68,85,86,87] [];conv=>whnf
    obtain⟨plx,hplx⟩:∃plx:List Int,plx=pl.set x (i:Int):=⟨_,rfl⟩
    rw[←hplx] at hT;have hpl2:plx.length=L.length:=by rw[hplx];simpa using hpl
    refine Lp.ind (fun z:Nat=>n.kids.length - z) (fun z=>z≤n.kids.length) (fun z=>[(87,InD z)]) (fun z=>[(3,.ro 0 3 1 (plx.map ikF)),(6,.ro 0 3 1 (((n.kids.take z).map fun y=>plx[y.toNat]?.getD 0).map ikF))]) (fun _=>_) 0 (by simp) rfl rfl ?_ ?_
    ·rw[hplx,List.map_set];rfl
    rintro G' j ih' hj
    by_cases hy:j<n.kids.length
    ·have hkj:=hkb _ (List.getElem_mem hy);have hget:∀h:(n.kids[j]).toNat<plx.length,plx[(n.kids[j]).toNat]'h=plx[(n.kids[j]).toNat]?.getD 0:=fun h=>by rw[List.getElem?_eq_getElem h];rfl
     repeat' first|exact k9|refine k2 ?_|apply kA|apply kI;intro hc|refine k8 ?_|apply kL;intro hl
     apply kCt [0,4,8,9,12,13,66,67,68,85,86,87] [];conv=>whnf
     refine ih' (j+1) _ _ _ (by omega) (by omega) rfl rfl ?_;rw[List.take_succ_eq_append_getElem hy,List.map_append,List.map_append,List.map_singleton,←hget (by omega)];rfl
    ·rw[List.take_of_length_le (by omega)]
     repeat' first|exact k9|refine k2 ?_|apply kA|apply kI;intro hc|refine k8 ?_|apply kL;intro hl
     apply kCt [0,4,8,9,66,67,68] [];conv=>whnf
     refine ih (i+1,plx,no++[{ n with kids:=n.kids.map fun y=>plx[y.toNat]?.getD 0 }]) _ _ _ (by dsimp only;omega) ⟨by dsimp only;omega,hpl2,by simp[hno],by dsimp only;rw[←hT];simp⟩ rfl rfl ?_;dsimp only;rw[ky aU];rfl
   ·rw[List.drop_of_length_le (by omega),bb,List.append_nil] at hT;subst hT
    repeat' first|exact k9|refine k2 ?_|apply kA|apply kI;intro hc|refine k8 ?_|apply kL;intro hl
    exact cQ.i (by rw[List.length_map,show(no.length:Int)=l.length by omega];rfl) rfl
 ·have hi:=hop i (by simp);obtain⟨i,rfl⟩:∃y:Nat,i=y:=⟨i.toNat,by omega⟩
  have hlti:i<(jc L out).length:=by omega
  have hlast:∀h,(init++[(i:Int)])[((List.map ikF (init++[(i:Int)])).length - 1:Int).toNat]'h=(i:Int):=by
   intro h;simp[List.getElem_append]
  simp only[List.length_append,List.length_cons,List.length_nil] at hrm;rw[List.reverse_append,List.reverse_singleton,List.singleton_append,aM hcO.rev (by omega) (by omega)] at he;have hmemI:(i:Int)∈dfs (chO L) L.length [node]:=by
   have:(i:Int)∈dfs (ef (chO L)) L.length [node]:=by rw[←he];simp
   have h2:=oG (chO L) L.length [node];rw[List.reverse_singleton] at h2;rw[←(cU (chO L) L.length [node]).mem_iff,←h2];simpa using this
  have hpre:(jc L out).length≤1466015503701∧bw (ae (jc L out))∧0≤(i:Int)∧(i:Int)<(jc L out).length∧(dfs (ae (jc L out)) (jc L out).length [(i:Int)]).length≤1466015503701:=
   ⟨by omega,Mod.MU hch hMod,by omega,by omega,by have:=Mod.room hch hMod h0 hn hnd hmemI;omega⟩
  have hcO2:chO (jc L out) i=chO L i:=Iw hch hMod hlti;have hkl:(chO L i).length≤L.length:=by
   have h1:=gX hcO L.length L.length [node] (by intro k hk;simp at hk;subst hk;exact⟨h0,hn⟩) (Nat.le_refl _) i hmemI;rw[aM hcO (by omega) (by omega),bk,List.append_nil,List.length_cons] at h1;have h2:=dg (ch:=chO L) L.length (chO L i) (by omega);omega
  repeat' first|exact k9|refine k2 ?_|apply kA|apply kI;intro hc|apply kL;intro hl|((rw[hlast])<;>conv=>whnf)|((simp only[hcO2])<;>conv=>whnf)|refine k8 ?_|fail
  apply kCt [0,4,5,6] [];conv=>whnf
  refine ih (init++chO L i,out++[(i:Int)]) _ _ _ ?_ ⟨?_,?_,?_⟩ rfl rfl ?_
  ·dsimp only;rw[List.reverse_append,List.reverse_append,List.reverse_singleton,List.singleton_append,aM hcO.rev (by omega) (by omega),bl];simp only[List.length_cons,List.length_append];have:(chO L i).reverse=ef (chO L) i:=rfl;rw[this];omega
  ·intro x hx;rcases List.mem_append.1 hx with hx|hx
   ·exact hop x (by simp[hx])
   ·have:=hcO i x hx;omega
  ·intro x hx;rcases List.mem_append.1 hx with hx|hx
   ·exact hout x hx
   ·simp at hx;omega
  ·dsimp only;rw[List.reverse_append,bl,←he];simp[ef]
  ·dsimp only;rw[pN,Int.toNat_natCast,List.getD_eq_getElem?_getD,List.getElem?_eq_getElem hlti,List.map_set,show List.map ikF (out++[(i:Int)])=List.map ikF out++[ikF i] from ky _ _ _,show List.map ikF (init++chO L i)=List.take ((List.map ikF (init++[(i:Int)])).length - 1:Int).toNat (List.map ikF (init++[(i:Int)]))++List.map ikF (chO L i) from by simp[List.take_append]];rfl⟩
abbrev Fj:F:=.ag [.cl 114 [],.cl 114 [],.cl 114 [],.cl 114 [],.cl 115 [],.cl 116 [],.cl 114 [],.cl 114 [],.cl 114 [],.cl 114 []]
instance:C 100 [] Fj false True:=⟨fun _=>by
 refine kf rfl rfl ?_;repeat' (first|exact k9|refine k2 ?_|apply kA|apply kI;intro hc|refine k8 ?_|apply kL;intro hl)⟩
end Go.Km
end
section
namespace Go.aa
theorem sE.last{t:Tre}(hR:aC t){ar:List Nod}{pl:List Int}(h:sE t t.nodes.length ar pl) :
  (0≤pl.getD t.root.toNat 0∧pl.getD t.root.toNat 0<ar.length)∧aE ar ar.length [pl.getD t.root.toNat 0]=(foT t).nrm∧∀x,(dfs (ae ar) ar.length [pl.getD t.root.toNat 0]).count x≤1:=by
 have h0:=hR.root;obtain⟨r,hr⟩:∃r:Nat,t.root=r:=⟨t.root.toNat,by omega⟩
 have hd:=h.den r (by omega);rw[hr,Int.toNat_natCast];refine⟨⟨hd.pos,hd.lt⟩,?_,fun x=>?_⟩
 ·rw[hd.fo,foT,hr]
 ·have hm:(r:Int)∈unC t t.nodes.length:=by
   have h1:=lY t t.nodes.length (r:Int);have hc:=hR.count r (by omega);rw[if_pos hr.symm] at hc;rw[List.take_of_length_le (Nat.le_refl _),if_pos ⟨by omega,by omega,List.count_eq_zero.1 hc⟩] at h1;exact List.count_pos_iff.1 (by omega)
  have hs:[pl.getD r 0].Sublist ((unC t t.nodes.length).map fun k=>pl.getD k.toNat 0):=List.singleton_sublist.2 (List.mem_map.2 ⟨r,hm,by rw[Int.toNat_natCast]⟩);exact Nat.le_trans (iT hs x) (h.nd x)
theorem Jn{n:Nod}{c:Int}(h:fits n c=true):0≤n.kind∧n.kind<10:=by
 unfold fits at h
 repeat' split at h
 all_goals first|omega|(simp at h)
end Go.aa
namespace Go.Km
open Go Go.Vc Go.Proofs Go.aa Go.Proofs.YtoklkjkmbfebjaaGreatDoor
set_option maxRecDepth 100000
set_option maxHeartbeats 0
theorem AG{ar:List Nod}{n:Nod}{K:List Int}(h4:n.kind≠4)(h5:n.kind≠5):j8 ar n K=(ar++[{ n with kids:=K }],(ar.length:Int)):=by
 unfold j8;rw[if_neg h4,if_neg h5]
instance(t:Tre):C 84 [az t] (.tp [az (gw t).1,boF (gw t).2]) false t.wf:=⟨fun ht=>by
 have hlen:=ht.len;simp only[ca] at hlen
 cases hr:au t with
 | false=>
  rw[yC hr];refine kf rfl rfl ?_;repeat' first|exact k9|refine k2 ?_|apply kA|apply kI;intro hc|refine k8 ?_|apply kL;intro hl
  exact ao.i rfl
 | true=>
  rw[lK hr];have hR:=aq hr;refine kf rfl rfl ?_;repeat' first|exact k9|refine k2 ?_|apply kA|apply kI;intro hc|refine k8 ?_|apply kL;intro hl
  apply Stp.By 6 165 54 9 rfl rfl;apply kCt [1,2,4,5,6,22,23,24] [];conv=>whnf
  refine Lp.ind (fun z:Nat×List Nod×List Int=>t.nodes.length - z.1) (fun z=>z.1≤t.nodes.length∧sE t z.1 z.2.1 z.2.2) (fun z=>[(24,InD z.1)]) (fun z=>[(3,.ro 0 54 9 (z.2.1.map aU)),(5,.ro 0 3 1 ((z.2.2++List.replicate (t.nodes.length - z.1) 0).map ikF))]) (fun _=>_) (0,[],[]) ⟨by simp,sE.zero t⟩ rfl rfl ?_ ?_
  ·have e:List.map ikF ([]++List.replicate (t.nodes.length - 0) (0:Int))=List.replicate (t.nodes.map aU).length (ikF 0):=by simp
   dsimp only;rw[e];rfl
  rintro G ⟨i,ar,pl⟩ ih ⟨hi,hI⟩
  dsimp only at hi hI ih ⊢;have hpl:=hI.len;have hal:=hI.Nn
  by_cases hx:i<t.nodes.length
  ·obtain⟨n,hn⟩:=exEq (t.nodes[i]);have hni:∀h:i<t.nodes.length,t.nodes[i]'h=n:=fun _=>hn.symm
   have hget:t.nodes[i]?=some n:=by rw[hn];exact List.getElem?_eq_getElem hx
   have hst:=hI.step hR hget;obtain⟨hK,hF⟩:=places hI (by omega) n.kids (hR.kok i n hget);have hkb:=hR.kok i n hget;have hkl:n.kids.length≤17592186044416:=(ht.nodes n (by rw[hn];exact List.getElem_mem hx)).kids.1;obtain⟨K,hKe⟩:=exEq (n.kids.map fun k=>pl.getD k.toNat 0);rw[←hKe] at hK hF hst;have hset:∀p,List.map ikF ((pl++[p])++List.replicate (t.nodes.length - (i+1)) 0)=(List.map ikF (pl++List.replicate (t.nodes.length - i) 0)).set i (ikF p):=fun p=>by
    rw[←List.map_set,show t.nodes.length - i=(t.nodes.length - (i+1))+1 by omega,List.replicate_succ,JA pl _ 0 p hpl];simp
   have hKl:K.length=n.kids.length:=by rw[hKe];simp
   have hjp:ar.length<1466015503701∧K.length≤17592186044416∧∀x∈K,0≤x∧x<(ar.length:Int):=⟨by omega,by omega,hK⟩
   repeat' first|exact k9|refine k2 ?_|apply kA|apply kI;intro hc|apply kL;intro hl|((simp only[hni])<;>conv=>whnf)|refine k8 ?_|fail
   apply Stp.ng 9 3 1 rfl rfl;apply kCt [1,2,4,5,6,7,8,9,22,23,24,30,31,32] [];conv=>whnf
   refine Lp.ind (fun z:Nat=>n.kids.length - z) (fun z=>z≤n.kids.length) (fun z=>[(32,InD z)]) (fun z=>[(7,.ro 0 3 1 ((K.take z).map ikF))]) (fun _=>_) 0 (by simp) rfl rfl rfl ?_
   rintro G' j ih' hj
   by_cases hy:j<n.kids.length
   ·have hkj:=hkb _ (List.getElem_mem hy);have hKj:K[j]'(by omega)=pl.getD (n.kids[j]).toNat 0:=by simp[hKe]
    have hpk:∀h:(n.kids[j]).toNat<(pl++List.replicate (t.nodes.length - i) 0).length,(pl++List.replicate (t.nodes.length - i) (0:Int))[(n.kids[j]).toNat]'h=K[j]'(by omega):=fun h=>by
     rw[hKj,List.getElem_append_left (by omega),List.getD_eq_getElem?_getD,List.getElem?_eq_getElem (by omega)];rfl
    repeat' first|exact k9|refine k2 ?_|apply kA|apply kI;intro hc|apply kL;intro hl|((simp only[hpk])<;>conv=>whnf)|refine k8 ?_|fail
    apply kCt [1,2,4,5,6,7,8,9,22,23,24,30,31,32] [];conv=>whnf
    refine ih' (j+1) _ _ _ (by omega) (by omega) rfl rfl ?_;rw[List.take_succ_eq_append_getElem (by omega),ky];rfl
   ·rw[List.take_of_length_le (by omega)];have hkd:=Jn (hR.fits i n hget);clear ih' hj;obtain⟨R2,hR2⟩:=exEq (j8 ar n K);rw[←hR2] at hst;obtain⟨kind,⟨sa,sb,sc,sd⟩,text,lo,hi',kids⟩:=n;dsimp only at hkd hkl hkb hKl hy;have:kind=0∨kind=1∨kind=2∨kind=3∨kind=4∨kind=5∨kind=6∨kind=7∨kind=8∨kind=9:=by omega
    rcases this with rfl|rfl|rfl|rfl|rfl|rfl|rfl|rfl|rfl|rfl
    all_goals (repeat' (first|exact k9|refine k2 ?_|apply kA|apply kI;intro hc|refine k8 ?_|apply kL;intro hl))
    all_goals apply kCt [1,2,4,5,6,22,23,24] [];conv=>whnf
    all_goals refine ih (i+1,R2.1,pl++[R2.2]) _ _ _ (by dsimp only;omega) ⟨by dsimp only;omega,hst⟩ rfl rfl ?_
    all_goals dsimp only
    all_goals rw[hset,hR2]
    all_goals first|rfl|(rw[AG (by dsimp only;decide) (by dsimp only;decide),ky aU];rfl)
  ·obtain rfl:i=t.nodes.length:=by omega
   obtain⟨⟨p0,p1⟩,pf,pc⟩:=sE.last hR hI;have hr0:=hR.root;have hpr:∀h:t.root.toNat<(pl++List.replicate (t.nodes.length - t.nodes.length) 0).length,(pl++List.replicate (t.nodes.length - t.nodes.length) (0:Int))[t.root.toNat]'h=pl.getD t.root.toNat 0:=fun h=>by
    rw[List.getElem_append_left (by omega),List.getD_eq_getElem?_getD,List.getElem?_eq_getElem (by omega)];rfl
   generalize pl.getD t.root.toNat 0=node at *;have hpre:ar.length≤1466015503701∧bw (ae ar)∧0≤node∧node<ar.length∧∀x,(dfs (ae ar) ar.length [node]).count x≤1:=⟨by omega,hI.kok.ae,p0,p1,pc⟩
   have htk:aD ⟨opA ar,0⟩ node=cP (foT t).norm:=by
    rw[EU hI.kok.ae p0 p1 pc,pf,Fo.xv (xx hr).1]
   repeat' (first|exact k9|refine k2 ?_|apply kA|apply kI;intro hc|apply kL;intro hl|((simp only[hpr])<;>conv=>whnf)|((simp only[htk])<;>conv=>whnf)|refine k8 ?_|fail)⟩
set_option maxRecDepth 100000
set_option maxHeartbeats 0
abbrev t2F(r:Tre×Bool):F:=.tp [az r.1,boF r.2]
theorem Hh(k a b c d:Int)(s:ByteArray)(x y:Int)(K:List (List F))(l:List Tre)(hn:(⟨k,⟨a,b,c,d⟩,s,x,y,[]⟩:Nod).wf)(hl:l.length≤1466015503701)(hw:∀t∈l,t.wf)(ht:tot l+1≤1466015503701)(h45:(k=4∨k=5)→2≤l.length) :
  Pure Tryz.prog X1.Γ 81 [.ag (iN k a b c d s x y K),mA l] (t2F (iz ⟨k,⟨a,b,c,d⟩,s,x,y,[]⟩ l)) false:=by
 have hof:=Ma (n:=⟨k,⟨a,b,c,d⟩,s,x,y,[]⟩) (l:=l) rfl h45;have hpre:(⟨k,⟨a,b,c,d⟩,s,x,y,[]⟩:Nod).wf∧l.length≤1466015503701∧(∀t∈l,t.wf)∧tot l+1≤1466015503701:=⟨hn,hl,hw,ht⟩
 have hwf:=As (n:=⟨k,⟨a,b,c,d⟩,s,x,y,[]⟩) (l:=l) hn hw (by unfold ca;exact ht);rw[hof];generalize hr:ofP ⟨k,⟨a,b,c,d⟩,s,x,y,[]⟩ l=r at *;refine kf rfl rfl ?_;repeat' first|exact k9|refine k2 ?_|apply kA|apply kI;intro hc|apply kL;intro hl|((simp only[hr])<;>conv=>whnf)|refine k8 ?_|fail
 all_goals (rw[hr] at hc;refine ao.i ?_;rw[hc];rfl)
instance(k a b c d:Int)(s:ByteArray)(x y:Int)(K:List (List F))(l:List Tre):C 81 [.ag (iN k a b c d s x y K),mA l] (t2F (iz ⟨k,⟨a,b,c,d⟩,s,x,y,[]⟩ l)) false ((⟨k,⟨a,b,c,d⟩,s,x,y,[]⟩:Nod).wf∧l.length≤1466015503701∧(∀t∈l,t.wf)∧tot l+1≤1466015503701∧((k=4∨k=5)→2≤l.length)):=⟨fun h=>Hh k a b c d s x y K l h.1 h.2.1 h.2.2.1 h.2.2.2.1 h.2.2.2.2⟩
instance(k a b c d:Int)(s:ByteArray)(x y:Int)(K:List (List F))(t:Tre):C 81 [.ag (iN k a b c d s x y K),.sl [fO t]] (t2F (iz ⟨k,⟨a,b,c,d⟩,s,x,y,[]⟩ [t])) false ((⟨k,⟨a,b,c,d⟩,s,x,y,[]⟩:Nod).wf∧t.wf∧t.nodes.length+1≤1466015503701∧k≠4∧k≠5):=⟨fun h=>Hh k a b c d s x y K [t] h.1 (by simp) (by simpa using h.2.1) (by simpa [tot] using h.2.2.1) (fun h2=>by rcases h2 with h2|h2;exact absurd h2 h.2.2.2.1;exact absurd h2 h.2.2.2.2)⟩
instance(l:List Tre):C 63 [mA l] (t2F (iz dF l)) false (l.length≤1466015503701∧(∀t∈l,t.wf)∧tot l+1≤1466015503701):=⟨fun h=>by
 obtain⟨hl,hw,ht⟩:=h;have hwf:=oh
 match l,hl,hw,ht with
 | [],hl,hw,ht=>
  refine kf rfl rfl ?_;repeat' first|exact k9|refine k2 ?_|apply kA|apply kI;intro hc|refine k8 ?_|apply kL;intro hl
  exact ao.i rfl
 | [t],hl,hw,ht=>
  have hwt:t.wf:=hw t (by simp);rw[IC (by simp) t];refine kf rfl rfl ?_;repeat' first|exact k9|refine k2 ?_|apply kA|apply kI;intro hc|refine k8 ?_|apply kL;intro hl
 | t :: u :: l,hl,hw,ht=>
  have hpre:(⟨4,⟨0,0,0,0⟩,⟨#[]⟩,0,0,[]⟩:Nod).wf∧(t :: u :: l).length≤1466015503701∧(∀x∈(t :: u :: l),x.wf)∧tot (t :: u :: l)+1≤1466015503701∧(((4:Int)=4∨(4:Int)=5)→2≤(t :: u :: l).length):=⟨hwf,hl,hw,ht,fun _=>by simp⟩
  have h0:((t :: u :: l).length:Int)≠0:=by simp only[List.length_cons];omega
  have h1:((t :: u :: l).length:Int)≠1:=by simp only[List.length_cons];omega
  generalize t :: u :: l=L at *;refine kf rfl rfl ?_;repeat' first|exact k9|refine k2 ?_|apply kA|apply kI;intro hc|refine k8 ?_|apply kL;intro hl
  exact ao.i rfl⟩
instance(t:Tre)(lo hi:Int):C 59 [az t,inF lo,inF hi] (t2F (iz ⟨6,.zero,⟨#[]⟩,lo,hi,[]⟩ [t])) false (t.wf∧t.nodes.length+1≤1466015503701∧(⟨6,.zero,⟨#[]⟩,lo,hi,[]⟩:Nod).wf):=⟨fun h=>by
 have hpre:(⟨6,⟨0,0,0,0⟩,⟨#[]⟩,lo,hi,[]⟩:Nod).wf∧t.wf∧t.nodes.length+1≤1466015503701∧(6:Int)≠4∧(6:Int)≠5:=⟨h.2.2,h.1,h.2.1,by decide,by decide⟩
 refine kf rfl rfl ?_;repeat' first|exact k9|refine k2 ?_|apply kA|apply kI;intro hc|refine k8 ?_|apply kL;intro hl
 exact ao.i rfl⟩
theorem Ng{a b c:Prop}[Decidable a][Decidable b][Decidable c](h:¬(a∨b∧c)):(!(decide a||decide b&&decide c))=true:=by
 by_cases h1:a<;>by_cases h2:b<;>by_cases h3:c<;>simp_all
instance(t:Tre):C 77 [az t] (boF (dM t)) true t.wf:=⟨fun ht=>by
 have hlen:=ht.len;simp only[ca] at hlen
 cases hr:au t with
 | false=>
  rw[AU hr];refine kf rfl rfl ?_;repeat' first|exact k9|refine k2 ?_|apply kA|apply kI;intro hc|refine k8 ?_|apply kL;intro hl
 | true=>
  have hR:=aq hr;unfold dM;rw[hr,Bool.true_and];refine kf rfl rfl ?_;repeat' first|exact k9|refine k2 ?_|apply kA|apply kI;intro hc|refine k8 ?_|apply kL;intro hl
  apply kCt [1,12,13,14] [];conv=>whnf
  refine Lp.ind (fun z:Nat=>t.nodes.length - z) (fun z=>z≤t.nodes.length∧∀y,∀h:y<t.nodes.length,y<z→gB t.nodes t.nodes[y]=true) (fun z=>[(14,InD z)]) (fun z=>[]) (fun _=>(boF (t.nodes.all (gB t.nodes)),true)) 0 ⟨by simp,fun y _ h=>by omega⟩ rfl rfl rfl ?_
  rintro G i ih ⟨hi,hA⟩
  by_cases hx:i<t.nodes.length
  ·obtain⟨n,hn⟩:=exEq (t.nodes[i]);have hni:∀h:i<t.nodes.length,t.nodes[i]'h=n:=fun _=>hn.symm
   have hget:t.nodes[i]?=some n:=by rw[hn];exact List.getElem?_eq_getElem hx
   have hkb:=hR.kok i n hget;have hkl:n.kids.length≤17592186044416:=(ht.nodes n (by rw[hn];exact List.getElem_mem hx)).kids.1;have hno:gB t.nodes n=false→t.nodes.all (gB t.nodes)=false:=fun h=>by
    rw[List.all_eq_false];exact⟨n,by rw[hn];exact List.getElem_mem hx,by rw[h];decide⟩
   have hnx:gB t.nodes n=true→∀y,∀h:y<t.nodes.length,y<i+1→gB t.nodes t.nodes[y]=true:=fun h y hy hyi=>by
    rcases Nat.lt_or_ge y i with h1|h1
    ·exact hA y hy h1
    ·have:y=i:=by omega
     subst this;rw[hni];exact h
   repeat' first|exact k9|refine k2 ?_|apply kA|apply kI;intro hc|apply kL;intro hl|((simp only[hni])<;>conv=>whnf)|refine k8 ?_|fail
   rotate_left 2
   ·rename_i h4;simp only[hni] at h4 hc;have hN:gB t.nodes n=true:=by
     unfold gB;simp[h4,hc]
    apply kCt [1,12,13,14] [];conv=>whnf
    exact ih (i+1) _ _ _ (by omega) ⟨by omega,hnx hN⟩ rfl rfl rfl
   all_goals
    have h45:n.kind=4∨n.kind=5:=by simp only[hni] at hc;omega
    clear hc;apply kCt [1,4,12,13,14,27,28,29] [];conv=>whnf
    refine Lp.ind (fun z:Nat=>n.kids.length - z) (fun z=>z≤n.kids.length∧∀y,∀h:y<n.kids.length,y<z→¬(aR t.nodes n.kids[y]=n.kind∨aR t.nodes n.kids[y]=0∧n.kind=4)) (fun z=>[(29,InD z)]) (fun z=>[]) (fun _=>(boF (t.nodes.all (gB t.nodes)),true)) 0 ⟨by simp,fun y _ h=>by omega⟩ rfl rfl rfl ?_
    rintro G' j ih' ⟨hj,hB⟩
    by_cases hy:j<n.kids.length
    ·obtain⟨q,hq⟩:∃q:Nat,n.kids[j]=q:=⟨(n.kids[j]).toNat,by have:=hkb _ (List.getElem_mem hy);omega⟩
     have hqi:∀h:j<n.kids.length,n.kids[j]'h=(q:Int):=fun _=>hq
     have hql:q<t.nodes.length:=by have:=hkb _ (List.getElem_mem hy);omega
     have hkq:=ja t.nodes hql;have hbad:(aR t.nodes (q:Int)=n.kind∨aR t.nodes (q:Int)=0∧n.kind=4)→gB t.nodes n=false:=fun h=>by
      unfold gB;rw[Bool.or_eq_false_iff];refine⟨by rcases h45 with e|e<;>simp[e],?_⟩;rw[List.all_eq_false];refine⟨n.kids[j],List.getElem_mem hy,?_⟩;rw[hq];rcases h with h|⟨h,h'⟩
      ·rw[decide_eq_true h];simp
      ·rw[decide_eq_true h,decide_eq_true h'];simp
     have hok:¬(aR t.nodes (q:Int)=n.kind∨aR t.nodes (q:Int)=0∧n.kind=4)→∀y,∀h:y<n.kids.length,y<j+1→¬(aR t.nodes n.kids[y]=n.kind∨aR t.nodes n.kids[y]=0∧n.kind=4):=fun h y hy2 hyj=>by
      rcases Nat.lt_or_ge y j with h1|h1
      ·exact hB y hy2 h1
      ·have:y=j:=by omega
       subst this;rw[hq];exact h
     have hke:∀h:(n.kids[j]).toNat<t.nodes.length,(t.nodes[(n.kids[j]).toNat]'h).kind=aR t.nodes (q:Int):=fun h=>by simp only[hqi];exact hkq.symm
     generalize aR t.nodes (q:Int)=kq at *
     repeat' first|exact k9|refine k2 ?_|apply kA|apply kI;intro hc|refine k8 ?_|apply kL;intro hl
     ·simp only[hke] at hc;exact ao.b (hno (hbad (.inl hc))).symm rfl
     ·rename_i h0;simp only[hke] at h0;exact ao.b (hno (hbad (.inr ⟨h0,hc⟩))).symm rfl
     ·rename_i h1 h0;simp only[hke] at h1 h0;apply kCt [1,4,12,13,14,27,28,29] [];conv=>whnf
      exact ih' (j+1) _ _ _ (by omega) ⟨by omega,hok fun h=>h.elim h1 fun h=>hc h.2⟩ rfl rfl rfl
     ·rename_i h1;simp only[hke] at h1 hc;apply kCt [1,4,12,13,14,27,28,29] [];conv=>whnf
      exact ih' (j+1) _ _ _ (by omega) ⟨by omega,hok fun h=>h.elim h1 fun h=>hc h.1⟩ rfl rfl rfl
    ·have hN:gB t.nodes n=true:=by
      unfold gB;rw[Bool.or_eq_true];refine .inr (List.all_eq_true.2 fun x hx=>?_);obtain⟨y,hy2,rfl⟩:=List.mem_iff_getElem.1 hx;have:=hB y hy2 (by omega);exact Ng this
     repeat' first|exact k9|refine k2 ?_|apply kA|apply kI;intro hc|refine k8 ?_|apply kL;intro hl
     apply kCt [1,12,13,14] [];conv=>whnf
     exact ih (i+1) _ _ _ (by omega) ⟨by omega,hnx hN⟩ rfl rfl rfl
  ·repeat' first|exact k9|refine k2 ?_|apply kA|apply kI;intro hc|refine k8 ?_|apply kL;intro hl
   refine ao.b ?_ rfl;rw[eq_comm,List.all_eq_true];intro x hx2;obtain⟨y,hy2,rfl⟩:=List.mem_iff_getElem.1 hx2;exact hA y hy2 (by omega)⟩
end Go.Km
end
section
namespace Go.Sl
open Go.RowKit
def obj(b:Nat)(o:Obj):HP where
 on S w:=S b∧w.heap[b]?=some o
 mono h hh:=⟨h _ hh.1,hh.2⟩
 loc h hh:=⟨hh.1,(h _ hh.1).trans hh.2⟩
def Ml(d:Deferred)(H:HP):HP where
 on S w:=∃D,d={ target:=.collected D,args:=#[] }∧S D∧w.heap[D]?=some (.deferred (some []))∧H.on (fun b=>S b∧b≠D) w
 mono:=fun h ⟨D,h1,h2,h3,h4⟩=>⟨D,h1,h _ h2,h3,H.mono (fun _ hb=>⟨h _ hb.1,hb.2⟩) h4⟩
 loc:=fun h ⟨D,h1,h2,h3,h4⟩=>⟨D,h1,h2,(h _ h2).trans h3,H.loc (fun _ hb=>h _ hb.1) h4⟩
def marks:List Deferred→HP
 | []=>⟨fun _ _=>True,fun _ _=>trivial,fun _ _=>trivial⟩
 | d :: ds=>Ml d (marks ds)
theorem BU{w:World}{g:Nat}{o:Obj}{S1:Nat→Prop}(hg:S1 g):Chg w (w.putObj g o) S1:=
 ⟨rfl,rfl,rfl,by simp,fun b _ hn=>World.putObj_heap_other (fun e=>hn (by subst e;exact hg))⟩
theorem St.putObj{w0 w:World}{b:Nat}{o o':Obj}{L L':List HP}(hu:Upd L (obj b o) (obj b o') L')(h:St w0 L w):St w0 L' (w.putObj b o'):=by
 obtain⟨S1,h1,h2,h3⟩:=h.upd hu;refine h3 S1 _ (BU h2.1) (fun b hb=>.inl hb) ⟨h2.1,World.putObj_heap_same (h1 _ h2.1).2⟩
theorem Sep.cut:∀{K L:List HP} {S:Nat→Prop} {w:World},Sep (K++L) S w→∃S1:Nat→Prop,(∀b,S1 b→S b)∧Sep K S1 w∧Sep L (fun b=>S b∧¬S1 b) w
 | [],L,S,w,h=>⟨fun _=>False,fun _ h=>h.elim,trivial,h.b4 (fun _ hb=>⟨hb,fun h=>h⟩) (fun _ _=>rfl)⟩
 | H :: K,L,S,w,⟨S1,h1,h2,h3⟩=>by
  obtain⟨S2,g1,g2,g3⟩:=Sep.cut h3;refine⟨fun b=>S1 b∨S2 b,fun b hb=>hb.elim (h1 b) (fun h=>(g1 b h).1),⟨S1,fun b hb=>.inl hb,h2,g2.b4 (fun b hb=>⟨.inr hb,(g1 b hb).2⟩) (fun _ _=>rfl)⟩,g3.b4 (fun b hb=>⟨hb.1.1,fun h=>?_⟩) (fun _ _=>rfl)⟩;rcases h with h|h
  ·exact hb.1.2 h
  ·exact hb.2 h
class FW(F:Fence):Prop where
 fn:∀f,F.fn f
 depth:F.depth=none
structure TF(F:Fence)(m:Nat)(P:Program)(ops:Array Oper)(Q:Exit→Act→World→Prop)(rest:List Oper)(n:FD)(s:Sg)(M:World→Prop):Prop where
 go:∀a w,Fr n s a→M w→wpListIn F m P ops Q rest a w
structure TCF(F:Fence)(m:Nat)(P:Program)(c:Code)(Q:Exit→Act→World→Prop)(n:FD)(s:Sg)(M:World→Prop):Prop where
 go:∀a w,Fr n s a→M w→c.wpIn F m P Q a w
section
variable {F:Fence} [FW F] {m:Nat} {P:Program} {ops:Array Oper} {Q:Exit→Act→World→Prop} {rest:List Oper} {n:FD} {s:Sg} {M:World→Prop}
 {op:Op} {ty:TypeId} {pos:String} {af:Array Edge} {d:Nat} {v:Value}
theorem gK{ρ:Operand→Value}{o:Oper}{w w':World}{x:Next}(hr:(execOp ρ o).run P w=.ok x w')(hx:∀d,x≠.defer d):∀c,o.op≠.defer c:=by
 intro c e
 cases h:(resolve ρ c o.type).run P w<;>simp[execOp,e,h] at hr
 exact hx _ hr.1.symm
theorem nX(F:Fence){a:Act}{o:Oper}{w w':World}{x:Next}(hr:(execOp a.eval o).run P w=.ok x w')(hx:∀d,x≠.defer d):(Oper.semAt F.round a.eval o).run P w=.ok x w':=by
 rw[Oper.semAt_eq _ _ _ (gK hr hx)];exact hr
theorem TF.nil(k:TX Q .normal n s M):TF F m P ops Q [] n s M:=⟨fun a w hf hm=>wpListIn_nil (k.go a w hf hm)⟩
theorem TF.ev_(hd:Nat.blt d n.sz=true)(h:Ev P n s M op ty v)(k:TF F m P ops Q rest n ((d,v) :: s) M) :
  TF F m P ops Q (⟨some d,op,ty,pos,af,none⟩ :: rest) n s M:=by
 refine⟨fun a w hf hm=>?_⟩;refine wpListIn_plain rfl fun K hK=>⟨fun f _=>FW.fn f,?_⟩;rw[nX F (h.go a w ⟨some d,op,ty,pos,af,none⟩ rfl rfl hf hm) nofun];exact hK _ _ (k.go _ _ (hf.put hd v) hm)
theorem TF.act {ι:Sort _} {val:ι→Value} {M':ι→World→Prop} (hd:Nat.blt d n.sz=true) (h:Ac P n s M op ty val M')
  (k:∀x,TF F m P ops Q rest n ((d,val x) :: s) (M' x)):TF F m P ops Q (⟨some d,op,ty,pos,af,none⟩ :: rest) n s M:=by
 refine⟨fun a w hf hm=>?_⟩;obtain⟨x,w',hr,hm'⟩:=h.go a w ⟨some d,op,ty,pos,af,none⟩ rfl rfl hf hm;refine wpListIn_plain rfl fun K hK=>⟨fun f _=>FW.fn f,?_⟩;rw[nX F hr nofun];exact hK _ _ ((k x).go _ _ (hf.put hd _) hm')
theorem TF.Lx {ι:Sort _} {M':ι→World→Prop} (h:AcN P n s M op ty M')
  (k:∀x,TF F m P ops Q rest n s (M' x)):TF F m P ops Q (⟨none,op,ty,pos,af,none⟩ :: rest) n s M:=by
 refine⟨fun a w hf hm=>?_⟩;obtain⟨x,w',hr,hm'⟩:=h.go a w ⟨none,op,ty,pos,af,none⟩ rfl rfl hf hm;refine wpListIn_plain rfl fun K hK=>⟨fun f _=>FW.fn f,?_⟩;rcases hr with hr|⟨u,hr⟩<;>rw[nX F hr nofun]<;>exact hK _ _ ((k x).go _ _ hf hm')
theorem TF.yield {x:Operand} {l:Nat} {xs:List Operand} {vs:List Value} {tys:Array TypeId} {R:World→Prop} (hd:Nat.blt d n.sz=true) (hx:ev s x=some (.func (.yield l) #[] #[])) (hxs:evs s xs=some vs)
  (h:∀w,M w→YieldAt F (m - 1) P l vs.toArray w (fun e w'=>e=.returned (.bool true)∧R w')) (k:TF F m P ops Q rest n ((d,.bool true) :: s) R) :
  TF F m P ops Q (⟨some d,.call { callee:=.value x,args:=xs.toArray,argTypes:=tys },ty,pos,af,none⟩ :: rest) n s M:=by
 refine⟨fun a w hf hm=>?_⟩;obtain⟨fn,tmps,assign,body,hy,hR⟩:=h w hm;have h1:=sJ hf hxs;refine wpListIn_plain rfl fun K hK=>⟨fun f _=>FW.fn f,?_⟩;have hr:(execOp a.eval ⟨some d,.call { callee:=.value x,args:=xs.toArray,argTypes:=tys },ty,pos,af,none⟩).run P w=.ok (.round l fn tmps assign body) w:=by
  simp[execOp,resolve,Deferred.ofValue,hf.ev hx,invoke,h1,hy]
 rw[nX F hr nofun];refine⟨fun hs=>by rw[FW.depth] at hs;simp at hs,hR.mono ?_⟩
 rintro e w' ⟨rfl,hw'⟩
 exact hK _ _ (k.go _ _ (hf.put hd _) hw')
theorem TCF.region{id:Nat}{l:List Oper}(k:TF F m P l.toArray Q l n s M):TCF F m P (.region id l.toArray false) Q n s M:=⟨fun a w hf hm=>wpIn_region_lit (k.go a w hf hm)⟩
theorem TCF.block{id:Nat}{c:Code}(k:TCF F m P c (Exit.inBlock id Q) n s M):TCF F m P (.block id c) Q n s M:=⟨fun a w hf hm=>wpIn_block (k.go a w hf hm)⟩
theorem TF.sub{M':World→Prop}(h:∀w,M w→M' w)(k:TF F m P ops Q rest n s M'):TF F m P ops Q rest n s M:=⟨fun a w hf hm=>k.go a w hf (h w hm)⟩
theorem TF.ex{ι:Sort _}{M':ι→World→Prop}(hM:∀w,M w→∃x,M' x w)(k:∀x,TF F m P ops Q rest n s (M' x)):TF F m P ops Q rest n s M:=
 ⟨fun a w hf hm=>let ⟨x,hx⟩:=hM w hm;(k x).go a w hf hx⟩
theorem TF.append {w0:World} {L L0:List HP} {x y:Operand} {t e sz by_ q c q' c':Nat} {z:Value} {A A':Option Addr} {rows news:List (List Value)} (hd:Nat.blt d n.sz=true) [ht:SlT P t e sz by_ z] (hx:ev s x=some (.slice A q c)) (hy:ev s y=some (.slice A' q' c'))
  (hdl:Del L (own e sz A q c rows) L0) (hn:∀w,St w0 L w→Arr sz (fun b=>b<w.heap.size) w A' q' news) (h1:∀w,St w0 L w→∀r∈news,bZ r=true) (h63:q+q'≤maxLen) (hb:(q+q') * by_≤140737488355328)
  (k:∀A2 c2,TF F m P ops Q rest n ((d,.slice A2 (q+q') c2) :: s) (St w0 (own e sz A2 (q+q') c2 (rows++news) :: L0))) :
  TF F m P ops Q (⟨some d,.call { callee:=.builtin .append,args:=#[x,y],argTypes:=#[t,t] },ty,pos,af,none⟩ :: rest) n s (St w0 L):=
 TF.act hd (Ac.append hx hy hdl hn h1 h63 hb) (fun p=>k p.1 p.2)
theorem TF.ER {w0:World} {L:List HP} {t e sz by_:Nat} {z u:Value} {x:Operand} (hd:Nat.blt d n.sz=true) [ht:SlT P t e sz by_ z] (hx:ev s x=some u) {r:List Value} (hr:u.cells.toList=r) (hz:r.length=sz) (hb:Nat.ble sz 16777216=true)
  (k:∀b,TF F m P ops Q rest n ((d,.slice (some ⟨b,0,none⟩) 1 1) :: s) (St w0 (own e sz (some ⟨b,0,none⟩) 1 1 [r] :: L))):TF F m P ops Q (⟨some d,.buildSlice t 1 #[(0,x)],ty,pos,af,none⟩ :: rest) n s (St w0 L):=
 TF.act hd (Ac.ER hx hr hz hb) k
theorem TF.store {w0:World} {L L':List HP} {x y:Operand} {t t' b o k0:Nat} {cs vs:List Value} [hs:SZ P t k0] (hx:ev s x=some (.pointer (some ⟨b,o,none⟩))) (hy:ev s y=some v) (hv:v.cells=vs.toArray) (hk0:vs.length=k0) (h1:bZ vs=true)
  (hu:Upd L (blk b cs t') (blk b (bA cs o vs) t') L') (hi:Nat.ble (o+vs.length) cs.length=true)
  (k:TF F m P ops Q rest n s (St w0 L')):TF F m P ops Q (⟨none,.store t x y,ty,pos,af,none⟩ :: rest) n s (St w0 L):=
 TF.Lx (Ac.store hx hy hv hk0 h1 hu hi) (fun _=>k)
end
section
variable {P:Program} {C:World→Prop} {ops:Array Oper} {ks:Nat→Kd} {Q:Exit→Act→World→Prop}
def mkB(o:Oper):Bool:=
 match o.op with
 | .alloc .. | .box .. | .buildSlice .. | .makeSlice ..=>true
 | _=>false
def wtB(ops:Array Oper)(x i:Nat):Bool:=ct ops 6 i x
def kpB(ops:Array Oper)(ks:Nat→Kd)(x i:Nat):Bool:=!(jx ops ks i x&&jx ops ks x i)
def Kq(ops:Array Oper)(ks:Nat→Kd)(x:Nat):Bool:=
 Region.noSelect ops&&(Nat.blt x ops.size&&((match ops[x]? with|some o=>o.after.isEmpty|none=>false)&&(List.range ops.size).all fun i=>
  (match ops[i]? with|some o=>(o.after.all fun e=>!Region.binds .any e||Nat.blt e.on i)&&((ks i).still||mkB o||wtB ops x i)|none=>true) &&
  ((Nat.beq i x||wtB ops x i || !kpB ops ks x i||(List.range i).all fun k=>Nat.beq k x || !wtB ops x k) &&
  ((List.range i).all fun k=>Nat.beq i x||Nat.beq k x||(jx ops ks k i&&(!kpB ops ks x i || !kpB ops ks x k||wtB ops x i))||ct ops 6 i k))))
structure FOk(ops:Array Oper)(ks:Nat→Kd)(x:Nat):Prop where
 sel:Region.noSelect ops=true
 lt:x<ops.size
 none_:∀o,ops[x]?=some o→o.after=#[]
 back:∀i o,ops[i]?=some o→∀e∈o.after,Region.binds .any e=true→e.on<i
 act:∀i o,ops[i]?=some o→wtB ops x i=false→(ks i).still=true∨mkB o=true
 ahead:∀i,i<ops.size→i≠x→wtB ops x i=false→kpB ops ks x i=true→∀k,k<i→k≠x→wtB ops x k=false
 pair:∀i,i<ops.size→i≠x→∀k,k<i→k≠x→(jx ops ks k i=true∧(kpB ops ks x i=true→kpB ops ks x k=true→wtB ops x i=true))∨ct ops 6 i k=true
theorem FOk.of{x:Nat}(h:Kq ops ks x=true):FOk ops ks x:=by
 simp only[Kq,Bool.and_eq_true,List.all_eq_true,List.mem_range] at h;obtain⟨h1,h2,h3,h4⟩:=h;refine⟨h1,bD h2,fun o ho=>?_,fun i o ho e he hb=>?_,fun i o ho hw=>?_,fun i hi hx hw hk k hki hkx=>?_,fun i hi hx k hki hkx=>?_⟩
 ·rw[ho] at h3;simpa using h3
 ·have:=(h4 i (Array.getElem?_eq_some_iff.1 ho).1).1;rw[ho] at this;simp only[Bool.and_eq_true] at this;have h5:=(Array.all_eq_true_iff_forall_mem.1 this.1) e he;simp only[hb,Bool.not_true,Bool.false_or] at h5;exact bD h5
 ·have:=(h4 i (Array.getElem?_eq_some_iff.1 ho).1).1;rw[ho] at this;simp only[Bool.and_eq_true,Bool.or_eq_true,hw] at this;rcases this.2 with (h|h)|h
  ·exact .inl h
  ·exact .inr h
  ·cases h
 ·have:=(h4 i hi).2.1;simp only[Bool.or_eq_true,hw,hk,List.all_eq_true,List.mem_range,Bool.not_true] at this;rcases this with ((h|h)|h)|h
  ·exact absurd (Nat.eq_of_beq_eq_true h) hx
  ·cases h
  ·cases h
  ·have:=h k hki;simp only[Bool.or_eq_true,Bool.not_eq_true'] at this;rcases this with h|h
   ·exact absurd (Nat.eq_of_beq_eq_true h) hkx
   ·exact h
 ·have:=(h4 i hi).2.2 k hki;simp only[Bool.or_eq_true,Bool.and_eq_true,Bool.not_eq_true'] at this;rcases this with ((h|h)|h)|h
  ·exact absurd (Nat.eq_of_beq_eq_true h) hx
  ·exact absurd (Nat.eq_of_beq_eq_true h) hkx
  ·refine .inl ⟨h.1,fun ha hb=>?_⟩;rcases h.2 with (h|h)|h
   ·rw[ha] at h;cases h
   ·rw[hb] at h;cases h
   ·exact h
  ·exact .inr h
structure N1(ops:Array Oper)(x:Nat)(rem:List Nat)(listed:Array Bool):Prop where
 size:listed.size=ops.size
 mem:∀i,i∈rem↔(i<ops.size∧i≠x∧listed.getD i true=false)
 sorted:rem.Pairwise (· < ·)
 closed:∀j o,ops[j]?=some o→listed.getD j false=true→∀e∈o.after,Region.binds .any e=true→listed.getD e.on false=true
def pk(l:List Oper)(r:List Nat):List Oper:=r.map fun i=>l.getD i default
def kr(ks:Nat→Kd)(r:List Nat)(i:Nat):Kd:=ks (r.getD i 0)
theorem vG{l:List Oper}:∀(done rest:List Nat),(∀i∈rest,i<l.length)→nq P C l.toArray (kr ks (done++rest)) Q done.length (pk l rest)=km P C l.toArray ks Q rest
 | done,[],_=>rfl
 | done,i :: rest,h=>by
  have ih:=vG (done++[i]) rest (fun j hj=>h j (by simp[hj]));rw[List.append_assoc,List.singleton_append,List.length_append] at ih;have hi:l[i]?=some (l.getD i default):=by
   have:=h i (by simp);simp[List.getD_eq_getElem?_getD,this]
  have hk:kr ks (done++i :: rest) done.length=ks i:=by simp[kr]
  funext a w
  simp only[pk,List.map_cons,nq,km,opI,List.getElem?_toArray,hi,hk];simp only[pk] at ih;rw[←ih];rfl
end
section
variable {P:Program} {C:World→Prop} {ops:Array Oper} {ks:Nat→Kd} {Q:Exit→Act→World→Prop}
def inN(k:Nat)(l:List Nat):Bool:=l.any fun x=>Nat.beq x k
theorem Dy{k:Nat}{l:List Nat}:inN k l=true↔k∈l:=by
 simp only[inN,List.any_eq_true]
 constructor
 ·rintro⟨x,hx,e⟩
  rw[←Nat.eq_of_beq_eq_true e];exact hx
 ·intro h;exact⟨k,h,by simp⟩
def Ik(k:Nat):List Nat→List Nat
 | []=>[]
 | x :: l=>bif Nat.beq x k then l else x :: Ik k l
theorem m8(k:Nat):∀l:List Nat,Ik k l=l.erase k
 | []=>rfl
 | x :: l=>by
  rw[Ik,List.erase_cons,m8 k l]
  cases h:Nat.beq x k with
  | true=>rw[Nat.eq_of_beq_eq_true h];simp
  | false=>
   have:(x==k)=false:=by
    cases hb:x==k with
    | false=>rfl
    | true=>rw[eq_of_beq hb] at h;simp at h
   simp[this]
def LY(ops:Array Oper)(rem:List Nat)(i:Nat):Bool:=
 match ops[i]? with
 | some o=>o.after.all fun e=>!Region.binds .any e || !inN e.on rem
 | none=>false
def mC(ops:Array Oper)(rem:List Nat):List Nat:=rem.filter fun i=>LY ops rem i
theorem cJ{rem:List Nat}{i:Nat}:i∈mC ops rem↔i∈rem∧∃o,ops[i]?=some o∧∀e∈o.after,Region.binds .any e=true→e.on ∉ rem:=by
 rw[mC,List.mem_filter]
 constructor
 ·rintro⟨h1,h2⟩
  refine⟨h1,?_⟩;unfold LY at h2
  cases ho:ops[i]? with
  | none=>rw[ho] at h2;cases h2
  | some o=>
   rw[ho] at h2;refine⟨o,rfl,fun e he hb hm=>?_⟩;have:=(Array.all_eq_true_iff_forall_mem.1 h2) e he;simp only[hb,Bool.not_true,Bool.false_or,Bool.not_eq_true'] at this;rw[Dy.2 hm] at this
   cases this
 ·rintro⟨h1,o,ho,h2⟩
  refine⟨h1,?_⟩;unfold LY;rw[ho];refine Array.all_eq_true_iff_forall_mem.2 fun e he=>?_
  cases hb:Region.binds .any e with
  | false=>rfl
  | true=>
   have:=h2 e he hb
   cases hi:inN e.on rem with
   | false=>rfl
   | true=>exact absurd (Dy.1 hi) this
def wpN(P:Program)(C:World→Prop)(ops:Array Oper)(ks:Nat→Kd)(Q:Exit→Act→World→Prop):Nat→List Nat→Act→World→Prop
 | 0,_=>fun a w=>Q .normal a w
 | f+1,rem=>fun a w=>match (mC ops rem).find? fun i=>(ks i).still with
  | some i=>opI P C ops ks i (wpN P C ops ks Q f (rem.erase i)) a w
  | none=>∀i∈mC ops rem,opI P C ops ks i (wpN P C ops ks Q f (rem.erase i)) a w
theorem Kz{k i:Nat}{K:Act→World→Prop}(hsel:Region.noSelect ops=true)(hpk:jx ops ks k i=true){a:Act}{w:World}(h1:opI P C ops ks k (fun a w=>opI P C ops ks i K a w) a w) :
  opI P C ops ks i (opI P C ops ks k K) a w:=by
 unfold opI at h1 ⊢;unfold jx at hpk
 cases hk:ops[k]? with
 | none=>
  simp only[hk] at h1;exact h1
 | some o1=>
  cases hi:ops[i]? with
  | none=>
   simp only[hk,hi] at h1 ⊢;exact h1
  | some o2=>
   simp only[hk,hi,Bool.and_eq_true] at h1 hpk ⊢;exact He (Two.of hpk.1 (Region.noSelect_spec hsel k o1 · · hk) (Region.noSelect_spec hsel i o2 · · hi)) hpk.2 h1
structure Up(ops:Array Oper)(rem:List Nat):Prop where
 nodup:rem.Nodup
 closed:∀j o,ops[j]?=some o→j ∉ rem→∀e∈o.after,Region.binds .any e=true→e.on ∉ rem
theorem Up.erase{rem:List Nat}{i:Nat}(h:Up ops rem)(hi:i∈mC ops rem):Up ops (rem.erase i):=by
 refine⟨h.nodup.erase i,fun j o ho hj e he hb hm=>?_⟩;have hm':=List.mem_of_mem_erase hm
 by_cases hji:j=i
 ·subst hji;obtain⟨_,o',ho',ha⟩:=cJ.1 hi;rw[ho] at ho'
  cases ho';exact ha e he hb hm'
 ·refine h.closed j o ho (fun hh=>hj ?_) e he hb hm';exact(List.mem_erase_of_ne hji).2 hh
theorem vt{rem:List Nat}{i j:Nat}(hj:j∈mC ops rem)(hij:j≠i):j∈mC ops (rem.erase i):=by
 obtain⟨h1,o,ho,ha⟩:=cJ.1 hj;exact cJ.2 ⟨(List.mem_erase_of_ne hij).2 h1,o,ho,fun e he hb hm=>ha e he hb (List.mem_of_mem_erase hm)⟩
theorem qa{rem:List Nat}(hc:∀j o,ops[j]?=some o→j ∉ rem→∀e∈o.after,Region.binds .any e=true→e.on ∉ rem) :
  ∀(f i k:Nat) (o:Oper),ops[i]?=some o→(∀e∈o.after,Region.binds .any e=true→e.on ∉ rem)→ct ops f i k=true→k ∉ rem
 | 0,_,_,_,_,_,h=>by simp[ct] at h
 | f+1,i,k,o,ho,ha,h=>by
  unfold ct at h;rw[ho] at h;simp only at h;obtain⟨e,he,hb⟩:=Array.any_eq_true'.1 h;simp only[Bool.and_eq_true,Bool.or_eq_true] at hb;have hl:=ha e he hb.1;rcases hb.2 with hb2|hb2
  ·have:=Nat.eq_of_beq_eq_true hb2;rw[←this];exact hl
  ·cases ho':ops[e.on]? with
   | none=>
    cases f with
    | zero=>simp[ct] at hb2
    | succ f=>simp[ct,ho'] at hb2
   | some o'=>exact qa hc f e.on k o' ho' (hc _ _ ho' hl) hb2
def IE(ops:Array Oper)(ks:Nat→Kd):Bool:=
 Region.noSelect ops&&(List.range ops.size).all fun i=>
  (match ops[i]? with|some o=>o.after.all fun e=>!Region.binds .any e||Nat.blt e.on i|none=>true) &&
  (!(ks i).still||(List.range ops.size).all fun j=>Nat.beq i j||(jx ops ks i j||(ct ops 6 i j||ct ops 6 j i)))
structure BOk(ops:Array Oper)(ks:Nat→Kd):Prop where
 sel:Region.noSelect ops=true
 back:∀i o,ops[i]?=some o→∀e∈o.after,Region.binds .any e=true→e.on<i
 pair:∀i j,i<ops.size→j<ops.size→i≠j→(ks i).still=true→jx ops ks i j=true∨ct ops 6 i j=true∨ct ops 6 j i=true
theorem BOk.of(h:IE ops ks=true):BOk ops ks:=by
 simp only[IE,Bool.and_eq_true,List.all_eq_true,List.mem_range] at h;obtain⟨h1,h2⟩:=h;refine⟨h1,fun i o ho e he hb=>?_,fun i j hi hj hij hs=>?_⟩
 ·have:=(h2 i (Array.getElem?_eq_some_iff.1 ho).1).1;rw[ho] at this;have h5:=(Array.all_eq_true_iff_forall_mem.1 this) e he;simp only[hb,Bool.not_true,Bool.false_or] at h5;exact bD h5
 ·have:=(h2 i hi).2;simp only[hs,Bool.not_true,Bool.false_or,List.all_eq_true,List.mem_range,Bool.or_eq_true] at this;rcases this j hj with h|h|h
  ·exact absurd (Nat.eq_of_beq_eq_true h) hij
  ·exact .inl h
  ·exact .inr h
theorem BOk.two(h:BOk ops ks){rem:List Nat}(hu:Up ops rem){i j:Nat}(hi:i∈mC ops rem)(hj:j∈mC ops rem)(hij:i≠j)(hs:(ks i).still=true):jx ops ks i j=true:=by
 obtain⟨hi1,oi,hoi,hia⟩:=cJ.1 hi;obtain⟨hj1,oj,hoj,hja⟩:=cJ.1 hj;rcases h.pair i j (Array.getElem?_eq_some_iff.1 hoi).1 (Array.getElem?_eq_some_iff.1 hoj).1 hij hs with h|h|h
 ·exact h
 ·exact absurd hj1 (qa hu.closed 6 i j oi hoi hia h)
 ·exact absurd hi1 (qa hu.closed 6 j i oj hoj hja h)
theorem pJ{rem:List Nat}{i f:Nat}(hi:i∈rem)(hl:rem.length=f+1):(rem.erase i).length=f:=by
 rw[List.length_erase_of_mem hi,hl];rfl
theorem LR(hok:BOk ops ks):∀(f:Nat),
  (∀rem:List Nat,rem.length=f+1→Up ops rem→∀j∈mC ops rem,∀a w,wpN P C ops ks Q (f+1) rem a w→opI P C ops ks j (wpN P C ops ks Q f (rem.erase j)) a w)∧
  (∀rem:List Nat,rem.length=f+1→Up ops rem→∀i∈mC ops rem,(ks i).still=true→∀a w,opI P C ops ks i (wpN P C ops ks Q f (rem.erase i)) a w→wpN P C ops ks Q (f+1) rem a w):=by
 intro f
 induction f with
 | zero=>
  have key:∀rem:List Nat,rem.length=0+1→∀i∈rem,∀j∈rem,i=j:=by
   intro rem hl i hi j hj
   match rem,hl with
   | [x],_=>simp at hi hj;rw[hi,hj]
  refine⟨fun rem hl hu j hj a w h=>?_,fun rem hl hu i hi hs a w h=>?_⟩
  ·unfold wpN at h
   split at h
   ·rename_i i hf;have:=key rem hl i (cJ.1 (List.mem_of_find?_eq_some hf)).1 j (cJ.1 hj).1;rw[←this];exact h
   ·exact h j hj
  ·unfold wpN
   split
   ·rename_i j hf;have:=key rem hl i (cJ.1 hi).1 j (cJ.1 (List.mem_of_find?_eq_some hf)).1;rw[←this];exact h
   ·rename_i hf;have:=List.find?_eq_none.1 hf i hi;rw[hs] at this;exact absurd rfl this
 | succ f ih=>
  obtain⟨ihA,ihB⟩:=ih;have step:∀rem:List Nat,rem.length=f+1+1→Up ops rem→∀i∈mC ops rem,∀j∈mC ops rem,i≠j→(ks i).still=true→∀a w,opI P C ops ks i (wpN P C ops ks Q (f+1) (rem.erase i)) a w→
    opI P C ops ks j (wpN P C ops ks Q (f+1) (rem.erase j)) a w:=by
   intro rem hl hu i hi j hj hij hs a w h;have h1:opI P C ops ks i (fun a w=>opI P C ops ks j (wpN P C ops ks Q f ((rem.erase i).erase j)) a w) a w:=
    opI.mono (fun a w hh=>ihA _ (pJ (cJ.1 hi).1 hl) (hu.erase hi) j (vt hj (Ne.symm hij)) a w hh) h
   have h2:=Kz hok.sel (hok.two hu hi hj hij hs) h1;rw[List.erase_comm] at h2;exact opI.mono (fun a w hh=>ihB _ (pJ (cJ.1 hj).1 hl) (hu.erase hj) i (vt hi hij) hs a w hh) h2
  refine⟨fun rem hl hu j hj a w h=>?_,fun rem hl hu i hi hs a w h=>?_⟩
  ·rw[wpN] at h
   split at h
   ·rename_i i hf;have hi:=List.mem_of_find?_eq_some hf;have hs:(ks i).still=true:=by simpa using List.find?_some hf
    by_cases hij:i=j
    ·rw[←hij];exact h
    ·exact step rem hl hu i hi j hj hij hs a w h
   ·exact h j hj
  ·rw[wpN]
   split
   ·rename_i j hf
    by_cases hij:i=j
    ·rw[←hij];exact h
    ·exact step rem hl hu i hi j (List.mem_of_find?_eq_some hf) hij hs a w h
   ·rename_i hf;have:=List.find?_eq_none.1 hf i hi;rw[hs] at this;exact absurd rfl this
structure NU(ops:Array Oper)(rem:List Nat)(listed:Array Bool):Prop where
 size:listed.size=ops.size
 mem:∀i,i∈rem↔(i<ops.size∧listed.getD i true=false)
 up:Up ops rem
theorem It(hok:BOk ops ks):∀(fuel:Nat) (rem:List Nat) (listed:Array Bool) (a:Act) (w:World),rem.length=fuel→NU ops rem listed→wpN P C ops ks Q fuel rem a w→wpAny P .any ops Q fuel listed a w:=by
 intro fuel
 induction fuel with
 | zero=>
  intro rem listed a w hl inv h;obtain rfl:=List.eq_nil_of_length_eq_zero hl;refine⟨?_,h⟩;rw[List.eq_nil_iff_forall_not_mem];intro j hj;obtain⟨h1,o,ho,_⟩:=mem_ready.1 hj;have:=(inv.mem j).2 ⟨(Array.getElem?_eq_some_iff.1 ho).1,h1⟩;simp at this
 | succ fuel ih=>
  intro rem listed a w hl inv h;have hrdy:∀i,i∈Region.ready .any ops listed↔i∈mC ops rem:=by
   intro i;rw[mem_ready,cJ,inv.mem i]
   constructor
   ·rintro⟨h1,o,ho,h2⟩
    refine⟨⟨(Array.getElem?_eq_some_iff.1 ho).1,h1⟩,o,ho,fun e he hb hm=>?_⟩;have hh:=h2 e he hb;have hx:=(inv.mem e.on).1 hm;rw[lL (by rw[inv.size];exact hx.1),hh] at hx
    cases hx.2
   ·rintro⟨⟨h0,h1⟩,o,ho,h2⟩
    refine⟨h1,o,ho,fun e he hb=>?_⟩;have hlt:=hok.back i o ho e he hb
    cases hle:listed.getD e.on false with
    | true=>rfl
    | false=>exact absurd ((inv.mem e.on).2 ⟨by omega,by rw[lL (by rw[inv.size];omega)];exact hle⟩) (h2 e he hb)
  refine⟨fun hnil=>?_,fun i hi=>?_⟩
  ·
   have hne:rem≠[]:=by rintro rfl;simp at hl
   have hex:∃i,i∈rem∧∀k∈rem,i≤k:=by
    have:∀l:List Nat,l≠[]→∃i,i∈l∧∀k∈l,i≤k:=by
     intro l
     induction l with
     | nil=>intro h;exact absurd rfl h
     | cons x l ihl=>
      intro _
      by_cases hn:l=[]
      ·subst hn;exact⟨x,by simp,by simp⟩
      ·obtain⟨i,hi,hk⟩:=ihl hn
       by_cases hxi:x≤i
       ·refine⟨x,by simp,fun k hkm=>?_⟩;rcases List.mem_cons.1 hkm with rfl|hkm
        ·exact Nat.le_refl _
        ·exact Nat.le_trans hxi (hk k hkm)
       ·refine⟨i,by simp[hi],fun k hkm=>?_⟩;rcases List.mem_cons.1 hkm with rfl|hkm
        ·omega
        ·exact hk k hkm
    exact this rem hne
   obtain⟨i,him,hmin⟩:=hex;have hlt:=((inv.mem i).1 him).1;have:i∈Region.ready .any ops listed:=(hrdy i).2 (cJ.2 ⟨him,_,Array.getElem?_eq_getElem hlt,fun e he hb hm=>by
    have h1:=hok.back i _ (Array.getElem?_eq_getElem hlt) e he hb;have h2:=hmin _ hm;omega⟩)
   rw[hnil] at this
   cases this
  ·have hi':=(hrdy i).1 hi;obtain⟨hun,oi,hoi,hall⟩:=mem_ready.1 hi;have hilt:i<ops.size:=(Array.getElem?_eq_some_iff.1 hoi).1;have hA:=(LR (P:=P) (C:=C) (Q:=Q) hok fuel).1 rem hl inv.up i hi' a w h;refine wpOp_mono (fun a' w' hh=>?_) (qJ (Q:=Q) hA);refine ih (rem.erase i) (listed.setIfInBounds i true) a' w' (pJ (cJ.1 hi').1 hl) ⟨by simp[inv.size],fun j=>?_,inv.up.erase hi'⟩ hh
   by_cases hji:j=i
   ·subst hji
    constructor
    ·intro hm;exact absurd hm (by rw[inv.up.nodup.mem_erase_iff];simp)
    ·rintro⟨_,hm⟩
     have:j<listed.size:=by rw[inv.size];exact hilt
     simp[this] at hm
   ·have e1:(listed.setIfInBounds i true).getD j true=listed.getD j true:=getD_set_ne true (fun e=>hji e.symm);rw[e1,←inv.mem j,List.mem_erase_of_ne hji]
theorem wS{id:Nat}{a:Act}{w:World}(hm:P.follows .mixedOrders=true)(hok:IE ops ks=true)(h:wpN P C ops ks Q ops.size (List.range ops.size) a { w with drawn:=w.drawn+1 }):(Code.region id ops true).wp P Q a w:=by
 refine wp_region_any hm (It (BOk.of hok) _ (List.range ops.size) _ a _ (by simp) ⟨by simp,fun i=>?_,List.nodup_range,fun j o ho hj=>?_⟩ h)
 ·rw[List.mem_range]
  constructor
  ·intro hi;exact⟨hi,by simp[hi]⟩
  ·exact fun hi=>hi.1
 ·exact absurd (List.mem_range.2 (Array.getElem?_eq_some_iff.1 ho).1) hj
inductive Tr where
 | fin
 | seg (r:List Nat) (t:Tr)
 | both (a b:Tr)
def Tr.eqB:Tr→Tr→Bool
 | .fin,.fin=>true
 | .seg r t,.seg r' t'=>r==r'&&Tr.eqB t t'
 | .both a b,.both a' b'=>Tr.eqB a a'&&Tr.eqB b b'
 | _,_=>false
theorem Tr.wN:∀{a b:Tr},Tr.eqB a b=true→a=b
 | .fin,.fin,_=>rfl
 | .seg r t,.seg r' t',h=>by
  simp only[Tr.eqB,Bool.and_eq_true,beq_iff_eq] at h;rw[h.1,Tr.wN h.2]
 | .both a b,.both a' b',h=>by
  simp only[Tr.eqB,Bool.and_eq_true] at h;rw[Tr.wN h.1,Tr.wN h.2]
 | .fin,.seg ..,h=>by simp[Tr.eqB] at h
 | .fin,.both ..,h=>by simp[Tr.eqB] at h
 | .seg ..,.fin,h=>by simp[Tr.eqB] at h
 | .seg ..,.both ..,h=>by simp[Tr.eqB] at h
 | .both ..,.fin,h=>by simp[Tr.eqB] at h
 | .both ..,.seg ..,h=>by simp[Tr.eqB] at h
def Tr.cons(i:Nat):Tr→Tr
 | .seg r t=>.seg (i :: r) t
 | t=>.seg [i] t
def Tr.alts:List Tr→Tr
 | []=>.fin
 | [t]=>t
 | t :: l=>.both t (Tr.alts l)
def wpT(P:Program)(C:World→Prop)(ops:Array Oper)(ks:Nat→Kd)(Q:Exit→Act→World→Prop):Tr→Act→World→Prop
 | .fin=>fun a w=>Q .normal a w
 | .seg r t=>km P C ops ks (fun _=>wpT P C ops ks Q t) r
 | .both x y=>fun a w=>wpT P C ops ks Q x a w∧wpT P C ops ks Q y a w
def H3(ops:Array Oper)(ks:Nat→Kd):Nat→List Nat→Tr
 | 0,_=>.fin
 | f+1,rem=>match (mC ops rem).find? fun i=>(ks i).still with
  | some i=>Tr.cons i (H3 ops ks f (Ik i rem))
  | none=>Tr.alts ((mC ops rem).map fun i=>Tr.cons i (H3 ops ks f (Ik i rem)))
theorem xS{i:Nat}{t:Tr}{a:Act}{w:World}(h:wpT P C ops ks Q (Tr.cons i t) a w):opI P C ops ks i (wpT P C ops ks Q t) a w:=by
 cases t<;>exact h
theorem x4:∀{l:List Tr} {a:Act} {w:World},wpT P C ops ks Q (Tr.alts l) a w→∀t∈l,wpT P C ops ks Q t a w
 | [],_,_,_,t,ht=>by cases ht
 | [x],_,_,h,t,ht=>by
  rw[List.mem_singleton] at ht;rw[ht];exact h
 | x :: y :: l,a,w,h,t,ht=>by
  rcases List.mem_cons.1 ht with rfl|ht
  ·exact h.1
  ·exact x4 h.2 t ht
theorem tO:∀(f:Nat) (rem:List Nat) (a:Act) (w:World),wpT P C ops ks Q (H3 ops ks f rem) a w→wpN P C ops ks Q f rem a w
 | 0,_,a,w,h=>h
 | f+1,rem,a,w,h=>by
  unfold H3 at h;rw[wpN]
  split
  ·rename_i i hf;rw[hf] at h;simp only[m8] at h;exact opI.mono (fun a w hh=>tO f _ a w hh) (xS h)
  ·rename_i hf;intro i hi;rw[hf] at h;simp only[m8] at h;have:=x4 h _ (List.mem_map.2 ⟨i,hi,rfl⟩);exact opI.mono (fun a w hh=>tO f _ a w hh) (xS this)
structure TT(P:Program)(C:World→Prop)(l:List Oper)(ks:Nat→Kd)(Q:Exit→Act→World→Prop)(t:Tr)(n:FD)(s:Sg)(M:World→Prop):Prop where
 go:∀a w,Fr n s a→M w→wpT P C l.toArray ks Q t a w
theorem TC.NI {n:FD} {s:Sg} {w0:World} {L:List HP} {id:Nat} {l:List Oper} (ovr:List (Nat×Kd)) (t:Tr) (hm:P.follows .mixedOrders=true) (hok:(IE l.toArray (kds l ovr)&&Tr.eqB (H3 l.toArray (kds l ovr) l.length (List.range l.length)) t)=true)
  (h:TT P (St w0 L) l (kds l ovr) Q t n s (St w0 L)):TC P (.region id l.toArray true) Q n s (St w0 L):=by
 simp only[Bool.and_eq_true] at hok;refine⟨fun a w hf hw=>wS (C:=St w0 L) hm hok.1 (tO _ _ _ _ ?_)⟩;have:=h.go a w.drew hf hw.drew;rw[←Tr.wN hok.2] at this;simpa using this
variable {l:List Oper} {n:FD} {s:Sg} {M:World→Prop}
theorem TT.fin(k:TX Q .normal n s M):TT P C l ks Q .fin n s M:=⟨fun a w hf hm=>k.go a w hf hm⟩
theorem TT.both{x y:Tr}(hx:TT P C l ks Q x n s M)(hy:TT P C l ks Q y n s M):TT P C l ks Q (.both x y) n s M:=⟨fun a w hf hm=>⟨hx.go a w hf hm,hy.go a w hf hm⟩⟩
theorem TX.tree{t:Tr}(k:TT P C l ks Q t n s M):TX (fun _=>wpT P C l.toArray ks Q t) .normal n s M:=⟨fun a w hf hm=>k.go a w hf hm⟩
theorem TT.seg{r:List Nat}{t:Tr}(hr:(r.all fun i=>Nat.blt i l.length)=true)(k:TL P C l.toArray (kr ks r) (fun _=>wpT P C l.toArray ks Q t) 0 (pk l r) n s M):TT P C l ks Q (.seg r t) n s M:=by
 refine⟨fun a w hf hm=>?_⟩;have:=k.go a w hf hm;have e:=vG (P:=P) (C:=C) (Q:=fun _=>wpT P C l.toArray ks Q t) (ks:=ks) (l:=l) [] r (fun i hi=>bD (List.all_eq_true.1 hr i hi));rw[List.nil_append,List.length_nil] at e;rw[e] at this;exact this
end
end Go.Sl
end
