/- The texts that the card needs, part 9. -/
import Derived.Test.YtpbichnnflabdaaGreatDoorPC7
set_option linter.all false
section
namespace Go.aa
open Go
theorem mV{n:Nod}{c:Int}(h:fits n c=true):(0≤n.kind∧n.kind≤9)∧n.text.size≤255:=by
 have e0:n.text=⟨#[]⟩→n.text.size≤255:=fun e=>by rw[e];decide
 have em:gE n.text=true→n.text.size≤255:=fun e=>by
  simp only[gE,Bool.and_eq_true,decide_eq_true_eq]at e;omega
 unfold fits at h
 repeat' split at h
 all_goals try(cases h;done)
 all_goals simp only[Bool.and_eq_true,decide_eq_true_eq,Bool.not_eq_true']at h
 all_goals refine⟨by omega,?_⟩
 all_goals first
  |exact e0 h.1
  |exact e0 h.1.2
  |exact e0 h.1.1.2
  |exact e0 h.1.1.1
  |exact e0 h.1.1.1.2
  |exact e0 h.1.1.1.1.2
  |exact e0 h.1.1.1.1.1.2
  |exact em h.2
  |omega
def Fo.txt:Int→Bool→Fo→List UInt8
 |_,_,.nil=>[]
 |par,fst,.cons n k r=>(if fst then[]else dm par)++((if cU par n.kind then[40]else[])++(bl n++(k.txt n.kind true++(bV n++((if cU par n.kind then[41]else[])++r.txt par false)))))
def iw(t:Tre):List UInt8:=if au t=true then(foT t).txt (-1) true else[]
theorem oH(k:Int):(dm k).length≤3:=by
 unfold dm
 repeat' split
 all_goals simp
theorem AV(a b:Int):(mT a b).length≤7:=by
 have h1:=mn a.toNat;have h2:=mn b.toNat;unfold mT
 repeat' split
 all_goals try simp only[List.length_append,List.length_cons,List.length_nil]
 all_goals omega
theorem ku(n:Nod):(bV n).length≤7:=by
 have h1:=AV n.min n.max;unfold bV
 repeat' split
 all_goals try simp only[List.length_cons,List.length_nil]
 all_goals omega
theorem FJ(s:ByteArray):(EG s).length≤4*s.size+2:=by
 have h:=nE ⟨#[34]⟩ s.data.toList;have e:s.data.toList.length=s.size:=by rw[Array.length_toList];rfl
 rw[e]at h;simp only[EG,List.length_append,List.length_cons,List.length_nil];omega
theorem uk{n:Nod}(h:n.text.size≤255):(bl n).length≤3000:=by
 have h1:=FJ n.text;have h2:=Be n.set;have h3:n.text.data.toList.length=n.text.size:=by rw[Array.length_toList];rfl
 unfold bl
 repeat' split
 all_goals try simp only[List.length_append,List.length_cons,List.length_nil]
 all_goals omega
theorem rW:∀(F:Fo) (par:Int) (fst:Bool),F.fit=true→(F.txt par fst).length≤3020*F.size
 |.nil,_,_,_=>by simp[Fo.txt]
 |.cons n k r,par,fst,h=>by
  simp only[Fo.fit,Bool.and_eq_true]at h;have h1:=rW k n.kind true h.1.2;have h2:=rW r par false h.2;have h3:=uk (mV h.1.1).2;have h4:=ku n;have h5:=oH par;simp only[Fo.txt,List.length_append,Fo.size];have h6:(if fst=true then[]else dm par).length≤3:=by
   split
   ·simp
   ·exact h5
  have h7:(if cU par n.kind=true then([40]:List UInt8)else[]).length≤1:=by split<;>simp
  have h8:(if cU par n.kind=true then([41]:List UInt8)else[]).length≤1:=by split<;>simp
  omega
theorem Nk{s:ByteArray}(h:¬s=⟨#[]⟩):s.data.toList≠[]:=fun e=>h (by
 apply ByteArray.ext;apply Array.ext';exact e)
theorem Ez(s:Bts):iK s≠[]:=by
 unfold iK
 split<;>simp
theorem Ff:∀(F:Fo) (par:Int) (fst:Bool),F.fit=true→F≠.nil→F.txt par fst≠[]
 |.nil,_,_,_,h=>(h rfl).elim
 |.cons n k r,par,fst,h,_=>by
  simp only[Fo.fit,Bool.and_eq_true]at h;obtain⟨⟨h1,h2⟩,_⟩:=h;have hk:=(mV h1).1;have key:bl n≠[]∨k.txt n.kind true≠[]:=by
   by_cases h02:n.kind=0∨n.kind=2
   ·exact .inl (by rw[bl,if_pos h02];simp[EG])
   by_cases h01:n.kind=1
   ·exact .inl (by rw[bl,if_neg h02,if_pos h01];exact Ez _)
   by_cases h03:n.kind=3
   ·refine .inl ?_;rw[bl,if_neg h02,if_neg h01,if_pos h03];have e:gE n.text=true:=by
     unfold fits at h1;rw[if_neg (by omega),if_neg h01,if_neg (by omega),if_pos h03,Bool.and_eq_true]at h1;exact h1.2
    refine Nk fun e0=>?_;rw[e0]at e
    revert e
    decide
   ·refine .inr (Ff k _ _ h2 fun e0=>?_);subst e0;unfold fits at h1;rw[if_neg (by omega),if_neg h01,if_neg (by omega),if_neg h03]at h1;simp[Fo.len]at h1
  intro e;simp only[Fo.txt,List.append_eq_nil_iff]at e;rcases key with h|h
  ·exact h e.2.2.1
  ·exact h e.2.2.2.1
abbrev Opn:=Int×Nat×Bool
abbrev na(ns:List Nod)(k:Int):Nod:=ns.getD k.toNat .zero
def xI(ns:List Nod)(o:Opn):List UInt8:=if o.2.1=0 then(if o.2.2 then[40]else[])++bl (na ns o.1)else[]
def cO(ns:List Nod)(o:Opn):List UInt8:=
 xI ns o++((aA ns ns.length ((ae ns o.1).drop o.2.1)).txt (na ns o.1).kind (o.2.1==0)++(bV (na ns o.1)++(if o.2.2 then[41]else[])))
def oA(ns:List Nod)(l:List Opn):List UInt8:=l.reverse.flatMap (cO ns)
theorem nM(ns:List Nod)(l:List Opn)(o:Opn):oA ns (l++[o])=cO ns o++oA ns l:=by simp[oA]
theorem vM{ns:List Nod}{o:Opn}(h:o.2.1=(ae ns o.1).length):cO ns o=xI ns o++(bV (na ns o.1)++(if o.2.2 then[41]else[])):=by
 rw[cO,h,List.drop_length,ay];rfl
theorem sx{ns:List Nod}(hk:KOk ns){o:Opn}(h0:0≤o.1)(h1:o.1<ns.length)(h:o.2.1<(ae ns o.1).length)(c:Int)(hc:(ae ns o.1)[o.2.1]=c) :
  cO ns o=xI ns o++((if o.2.1=0 then[]else dm (na ns o.1).kind)++(cO ns (c,0,cU (na ns o.1).kind (na ns c).kind)++cO ns (o.1,o.2.1+1,o.2.2))):=by
 have hch:=hk.ae;have hcm:=hch o.1 c (by rw[←hc];exact List.getElem_mem h);have e1:(ae ns o.1).drop o.2.1=c::(ae ns o.1).drop (o.2.1+1):=by rw[List.drop_eq_getElem_cons h,hc]
 obtain⟨N,hN⟩:∃N,ns.length=N+1:=⟨ns.length-1,by omega⟩
 have e2:aA ns N (ae ns c)=aA ns (N+1) (ae ns c):=dU hch N (N+1) _ (fun x hx=>⟨(hch c x hx).1,by have:=(hch c x hx).2;omega⟩) (fun x hx=>by have:=(hch c x hx).2;omega);have e3:∀x:List Opn,x=[]→(o.2.1+1==0)=false:=fun _ _=>by simp
 have e3:=e3 [] rfl;simp only[cO,e1,hN,aK,Fo.txt,e2,List.drop_zero,xI,e3];have d1:(dat ns c).kind=(na ns c).kind:=rfl;have d2:bl (dat ns c)=bl (na ns c):=rfl;have d3:bV (dat ns c)=bV (na ns c):=rfl;rw[d1,d2,d3]
 by_cases hz:o.2.1=0
 ·simp[hz]
 ·simp[hz]
def gq(ns:List Nod)(o:Opn):Nat:=2*(aA ns ns.length ((ae ns o.1).drop o.2.1)).size+1
def gu(ns:List Nod)(l:List Opn):Nat:=(l.map (gq ns)).sum
theorem gS(ns:List Nod)(l:List Opn)(o:Opn):gu ns (l++[o])=gq ns o+gu ns l:=by simp[gu];omega
theorem BC{ns:List Nod}(hk:KOk ns){o:Opn}(h0:0≤o.1)(h1:o.1<ns.length)(h:o.2.1<(ae ns o.1).length)(c:Int)(hc:(ae ns o.1)[o.2.1]=c)(b:Bool) :
  gq ns (c,0,b)+gq ns (o.1,o.2.1+1,o.2.2)<gq ns o:=by
 have hch:=hk.ae;have hcm:=hch o.1 c (by rw[←hc];exact List.getElem_mem h);have e1:(ae ns o.1).drop o.2.1=c::(ae ns o.1).drop (o.2.1+1):=by rw[List.drop_eq_getElem_cons h,hc]
 obtain⟨N,hN⟩:∃N,ns.length=N+1:=⟨ns.length-1,by omega⟩
 have e2:aA ns N (ae ns c)=aA ns (N+1) (ae ns c):=dU hch N (N+1) _ (fun x hx=>⟨(hch c x hx).1,by have:=(hch c x hx).2;omega⟩) (fun x hx=>by have:=(hch c x hx).2;omega);simp only[gq,e1,hN,aK,Fo.size,e2,List.drop_zero];omega
theorem jc{ns:List Nod}{k:Int}(h:k.toNat<ns.length):na ns k=ns[k.toNat]:=by
 rw[na,List.getD_eq_getElem?_getD,List.getElem?_eq_getElem h];rfl
theorem oS{ns:List Nod}{k:Int}(h0:0≤k)(h:k.toNat<ns.length):ae ns k=(ns[k.toNat]).kids:=by
 have:=aF (List.getElem?_eq_getElem h);rw[Int.toNat_of_nonneg h0]at this;exact this.symm
section
variable {ns:List Nod} (hk:KOk ns) {k:Int} (h0:0≤k) (h1:k.toNat<ns.length) {b:Bool}{j:Nat}
include hk h0 h1
theorem sM(hj:0<(ns[k.toNat]).kids.length){c:Int}(hc:(ns[k.toNat]).kids[0]=c)(hcl:c.toNat<ns.length) :
  cO ns (k,0,b)=(if b then[40]else[])++(bl (ns[k.toNat])++(cO ns (c,0,cU (ns[k.toNat]).kind (ns[c.toNat]).kind)++cO ns (k,1,b))):=by
 have e:=oS h0 h1;rw[sx hk (o:=(k,0,b)) h0 (by dsimp only;omega) (by dsimp only;rw[e];exact hj) c (by simp only[e];exact hc)];simp only[xI,if_true,List.nil_append,jc h1,jc hcl,List.append_assoc,Nat.zero_add]
theorem Bc(h:0<j)(hj:j<(ns[k.toNat]).kids.length){c:Int}(hc:(ns[k.toNat]).kids[j]=c)(hcl:c.toNat<ns.length) :
  cO ns (k,j,b)=dm (ns[k.toNat]).kind++(cO ns (c,0,cU (ns[k.toNat]).kind (ns[c.toNat]).kind)++cO ns (k,j+1,b)):=by
 have e:=oS h0 h1;have hne:¬j=0:=by omega
 rw[sx hk (o:=(k,j,b)) h0 (by dsimp only;omega) (by dsimp only;rw[e];exact hj) c (by simp only[e];exact hc)];simp only[xI,if_neg hne,List.nil_append,jc h1,jc hcl]
omit hk in
theorem vn(hj:(ns[k.toNat]).kids.length=0):cO ns (k,0,b)=(if b then[40]else[])++(bl (ns[k.toNat])++(bV (ns[k.toNat])++(if b then[41]else[]))):=by
 have e:=oS h0 h1;rw[vM (by simp only[e,hj])];simp only[xI,if_true,jc h1,List.append_assoc]
omit hk in
theorem EU(h:0<j)(hj:(ns[k.toNat]).kids.length=j):cO ns (k,j,b)=bV (ns[k.toNat])++(if b then[41]else[]):=by
 have e:=oS h0 h1;have hne:¬j=0:=by omega
 rw[vM (by simp only[e,hj])];simp only[xI,if_neg hne,jc h1,List.nil_append]
theorem vJ(hj:j<(ns[k.toNat]).kids.length){c:Int}(hc:(ns[k.toNat]).kids[j]=c)(w:Bool):gq ns (c,0,w)+gq ns (k,j+1,b)<gq ns (k,j,b):=by
 have e:=oS h0 h1;exact BC hk (o:=(k,j,b)) h0 (by dsimp only;omega) (by dsimp only;rw[e];exact hj) c (by simp only[e];exact hc) w
end
theorem yh(ns:List Nod)(o:Opn):0<gq ns o:=by unfold gq;omega
theorem Ey{t:Tre}(h:av t):(foT t).txt (-1) true=cO t.nodes (t.root,0,false):=by
 obtain⟨h0,h1⟩:=h.root;have hch:=h.kok.ae;obtain⟨N,hN⟩:∃N,t.nodes.length=N+1:=⟨t.nodes.length-1,by omega⟩
 have e2:aA t.nodes N (ae t.nodes t.root)=aA t.nodes (N+1) (ae t.nodes t.root):=dU hch N (N+1) _ (fun x hx=>⟨(hch _ x hx).1,by have:=(hch _ x hx).2;omega⟩) (fun x hx=>by have:=(hch _ x hx).2;omega);have d1:(dat t.nodes t.root).kind=(na t.nodes t.root).kind:=rfl;have d2:bl (dat t.nodes t.root)=bl (na t.nodes t.root):=rfl;have d3:bV (dat t.nodes t.root)=bV (na t.nodes t.root):=rfl;have hw:∀x,cU (-1) x=false:=fun x=>by simp[cU]
 simp only[foT,hN,aK,ay,Fo.txt,cO,xI,e2,d1,d2,d3,hw,List.drop_zero,if_true,List.nil_append,List.append_nil];simp
theorem xy{t:Tre}(h:av t):(foT t).fit=true:=by
 obtain⟨n,k,e,_,hf⟩:=fO h;rw[e];exact hf
theorem LU{t:Tre}(h:av t):foT t≠.nil:=by
 obtain⟨n,k,e,_⟩:=fO h;rw[e];simp
theorem wo(ns:List Nod):∀l:List Opn,l.length≤gu ns l
 |[]=>by simp
 |o::l=>by
  have h1:=wo ns l;have h2:=yh ns o;simp only[gu,List.map_cons,List.sum_cons,List.length_cons]at h1 ⊢;omega
theorem EN{t:Tre}(h:av t):gq t.nodes (t.root,0,false)<2*t.nodes.length:=by
 obtain⟨h0,h1⟩:=h.root;have hch:=h.kok.ae;have hs:=fa h;obtain⟨N,hN⟩:∃N,t.nodes.length=N+1:=⟨t.nodes.length-1,by omega⟩
 have e2:aA t.nodes N (ae t.nodes t.root)=aA t.nodes (N+1) (ae t.nodes t.root):=dU hch N (N+1) _ (fun x hx=>⟨(hch _ x hx).1,by have:=(hch _ x hx).2;omega⟩) (fun x hx=>by have:=(hch _ x hx).2;omega);rw[foT,hN,aK,ay,e2]at hs;simp only[Fo.size]at hs;simp only[gq,List.drop_zero,hN];omega
end Go.aa
end
section
namespace Go.Km
open Go Go.Vc Go.Proofs Go.aa Go.Proofs.YtpbichnnflabdaaGreatDoor
set_option maxRecDepth 100000
set_option maxHeartbeats 0
def opR:Opn→List F
 |(k,j,b)=>[inF k,inF (j:Int),boF b]
instance(priority:=high){α:Type}{f:α→List F}{S:List α}{x:α}{k:List F→Prop}:Arm (x5 ((S++[x]).map f)[((((S++[x]).map f).length:Int)-1).toNat]? k) (k (f x)):=⟨fun h=>by
 have e:((S++[x]).map f)[((((S++[x]).map f).length:Int)-1).toNat]?=some (f x):=by simp
 rw[e];exact h⟩
theorem Mv{α:Type}(S:List α)(a b:α):S++[a,b]=S++[a]++[b]:=by simp
theorem bl2{h:List (Nat×B)}(bs:List (List F)){r1 r2:List (List F)}(e:r1=r2):jv [(2,B.ro 0 5 1 bs),(3,B.ro 0 226 3 r1)] h=jv [(2,B.ro 0 5 1 bs),(3,B.ro 0 226 3 r2)] h:=by rw[e]
theorem Em{cs:List F}{kind:Int}{k:F→Prop}(hP:∀i:Nat,i<10→cs[0+i*3+1]?=some (stF ⟨(dm i).toArray⟩))(h:0≤kind∧kind≤9)(hk:k (stF ⟨(dm kind).toArray⟩)):ExK cs[0+kind.toNat*3+1]? k:=by
 refine⟨_,hP kind.toNat (by omega),?_⟩;rw[Int.toNat_of_nonneg h.1];exact hk
theorem Om{p:Nat→Prop}(h0:p 0)(h1:p 1)(h2:p 2)(h3:p 3)(h4:p 4)(h5:p 5)(h6:p 6)(h7:p 7)(h8:p 8)(h9:p 9):∀i,i<10→p i:=by
 intro i hi;have:i=0∨i=1∨i=2∨i=3∨i=4∨i=5∨i=6∨i=7∨i=8∨i=9:=by omega
 rcases this with rfl|rfl|rfl|rfl|rfl|rfl|rfl|rfl|rfl|rfl<;>assumption
theorem EE{α:Type}(f:α→List F)(S:List α)(x:α):((S++[x]).map f).take ((((S++[x]).map f).length:Int)-1).toNat=S.map f:=by
 have e:((((S++[x]).map f).length:Int)-1).toNat=(S.map f).length:=by simp
 rw[e,List.map_append,List.take_left]
theorem Hh{α:Type}(f:α→List F)(S:List α)(x:α)(r:List F):((S++[x]).map f).set ((((S++[x]).map f).length:Int)-1).toNat r=S.map f++[r]:=by
 have e:((((S++[x]).map f).length:Int)-1).toNat=(S.map f).length:=by simp
 rw[e,List.map_append,List.map_singleton,List.set_append_right _ _ (Nat.le_refl _),Nat.sub_self];rfl
instance(t:Tre):C 172 [aE t] (stF ⟨(iw t).toArray⟩) true (t.wf∧t.nodes.length≤100000):=⟨fun h=>by
 obtain⟨hw,hlen⟩:=h
 by_cases hr:au t=true
 ·have hR:=ao hr;obtain⟨hr0,hr1⟩:=hR.root;have e:iw t=(foT t).txt (-1) true:=by rw[iw,if_pos hr]
  rw[e];clear e;have hT:=rW (foT t) (-1) true (xy hR);have hTn:=Ff (foT t) (-1) true (xy hR) (LU hR);rw[fa hR]at hT;rw[Ey hR]at hT hTn ⊢;have hrn:t.root.toNat<t.nodes.length:=by omega
  have hfits:∀(k:Nat) (hk:k<t.nodes.length),((0≤t.nodes[k].kind∧t.nodes[k].kind≤9)∧t.nodes[k].set.wf∧t.nodes[k].text.size≤1000000)∧t.nodes[k].wf∧(bl t.nodes[k]).length≤3000:=fun k hk=>by
   obtain⟨h1,h2⟩:=mV (hR.fits _ _ (List.getElem?_eq_getElem hk));have h3:=hw.nodes _ (List.getElem_mem hk);exact⟨⟨h1,h3.set,by omega⟩,h3,uk h2⟩
  have hkids:∀(k j:Nat) (hk:k<t.nodes.length) (hj:j<t.nodes[k].kids.length),0≤t.nodes[k].kids[j]∧(t.nodes[k].kids[j]).toNat<t.nodes.length:=fun k j hk hj=>by
   have:=hR.kok _ _ (List.getElem?_eq_getElem hk) _ (List.getElem_mem hj);omega
  obtain⟨f1,f2,f3⟩:=hfits _ hrn;have f4:=ku (t.nodes[t.root.toNat]);obtain⟨T,hTe⟩:=exEq (cO t.nodes (t.root,0,false));rw[←hTe]at hT hTn ⊢
  by_cases hj:0<(t.nodes[t.root.toNat]).kids.length
  ·obtain⟨c1,c2⟩:=hkids _ 0 hrn hj;have e:=sM hR.kok hr0 hrn (b:=false) hj rfl c2;rw[←hTe]at e;have g1:([]++(⟨(bl t.nodes[t.root.toNat]).toArray⟩:ByteArray).data.toList).length≤1000000000:=by simp;omega
   have g2:(⟨(bl t.nodes[t.root.toNat]).toArray⟩:ByteArray).size≤1000000000:=by show(bl t.nodes[t.root.toNat]).toArray.size≤_;simp;omega
   refine kf rfl rfl ?_;repeat' first|exact k9|refine k2 ?_|apply kA|apply kI;intro hc|refine k8 ?_|apply kL;intro hl
   apply kCt [1,3,4] [];conv=>whnf
   have hl0:=EN hR;have hl1:gq t.nodes (t.nodes[t.root.toNat].kids[0],0,cU t.nodes[t.root.toNat].kind t.nodes[(t.nodes[t.root.toNat].kids[0]).toNat].kind)+gq t.nodes (t.root,1,false)<_:=vJ hR.kok hr0 hrn (b:=false) (j:=0) hj rfl (cU t.nodes[t.root.toNat].kind t.nodes[(t.nodes[t.root.toNat].kids[0]).toNat].kind);refine Lp.ind (fun z:List UInt8×List Opn=>gu t.nodes z.2) (fun z=>z.2≠[]∧(∀o∈z.2,0≤o.1∧∃h:o.1.toNat<t.nodes.length,o.2.1≤(t.nodes[o.1.toNat]'h).kids.length)∧z.1++oA t.nodes z.2=T∧gu t.nodes z.2≤300000) (fun _=>[]) (fun z=>[(2,.ro 0 5 1 (z.1.map byR)),(3,.ro 0 226 3 (z.2.map opR))]) (fun _=>_)
    (bl t.nodes[t.root.toNat],[(t.root,1,false),(t.nodes[t.root.toNat].kids[0],0,cU t.nodes[t.root.toNat].kind t.nodes[(t.nodes[t.root.toNat].kids[0]).toNat].kind)]) ⟨by simp,?_,?_,?_⟩ rfl rfl rfl ?_
   ·intro o ho;simp only[List.mem_cons,List.not_mem_nil,or_false]at ho;rcases ho with rfl|rfl
    ·exact⟨hr0,hrn,hj⟩
    ·exact⟨c1,c2,Nat.zero_le _⟩
   ·rw[e];simp[oA]
   ·simp only[gu,List.map_cons,List.map_nil,List.sum_cons,List.sum_nil];omega
   rintro G ⟨w,st⟩ ih ⟨hne,hin,hwT,hleft⟩
   dsimp only at hne hin hwT hleft ih ⊢;rcases bQ st with rfl|⟨S,⟨k,j,b⟩,rfl⟩
   ·exact(hne rfl).elim
   obtain⟨h0,hkn,hjl⟩:=hin (k,j,b) (by simp);dsimp only at h0 hkn hjl;obtain⟨f1,f2,f3⟩:=hfits _ hkn;have f4:=ku (t.nodes[k.toNat]);have f5:=oH (t.nodes[k.toNat]).kind;rw[nM]at hwT;rw[gS]at hleft;have hlen:=wo t.nodes S;have hwl:w.length≤T.length:=by rw[←hwT,List.length_append];omega
   have hsl:S.length≤300000:=by omega
   have hkl:(t.nodes[k.toNat]).kids.length≤1000000000000000:=Nat.le_trans f2.kids.1 (by decide);have ga:(⟨(bl t.nodes[k.toNat]).toArray⟩:ByteArray).size≤1000000000:=by show(bl t.nodes[k.toNat]).toArray.size≤_;simp;omega
   have gb:(⟨(bV t.nodes[k.toNat]).toArray⟩:ByteArray).size≤1000000000:=by show(bV t.nodes[k.toNat]).toArray.size≤_;simp;omega
   have gc:(⟨(dm t.nodes[k.toNat].kind).toArray⟩:ByteArray).size≤1000000000:=by show(dm t.nodes[k.toNat].kind).toArray.size≤_;simp;omega
   have hinS:∀o∈S,0≤o.1∧∃h:o.1.toNat<t.nodes.length,o.2.1≤(t.nodes[o.1.toNat]'h).kids.length:=fun o ho=>hin o (by simp[ho])
   rcases Nat.lt_or_ge j (t.nodes[k.toNat]).kids.length with hjk|hjk
   ·obtain⟨c1,c2⟩:=hkids _ j hkn hjk;obtain⟨c,hce⟩:=exEq ((t.nodes[k.toNat]).kids[j]);have hl2:=vJ hR.kok h0 hkn (b:=b) hjk rfl (cU t.nodes[k.toNat].kind (t.nodes[((t.nodes[k.toNat]).kids[j]).toNat]).kind);have hfin:∀w',w'++(cO t.nodes ((t.nodes[k.toNat]).kids[j],0,cU t.nodes[k.toNat].kind (t.nodes[((t.nodes[k.toNat]).kids[j]).toNat]).kind)++cO t.nodes (k,j+1,b))=w++cO t.nodes (k,j,b)→(let z:List UInt8×List Opn:=(w',S++[(k,j+1,b),((t.nodes[k.toNat]).kids[j],0,cU t.nodes[k.toNat].kind (t.nodes[((t.nodes[k.toNat]).kids[j]).toNat]).kind)])
      gu t.nodes z.2<gu t.nodes (S++[(k,j,b)])∧(z.2≠[]∧(∀o∈z.2,0≤o.1∧∃h:o.1.toNat<t.nodes.length,o.2.1≤(t.nodes[o.1.toNat]'h).kids.length)∧z.1++oA t.nodes z.2=T∧gu t.nodes z.2≤300000)):=by
     intro w' hw';have el:gu t.nodes (S++[(k,j+1,b),((t.nodes[k.toNat]).kids[j],0,cU t.nodes[k.toNat].kind (t.nodes[((t.nodes[k.toNat]).kids[j]).toNat]).kind)])<gq t.nodes (k,j,b)+gu t.nodes S:=by
      rw[Mv,gS,gS];omega
     refine⟨?_,by simp,?_,?_,?_⟩
     ·rw[gS];exact el
     ·intro o ho;simp only[List.mem_append,List.mem_cons,List.not_mem_nil,or_false]at ho;rcases ho with ho|rfl|rfl
      ·exact hinS o ho
      ·exact⟨h0,hkn,hjk⟩
      ·exact⟨c1,c2,Nat.zero_le _⟩
     ·have q:=congrArg (·++oA t.nodes S) hw';dsimp only at q ⊢;rw[←hwT,Mv,nM,nM];simpa only[List.append_assoc]using q
     ·exact Nat.le_of_lt (Nat.lt_of_lt_of_le el hleft)
    have hrow:∀x:Int,x=((j+1:Nat):Int)→((S++[(k,j,b)]).map opR).set ((((S++[(k,j,b)]).map opR).length:Int)-1).toNat (setAt (opR (k,j,b)) 1 [inF x])++[opR ((t.nodes[k.toNat]).kids[j],0,cU t.nodes[k.toNat].kind (t.nodes[((t.nodes[k.toNat]).kids[j]).toNat]).kind)]=(S++[(k,j+1,b),((t.nodes[k.toNat]).kids[j],0,cU t.nodes[k.toNat].kind (t.nodes[((t.nodes[k.toNat]).kids[j]).toNat]).kind)]).map opR:=fun x hx=>by
     subst hx;rw[Hh,Mv,List.map_append,List.map_append];rfl
    rcases Nat.eq_zero_or_pos j with hj0|hj0
    ·subst hj0;have he:=sM hR.kok h0 hkn (b:=b) hjk rfl c2
     cases b with
     |false=>
      simp only[Bool.false_eq_true,if_true,if_false,List.nil_append]at he
      repeat' first|exact k9|refine k2 ?_|apply kA|apply kI;intro hc|refine k8 ?_|apply kL;intro hl
      all_goals try exact⟨⟨ga,by simp only[List.length_append,List.length_cons,List.length_nil];omega⟩⟩
      apply kCt [1,3,4] [];conv=>whnf
      obtain⟨q1,q2⟩:=hfin (w++(⟨(bl t.nodes[k.toNat]).toArray⟩:ByteArray).data.toList) (by rw[he];simp only[List.append_assoc];try rfl);exact ih _ _ _ _ q1 q2 rfl rfl (bl2 (h:=G.h) ((w++(⟨(bl t.nodes[k.toNat]).toArray⟩:ByteArray).data.toList).map byR) (hrow _ rfl))
     |true=>
      simp only[if_true,if_false,List.nil_append]at he
      repeat' first|exact k9|refine k2 ?_|apply kA|apply kI;intro hc|refine k8 ?_|apply kL;intro hl
      all_goals try exact⟨⟨ga,by simp only[List.length_append,List.length_cons,List.length_nil];omega⟩⟩
      apply kCt [1,3,4] [];conv=>whnf
      obtain⟨q1,q2⟩:=hfin (w++[UInt8.ofNat (Int.toNat 40)]++(⟨(bl t.nodes[k.toNat]).toArray⟩:ByteArray).data.toList) (by rw[he];simp only[List.append_assoc];try rfl);exact ih _ _ _ _ q1 q2 rfl rfl (bl2 (h:=G.h) ((w++[UInt8.ofNat (Int.toNat 40)]++(⟨(bl t.nodes[k.toNat]).toArray⟩:ByteArray).data.toList).map byR) (hrow _ rfl))
    ·have he:=Bc hR.kok h0 hkn (b:=b) hj0 hjk rfl c2;have hj0':(0:Int)<(j:Int):=by omega
     repeat' first|exact k9|refine k2 ?_|apply kA|apply kI;intro hc|(((refine Em (Om rfl rfl rfl rfl rfl rfl rfl rfl rfl rfl) f1.1 ?_))<;>conv=>whnf)|refine k8 ?_|apply kL;intro hl
     apply kCt [1,3,4] [];conv=>whnf
     obtain⟨q1,q2⟩:=hfin (w++(⟨(dm t.nodes[k.toNat].kind).toArray⟩:ByteArray).data.toList) (by rw[he];simp only[List.append_assoc];try rfl);exact ih _ _ _ _ q1 q2 rfl rfl (bl2 (h:=G.h) ((w++(⟨(dm t.nodes[k.toNat].kind).toArray⟩:ByteArray).data.toList).map byR) (hrow _ rfl))
   ·have hjk:(t.nodes[k.toNat]).kids.length=j:=by omega
    have hfin:∀w',w'=w++cO t.nodes (k,j,b)→S≠[]→(let z:List UInt8×List Opn:=(w',S)
      gu t.nodes z.2<gu t.nodes (S++[(k,j,b)])∧(z.2≠[]∧(∀o∈z.2,0≤o.1∧∃h:o.1.toNat<t.nodes.length,o.2.1≤(t.nodes[o.1.toNat]'h).kids.length)∧z.1++oA t.nodes z.2=T∧gu t.nodes z.2≤300000)):=by
     intro w' hw' hS;have:=yh t.nodes (k,j,b);refine⟨by rw[gS];dsimp only;omega,hS,hinS,?_,by dsimp only;omega⟩;dsimp only;rw[hw',List.append_assoc,hwT]
    have hend:S=[]→w++cO t.nodes (k,j,b)=T:=fun e=>by
     rw[←hwT,e];simp[oA]
    have htk:=EE opR S (k,j,b);have gf:(0≤t.nodes[k.toNat].kind∧t.nodes[k.toNat].kind≤9)∧t.nodes[k.toNat].wf:=⟨f1.1,f2⟩
    rcases Nat.eq_zero_or_pos j with hj0|hj0
    ·subst hj0;have he:=vn h0 hkn (b:=b) hjk
     cases b with
     |false=>
      simp only[Bool.false_eq_true,if_true,if_false,List.nil_append,List.append_nil]at he;have hW:w++(⟨(bl t.nodes[k.toNat]).toArray⟩:ByteArray).data.toList++(⟨(bV t.nodes[k.toNat]).toArray⟩:ByteArray).data.toList=w++cO t.nodes (k,0,false):=by rw[he];simp only[List.append_assoc];try rfl
      rcases bQ S with rfl|⟨S',s',rfl⟩
      ·rw[hend rfl]at hW
       repeat' first|exact k9|refine k2 ?_|apply kA|apply kI;intro hc|refine k8 ?_|apply kL;intro hl
       all_goals first
        |(rw[hW];exact⟨⟨hTn,by omega⟩⟩)
        |(rw[hW];exact aq.s rfl rfl)
        |exact⟨⟨gb,by simp only[List.length_append,List.length_cons,List.length_nil];omega⟩⟩
        |exact⟨⟨ga,by simp only[List.length_append,List.length_cons,List.length_nil];omega⟩⟩
      ·simp only[List.length_append,List.length_cons,List.length_nil]at hsl
       repeat' first|exact k9|refine k2 ?_|apply kA|apply kI;intro hc|refine k8 ?_|apply kL;intro hl
       all_goals try exact⟨⟨gb,by simp only[List.length_append,List.length_cons,List.length_nil];omega⟩⟩
       refine Stp.ko 4 226 3 (by rfl) (by rfl) htk ?_;apply kCt [1,3,4] [];conv=>whnf
       obtain⟨q1,q2⟩:=hfin _ hW (by simp);exact ih _ _ _ _ q1 q2 rfl rfl rfl
     |true=>
      simp only[if_true,if_false,List.nil_append,List.append_nil]at he;have hW:w++[UInt8.ofNat (Int.toNat 40)]++(⟨(bl t.nodes[k.toNat]).toArray⟩:ByteArray).data.toList++(⟨(bV t.nodes[k.toNat]).toArray⟩:ByteArray).data.toList++[UInt8.ofNat (Int.toNat 41)]=w++cO t.nodes (k,0,true):=by rw[he];simp only[List.append_assoc];try rfl
      rcases bQ S with rfl|⟨S',s',rfl⟩
      ·rw[hend rfl]at hW
       repeat' first|exact k9|refine k2 ?_|apply kA|apply kI;intro hc|refine k8 ?_|apply kL;intro hl
       all_goals first
        |(rw[hW];exact⟨⟨hTn,by omega⟩⟩)
        |(rw[hW];exact aq.s rfl rfl)
        |exact⟨⟨gb,by simp only[List.length_append,List.length_cons,List.length_nil];omega⟩⟩
        |exact⟨⟨ga,by simp only[List.length_append,List.length_cons,List.length_nil];omega⟩⟩
      ·simp only[List.length_append,List.length_cons,List.length_nil]at hsl
       repeat' first|exact k9|refine k2 ?_|apply kA|apply kI;intro hc|refine k8 ?_|apply kL;intro hl
       all_goals try exact⟨⟨gb,by simp only[List.length_append,List.length_cons,List.length_nil];omega⟩⟩
       refine Stp.ko 4 226 3 (by rfl) (by rfl) htk ?_;apply kCt [1,3,4] [];conv=>whnf
       obtain⟨q1,q2⟩:=hfin _ hW (by simp);exact ih _ _ _ _ q1 q2 rfl rfl rfl
    ·have he:=EU h0 hkn (b:=b) hj0 hjk;have hj0':(0:Int)<(j:Int):=by omega
     cases b with
     |false=>
      simp only[Bool.false_eq_true,if_true,if_false,List.nil_append,List.append_nil]at he;have hW:w++(⟨(bV t.nodes[k.toNat]).toArray⟩:ByteArray).data.toList=w++cO t.nodes (k,j,false):=by rw[he];(try simp only[List.append_assoc]);(try rfl)
      rcases bQ S with rfl|⟨S',s',rfl⟩
      ·rw[hend rfl]at hW
       repeat' first|exact k9|refine k2 ?_|apply kA|apply kI;intro hc|refine k8 ?_|apply kL;intro hl
       all_goals first
        |(rw[hW];exact⟨⟨hTn,by omega⟩⟩)
        |(rw[hW];exact aq.s rfl rfl)
        |exact⟨⟨gb,by simp only[List.length_append,List.length_cons,List.length_nil];omega⟩⟩
        |exact⟨⟨ga,by simp only[List.length_append,List.length_cons,List.length_nil];omega⟩⟩
      ·simp only[List.length_append,List.length_cons,List.length_nil]at hsl
       repeat' first|exact k9|refine k2 ?_|apply kA|apply kI;intro hc|refine k8 ?_|apply kL;intro hl
       all_goals try exact⟨⟨gb,by simp only[List.length_append,List.length_cons,List.length_nil];omega⟩⟩
       refine Stp.ko 4 226 3 (by rfl) (by rfl) htk ?_;apply kCt [1,3,4] [];conv=>whnf
       obtain⟨q1,q2⟩:=hfin _ hW (by simp);exact ih _ _ _ _ q1 q2 rfl rfl rfl
     |true=>
      simp only[if_true,if_false,List.nil_append,List.append_nil]at he;have hW:w++(⟨(bV t.nodes[k.toNat]).toArray⟩:ByteArray).data.toList++[UInt8.ofNat (Int.toNat 41)]=w++cO t.nodes (k,j,true):=by rw[he];(try simp only[List.append_assoc]);(try rfl)
      rcases bQ S with rfl|⟨S',s',rfl⟩
      ·rw[hend rfl]at hW
       repeat' first|exact k9|refine k2 ?_|apply kA|apply kI;intro hc|refine k8 ?_|apply kL;intro hl
       all_goals first
        |(rw[hW];exact⟨⟨hTn,by omega⟩⟩)
        |(rw[hW];exact aq.s rfl rfl)
        |exact⟨⟨gb,by simp only[List.length_append,List.length_cons,List.length_nil];omega⟩⟩
        |exact⟨⟨ga,by simp only[List.length_append,List.length_cons,List.length_nil];omega⟩⟩
      ·simp only[List.length_append,List.length_cons,List.length_nil]at hsl
       repeat' first|exact k9|refine k2 ?_|apply kA|apply kI;intro hc|refine k8 ?_|apply kL;intro hl
       all_goals try exact⟨⟨gb,by simp only[List.length_append,List.length_cons,List.length_nil];omega⟩⟩
       refine Stp.ko 4 226 3 (by rfl) (by rfl) htk ?_;apply kCt [1,3,4] [];conv=>whnf
       obtain⟨q1,q2⟩:=hfin _ hW (by simp);exact ih _ _ _ _ q1 q2 rfl rfl rfl
  ·have hj0:(t.nodes[t.root.toNat]).kids.length=0:=by omega
   have e:=vn hr0 hrn (b:=false) hj0;rw[←hTe]at e;simp only[Bool.false_eq_true,if_false,List.nil_append,List.append_nil]at e;have g1:([]++(⟨(bl t.nodes[t.root.toNat]).toArray⟩:ByteArray).data.toList).length≤1000000000:=by simp;omega
   have g2:(⟨(bl t.nodes[t.root.toNat]).toArray⟩:ByteArray).size≤1000000000:=by show(bl t.nodes[t.root.toNat]).toArray.size≤_;simp;omega
   have g3:(⟨(bV t.nodes[t.root.toNat]).toArray⟩:ByteArray).size≤1000000000:=by show(bV t.nodes[t.root.toNat]).toArray.size≤_;simp;omega
   have g4:[]++(⟨(bl t.nodes[t.root.toNat]).toArray⟩:ByteArray).data.toList++(⟨(bV t.nodes[t.root.toNat]).toArray⟩:ByteArray).data.toList=T:=e.symm;have g5:T.length≤1000000000:=by omega
   refine kf rfl rfl ?_;repeat' first|exact k9|refine k2 ?_|apply kA|apply kI;intro hc|refine k8 ?_|apply kL;intro hl
   ·exact⟨⟨f1.1,f2⟩⟩
   ·rw[g4];exact⟨⟨hTn,g5⟩⟩
   ·rw[g4];exact aq.s rfl rfl
 ·have e:iw t=[]:=by rw[iw,if_neg hr]
  have hr:au t=false:=by simpa using hr
  rw[e];refine kf rfl rfl ?_;repeat' (first|exact k9|refine k2 ?_|apply kA|apply kI;intro hc|refine k8 ?_|apply kL;intro hl)⟩
end Go.Km
end
section
namespace Go.aa
open Go
structure Dfn where
 name:ByteArray
 body:Tre
deriving DecidableEq
structure Dfn.wf(d:Dfn):Prop where
 name:d.name.size≤140737488355328
 body:d.body.wf
def fQ(d:Dfn):List UInt8:=if iw d.body=[]∨gE d.name=false then[]else d.name.data.toList++[32,60,45,32]++iw d.body++[10]
def Aa(g:List Dfn):List UInt8:=if(g.all fun d=>!decide (fQ d=[]))=true then g.flatMap fQ else[]
theorem vf{t:Tre}:(iw t).length≤3020*t.nodes.length:=by
 unfold iw
 split
 ·rename_i h;have hR:=ao h;have:=rW (foT t) (-1) true (xy hR)
  rwa [fa hR]at this
 ·simp
theorem GZ{s:ByteArray}(h:gE s=true):s.size≤32:=by
 simp only[gE,Bool.and_eq_true,decide_eq_true_eq]at h;exact h.1.1
theorem yr{d:Dfn}(h:d.body.nodes.length≤1024):(fQ d).length≤3100000:=by
 unfold fQ
 split
 ·simp
 ·rename_i hn;have h1:gE d.name=true:=by
   cases e:gE d.name with
   |true=>rfl
   |false=>exact(hn (.inr e)).elim
  have h2:=GZ h1;have h3:d.name.data.toList.length=d.name.size:=by rw[Array.length_toList];rfl
  have h4:=vf (t:=d.body);simp only[List.length_append,List.length_cons,List.length_nil];omega
end Go.aa
namespace Go.Km
open Go Go.Vc Go.Proofs Go.aa Go.Proofs.YtpbichnnflabdaaGreatDoor
set_option maxRecDepth 100000
set_option maxHeartbeats 0
abbrev rD(d:Dfn):List F:=[stF d.name,.sl (d.body.nodes.map a8),inF d.body.root]
instance:lb rD 3:=⟨fun _=>rfl⟩
abbrev cx(g:List Dfn):F:=.ag [.sl (g.map rD)]
instance(d:Dfn):C 152 [.ag (rD d)] (stF ⟨(fQ d).toArray⟩) true (d.wf∧d.body.nodes.length≤100000):=⟨fun h=>by
 obtain⟨hw,hl⟩:=h;have hn:=hw.name;have hb:=hw.body;have hp:d.body.wf∧d.body.nodes.length≤100000:=⟨hb,hl⟩
 have hsn:szS d.name≤140737488355328:=hn;have hst:=vf (t:=d.body);have ht0:(⟨(iw d.body).toArray⟩:ByteArray)=⟨#[]⟩↔iw d.body=[]:=⟨fun e=>by simpa using e,fun e=>by rw[e]⟩
 have key1:iw d.body=[]∨gE d.name=false→(⟨(fQ d).toArray⟩:ByteArray)=⟨#[]⟩:=fun e=>by rw[fQ,if_pos e]
 have key2:iw d.body≠[]→gE d.name=true→(⟨(fQ d).toArray⟩:ByteArray)=uU (uU (uU d.name ⟨#[32,60,45,32]⟩) ⟨(iw d.body).toArray⟩) ⟨#[10]⟩:=fun e1 e2=>by
  rw[fQ,if_neg (by rintro(h|h);exact e1 h;rw[e2]at h;cases h)];simp[uU]
 refine kf rfl rfl ?_;repeat' first|exact k9|refine k2 ?_|apply kA|apply kI;intro hc|refine k8 ?_|apply kL;intro hl
 ·exact aq.s (key1 (.inl (ht0.1 (by assumption)))).symm rfl
 ·exact⟨by simp only[pj,qw,List.length_cons,List.length_nil];omega⟩
 ·exact⟨by simp only[pj,qw,List.length_cons,List.length_nil];omega⟩
 ·exact⟨by simp only[pj,qw,List.length_cons,List.length_nil];omega⟩
 ·rename_i hc1;exact aq.s (key2 (fun e=>hc1.1 (ht0.2 e)) hc).symm rfl
 ·exact aq.s (key1 (.inr (by assumption))).symm rfl⟩
structure G0(g:List Dfn):Prop where
 wf:∀d∈g,d.wf
 len:∀d∈g,d.body.nodes.length≤1024
 n:g.length≤200
 pos:0<g.length
theorem zJ{g:List Dfn}(h:∀d∈g,d.body.nodes.length≤1024):(g.flatMap fQ).length≤3100000*g.length:=by
 induction g with
 |nil=>simp
 |cons d g ih=>
  have h1:=yr (h d (by simp));have h2:=ih fun x hx=>h x (by simp[hx])
  simp only[List.flatMap_cons,List.length_append,List.length_cons];omega
theorem vu{g:List Dfn}{i:Nat}(h:i<g.length):(g.take (i+1)).flatMap fQ=(g.take i).flatMap fQ++fQ g[i]:=by
 rw[List.take_succ_eq_append_getElem h,List.flatMap_append,List.flatMap_singleton]
instance(g:List Dfn):C 137 [cx g] (stF ⟨(Aa g).toArray⟩) true (G0 g):=⟨fun h=>by
 obtain⟨hw,hl,hn,hpos⟩:=h;have hd:∀(i:Nat) (h:i<g.length),g[i].wf∧g[i].body.nodes.length≤100000:=fun i h=>⟨hw _ (List.getElem_mem h),Nat.le_trans (hl _ (List.getElem_mem h)) (by decide)⟩
 have hdl:∀(i:Nat) (h:i<g.length),(⟨(fQ g[i]).toArray⟩:ByteArray).size≤1000000000:=fun i h=>by
  have:=yr (hl _ (List.getElem_mem h));show(fQ g[i]).toArray.size≤_
  simp;omega
 have he0:∀(i:Nat) (h:i<g.length),((⟨(fQ g[i]).toArray⟩:ByteArray)=⟨#[]⟩↔fQ g[i]=[]):=fun i h=>⟨fun e=>by simpa using e,fun e=>by rw[e]⟩
 have hbad:∀(i:Nat) (h:i<g.length),fQ g[i]=[]→(⟨(Aa g).toArray⟩:ByteArray)=⟨#[]⟩:=fun i h e=>by
  rw[Aa,if_neg];intro q;have:=List.all_eq_true.1 q _ (List.getElem_mem h);simp[e]at this
 have hpd:=hd 0 hpos;have hps:=hdl 0 hpos;have hfl:=zJ hl;have hll:=hl;refine kf rfl rfl ?_;repeat' first|exact k9|refine k2 ?_|apply kA|apply kI;intro hc|refine k8 ?_|apply kL;intro hl
 apply Stp.on
 repeat' first|exact k9|refine k2 ?_|apply kA|apply kI;intro hc|refine k8 ?_|apply kL;intro hl
 ·exact aq.s (hbad 0 hpos ((he0 0 hpos).1 (by assumption))).symm rfl
 have h0:=hc.1;apply kCt [3,8,9,10] [];conv=>whnf
 refine Lp.ind (fun z:Nat=>g.length-z) (fun z=>0<z∧z≤g.length∧∀(i:Nat) (h:i<g.length),i<z→fQ g[i]≠[]) (fun z=>[(10,InD z)]) (fun z=>[(1,.ro 0 5 1 (((g.take z).flatMap fQ).map byR))]) (fun _=>_) 1 ⟨by omega,hpos,?_⟩ rfl rfl ?_ ?_
 ·intro i h hi;obtain rfl:i=0:=by omega
  exact fun e=>h0 ((he0 0 hpos).2 e)
 ·have e1:(g.take 1).flatMap fQ=[]++(⟨(fQ g[0]).toArray⟩:ByteArray).data.toList:=by
   rw[vu hpos];simp
  rw[e1];rfl
 rintro G i ih ⟨hi0,hi,hok⟩
 have hlt:((g.take i).flatMap fQ).length≤3100000*g.length:=by
  have:=zJ (g:=g.take i) (fun x hx=>hll x (List.mem_of_mem_take hx));rw[List.length_take]at this;omega
 by_cases hx:i<g.length
 ·have hpd:=hd i hx;have hps:=hdl i hx;have hgl:((g.take i).flatMap fQ).length≤1000000000:=by omega
  repeat' first|exact k9|refine k2 ?_|apply kA|apply kI;intro hc|refine k8 ?_|apply kL;intro hl
  ·exact aq.s (hbad i hx ((he0 i hx).1 (by assumption))).symm rfl
  have h0:=hc.1;apply kCt [3,8,9,10] [];conv=>whnf
  refine ih (i+1) _ _ _ (by omega) ⟨by omega,by omega,fun j hj hji=>?_⟩ rfl rfl ?_
  ·by_cases hjj:j=i
   ·subst hjj;exact fun e=>h0 ((he0 j hj).2 e)
   ·exact hok j hj (by omega)
  ·rw[vu hx];rfl
 ·obtain rfl:i=g.length:=by omega
  rw[List.take_length]at *;have e:Aa g=g.flatMap fQ:=by
   rw[Aa,if_pos];refine List.all_eq_true.2 fun d hd=>?_
   obtain⟨i,hi,rfl⟩:=List.getElem_of_mem hd;simp[hok i hi hi]
  rw[e];have hne:g.flatMap fQ≠[]:=fun q=>hok 0 hpos hpos (List.flatMap_eq_nil_iff.1 q _ (List.getElem_mem hpos))
  repeat' first|exact k9|refine k2 ?_|apply kA|apply kI;intro hc|refine k8 ?_|apply kL;intro hl
  ·exact⟨⟨hne,by omega⟩⟩
  all_goals exact aq.s rfl rfl⟩
instance(g:List Dfn):C 110 [cx g] (inF ((Aa g).length:Int)) true (G0 g):=⟨fun h=>by
 refine kf rfl rfl ?_;repeat' first|exact k9|refine k2 ?_|apply kA|apply kI;intro hc|refine k8 ?_|apply kL;intro hl
 exact aq.n (by rw[qw]) rfl⟩
end Go.Km
end
section
namespace Go.aa
open Go
def bx(g:List Dfn)(s:ByteArray):Option Nat:=g.findIdx? fun d=>decide (d.name=s)
def oe(g:List Dfn)(s:ByteArray):Int:=match bx g s with
 |some i=>(i:Int)
 |none=>-1
def b8(g:List Dfn):Int:=(g.map fun d=>lh d.body).sum
def iL(g:List Dfn):Bool:=decide (64<g.length)||g.any (fun d=>!rG d.body)||decide (1024<b8 g)||decide (8192<(Aa g).length)
end Go.aa
namespace Go.Km
open Go Go.Vc Go.Proofs Go.aa Go.Proofs.YtpbichnnflabdaaGreatDoor
set_option maxRecDepth 100000
set_option maxHeartbeats 0
theorem A7{g:List Dfn}{s:ByteArray}{i:Nat}(h:∀(j:Nat) (hj:j<g.length),j<i→g[j].name≠s)(hi:g.length≤i):oe g s=-1:=by
 have e:bx g s=none:=by
  rw[bx,List.findIdx?_eq_none_iff];intro d hd;obtain⟨j,hj,rfl⟩:=List.getElem_of_mem hd;simpa using h j hj (by omega)
 rw[oe,e]
theorem EK{g:List Dfn}{s:ByteArray}{i:Nat}(h:∀(j:Nat) (hj:j<g.length),j<i→g[j].name≠s)(hi:i<g.length)(he:g[i].name=s):oe g s=(i:Int):=by
 have e:bx g s=some i:=by
  rw[bx,List.findIdx?_eq_some_iff_getElem];exact⟨hi,by simpa using he,fun j hj=>by simpa using h j (by omega) hj⟩
 rw[oe,e]
instance(g:List Dfn)(s:ByteArray):C 84 [cx g,stF s] (inF (oe g s)) true (g.length≤1000000):=⟨fun hn=>by
 refine kf rfl rfl ?_;repeat' first|exact k9|refine k2 ?_|apply kA|apply kI;intro hc|refine k8 ?_|apply kL;intro hl
 apply kCt [1,8,9,10] [];conv=>whnf
 refine Lp.ind (fun z:Nat=>g.length-z) (fun z=>z≤g.length∧∀(j:Nat) (hj:j<g.length),j<z→g[j].name≠s) (fun z=>[(10,InD z)]) (fun _=>[]) (fun _=>_) 0 ⟨Nat.zero_le _,fun j hj h=>by omega⟩ rfl rfl rfl ?_
 rintro G i ih ⟨hi,hne⟩
 by_cases hx:i<g.length
 ·repeat' first|exact k9|refine k2 ?_|apply kA|apply kI;intro hc|refine k8 ?_|apply kL;intro hl
  ·exact aq.n (EK hne hx (by assumption)).symm rfl
  have h0:=hc;apply kCt [1,8,9,10] [];conv=>whnf
  refine ih (i+1) _ _ _ (by omega) ⟨by omega,fun j hj hji=>?_⟩ rfl rfl rfl
  by_cases hjj:j=i
  ·subst hjj;exact h0
  ·exact hne j hj (by omega)
 ·repeat' first|exact k9|refine k2 ?_|apply kA|apply kI;intro hc|refine k8 ?_|apply kL;intro hl
  exact aq.n (A7 hne (by omega)).symm rfl⟩
theorem zU{t:Tre}(h:t.wf):0≤lh t∧lh t≤2000000000000:=by
 have:=h.len;simp only[bY]at this;unfold lh
 split<;>omega
theorem zS{g:List Dfn}{i:Nat}(h:i<g.length):b8 (g.take (i+1))=b8 (g.take i)+lh g[i].body:=by
 rw[List.take_succ_eq_append_getElem h,b8,b8,List.map_append,List.sum_append];simp
theorem mb:∀{g:List Dfn},(∀d∈g,d.wf)→0≤b8 g∧b8 g≤2000000000000*(g.length:Int)
 |[],_=>by simp[b8]
 |d::g,h=>by
  have h1:=zU (h d (by simp)).body;have h2:=mb (g:=g) fun x hx=>h x (by simp[hx])
  simp only[b8,List.map_cons,List.sum_cons,List.length_cons]at h2 ⊢;omega
instance(g:List Dfn):C 15 [cx g] (inF (b8 g)) true (g.length≤1000∧∀d∈g,d.wf):=⟨fun h=>by
 obtain⟨hn,hw⟩:=h;refine kf rfl rfl ?_;repeat' first|exact k9|refine k2 ?_|apply kA|apply kI;intro hc|refine k8 ?_|apply kL;intro hl
 apply kCt [3,7,8,9] [];conv=>whnf
 refine Lp.ind (fun z:Nat=>g.length-z) (fun z=>z≤g.length) (fun z=>[(9,InD z),(3,.fr (inF (b8 (g.take z))))]) (fun _=>[]) (fun _=>_) 0 (Nat.zero_le _) rfl rfl rfl ?_
 rintro G i ih hi
 have hb:=mb (g:=g.take i) fun d hd=>hw d (List.mem_of_mem_take hd)
 rw[List.length_take]at hb
 by_cases hx:i<g.length
 ·have hwi:=(hw _ (List.getElem_mem hx)).body;have hs:=zU hwi
  repeat' first|exact k9|refine k2 ?_|apply kA|apply kI;intro hc|refine k8 ?_|apply kL;intro hl
  apply kCt [3,7,8,9] [];conv=>whnf
  refine ih (i+1) _ _ _ (by omega) (by omega) rfl ?_ rfl;rw[zS hx];rfl
 ·obtain rfl:i=g.length:=by omega
  rw[List.take_length]
  repeat' (first|exact k9|refine k2 ?_|apply kA|apply kI;intro hc|refine k8 ?_|apply kL;intro hl)⟩
instance(g:List Dfn):C 64 [cx g] (boF (iL g)) true (g.length≤1000∧0<g.length∧∀d∈g,d.wf):=⟨fun h=>by
 obtain⟨hn,hpos,hw⟩:=h
 by_cases h64:64<g.length
 ·have e:iL g=true:=by simp[iL,h64]
  rw[e];refine kf rfl rfl ?_;repeat' first|exact k9|refine k2 ?_|apply kA|apply kI;intro hc|refine k8 ?_|apply kL;intro hl
 have hbad:∀(i:Nat) (h:i<g.length),rG g[i].body=false→iL g=true:=fun i h e=>by
  have:(g.any fun d=>!rG d.body)=true:=List.any_eq_true.2 ⟨_,List.getElem_mem h,by simp[e]⟩;simp[iL,this]
 refine kf rfl rfl ?_;repeat' first|exact k9|refine k2 ?_|apply kA|apply kI;intro hc|refine k8 ?_|apply kL;intro hl
 apply kCt [1,10,11,12] [];conv=>whnf
 refine Lp.ind (fun z:Nat=>g.length-z) (fun z=>z≤g.length∧∀(j:Nat) (hj:j<g.length),j<z→rG g[j].body=true) (fun z=>[(12,InD z)]) (fun _=>[]) (fun _=>_) 0 ⟨Nat.zero_le _,fun j hj h=>by omega⟩ rfl rfl rfl ?_
 rintro G i ih ⟨hi,hok⟩
 by_cases hx:i<g.length
 ·have hwi:=(hw _ (List.getElem_mem hx)).body
  cases hm:rG g[i].body with
  |true=>
   repeat' first|exact k9|refine k2 ?_|apply kA|apply kI;intro hc|refine k8 ?_|apply kL;intro hl
   apply kCt [1,10,11,12] [];conv=>whnf
   refine ih (i+1) _ _ _ (by omega) ⟨by omega,fun j hj hji=>?_⟩ rfl rfl rfl
   by_cases hjj:j=i
   ·subst hjj;exact hm
   ·exact hok j hj (by omega)
  |false=>
   rw[hbad i hx hm]
   repeat' first|exact k9|refine k2 ?_|apply kA|apply kI;intro hc|refine k8 ?_|apply kL;intro hl
 ·obtain rfl:i=g.length:=by omega
  have hall:∀d∈g,rG d.body=true:=fun d hd=>by
   obtain⟨j,hj,rfl⟩:=List.getElem_of_mem hd;exact hok j hj hj
  have hany:(g.any fun d=>!rG d.body)=false:=by
   rw[List.any_eq_false];intro d hd;simp[hall d hd]
  have hgo:G0 g:=⟨hw,fun d hd=>by
   have:=hall d hd;simp only[rG,Bool.and_eq_true,decide_eq_true_eq]at this;exact this.1.1,by omega,hpos⟩
  have hp2:g.length≤1000∧∀d∈g,d.wf:=⟨hn,hw⟩
  have e:iL g=(decide (1024<b8 g)||decide (8192<(Aa g).length)):=by simp[iL,hany,h64]
  rw[e]
  repeat' first|exact k9|refine k2 ?_|apply kA|apply kI;intro hc|refine k8 ?_|apply kL;intro hl
  ·exact aq.b (by simp[*]) rfl
  ·refine aq.b ?_ rfl;have h1:decide (1024<b8 g)=false:=decide_eq_false (by omega);rw[nS,h1,Bool.false_or];exact decide_eq_decide.2 (by omega)⟩
end Go.Km
end
section
namespace Go.aa
open Go
def vi(g:List Dfn):Bool:=!g.isEmpty&&g.all fun d=>gE d.name&&fP d.body
def fq(g:List Dfn):Bool:=!decide ((g.map (·.name)).Nodup)
def zh(g:List Dfn):Bool:=g.any fun d=>d.body.nodes.any fun n=>decide (n.kind=3)&&(bx g n.text).isNone
def cz(g:List Dfn):Int:=if vi g=false then 4 else if iL g=true then 40 else if fq g=true then 6 else if zh g=true then 41 else 0
end Go.aa
namespace Go.Km
open Go Go.Vc Go.Proofs Go.aa Go.Proofs.YtpbichnnflabdaaGreatDoor
set_option maxRecDepth 100000
set_option maxHeartbeats 0
abbrev plR(p:Dfn×Nat):List F:=[stF p.1.name,inF (p.2:Int)]
theorem Ag{l:List Dfn}{s:ByteArray}:bx l s=none↔∀d∈l,d.name≠s:=by
 rw[bx,List.findIdx?_eq_none_iff];simp
theorem fv{l:List Dfn}{s:ByteArray}{j:Nat}(h:bx l s=some j):∃h:j<l.length,l[j].name=s:=by
 rw[bx,List.findIdx?_eq_some_iff_getElem]at h;obtain⟨h1,h2,_⟩:=h;exact⟨h1,by simpa using h2⟩
theorem vE{g:List Dfn}{i j:Nat}(hi:i<g.length)(h:bx (g.take i) g[i].name=some j):fq g=true:=by
 obtain⟨h1,h2⟩:=fv h;rw[List.length_take]at h1;rw[List.getElem_take]at h2;rw[fq,Bool.not_eq_true',decide_eq_false_iff_not];intro hn;refine List.pairwise_iff_getElem.1 hn j i (by simp;omega) (by simpa using hi) (by omega) ?_;simpa using h2
theorem Bh{g:List Dfn}{i:Nat}(hi:i<g.length)(hn:((g.take i).map (·.name)).Nodup)(h:bx (g.take i) g[i].name=none):((g.take (i+1)).map (·.name)).Nodup:=by
 rw[List.take_succ_eq_append_getElem hi,List.map_append,List.nodup_append];refine⟨hn,by simp,?_⟩;intro a ha b hb;obtain⟨d,hd,rfl⟩:=List.mem_map.1 ha;simp at hb;subst hb;exact Ag.1 h d hd
theorem dP:∀(l:List Dfn) (n k:Nat) (s:ByteArray),gY (.vl (.string s)) ((l.zipIdx n).map plR) k=some (match bx l s with
  |some j=>some (k+j,inF ((n+j:Nat):Int))
  |none=>none)
 |[],_,_,_=>rfl
 |a::l,n,k,s=>by
  have ih:=dP l (n+1) (k+1) s;rw[List.zipIdx_cons,List.map_cons];show(match yg (.vl (.string s)) (stF a.name)with
   |some true=>some (some (k,inF (n:Int)))
   |some false=>gY (.vl (.string s)) ((l.zipIdx (n+1)).map plR) (k+1)
   |none=>none)=_
  rw[show yg (.vl (.string s)) (stF a.name)=some (eqL s.data.toList a.name.data.toList)from rfl,vx,ih];rw[show bx (a::l) s=(if decide (a.name=s)then some 0 else(bx l s).map fun i=>i+1)from List.findIdx?_cons ..]
  by_cases e:s=a.name
  ·subst e;simp
  ·have e':¬a.name=s:=fun q=>e q.symm
   rw[decide_eq_false e,decide_eq_false e'];simp only[Bool.false_eq_true,if_false]
   cases bx l s with
   |none=>rfl
   |some j=>
    simp only[Option.map_some];rw[show k+1+j=k+(j+1)by omega,show n+1+j=n+(j+1)by omega]
instance(g:List Dfn):C 31 [cx g] (inF (cz g)) true (g.length≤1000∧∀d∈g,d.wf):=⟨fun h=>by
 obtain⟨hn,hw⟩:=h
 by_cases hp:0<g.length
 ·refine kf rfl rfl ?_;repeat' first|exact k9|refine k2 ?_|apply kA|apply kI;intro hc|refine k8 ?_|apply kL;intro hl
  apply kCt [1,2,19,20,21] [];conv=>whnf
  refine Lp.ind (fun z:Nat=>g.length-z) (fun z=>z≤g.length∧∀(j:Nat) (hj:j<g.length),j<z→(gE g[j].name&&fP g[j].body)=true) (fun z=>[(21,InD z)]) (fun _=>[]) (fun _=>_) 0 ⟨Nat.zero_le _,fun j hj h=>by omega⟩ rfl rfl rfl ?_
  rintro G i ih ⟨hi,hok⟩
  have hne:g.isEmpty=false:=by cases g<;>simp at hp ⊢
  by_cases hx:i<g.length
  ·have hwi:=hw _ (List.getElem_mem hx);have hwb:=hwi.body;have hwn:=hwi.name;have hbad:(gE g[i].name&&fP g[i].body)=false→cz g=4:=fun e=>by
    have:vi g=false:=by
     rw[vi,Bool.and_eq_false_iff];refine .inr (Bool.eq_false_iff.2 fun q=>?_);have:=List.all_eq_true.1 q _ (List.getElem_mem hx);rw[e]at this
     cases this
    rw[cz,if_pos this]
   repeat' first|exact k9|refine k2 ?_|apply kA|apply kI;intro hc|refine k8 ?_|apply kL;intro hl
   ·rename_i q1 q2;have q3:(gE g[i].name&&fP g[i].body)=true:=by simp[*]
    apply kCt [1,2,19,20,21] [];conv=>whnf
    refine ih (i+1) _ _ _ (by omega) ⟨by omega,fun j hj hji=>?_⟩ rfl rfl rfl
    by_cases hjj:j=i
    ·subst hjj;exact q3
    ·exact hok j hj (by omega)
   ·exact aq.n (hbad (by simp[*])).symm rfl
   ·exact aq.n (hbad (by simp[*])).symm rfl
  ·obtain rfl:i=g.length:=by omega
   have hform:vi g=true:=by
    rw[vi,hne,Bool.not_false,Bool.true_and];refine List.all_eq_true.2 fun d hd=>?_
    obtain⟨j,hj,rfl⟩:=List.getElem_of_mem hd;exact hok j hj hj
   have hp3:g.length≤1000∧0<g.length∧∀d∈g,d.wf:=⟨hn,hp,hw⟩
   clear ih
   repeat' first|exact k9|refine k2 ?_|apply kA|apply kI;intro hc|refine k8 ?_|apply kL;intro hl
   ·exact aq.n (by rw[cz,hform,if_neg (by decide),if_pos (by assumption)]) rfl
   have hlarge:iL g=false:=hc;apply kCt [1,2,5,43,44,45] [];conv=>whnf
   clear hc;refine Lp.ind (fun z:Nat=>g.length-z) (fun z=>z≤g.length∧((g.take z).map (·.name)).Nodup) (fun z=>[(45,InD z)]) (fun z=>[(3,.mp 0 (((g.take z).zipIdx).map plR))]) (fun _=>_) 0 ⟨Nat.zero_le _,by simp⟩ rfl rfl rfl ?_
   rintro G i ih ⟨hi,hnd⟩
   by_cases hx:i<g.length
   ·cases hfi:bx (g.take i) g[i].name with
    |some j=>
     have hf:(gY (.vl (.string g[i].name)) ((g.take i).zipIdx.map plR) 0).toList[0]?=some (some (j,inF (j:Int))):=by
      rw[dP,hfi];simp
     repeat' first|exact k9|refine k2 ?_|apply kA|apply kI;intro hc|refine k8 ?_|apply kL;intro hl
     exact aq.n (by rw[cz,hform,if_neg (by decide),hlarge,if_neg (by decide),if_pos (vE hx hfi)]) rfl
    |none=>
     have hf:(gY (.vl (.string g[i].name)) ((g.take i).zipIdx.map plR) 0).toList[0]?=some none:=by
      rw[dP,hfi];rfl
     repeat' first|exact k9|refine k2 ?_|apply kA|apply kI;intro hc|refine k8 ?_|apply kL;intro hl
     apply kCt [1,2,5,43,44,45] [];conv=>whnf
     refine ih (i+1) _ _ _ (by omega) ⟨by omega,Bh hx hnd hfi⟩ rfl rfl ?_;rw[List.take_succ_eq_append_getElem hx,List.zipIdx_append,List.map_append];have el:(g.take i).length=i:=by rw[List.length_take];omega
     simp only[List.zipIdx_singleton,el,Nat.zero_add,List.map_singleton];rfl
   ·obtain rfl:i=g.length:=by omega
    rw[List.take_length]at *;clear ih;have htw:fq g=false:=by rw[fq,decide_eq_true hnd];rfl
    have hlook:∀s,(gY (.vl (.string s)) (g.zipIdx.map plR) 0).toList[0]?=some (match bx g s with
      |some j=>some (j,inF (j:Int))
      |none=>none):=fun s=>by
     rw[dP]
     cases bx g s<;>simp
    repeat' first|exact k9|refine k2 ?_|apply kA|apply kI;intro hc|refine k8 ?_|apply kL;intro hl
    apply kCt [0,8,9,10] [1,2,5];conv=>whnf
    clear hc;refine Lp.ind (fun z:Nat=>g.length-z) (fun z=>z≤g.length∧∀(j:Nat) (hj:j<g.length),j<z→∀n∈g[j].body.nodes,(decide (n.kind=3)&&(bx g n.text).isNone)=false) (fun z=>[(10,InD z)]) (fun _=>[]) (fun _=>_) 0 ⟨Nat.zero_le _,fun j hj h=>by omega⟩ rfl rfl rfl ?_
    rintro G i ih ⟨hi,hin⟩
    by_cases hx:i<g.length
    ·have hwi:=hw _ (List.getElem_mem hx);obtain⟨ns,hns⟩:=exEq (g[i].body.nodes);have hnl:ns.length≤2000000000000:=by rw[hns];exact Nat.le_trans hwi.body.len (by decide)
     repeat' first|exact k9|refine k2 ?_|apply kA|apply kI;intro hc|refine k8 ?_|apply kL;intro hl
     apply kCt [0,3,8,9,10,17,18,19] [1,2,5];conv=>whnf
     rw[←hns];refine Lp.ind (fun z:Nat=>ns.length-z) (fun z=>z≤ns.length∧∀(j:Nat) (hj:j<ns.length),j<z→(decide (ns[j].kind=3)&&(bx g ns[j].text).isNone)=false) (fun z=>[(19,InD z)]) (fun _=>[]) (fun _=>_) 0 ⟨Nat.zero_le _,fun j hj h=>by omega⟩ rfl rfl rfl ?_
     rintro G' k ih' ⟨hk,hkn⟩
     by_cases hy:k<ns.length
     ·have hlk:=hlook ns[k].text
      by_cases h3:ns[k].kind=3
      ·cases hfi:bx g ns[k].text with
       |some j=>
        rw[hfi]at hlk;dsimp only at hlk
        repeat' first|exact k9|refine k2 ?_|apply kA|apply kI;intro hc|refine k8 ?_|apply kL;intro hl
        apply kCt [0,3,8,9,10,17,18,19] [1,2,5];conv=>whnf
        refine ih' (k+1) _ _ _ (by omega) ⟨by omega,fun j hj hjk=>?_⟩ rfl rfl rfl
        by_cases hjj:j=k
        ·subst hjj;simp[hfi]
        ·exact hkn j hj (by omega)
       |none=>
        rw[hfi]at hlk;dsimp only at hlk;have hlost:zh g=true:=List.any_eq_true.2 ⟨g[i],List.getElem_mem hx,List.any_eq_true.2 ⟨ns[k],by rw[←hns];exact List.getElem_mem hy,by simp[h3,hfi]⟩⟩
        repeat' first|exact k9|refine k2 ?_|apply kA|apply kI;intro hc|refine k8 ?_|apply kL;intro hl
        exact aq.n (by rw[cz,hform,if_neg (by decide),hlarge,if_neg (by decide),htw,if_neg (by decide),if_pos hlost]) rfl
      ·repeat' first|exact k9|refine k2 ?_|apply kA|apply kI;intro hc|refine k8 ?_|apply kL;intro hl
       apply kCt [0,3,8,9,10,17,18,19] [1,2,5];conv=>whnf
       refine ih' (k+1) _ _ _ (by omega) ⟨by omega,fun j hj hjk=>?_⟩ rfl rfl rfl
       by_cases hjj:j=k
       ·subst hjj;simp[h3]
       ·exact hkn j hj (by omega)
     ·obtain rfl:k=ns.length:=by omega
      repeat' first|exact k9|refine k2 ?_|apply kA|apply kI;intro hc|refine k8 ?_|apply kL;intro hl
      apply kCt [0,8,9,10] [1,2,5];conv=>whnf
      refine ih (i+1) _ _ _ (by omega) ⟨by omega,fun j hj hji n hn=>?_⟩ rfl rfl rfl
      by_cases hjj:j=i
      ·subst hjj;rw[←hns]at hn;obtain⟨q,hq,rfl⟩:=List.getElem_of_mem hn;exact hkn q hq hq
      ·exact hin j hj (by omega) n hn
    ·obtain rfl:i=g.length:=by omega
     clear ih;have hlost:zh g=false:=by
      rw[zh,List.any_eq_false];intro d hd;obtain⟨j,hj,rfl⟩:=List.getElem_of_mem hd;rw[Bool.not_eq_true,List.any_eq_false];intro n hn;rw[hin j hj hj n hn]
      decide
     repeat' first|exact k9|refine k2 ?_|apply kA|apply kI;intro hc|refine k8 ?_|apply kL;intro hl
     exact aq.n (by rw[cz,hform,if_neg (by decide),hlarge,if_neg (by decide),htw,if_neg (by decide),hlost,if_neg (by decide)]) rfl
 ·obtain rfl:g=[]:=List.eq_nil_of_length_eq_zero (by omega);refine kf rfl rfl ?_;repeat' first|exact k9|refine k2 ?_|apply kA|apply kI;intro hc|refine k8 ?_|apply kL;intro hl
  exact aq.n rfl rfl⟩
end Go.Km
end
section
namespace Go.aa
open Go
structure Fl where
 zero:Bool
 some:Bool
 fail:Bool
deriving DecidableEq
def Fl.bot:Fl:=⟨false,false,false⟩
def Fl.succ(f:Fl):Bool:=f.zero||f.some
structure Fl.le(a b:Fl):Prop where
 zero:a.zero=true→b.zero=true
 some:a.some=true→b.some=true
 fail:a.fail=true→b.fail=true
def Fl.cnt(f:Fl):Nat:=f.zero.toNat+f.some.toNat+f.fail.toNat
theorem Fl.le.refl(a:Fl):a.le a:=⟨id,id,id⟩
theorem Fl.le.trans{a b c:Fl}(h:a.le b)(k:b.le c):a.le c:=⟨fun x=>k.zero (h.zero x),fun x=>k.some (h.some x),fun x=>k.fail (h.fail x)⟩
theorem Fl.bot_le(a:Fl):Fl.bot.le a:=⟨nofun,nofun,nofun⟩
theorem Fl.le.Lf{a b:Fl}(h:a.le b)(k:b.le a):a=b:=by
 obtain⟨a1,a2,a3⟩:=a;obtain⟨b1,b2,b3⟩:=b;obtain⟨h1,h2,h3⟩:=h;obtain⟨k1,k2,k3⟩:=k
 revert h1 h2 h3 k1 k2 k3
 cases a1<;>cases a2<;>cases a3<;>cases b1<;>cases b2<;>cases b3<;>simp
theorem Fl.le.cnt{a b:Fl}(h:a.le b):a.cnt≤b.cnt∧(a≠b→a.cnt<b.cnt):=by
 obtain⟨a1,a2,a3⟩:=a;obtain⟨b1,b2,b3⟩:=b;obtain⟨h1,h2,h3⟩:=h
 revert h1 h2 h3
 cases a1<;>cases a2<;>cases a3<;>cases b1<;>cases b2<;>cases b3<;>simp[Fl.cnt]
theorem Fl.LV(a:Fl):a.cnt≤3:=by
 obtain⟨a1,a2,a3⟩:=a
 cases a1<;>cases a2<;>cases a3<;>simp[Fl.cnt]
def iO(p:Fl×Bool)(k:Fl):Fl×Bool:=(⟨p.1.zero&&k.zero,p.1.some||k.some,p.1.fail||(p.2&&k.fail)⟩,p.2&&k.succ)
def GV(l:List Fl):Fl×Bool:=l.foldl iO (⟨true,false,false⟩,true)
def Cu(l:List Fl):Fl:=⟨(GV l).1.zero,(GV l).1.some&&(GV l).2,(GV l).1.fail⟩
def rM(f k:Fl):Fl:=⟨f.zero||(f.fail&&k.zero),f.some||(f.fail&&k.some),f.fail&&k.fail⟩
def Hs(l:List Fl):Fl:=l.foldl rM ⟨false,false,true⟩
def hd0(l:List Fl):Fl:=l.getD 0 .bot
def dX(n:Nod)(l:List Fl)(rule:Fl):Fl:=
 if n.kind=0 then⟨true,false,false⟩
 else if n.kind=1 then⟨false,!decide (n.set=.zero),true⟩
 else if n.kind=2 then⟨false,true,true⟩
 else if n.kind=3 then rule
 else if n.kind=4 then Cu l
 else if n.kind=5 then Hs l
 else if n.kind=6 then(if n.max=0 then⟨true,false,false⟩else⟨(hd0 l).zero||(decide (n.min=0)&&(hd0 l).fail),(hd0 l).some,decide (0<n.min)&&(hd0 l).fail⟩)
 else if n.kind=7 then⟨(hd0 l).succ,false,(hd0 l).fail⟩
 else if n.kind=8 then⟨(hd0 l).fail,false,(hd0 l).succ⟩
 else hd0 l
def dt(g:List Dfn)(l:List Fl)(s:ByteArray):Fl:=match bx g s with
 |some i=>l.getD i .bot
 |none=>.bot
def aS(out:List Fl)(ks:List Int):List Fl:=ks.map fun k=>out.getD k.toNat .bot
def iV(g:List Dfn)(l:List Fl)(out:List Fl)(n:Nod):List Fl:=out++[dX n (aS out n.kids) (dt g l n.text)]
def aH(g:List Dfn)(l:List Fl)(ns:List Nod):List Fl:=ns.foldl (iV g l) []
def dL(g:List Dfn)(l:List Fl)(t:Tre):Fl:=(aH g l t.nodes).getD t.root.toNat .bot
def ij(g:List Dfn)(l:List Fl):List Fl:=g.map fun d=>dL g l d.body
def itJ(g:List Dfn):Nat→List Fl
 |0=>List.replicate g.length .bot
 |k+1=>ij g (itJ g k)
def bk(g:List Dfn):List Fl:=itJ g (3*g.length+1)
def leL(a b:List Fl):Prop:=∀i:Nat,(a.getD i .bot).le (b.getD i .bot)
theorem leL.refl(a:List Fl):leL a a:=fun _=>Fl.le.refl _
theorem leL.trans{a b c:List Fl}(h:leL a b)(k:leL b c):leL a c:=fun i=>(h i).trans (k i)
theorem leL.Lf{a b:List Fl}(h:leL a b)(k:leL b a)(e:a.length=b.length):a=b:=by
 refine List.ext_getElem e fun i h1 h2=>?_;have:=(h i).Lf (k i);simpa [List.getD_eq_getElem?_getD,List.getElem?_eq_getElem h1,List.getElem?_eq_getElem h2]using this
theorem m8(l:List Fl)(p:Fl)(k:Nat):(l++[p]).getD k .bot=if k<l.length then l.getD k .bot else if k=l.length then p else .bot:=by
 simp only[List.getD_eq_getElem?_getD]
 split
 ·rename_i h;rw[List.getElem?_append_left h]
 ·split
  ·rename_i h;subst h;simp
  ·rw[List.getElem?_append_right (by omega),List.getElem?_eq_none (by simp;omega)];rfl
theorem leL.snoc{a b:List Fl}{x y:Fl}(h:leL a b)(e:a.length=b.length)(k:x.le y):leL (a++[x]) (b++[y]):=fun i=>by
 rw[m8,m8,e]
 split
 ·exact h i
 ·split
  ·exact k
  ·exact Fl.le.refl _
theorem and_mono{a b c d:Bool}(h:a=true→c=true)(k:b=true→d=true):(a&&b)=true→(c&&d)=true:=by cases a<;>cases b<;>simp_all
theorem or_mono{a b c d:Bool}(h:a=true→c=true)(k:b=true→d=true):(a||b)=true→(c||d)=true:=by cases a<;>cases b<;>simp_all
theorem Fl.le.succ{a b:Fl}(h:a.le b):a.succ=true→b.succ=true:=or_mono h.zero h.some
theorem vm{p q:Fl×Bool}{a b:Fl}(h:p.1.le q.1)(h2:p.2=true→q.2=true)(k:a.le b):(iO p a).1.le (iO q b).1∧((iO p a).2=true→(iO q b).2=true):=
 ⟨⟨and_mono h.zero k.zero,or_mono h.some k.some,or_mono h.fail (and_mono h2 k.fail)⟩,and_mono h2 k.succ⟩
theorem Es{p q:Fl}{a b:Fl}(h:p.le q)(k:a.le b):(rM p a).le (rM q b):=
 ⟨or_mono h.zero (and_mono h.fail k.zero),or_mono h.some (and_mono h.fail k.some),and_mono h.fail k.fail⟩
inductive LeK:List Fl→List Fl→Prop
 |nil:LeK [] []
 |cons {a b:Fl}{l m:List Fl}:a.le b→LeK l m→LeK (a::l) (b::m)
theorem EO{l m:List Fl}(h:LeK l m):∀{p q:Fl×Bool},p.1.le q.1→(p.2=true→q.2=true)→(l.foldl iO p).1.le (m.foldl iO q).1∧((l.foldl iO p).2=true→(m.foldl iO q).2=true):=by
 induction h with
 |nil=>exact fun h1 h2=>⟨h1,h2⟩
 |cons k _ ih=>exact fun h1 h2=>ih (vm h1 h2 k).1 (vm h1 h2 k).2
theorem Dx{l m:List Fl}(h:LeK l m):∀{p q:Fl},p.le q→(l.foldl rM p).le (m.foldl rM q):=by
 induction h with
 |nil=>exact fun h1=>h1
 |cons k _ ih=>exact fun h1=>ih (Es h1 k)
theorem Gh{l m:List Fl}(h:LeK l m):(hd0 l).le (hd0 m):=by
 cases h with
 |nil=>exact Fl.le.refl _
 |cons k _=>exact k
theorem yO(n:Nod){l m:List Fl}{r s:Fl}(h:LeK l m)(k:r.le s):(dX n l r).le (dX n m s):=by
 have hh:=Gh h;unfold dX
 split;· exact Fl.le.refl _
 split;· exact Fl.le.refl _
 split;· exact Fl.le.refl _
 split;· exact k
 split
 ·obtain⟨h1,h2⟩:=EO h (p:=(⟨true,false,false⟩,true)) (q:=(⟨true,false,false⟩,true)) (Fl.le.refl _) id;exact⟨h1.zero,and_mono h1.some h2,h1.fail⟩
 split;· exact Dx h (Fl.le.refl _)
 split
 ·split
  ·exact Fl.le.refl _
  ·exact⟨or_mono hh.zero (and_mono id hh.fail),hh.some,and_mono id hh.fail⟩
 split;· exact⟨hh.succ,id,hh.fail⟩
 split;· exact⟨hh.fail,id,hh.succ⟩
 exact hh
theorem qU{a b:List Fl}(h:leL a b):∀ks:List Int,LeK (aS a ks) (aS b ks)
 |[]=>.nil
 |k::ks=>.cons (h k.toNat) (qU h ks)
theorem yk(g:List Dfn){l m:List Fl}(h:leL l m)(s:ByteArray):(dt g l s).le (dt g m s):=by
 unfold dt
 split
 ·exact h _
 ·exact Fl.le.refl _
theorem sD(g:List Dfn){l m:List Fl}(h:leL l m):∀(ns:List Nod) {a b:List Fl},leL a b→a.length=b.length→leL (ns.foldl (iV g l) a) (ns.foldl (iV g m) b)
 |[],_,_,h1,_=>h1
 |n::ns,a,b,h1,h2=>sD g h ns (a:=iV g l a n) (b:=iV g m b n) (h1.snoc h2 (yO n (qU h1 _) (yk g h _))) (by simp[iV,h2])
theorem zk(g:List Dfn){l m:List Fl}(h:leL l m)(t:Tre):(dL g l t).le (dL g m t):=sD g h t.nodes (leL.refl []) rfl t.root.toNat
theorem DZ(g:List Dfn)(l:List Fl):(ij g l).length=g.length:=by simp[ij]
theorem iR(g:List Dfn)(l:List Fl)(i:Nat):(ij g l).getD i .bot=match g[i]? with|some d=>dL g l d.body|none=>.bot:=by
 rw[List.getD_eq_getElem?_getD,ij,List.getElem?_map]
 cases g[i]?<;>rfl
theorem jS(g:List Dfn){l m:List Fl}(h:leL l m):leL (ij g l) (ij g m):=fun i=>by
 rw[iR,iR]
 split
 ·exact zk g h _
 ·exact Fl.le.refl _
theorem rR(g:List Dfn):∀k,(itJ g k).length=g.length
 |0=>by simp[itJ]
 |k+1=>DZ g _
theorem r9(n i:Nat):(List.replicate n Fl.bot).getD i .bot=.bot:=by
 rw[List.getD_eq_getElem?_getD,List.getElem?_replicate]
 split<;>rfl
theorem GP(g:List Dfn):∀k,leL (itJ g k) (itJ g (k+1))
 |0=>fun i=>by rw[itJ,r9];exact Fl.bot_le _
 |k+1=>jS g (GP g k)
def mJ(l:List Fl):Nat:=(l.map Fl.cnt).sum
theorem C0(l:List Fl):mJ l≤3*l.length:=by
 induction l with
 |nil=>simp[mJ]
 |cons a l ih=>
  have:=Fl.LV a;simp only[mJ,List.map_cons,List.sum_cons,List.length_cons]at ih ⊢;omega
theorem leL.tail{a b:Fl}{l m:List Fl}(h:leL (a::l) (b::m)):a.le b∧leL l m:=⟨h 0,fun i=>h (i+1)⟩
theorem xD:∀{l m:List Fl},leL l m→l.length=m.length→mJ l≤mJ m∧(l≠m→mJ l<mJ m)
 |[],[],_,_=>⟨Nat.le_refl _,fun h=>absurd rfl h⟩
 |a::l,b::m,h,e=>by
  obtain⟨h1,h2⟩:=h.tail;obtain⟨k1,k2⟩:=xD h2 (by simpa using e);obtain⟨q1,q2⟩:=h1.cnt;simp only[mJ,List.map_cons,List.sum_cons]at k1 k2 ⊢;refine⟨by omega,fun hne=>?_⟩
  by_cases hab:a=b
  ·subst hab;have:=k2 (fun q=>hne (by rw[q]));omega
  ·have:=q2 hab;omega
 |[],_::_,_,e=>by simp at e
 |_::_,[],_,e=>by simp at e
theorem yR(g:List Dfn):∀k,k≤mJ (itJ g k)∨ij g (itJ g k)=itJ g k
 |0=>.inl (Nat.zero_le _)
 |k+1=>by
  rcases yR g k with h|h
  ·by_cases e:itJ g k=itJ g (k+1)
   ·exact .inr (by rw[←e];exact e.symm)
   ·have:=(xD (GP g k) (by rw[rR,rR])).2 e;exact .inl (by omega)
  ·refine .inr ?_;show ij g (ij g (itJ g k))=ij g (itJ g k)
   rw[h,h]
theorem vb(g:List Dfn):ij g (bk g)=bk g:=by
 rcases yR g (3*g.length+1)with h|h
 ·have:=C0 (itJ g (3*g.length+1));rw[rR]at this;omega
 ·exact h
theorem qp(g:List Dfn):(bk g).length=g.length:=rR g _
theorem wg(g:List Dfn){l:List Fl}(h:leL (ij g l) l):∀k,leL (itJ g k) l
 |0=>fun i=>by rw[itJ,r9];exact Fl.bot_le _
 |k+1=>(jS g (wg g h k)).trans h
structure Up(g:List Dfn)(l:List Fl):Prop where
 len:l.length=g.length
 le:leL l (bk g)
 up:leL l (ij g l)
theorem Up.bot(g:List Dfn):Up g (List.replicate g.length .bot):=⟨by simp,fun i=>by rw[r9];exact Fl.bot_le _,fun i=>by rw[r9];exact Fl.bot_le _⟩
theorem lX(l:List Fl)(i j:Nat)(b:Fl):(l.set i b).getD j .bot=if i=j∧i<l.length then b else l.getD j .bot:=by
 simp only[List.getD_eq_getElem?_getD,List.getElem?_set]
 by_cases e:i=j
 ·subst e
  by_cases h:i<l.length
  ·simp[h]
  ·simp[h]
 ·simp[e]
theorem Up.set{g:List Dfn}{l:List Fl}(h:Up g l){i:Nat}(hi:i<g.length):leL l (l.set i (dL g l g[i].body))∧Up g (l.set i (dL g l g[i].body)):=by
 have hs:(ij g l).getD i .bot=dL g l g[i].body:=by rw[iR,List.getElem?_eq_getElem hi]
 have h1:leL l (l.set i (dL g l g[i].body)):=fun j=>by
  rw[lX]
  split
  ·rename_i e;rw[←hs,e.1];exact h.up j
  ·exact Fl.le.refl _
 refine⟨h1,by rw[List.length_set];exact h.len,fun j=>?_,fun j=>?_⟩
 ·rw[lX]
  split
  ·rename_i e;have:=jS g h.le i;rw[vb,hs]at this;rw[←e.1];exact this
  ·exact h.le j
 ·have h2:=jS g h1;rw[lX]
  split
  ·rename_i e;have:=h2 i;rw[hs]at this;rw[←e.1];exact this
  ·exact(h.up j).trans (h2 j)
theorem Up.done{g:List Dfn}{l:List Fl}(h:Up g l)(hf:∀(i:Nat) (hi:i<g.length),dL g l g[i].body=l.getD i .bot):l=bk g:=by
 refine h.le.Lf (wg g (fun i=>?_) _) (by rw[h.len,qp]);rw[iR]
 split
 ·rename_i d hd;obtain⟨hi,rfl⟩:=List.getElem?_eq_some_iff.1 hd;rw[hf i hi];exact Fl.le.refl _
 ·exact Fl.bot_le _
theorem vc(g:List Dfn)(l:List Fl):∀(ns:List Nod) (a:List Fl),(ns.foldl (iV g l) a).length=a.length+ns.length
 |[],a=>rfl
 |n::ns,a=>by rw[List.foldl_cons,vc g l ns];simp[iV];omega
theorem bG(g:List Dfn)(l:List Fl)(ns:List Nod):(aH g l ns).length=ns.length:=by rw[aH,vc];simp
theorem qT(g:List Dfn)(l:List Fl){ns:List Nod}{i:Nat}(h:i<ns.length):aH g l (ns.take (i+1))=aH g l (ns.take i)++[dX ns[i] (aS (aH g l (ns.take i)) ns[i].kids) (dt g l ns[i].text)]:=by
 rw[List.take_succ_eq_append_getElem h,aH,List.foldl_append];rfl
end Go.aa
end
section
namespace Go.Km
open Go Go.Vc Go.Proofs Go.Proofs.YtpbichnnflabdaaGreatDoor
noncomputable abbrev Xw(i h:List Nat):Tx where
 E:=X1.E
 Γ:=X1.Γ
 fi:=X1.fi
 pu:=fun f=>!inl.elem f && !i.elem f
 Q:=fun _=>false
 bd:=fun _=>0
 bt:=fun _=>0
 u8:=0
 hp:=fun f=>ars.elem f||h.elem f
theorem rm(i h:List Nat):iP Tryz.prog (Xw i h) where
 E:=BF
 fi:=GM
 mixed:=dV.mixed
 deep:=dV.deep
 Q:=fun _ h=>by cases h
 bd:=fun _ _ h=>by cases h
end Go.Km
end
section
namespace Go.Km
open Go Go.Vc Go.Proofs Go.aa Go.Proofs.YtpbichnnflabdaaGreatDoor
set_option maxRecDepth 100000
set_option maxHeartbeats 0
abbrev flR(f:Fl):List F:=[boF f.zero,boF f.some,boF f.fail]
abbrev flF(f:Fl):F:=.ag (flR f)
abbrev iE(l:List Fl):F:=.sl (l.map flR)
instance(a b c:Bool):C 88 [.ag [boF a,boF b,boF c]] (boF (a||b)) true True:=⟨fun _=>by
 cases a<;>(refine kf rfl rfl ?_;repeat' (first|exact k9|refine k2 ?_|apply kA|apply kI;intro hc|refine k8 ?_|apply kL;intro hl))
 all_goals exact aq.b rfl rfl⟩
instance(k a b c d:Int)(tx:ByteArray)(lo hi:Int)(K:List (List F))(l:List Fl):C 158 [.ag (iH k a b c d tx lo hi K),iE l] (flF ⟨true,false,false⟩) true True:=⟨fun _=>by
 refine kf rfl rfl ?_;repeat' (first|exact k9|refine k2 ?_|apply kA|apply kI;intro hc|refine k8 ?_|apply kL;intro hl)⟩
theorem Hk(s:Bts):wx [s.a,s.b,s.c,s.d] [0,0,0,0]=decide (s=.zero):=by
 rw[oJ];obtain⟨a,b,c,d⟩:=s;simp[Bts.zero]
instance(k a b c d:Int)(tx:ByteArray)(lo hi:Int)(K:List (List F))(l:List Fl):C 159 [.ag (iH k a b c d tx lo hi K),iE l] (flF ⟨false,!decide ((⟨a,b,c,d⟩:Bts)=.zero),true⟩) true True:=⟨fun _=>by
 refine kf rfl rfl ?_;repeat' first|exact k9|refine k2 ?_|apply kA|apply kI;intro hc|refine k8 ?_|apply kL;intro hl
 refine aq.j ?_ rfl;exact congrArg (fun z=>F.ag [boF false,boF (!z),boF true]) (Hk ⟨a,b,c,d⟩)⟩
instance(k a b c d:Int)(tx:ByteArray)(lo hi:Int)(K:List (List F))(l:List Fl):C 160 [.ag (iH k a b c d tx lo hi K),iE l] (flF ⟨false,true,true⟩) true True:=⟨fun _=>by
 refine kf rfl rfl ?_;repeat' (first|exact k9|refine k2 ?_|apply kA|apply kI;intro hc|refine k8 ?_|apply kL;intro hl)⟩
theorem xc{l:List Fl}(h:0<l.length):hd0 l=l[0]:=by
 cases l with
 |nil=>simp at h
 |cons a l=>rfl
instance(k a b c d:Int)(tx:ByteArray)(lo hi:Int)(K:List (List F))(l:List Fl):C 161 [.ag (iH k a b c d tx lo hi K),iE l] (flF (hd0 l)) true (0<l.length):=⟨fun h=>by
 rw[xc h];refine kf rfl rfl ?_;repeat' (first|exact k9|refine k2 ?_|apply kA|apply kI;intro hc|refine k8 ?_|apply kL;intro hl)⟩
instance(k a b c d:Int)(tx:ByteArray)(lo hi:Int)(K:List (List F))(f:Fl):C 161 [.ag (iH k a b c d tx lo hi K),.sl (List.map flR []++[[(boF f.zero).nz,(boF f.some).nz,(boF f.fail).nz]])] (flF f) true True:=⟨fun _=>by
 rw[show(List.map flR []++[[(boF f.zero).nz,(boF f.some).nz,(boF f.fail).nz]])=List.map flR [f]from rfl];refine kf rfl rfl ?_;repeat' (first|exact k9|refine k2 ?_|apply kA|apply kI;intro hc|refine k8 ?_|apply kL;intro hl)⟩
instance(k a b c d:Int)(tx:ByteArray)(lo hi:Int)(K:List (List F))(l:List Fl):C 164 [.ag (iH k a b c d tx lo hi K),iE l] (flF (if hi=0 then⟨true,false,false⟩else⟨(hd0 l).zero||(decide (lo=0)&&(hd0 l).fail),(hd0 l).some,decide (0<lo)&&(hd0 l).fail⟩)) true (hi=0∨0<l.length):=⟨fun h=>by
 by_cases hm:hi=0
 ·rw[if_pos hm];refine kf rfl rfl ?_;repeat' first|exact k9|refine k2 ?_|apply kA|apply kI;intro hc|refine k8 ?_|apply kL;intro hl
 rw[if_neg hm];have h:0<l.length:=by rcases h with h|h;exact absurd h hm;exact h
 rw[xc h];refine kf rfl rfl ?_;repeat' first|exact k9|refine k2 ?_|apply kA|apply kI;intro hc|refine k8 ?_|apply kL;intro hl
 all_goals(refine aq.j ?_ rfl;simp_all)
 all_goals omega⟩
instance(k a b c d:Int)(tx:ByteArray)(lo hi:Int)(K:List (List F))(l:List Fl):C 165 [.ag (iH k a b c d tx lo hi K),iE l] (flF ⟨(hd0 l).succ,false,(hd0 l).fail⟩) true (0<l.length):=⟨fun h=>by
 rw[xc h];refine kf rfl rfl ?_;repeat' first|exact k9|refine k2 ?_|apply kA|apply kI;intro hc|refine k8 ?_|apply kL;intro hl
 exact aq.j rfl rfl⟩
instance(k a b c d:Int)(tx:ByteArray)(lo hi:Int)(K:List (List F))(l:List Fl):C 166 [.ag (iH k a b c d tx lo hi K),iE l] (flF ⟨(hd0 l).fail,false,(hd0 l).succ⟩) true (0<l.length):=⟨fun h=>by
 rw[xc h];refine kf rfl rfl ?_;repeat' first|exact k9|refine k2 ?_|apply kA|apply kI;intro hc|refine k8 ?_|apply kL;intro hl
 exact aq.j rfl rfl⟩
instance(k a b c d:Int)(tx:ByteArray)(lo hi:Int)(K:List (List F))(l:List Fl):C 162 [.ag (iH k a b c d tx lo hi K),iE l] (flF (Cu l)) true (l.length≤17592186044416):=⟨fun h=>by
 refine kf rfl rfl ?_;repeat' first|exact k9|refine k2 ?_|apply kA|apply kI;intro hc|refine k8 ?_|apply kL;intro hl
 apply kCt [4,5,6,10,11,12] [];conv=>whnf
 refine Lp.ind (fun x:Nat×Fl×Bool=>l.length-x.1) (fun x=>x.1≤l.length∧(l.take x.1).foldl iO (⟨true,false,false⟩,true)=x.2) (fun x=>[(12,InD x.1),(6,BoD x.2.2)]) (fun x=>[(1,.va 0 143 [.fr (boF x.2.1.zero),.fr (boF x.2.1.some),.fr (boF x.2.1.fail)])]) (fun _=>_) (0,⟨true,false,false⟩,true) ⟨Nat.zero_le _,rfl⟩ rfl rfl rfl ?_
 rintro G ⟨i,⟨z,s,f⟩,q⟩ ih ⟨hil,hT⟩
 dsimp only at hil hT ih ⊢
 by_cases hx:i<l.length
 ·obtain⟨⟨kz,ks,kf⟩,hk⟩:∃k,k=l[i]:=⟨_,rfl⟩
  have hki:∀h:i<l.length,l[i]'h=⟨kz,ks,kf⟩:=fun _=>hk.symm
  have hS:(l.take (i+1)).foldl iO (⟨true,false,false⟩,true)=iO (⟨z,s,f⟩,q) ⟨kz,ks,kf⟩:=by
   rw[List.take_succ_eq_append_getElem hx,List.foldl_append,hT,←hk];rfl
  repeat' first|exact k9|refine k2 ?_|apply kA|apply kI;intro hc|apply kL;intro hl|((simp only[hki])<;>conv=>whnf)|refine k8 ?_|fail
  all_goals
   subst_vars
   apply kCt [4,5,6,10,11,12] [];conv=>whnf
   exact ih (i+1,iO (⟨_,_,_⟩,_) ⟨kz,ks,kf⟩) _ _ _ (by dsimp only;omega) ⟨by dsimp only;omega,hS⟩ rfl rfl rfl
 ·obtain rfl:i=l.length:=by omega
  rw[List.take_length]at hT;have e:Cu l=⟨z,s&&q,f⟩:=by rw[Cu,GV,hT]
  rw[e]
  repeat' first|exact k9|refine k2 ?_|apply kA|apply kI;intro hc|refine k8 ?_|apply kL;intro hl
  all_goals
   subst_vars
   exact aq.j rfl rfl⟩
instance(k a b c d:Int)(tx:ByteArray)(lo hi:Int)(K:List (List F))(l:List Fl):C 163 [.ag (iH k a b c d tx lo hi K),iE l] (flF (Hs l)) true (l.length≤17592186044416):=⟨fun h=>by
 refine kf rfl rfl ?_;repeat' first|exact k9|refine k2 ?_|apply kA|apply kI;intro hc|refine k8 ?_|apply kL;intro hl
 apply kCt [4,5,9,10,11] [];conv=>whnf
 refine Lp.ind (fun x:Nat×Fl=>l.length-x.1) (fun x=>x.1≤l.length∧(l.take x.1).foldl rM ⟨false,false,true⟩=x.2) (fun x=>[(11,InD x.1)]) (fun x=>[(1,.va 0 143 [.fr (boF x.2.zero),.fr (boF x.2.some),.fr (boF x.2.fail)])]) (fun _=>_) (0,⟨false,false,true⟩) ⟨Nat.zero_le _,rfl⟩ rfl rfl rfl ?_
 rintro G ⟨i,⟨z,s,f⟩⟩ ih ⟨hil,hT⟩
 dsimp only at hil hT ih ⊢
 by_cases hx:i<l.length
 ·obtain⟨⟨kz,ks,kf⟩,hk⟩:∃k,k=l[i]:=⟨_,rfl⟩
  have hki:∀h:i<l.length,l[i]'h=⟨kz,ks,kf⟩:=fun _=>hk.symm
  have hS:(l.take (i+1)).foldl rM ⟨false,false,true⟩=rM ⟨z,s,f⟩ ⟨kz,ks,kf⟩:=by
   rw[List.take_succ_eq_append_getElem hx,List.foldl_append,hT,←hk];rfl
  repeat' first|exact k9|refine k2 ?_|apply kA|apply kI;intro hc|apply kL;intro hl|((simp only[hki])<;>conv=>whnf)|refine k8 ?_|fail
  all_goals
   subst_vars
   apply kCt [4,5,9,10,11] [];conv=>whnf
   exact ih (i+1,rM ⟨_,_,_⟩ ⟨kz,ks,kf⟩) _ _ _ (by dsimp only;omega) ⟨by dsimp only;omega,hS⟩ rfl rfl rfl
 ·obtain rfl:i=l.length:=by omega
  rw[List.take_length]at hT;rw[Hs,hT]
  repeat' (first|exact k9|refine k2 ?_|apply kA|apply kI;intro hc|refine k8 ?_|apply kL;intro hl)⟩
instance:C 145 [] (.ag [.cl 158 [],.cl 159 [],.cl 160 [],.cl 161 [],.cl 162 [],.cl 163 [],.cl 164 [],.cl 165 [],.cl 166 [],.cl 161 []]) true True:=⟨fun _=>by
 refine kf rfl rfl ?_;repeat' (first|exact k9|refine k2 ?_|apply kA|apply kI;intro hc|refine k8 ?_|apply kL;intro hl)⟩
end Go.Km
end
section
namespace Go.Proofs.YtpbichnnflabdaaGreatDoor
open Go
theorem Ir:(match Tryz.prog.underlying 143 with|some (.struct fs)=>fs.toList.map (fun f=>(f.offset,f.type,f.name== "_"))|_=>[])=[(0,4,false),(1,4,false),(2,4,false)]:=by kernel_rfl
theorem zR:Tryz.prog.underlying 4=some .bool:=by kernel_rfl
theorem E1:Tryz.prog.stoodInHeld 143=false:=by kernel_rfl
theorem Fz:Tryz.prog.eqGuardType Tryz.prog.depth 143=false:=by kernel_rfl
theorem DE:(Tryz.prog.info? 143).map (·.size)=some 3:=by kernel_rfl
theorem wK{fs:List Field}{b:Nat}(h:fs.map (fun f=>(f.offset,f.type,f.name== "_"))=[(0,b,false),(1,b,false),(2,b,false)]):∃f0 f1 f2:Field,fs=[f0,f1,f2]∧(f0.offset=0∧f0.type=b∧f0.name≠ "_")∧(f1.offset=1∧f1.type=b∧f1.name≠ "_")∧(f2.offset=2∧f2.type=b∧f2.name≠ "_"):=by
 rcases fs with _|⟨f0,_|⟨f1,_|⟨f2,_|⟨f3,fs⟩⟩⟩⟩
 ·simp at h
 ·simp at h
 ·simp at h
 ·simp only[List.map_cons,List.map_nil,List.cons.injEq,Prod.mk.injEq,beq_eq_false_iff_ne]at h;obtain⟨h1,h2,h3,_⟩:=h;exact⟨f0,f1,f2,rfl,h1,h2,h3⟩
 ·simp at h
theorem AB(w:World)(a b c x y z:Bool):(Op.equal 143 (.agg #[.bool a,.bool b,.bool c]) (.agg #[.bool x,.bool y,.bool z])).run Tryz.prog w=.ok (a==x&&b==y&&c==z) w:=by
 have h:=Ir;have hp:∀(l:Array Value) (i:Nat) (v:Value),l[i]?=some v→(part 4 l i).run Tryz.prog w=.ok v w:=by
  intro l i v hv;simp[part,isAgg,run_underlying zR,hv]
 have hq:∀x y:Bool,(Op.equalIn 9999 4 (.bool x) (.bool y)).run Tryz.prog w=.ok (x==y) w:=by
  intro x y;show(Op.equalIn (9998+1) _ _ _).run Tryz.prog w=_
  rw[Op.equalIn];simp[run_underlying zR]
 split at h
 ·rename_i fs hu;obtain⟨fs⟩:=fs;simp only at h;obtain⟨f0,f1,f2,rfl,⟨a1,a2,a3⟩,⟨b1,b2,b3⟩,⟨c1,c2,c3⟩⟩:=wK h;clear h;show(Op.equalIn (9999+1) _ _ _).run Tryz.prog w=_
  rw[Op.equalIn];have hP:∀W,(program).run Tryz.prog W=.ok Tryz.prog W:=fun W=>rfl
  have e1:=hp #[.bool a,.bool b,.bool c] 0 (.bool a) rfl;have e2:=hp #[.bool a,.bool b,.bool c] 1 (.bool b) rfl;have e3:=hp #[.bool a,.bool b,.bool c] 2 (.bool c) rfl;have e4:=hp #[.bool x,.bool y,.bool z] 0 (.bool x) rfl;have e5:=hp #[.bool x,.bool y,.bool z] 1 (.bool y) rfl;have e6:=hp #[.bool x,.bool y,.bool z] 2 (.bool z) rfl;simp[run_underlying hu,E1,a1,a2,a3,b1,b2,b3,c1,c2,c3,e1,e2,e3,e4,e5,e6,hq]
  cases a<;>cases b<;>cases c<;>cases x<;>cases y<;>cases z<;>rfl
 ·cases h
end Go.Proofs.YtpbichnnflabdaaGreatDoor
namespace Go.Km
open Go Go.Vc Go.Proofs Go.Proofs.YtpbichnnflabdaaGreatDoor
theorem lg{a b:D}{l m:List D}{q:Bool}(h:iq (a::l) (b::m)=some q):∃x y r,a=.fr (.vl (.bool x))∧b=.fr (.vl (.bool y))∧iq l m=some r∧q=((x==y)&&r):=by
 simp only[iq]at h
 split at h
 ·rename_i x y r hr
  cases h;refine⟨x,y,r,rfl,rfl,hr,?_⟩
  cases x<;>cases y<;>rfl
 ·cases h
theorem AS{m:List D}{q:Bool}(h:iq [] m=some q):m=[]∧q=true:=by
 cases m with
 |nil=>cases h;exact⟨rfl,rfl⟩
 |cons b m=>simp[iq]at h
theorem nB{c:Cf}:∀{l:List Bool}{vs:List Value},D.ah c (l.map fun b=>.fr (.vl (.bool b))) vs→vs=l.map .bool
 |[],vs,h=>by unfold D.ah at h;exact h
 |b::l,vs,h=>by
  rw[List.map_cons]at h;unfold D.ah at h;obtain⟨u,us,rfl,h1,h2⟩:=h;unfold D.rep F.rep at h1;rw[h1,nB h2];rfl
theorem Gb:FEq Tryz.prog 143:=by
 intro inf hinf w xs ys vs us c q hl he hv hu;have h3:inf.size=3:=by
  have:=DE;rw[hinf]at this;simpa using this
 rw[h3]at hl;rcases xs with _|⟨x0,_|⟨x1,_|⟨x2,_|⟨x3,xs⟩⟩⟩⟩
 ·simp at hl
 ·simp at hl
 ·simp at hl
 ·rcases ys with _|⟨y0,ys⟩
  ·simp[iq]at he
  obtain⟨a0,b0,r0,rfl,rfl,he0,rfl⟩:=lg he;clear he;rcases ys with _|⟨y1,ys⟩
  ·simp[iq]at he0
  obtain⟨a1,b1,r1,rfl,rfl,he1,rfl⟩:=lg he0;clear he0;rcases ys with _|⟨y2,ys⟩
  ·simp[iq]at he1
  obtain⟨a2,b2,r2,rfl,rfl,he2,rfl⟩:=lg he1;clear he1;obtain⟨rfl,rfl⟩:=AS he2;have hv:=nB (l:=[a0,a1,a2]) hv;have hu:=nB (l:=[b0,b1,b2]) hu;subst hv;subst hu;refine⟨?_,Fz⟩;rw[Bool.and_true,←Bool.and_assoc];exact AB w a0 a1 a2 b0 b1 b2
 ·simp at hl
noncomputable abbrev Xf(i h:List Nat):Tx where
 E:=X1.E
 Γ:=X1.Γ
 fi:=X1.fi
 pu:=fun f=>!inl.elem f && !i.elem f
 Q:=fun t=>Nat.beq t 143
 bd:=fun _=>0
 bt:=fun _=>0
 u8:=0
 hp:=fun f=>ars.elem f||h.elem f
theorem Nh(i h:List Nat):iP Tryz.prog (Xf i h) where
 E:=BF
 fi:=GM
 mixed:=dV.mixed
 deep:=dV.deep
 Q:=fun t h=>by cases Nat.eq_of_beq_eq_true h;exact Gb
 bd:=fun _ _ h=>by cases h
end Go.Km
end
section
namespace Go.aa
open Go
theorem EV{g:List Dfn}{i:Nat}(hi:i<g.length)(h:fq g=false):bx (g.take i) g[i].name=none:=by
 cases e:bx (g.take i) g[i].name with
 |none=>rfl
 |some j=>rw[Go.Km.vE hi e]at h;cases h
end Go.aa
namespace Go.Km
open Go Go.Vc Go.Proofs Go.aa Go.Proofs.YtpbichnnflabdaaGreatDoor
set_option maxRecDepth 100000
set_option maxHeartbeats 0
abbrev MC(g:List Dfn):F:=.mp (g.zipIdx.map plR)
instance(g:List Dfn):C 122 [cx g] (MC g) false (g.length≤1000∧fq g=false):=⟨fun⟨hn,ht⟩=>by
 refine kf rfl rfl ?_;repeat' first|exact k9|refine k2 ?_|apply kA|apply kI;intro hc|(apply Sn.go hX;conv=>whnf)|refine k8 ?_|apply kL;intro hl
 apply kCt [3,13,14,15] [];conv=>whnf
 refine Lp.ind (fun z:Nat=>g.length-z) (fun z=>z≤g.length) (fun z=>[(15,InD z)]) (fun z=>[(0,.mp 0 (((g.take z).zipIdx).map plR))]) (fun _=>_) 0 (Nat.zero_le _) rfl rfl rfl ?_
 rintro G i ih hi
 by_cases hx:i<g.length
 ·have hf:(gY (.vl (.string g[i].name)) ((g.take i).zipIdx.map plR) 0).toList[0]?=some none:=by
   rw[dP,EV hx ht];rfl
  repeat' first|exact k9|refine k2 ?_|apply kA|apply kI;intro hc|(apply Sn.go hX;conv=>whnf)|refine k8 ?_|apply kL;intro hl
  apply kCt [3,13,14,15] [];conv=>whnf
  refine ih (i+1) _ _ _ (by omega) (by omega) rfl rfl ?_;rw[List.take_succ_eq_append_getElem hx,List.zipIdx_append,List.map_append];have el:(g.take i).length=i:=by rw[List.length_take];omega
  simp only[List.zipIdx_singleton,el,Nat.zero_add,List.map_singleton];rfl
 ·obtain rfl:i=g.length:=by omega
  rw[List.take_length]
  repeat' (first|exact k9|refine k2 ?_|apply kA|apply kI;intro hc|(apply Sn.go hX;conv=>whnf)|refine k8 ?_|apply kL;intro hl)⟩
theorem ml{n:Nod}{c:Int}(h:fits n c=true):(0≤n.kind∧n.kind≤9)∧(6≤n.kind→c=1)∧(n.kind=3→c=0):=by
 unfold fits at h
 split at h;· simp_all
 split at h;· simp_all
 split at h;· simp_all
 split at h;· simp_all
 split at h
 ·rename_i h4;rcases h4 with h4|h4<;>simp_all
 split at h;· simp_all
 split at h
 ·rename_i h4;rcases h4 with h4|h4<;>simp_all
 split at h;· simp_all
 cases h
def sI(g:List Dfn)(ns:List Nod):Prop:=∀n∈ns,n.kind=3→(bx g n.text).isSome=true
def gU(N:Nat)(X:List Fl):List Fl:=X++List.replicate (N-X.length) .bot
theorem Eo{N:Nat}{X:List Fl}{k:Nat}(h:k<(gU N X).length):(gU N X)[k]=X.getD k .bot:=by
 unfold gU at h ⊢;rw[List.getElem_append]
 split
 ·rename_i h1;simp[List.getD_eq_getElem?_getD,h1]
 ·rename_i h1;simp[List.getD_eq_getElem?_getD,List.getElem?_eq_none (Nat.le_of_not_lt h1)]
theorem D3{N:Nat}{X:List Fl}(h:X.length≤N):(gU N X).length=N:=by simp[gU];omega
theorem El{N:Nat}{X:List Fl}(h:X.length<N)(x:Fl):(gU N X).set X.length x=gU N (X++[x]):=by
 unfold gU;rw[show N-X.length=(N-(X++[x]).length)+1 by simp;omega,List.replicate_succ];simp
instance(g:List Dfn)(l:List Fl)(t:Tre):C 124 [MC g,iE l,aE t] (iE (aH g l t.nodes)) true (g.length≤1000∧l.length=g.length∧t.wf∧av t∧sI g t.nodes):=⟨fun⟨hg,hl,hw,hR,hN⟩=>by
 have hlen:=hw.len;simp only[bY]at hlen;have hlook:∀s,(gY (.vl (.string s)) (g.zipIdx.map plR) 0).toList[0]?=some (match bx g s with
   |some j=>some (j,inF (j:Int))
   |none=>none):=fun s=>by
  rw[dP]
  cases bx g s<;>simp
 obtain⟨ns,hns⟩:=exEq (t.nodes);refine kf rfl rfl ?_;repeat' first|exact k9|refine k2 ?_|apply kA|apply kI;intro hc|(apply Sn.go hX;conv=>whnf)|refine k8 ?_|apply kL;intro hl
 apply Stp.nj 9 143 3 rfl rfl;apply kCt [0,1,7,8,9,20,21,22] [];conv=>whnf
 refine Lp.ind (fun x:Nat×List Fl=>t.nodes.length-x.1) (fun x=>x.1≤t.nodes.length∧x.2.length≤17592186044417) (fun x=>[(22,InD x.1)]) (fun x=>[(1,.ro 0 143 3 ((gU t.nodes.length (aH g l (t.nodes.take x.1))).map flR)),(2,.ro 0 143 3 (x.2.map flR))]) (fun _=>_) (0,[]) ⟨Nat.zero_le _,by simp⟩ rfl rfl ?_ ?_
 ·simp only[List.length_map];rw[show(List.take 0 t.nodes)=[]from rfl,show aH g l []=[]from rfl,gU];simp only[List.length_nil,Nat.sub_zero,List.nil_append,List.map_replicate];rfl
 rintro G ⟨i,K⟩ ih ⟨hi,hK⟩
 dsimp only at hi hK ih ⊢
 by_cases hx:i<t.nodes.length
 ·obtain⟨X,hX⟩:=exEq (aH g l (t.nodes.take i));have hXl:X.length=i:=by rw[hX,bG,List.length_take];omega
  have hsn:=qT g l hx;rw[←hX]at hsn ⊢;have hZl:=D3 (N:=t.nodes.length) (X:=X) (by omega);obtain⟨n,hn⟩:=exEq (t.nodes[i]);have hni:∀h:i<t.nodes.length,t.nodes[i]'h=n:=fun _=>hn.symm
  have hnm:n∈t.nodes:=by rw[hn];exact List.getElem_mem hx
  have hkl:=(hw.nodes _ hnm).kids.1;simp only[dJ]at hkl;have hko:∀k∈n.kids,0≤k∧k<i:=fun k hk=>hR.kok i n (by rw[hn];exact List.getElem?_eq_getElem hx) k hk
  have hfit:=hR.fits i n (by rw[hn];exact List.getElem?_eq_getElem hx);have hrl:=hN n hnm;rw[←hn]at hsn
  repeat' first|exact k9|refine k2 ?_|apply kA|apply kI;intro hc|apply kL;intro hl|(apply Sn.go hX;conv=>whnf)|((simp only[hni])<;>conv=>whnf)|refine k8 ?_|fail
  refine Stp.ko 9 143 3 (by rfl) (by rfl) (show _=([]:List Fl).map flR from rfl) ?_;apply kCt [0,1,7,8,9,10,11,20,21,22,30,31,32] [];conv=>whnf
  refine Lp.ind (fun z:Nat=>n.kids.length-z) (fun z=>z≤n.kids.length) (fun z=>[(32,InD z)]) (fun z=>[(2,.ro 0 143 3 ((aS X (n.kids.take z)).map flR))]) (fun _=>_) 0 (Nat.zero_le _) rfl rfl rfl ?_
  rintro G' j ih' hj
  have hKl:(aS X (n.kids.take j)).length=j:=by rw[aS,List.length_map,List.length_take];omega
  by_cases hy:j<n.kids.length
  ·obtain⟨q,hq⟩:∃q:Nat,n.kids[j]=q:=⟨n.kids[j].toNat,by have:=hko _ (List.getElem_mem hy);omega⟩
   have hqi:∀h:j<n.kids.length,n.kids[j]'h=(q:Int):=fun _=>hq
   have hql:=hko _ (List.getElem_mem hy);rw[hq]at hql;have hzq:∀h:((q:Nat):Int).toNat<(gU t.nodes.length X).length,(gU t.nodes.length X)[((q:Nat):Int).toNat]'h=X.getD q .bot:=fun h=>Eo h
   have hks:aS X (n.kids.take (j+1))=aS X (n.kids.take j)++[X.getD q .bot]:=by
    rw[List.take_succ_eq_append_getElem hy,aS,List.map_append,hq];rfl
   repeat' first|exact k9|refine k2 ?_|apply kA|apply kI;intro hc|apply kL;intro hl|(apply Sn.go hX;conv=>whnf)|((simp only[hqi])<;>conv=>whnf)|((simp only[hzq])<;>conv=>whnf)|refine k8 ?_|fail
   apply kCt [0,1,7,8,9,10,11,20,21,22,30,31,32] [];conv=>whnf
   refine ih' (j+1) _ _ _ (by omega) (by omega) rfl rfl ?_;rw[hks,List.map_append];rfl
  ·obtain rfl:j=n.kids.length:=by omega
   rw[List.take_length]at *;clear ih';obtain⟨kf1,kf2,kf3⟩:=ml hfit;obtain⟨K',hK'⟩:∃K',K'=aS X n.kids:=⟨_,rfl⟩
   rw[←hK']at hKl hsn ⊢;have hset:∀v,((gU t.nodes.length X).map flR).set i (flR v)=(gU t.nodes.length (X++[v])).map flR:=fun v=>by
    rw[←List.map_set,←hXl,El (by omega)]
   have hk:n.kind=0∨n.kind=1∨n.kind=2∨n.kind=3∨n.kind=4∨n.kind=5∨n.kind=6∨n.kind=7∨n.kind=8∨n.kind=9:=by omega
   have hKb:K'.length≤17592186044416:=by omega
   clear hkl hko hfit hni hnm;obtain⟨kind,st,tx,lo,hi',ks⟩:=n;dsimp only at *;rcases hk with rfl|rfl|rfl|rfl|rfl|rfl|rfl|rfl|rfl|rfl
   case inr.inr.inr.inl=>
    have hl3:=hlook tx;obtain⟨j,hj3⟩:=Option.isSome_iff_exists.1 (hrl rfl);rw[hj3]at hl3;dsimp only at hl3;obtain⟨hjl,_⟩:=fv hj3;have hjl':j<l.length:=by omega
    have hr:dt g l tx=l[j]:=by rw[dt,hj3];simp[List.getD_eq_getElem?_getD,hjl']
    have hK0:K'=[]:=List.eq_nil_of_length_eq_zero (by have:=kf3 rfl;omega);subst hK0;rw[show dX ⟨3,st,tx,lo,hi',ks⟩ [] (dt g l tx)=l[j]by simp[dX,hr]]at hsn
    repeat' first|exact k9|refine k2 ?_|apply kA|apply kI;intro hc|(apply Sn.go hX;conv=>whnf)|refine k8 ?_|apply kL;intro hl
    apply kCt [0,1,7,8,9,20,21,22] [];conv=>whnf
    refine ih (i+1,[l[j]]) _ _ _ (by dsimp only;omega) ⟨by dsimp only;omega,by simp⟩ rfl rfl ?_;dsimp only;rw[hsn,←hset];rfl
   all_goals
    repeat' first|exact k9|refine k2 ?_|apply kA|apply kI;intro hc|(apply Sn.go hX;conv=>whnf)|refine k8 ?_|apply kL;intro hl
    apply kCt [0,1,7,8,9,20,21,22] [];conv=>whnf
    refine ih (i+1,K') _ _ _ (by dsimp only;omega) ⟨by dsimp only;omega,by dsimp only;omega⟩ rfl rfl ?_;dsimp only;rw[hsn,←hset];rfl
 ·obtain rfl:i=t.nodes.length:=by omega
  rw[List.take_length]
  repeat' first|exact k9|refine k2 ?_|apply kA|apply kI;intro hc|(apply Sn.go hX;conv=>whnf)|refine k8 ?_|apply kL;intro hl
  refine aq.j ?_ ?_
  ·rw[gU,bG,Nat.sub_self];simp
  ·simp only[cN,oK,lk,Nat.beq,cond_true,cond_false];rw[List.all_map,List.all_eq_true];intro x _;rfl⟩
set_option maxRecDepth 100000
set_option maxHeartbeats 0
def eZ(g:List Dfn):List Fl×Int:=if cz g=0 then(bk g,0)else([],cz g)
structure zK(g:List Dfn):Prop where
 pos:0<g.length
 len:g.length≤64
 name:∀d∈g,gE d.name=true
 normal:∀d∈g,fP d.body=true
 may:∀d∈g,rG d.body=true
 H2:fq g=false
 named:∀d∈g,sI g d.body.nodes
theorem zK.right{g:List Dfn}(h:zK g){d:Dfn}(hd:d∈g):av d.body:=by
 have:=h.normal d hd;unfold fP at this;rw[Bool.and_eq_true]at this;exact ao this.1
theorem zK.small{g:List Dfn}(h:zK g){d:Dfn}(hd:d∈g):d.body.nodes.length≤1024:=by
 have:=h.may d hd;simp only[rG,Bool.and_eq_true,decide_eq_true_eq]at this;exact this.1.1
theorem cE{g:List Dfn}(h:cz g=0):zK g:=by
 unfold cz at h
 split at h;· cases h
 rename_i h1
 split at h;· cases h
 rename_i h2
 split at h;· cases h
 rename_i h3
 split at h;· cases h
 rename_i h4;rw[Bool.not_eq_false,vi,Bool.and_eq_true,List.all_eq_true]at h1;rw[Bool.not_eq_true,iL]at h2;simp only[Bool.or_eq_false_iff,decide_eq_false_iff_not,List.any_eq_false,Bool.not_eq_true',Bool.not_eq_false]at h2;rw[Bool.not_eq_true,zh,List.any_eq_false]at h4;refine⟨?_,by omega,fun d hd=>?_,fun d hd=>?_,fun d hd=>h2.1.1.2 d hd,by simpa using h3,fun d hd n hn hk=>?_⟩
 ·have:=h1.1
  cases g<;>simp at this ⊢
 ·have:=h1.2 d hd;rw[Bool.and_eq_true]at this;exact this.1
 ·have:=h1.2 d hd;rw[Bool.and_eq_true]at this;exact this.2
 ·have:=h4 d hd;rw[Bool.not_eq_true,List.any_eq_false]at this;have:=this n hn;simp only[hk,decide_true,Bool.true_and,Bool.not_eq_true,Option.isNone_eq_false_iff]at this;exact this
theorem MT(a b:Fl):(eqB a.zero b.zero&&(eqB a.some b.some&&(eqB a.fail b.fail&&true)))=decide (a=b):=by
 obtain⟨a1,a2,a3⟩:=a;obtain⟨b1,b2,b3⟩:=b
 cases a1<;>cases a2<;>cases a3<;>cases b1<;>cases b2<;>cases b3<;>rfl
instance(g:List Dfn):C 86 [cx g] (.tp [iE (eZ g).1,inF (eZ g).2]) false (g.length≤1000∧∀d∈g,d.wf):=⟨fun⟨hn,hw⟩=>by
 have hpre:g.length≤1000∧∀d∈g,d.wf:=⟨hn,hw⟩
 have hX:=Nh [] []
 by_cases hm:cz g=0
 ·have ok:=cE hm;have e:eZ g=(bk g,0):=by rw[eZ,if_pos hm]
  have hpl:g.length≤1000∧fq g=false:=⟨hn,ok.H2⟩
  rw[e];refine fL hX rfl rfl ?_;repeat' first|exact k9|refine k2 ?_|apply kA|apply kI;intro hc|(apply Sn.go hX;conv=>whnf)|refine k8 ?_|apply kL;intro hl
  apply kCt [5,7] [];conv=>whnf
  refine Lp.ind (fun l:List Fl=>3*g.length-mJ l) (Up g) (fun _=>[]) (fun l=>[(1,.ro 0 143 3 (l.map flR))]) (fun _=>_) (List.replicate g.length .bot) (Up.bot g) rfl rfl ?_ ?_
  ·simp only[List.length_map,List.map_replicate];rfl
  rintro G l ih hU
  apply Sn.go hX;repeat' first|exact k9|refine k2 ?_|apply kA|apply kI;intro hc|(apply Sn.go hX;conv=>whnf)|refine k8 ?_|apply kL;intro hl
  apply kCt [1,2,4,9,10,11] [5,7];conv=>whnf
  refine Lp.ind (fun x:Nat×List Fl×Bool=>g.length-x.1) (fun x=>x.1≤g.length∧Up g x.2.1∧(x.2.2=false→x.2.1=l∧∀(j:Nat) (hj:j<g.length),j<x.1→dL g l g[j].body=l.getD j .bot)∧mJ l≤mJ x.2.1∧(x.2.2=true→mJ l<mJ x.2.1)) (fun x=>[(11,InD x.1),(4,BoD x.2.2)]) (fun x=>[(2,.ro 0 143 3 (x.2.1.map flR))]) (fun _=>_) (0,l,false) ⟨Nat.zero_le _,hU,fun _=>⟨rfl,fun j hj h=>by dsimp only at h;omega⟩,Nat.le_refl _,fun h=>by cases h⟩ rfl rfl rfl ?_
  rintro G' ⟨i,lz0,more⟩ ih' ⟨hi,hU',hF,hle,hlt⟩
  dsimp only at hi hU' hF hle hlt ih' ⊢
  by_cases hx:i<g.length
  ·have hwi:=(hw _ (List.getElem_mem hx)).body;have hmem:=List.getElem_mem hx;have hRt:=ok.right hmem;have hnp:g.length≤1000∧lz0.length=g.length∧g[i].body.wf∧av g[i].body∧sI g g[i].body.nodes:=⟨hn,hU'.len,hwi,hRt,ok.named _ hmem⟩
   obtain⟨q,hq⟩:∃q:Nat,g[i].body.root=q:=⟨g[i].body.root.toNat,by have:=hRt.root;omega⟩
   have hql:=hRt.root.2;rw[hq]at hql;have hfl:=bG g lz0 g[i].body.nodes;have htr:∀h:((q:Nat):Int).toNat<(aH g lz0 g[i].body.nodes).length,(aH g lz0 g[i].body.nodes)[((q:Nat):Int).toNat]'h=dL g lz0 g[i].body:=fun h=>by
    rw[dL,hq,List.getD_eq_getElem?_getD,List.getElem?_eq_getElem h];rfl
   have hli:∀h:i<lz0.length,lz0[i]'h=lz0.getD i .bot:=fun h=>by simp[List.getD_eq_getElem?_getD,h]
   have hll:=hU'.len;have htq:∀h:g[i].body.root.toNat<(aH g lz0 g[i].body.nodes).length,(aH g lz0 g[i].body.nodes)[g[i].body.root.toNat]'h=dL g lz0 g[i].body:=fun h=>by
    simp only[hq];exact htr _
   obtain⟨hup,hU2⟩:=hU'.set hx;apply Sn.go hX;repeat' first|exact k9|refine k2 ?_|apply kA|apply kI;intro hc|apply kL;intro hl|(apply Sn.go hX;conv=>whnf)|((simp only[hq])<;>conv=>whnf)|((simp only[htr])<;>conv=>whnf)|((simp only[hli])<;>conv=>whnf)|refine k8 ?_|fail
   ·have he:=hc;rw[MT,decide_eq_true_iff,htq,hli]at he;apply kCt [1,2,4,9,10,11] [5,7];conv=>whnf
    refine ih' (i+1,lz0,more) _ _ _ (by dsimp only;omega) ⟨by dsimp only;omega,hU',fun hm2=>?_,hle,hlt⟩ rfl rfl rfl;obtain⟨rfl,h2⟩:=hF hm2;refine⟨rfl,fun j hj hji=>?_⟩
    by_cases e:j=i
    ·subst e;exact he
    ·exact h2 j hj (by dsimp only at hji;omega)
   ·have hne:=hc;rw[MT,decide_eq_false_iff_not,htq,hli]at hne;have hlt2:mJ lz0<mJ (lz0.set i (dL g lz0 g[i].body)):=by
     refine(xD hup (by simp)).2 fun q2=>hne ?_;conv=>rhs;rw[q2]
     rw[lX,if_pos ⟨rfl,by omega⟩]
    apply kCt [1,2,4,9,10,11] [5,7];conv=>whnf
    refine ih' (i+1,lz0.set i (dL g lz0 g[i].body),true) _ _ _ (by dsimp only;omega) ⟨by dsimp only;omega,hU2,(fun h=>by cases h),(by dsimp only;omega),(fun _=>by dsimp only;omega)⟩ rfl rfl ?_;dsimp only;rw[List.map_set];rfl
  ·obtain rfl:i=g.length:=by omega
   apply Sn.go hX;repeat' first|exact k9|refine k2 ?_|apply kA|apply kI;intro hc|(apply Sn.go hX;conv=>whnf)|refine k8 ?_|apply kL;intro hl
   ·have h1:=hlt hc;have h2:=C0 lz0;rw[hU'.len]at h2;apply kCt [5,7] [];conv=>whnf
    exact ih lz0 _ _ _ (by omega) hU' rfl rfl rfl
   ·obtain⟨rfl,h2⟩:=hF hc;rw[←hU'.done fun j hj=>h2 j hj hj];exact aq.i rfl
 ·have e:eZ g=([],cz g):=by rw[eZ,if_neg hm]
  rw[e];refine fL hX rfl rfl ?_;repeat' first|exact k9|refine k2 ?_|apply kA|apply kI;intro hc|(apply Sn.go hX;conv=>whnf)|refine k8 ?_|apply kL;intro hl
  exact aq.i rfl⟩
set_option maxRecDepth 100000
set_option maxHeartbeats 0
instance(g:List Dfn)(l:List Fl)(t:Tre):C 87 [cx g,iE l,aE t] (.tp [iE (aH g l t.nodes),boF true]) false ((g.length≤1000∧fq g=false)∧l.length=g.length∧t.wf∧av t∧sI g t.nodes):=⟨fun⟨⟨hg,htw⟩,hl,hw,hR,hN⟩=>by
 have hlen:=hw.len;simp only[bY]at hlen;have hr:au t=true:=hR.right;have hpl:g.length≤1000∧fq g=false:=⟨hg,htw⟩
 have hnp:g.length≤1000∧l.length=g.length∧t.wf∧av t∧sI g t.nodes:=⟨hg,hl,hw,hR,hN⟩
 have hlook:∀s,(gY (.vl (.string s)) (g.zipIdx.map plR) 0).toList[0]?=some (match bx g s with
   |some j=>some (j,inF (j:Int))
   |none=>none):=fun s=>by
  rw[dP]
  cases bx g s<;>simp
 refine kf rfl rfl ?_;repeat' first|exact k9|refine k2 ?_|apply kA|apply kI;intro hc|refine k8 ?_|apply kL;intro hl
 apply kCt [1,5,8,27,28,29] [];conv=>whnf
 refine Lp.ind (fun z:Nat=>t.nodes.length-z) (fun z=>z≤t.nodes.length) (fun z=>[(29,InD z)]) (fun _=>[]) (fun _=>_) 0 (Nat.zero_le _) rfl rfl rfl ?_
 rintro G i ih hi
 by_cases hx:i<t.nodes.length
 ·have hni:=hN _ (List.getElem_mem hx);have hlk:=hlook t.nodes[i].text
  by_cases hk:t.nodes[i].kind=3
  ·obtain⟨j,hj⟩:=Option.isSome_iff_exists.1 (hni hk);rw[hj]at hlk;dsimp only at hlk
   repeat' first|exact k9|refine k2 ?_|apply kA|apply kI;intro hc|refine k8 ?_|apply kL;intro hl
   apply kCt [1,5,8,27,28,29] [];conv=>whnf
   exact ih (i+1) _ _ _ (by omega) (by omega) rfl rfl rfl
  ·repeat' first|exact k9|refine k2 ?_|apply kA|apply kI;intro hc|refine k8 ?_|apply kL;intro hl
   apply kCt [1,5,8,27,28,29] [];conv=>whnf
   exact ih (i+1) _ _ _ (by omega) (by omega) rfl rfl rfl
 ·repeat' (first|exact k9|refine k2 ?_|apply kA|apply kI;intro hc|refine k8 ?_|apply kL;intro hl)⟩
end Go.Km
end
section
namespace Go.Km
open Go Go.Vc Go.Proofs Go.aa
set_option maxRecDepth 100000
set_option maxHeartbeats 0
instance(b:Int):C 177 [byF b] (boF (iy b)) true True:=⟨fun _=>by
 refine kf rfl rfl ?_;repeat' first|exact k9|refine k2 ?_|apply kA|apply kI;intro hc|refine k8 ?_|apply kL;intro hl
 all_goals(refine aq.b ?_ rfl;rw[Bool.eq_iff_iff];simp[iy,dO];try omega)⟩
instance(b:Int):C 178 [byF b] (boF (tq b)) true True:=⟨fun _=>by
 refine kf rfl rfl ?_;repeat' first|exact k9|refine k2 ?_|apply kA|apply kI;intro hc|refine k8 ?_|apply kL;intro hl
 all_goals(refine aq.b ?_ rfl;rw[Bool.eq_iff_iff];simp[tq,dM];try omega)⟩
instance(s:ByteArray):C 171 [stF s] (stF (fS s)) true (s.size≤281474976710656):=⟨fun hs=>by
 refine kf rfl rfl ?_;repeat' first|exact k9|refine k2 ?_|apply kA|apply kI;intro hc|refine k8 ?_|apply kL;intro hl
 ·refine aq.s ?_ rfl;rw[hc];rfl
 ·rename_i h0
  replace h0:=h0.2
  have hh:kO s.data.toList=true:=by rw[sh h0];exact hc
  apply kCt [0,3] [];conv=>whnf
  refine Lp.ind (fun j:Nat=>s.size-j) (fun j=>j≤s.size∧∀i b,i<j→s.data.toList[i]?=some b→eO b=true) (fun j=>[(3,InD j)]) (fun _=>[]) (fun _=>(stF (fS s),true)) 0 ⟨by omega,fun i b hi hb=>by omega⟩ rfl rfl rfl ?_
  rintro G j ih ⟨hj,hg⟩
  repeat' first|exact k9|refine k2 ?_|apply kA|apply kI;intro hc|refine k8 ?_|apply kL;intro hl
  ·rename_i hl;apply kCt [0,3] [];conv=>whnf
   refine ih (j+1) _ _ _ (by omega) ⟨by omega,fun i b hi hb=>?_⟩ rfl rfl rfl;rcases Nat.lt_or_ge i j with h1|h1
   ·exact hg i b h1 hb
   ·have:i=j:=by omega
    subst this;rw[List.getElem?_eq_getElem hl]at hb
    cases hb;unfold eO;rw[hc];rfl
  ·rename_i hl hc0 hl0;apply kCt [0,3] [];conv=>whnf
   refine ih (j+1) _ _ _ (by omega) ⟨by omega,fun i b hi hb=>?_⟩ rfl rfl rfl;rcases Nat.lt_or_ge i j with h1|h1
   ·exact hg i b h1 hb
   ·have:i=j:=by omega
    subst this;rw[List.getElem?_eq_getElem hl]at hb
    cases hb;unfold eO;rw[hc,Bool.or_true]
  ·rename_i _ _ hc0;refine aq.s (oF hh hj hg fun b hb=>?_) rfl;rw[List.getElem?_eq_getElem hl]at hb
   cases hb;unfold eO;rw[hc,hc0];rfl
  ·refine aq.s (oF hh hj hg fun b hb=>?_) rfl;rw[List.getElem?_eq_none (by have:s.data.toList.length=s.size:=rfl;omega)]at hb
   cases hb
 ·rename_i h0
  replace h0:=h0.2
  refine aq.s ?_ rfl;rw[CC];rw[sh h0];exact hc⟩
instance(s:ByteArray):C 149 [stF s] (boF (gE s)) true (s.size≤281474976710656):=⟨fun hs=>by
 refine kf rfl rfl ?_;repeat' first|exact k9|refine k2 ?_|apply kA|apply kI;intro hc|refine k8 ?_|apply kL;intro hl
 ·refine aq.b ?_ rfl;rw[Du,decide_eq_true (p:=s=⟨#[]⟩) hc];simp
 ·refine aq.b ?_ rfl;rw[tl,decide_eq_false (p:=s=⟨#[]⟩) (by rename_i h0;exact h0.1),decide_eq_true (p:=s.size≤32) (by omega)];simp[Jz]
 ·refine aq.b ?_ rfl;rw[tl,decide_eq_false (p:=s.size≤32) (by omega)];simp⟩
end Go.Km
end
section
namespace Go.aa
open Go
end Go.aa
namespace Go.Km
open Go Go.Vc Go.Proofs Go.aa Go.Proofs.YtpbichnnflabdaaGreatDoor
set_option maxRecDepth 100000
set_option maxHeartbeats 0
end Go.Km
end
section
namespace Go.aa
open Go
end Go.aa
namespace Go.Km
open Go Go.Vc Go.Proofs Go.aa Go.Proofs.YtpbichnnflabdaaGreatDoor
set_option maxRecDepth 100000
set_option maxHeartbeats 0
end Go.Km
end
section
namespace Go.Km
open Go Go.Vc Go.Proofs Go.aa
set_option maxRecDepth 100000
set_option maxHeartbeats 0
def uD(N:Nat)(l:List Int):List Int:=(List.range N).map fun j:Nat=>((l.count (j:Int):Nat):Int)
theorem iX(N:Nat)(l:List Int):(uD N l).length=N:=by simp[uD]
theorem lF{N j:Nat}(l:List Int)(h:j<N):(uD N l)[j]?=some ((l.count (j:Int):Nat):Int):=by simp[uD,h]
theorem F0(N:Nat):uD N []=List.replicate N 0:=by
 apply List.ext_getElem?;intro j
 by_cases h:j<N
 ·rw[lF [] h,List.getElem?_replicate,if_pos h];rfl
 ·rw[List.getElem?_eq_none (by rw[iX];omega),List.getElem?_eq_none (by simp;omega)]
theorem ER{N x:Nat}(l:List Int)(hx:x<N):(uD N l).set x (((l.count (x:Int):Nat):Int)+1)=uD N (l++[(x:Int)]):=by
 apply List.ext_getElem?;intro j
 by_cases h:j<N
 ·rw[lF _ h,List.getElem?_set,iX]
  by_cases hj:x=j
  ·subst hj;rw[if_pos rfl,if_pos h];simp
  ·rw[if_neg hj,lF _ h,List.count_append,List.count_singleton];have hb:((x:Int)==(j:Int))=false:=by simp;omega
   simp[hb]
 ·rw[List.getElem?_eq_none (by simp[iX];omega),List.getElem?_eq_none (by rw[iX];omega)]
theorem pI{t:Tre}(h:¬av t):au t=false:=by
 cases hr:au t with
 |false=>rfl
 |true=>exact absurd (ao hr) h
theorem xG{ns:List Nod}{i:Nat}{n:Nod}(h:ns[i]?=some n):az (ns.take (i+1))=az (ns.take i)++n.kids:=by
 obtain⟨hi,he⟩:=List.getElem?_eq_some_iff.1 h;rw[List.take_succ_eq_append_getElem hi,he];simp[az]
theorem rN{ns:List Nod}(i:Nat):(az (ns.take i)).length≤(az ns).length:=by
 unfold az;conv=>rhs;rw[←List.take_append_drop i ns]
 rw[List.flatMap_append,List.length_append];omega
theorem zZ(kind sa sb sc sd:Int)(text:ByteArray)(lo hi:Int)(K:List (List F))(k:Int)(kids:List Int)(hk:0≤kind∧kind≤255)(ht:text.size≤281474976710656) :
  Pure Tryz.prog X1.Γ 129 [.ag [byF kind,.vl (.int .u64 sa),.vl (.int .u64 sb),.vl (.int .u64 sc),.vl (.int .u64 sd),stF text,inF lo,inF hi,.sl K],inF k] (boF (fits ⟨kind,⟨sa,sb,sc,sd⟩,text,lo,hi,kids⟩ k)) true:=by
 by_cases h10:10≤kind
 ·refine kf rfl rfl ?_;repeat' first|exact k9|refine k2 ?_|apply kA|apply kI;intro hc|refine k8 ?_|apply kL;intro hl
  all_goals refine aq.b ?_ rfl
  all_goals unfold fits
  all_goals simp only
  all_goals rw[if_neg (by omega),if_neg (by omega),if_neg (by omega),if_neg (by omega),if_neg (by omega),if_neg (by omega),if_neg (by omega),if_neg (by omega)]
 ·have:kind=0∨kind=1∨kind=2∨kind=3∨kind=4∨kind=5∨kind=6∨kind=7∨kind=8∨kind=9:=by omega
  rcases this with rfl|rfl|rfl|rfl|rfl|rfl|rfl|rfl|rfl|rfl
  all_goals refine kf rfl rfl ?_
  all_goals repeat' first|exact k9|refine k2 ?_|apply kA|apply kI;intro hc|refine k8 ?_|apply kL;intro hl
  all_goals refine aq.b ?_ rfl
  all_goals clear hk h10
  all_goals simp_all [fits,dO,dM,nS,Bts.zero]
  all_goals try omega
  ·exfalso
   revert hc
   decide
  ·rw[jW]
instance(kind sa sb sc sd:Int)(text:ByteArray)(lo hi:Int)(K:List (List F))(k:Int):C 129 [.ag [byF kind,.vl (.int .u64 sa),.vl (.int .u64 sb),.vl (.int .u64 sc),.vl (.int .u64 sd),stF text,inF lo,inF hi,.sl K],inF k] (boF (fits ⟨kind,⟨sa,sb,sc,sd⟩,text,lo,hi,[]⟩ k)) true ((⟨kind,⟨sa,sb,sc,sd⟩,text,lo,hi,[]⟩:Nod).wf):=⟨fun h=>zZ kind sa sb sc sd text lo hi _ k [] h.kind (Nat.le_trans h.text (by decide))⟩
instance(n:Nod)(k:Int):C 129 [.ag (a8 n),inF k] (boF (fits n k)) true (n.wf):=⟨fun h=>zZ n.kind n.set.a n.set.b n.set.c n.set.d n.text n.min n.max _ k n.kids h.kind (Nat.le_trans h.text (by decide))⟩
structure Sm(t:Tre):Prop where
 wf:t.wf
 le:t.nodes.length≤500000
theorem JC{ns:List Nod}(h:∀n∈ns,n.wf):(az ns).length≤17592186044416*ns.length:=by
 induction ns with
 |nil=>simp[az]
 |cons n ns ih=>
  have h1:=(h n (by simp)).kids.1;have h2:=ih fun m hm=>h m (List.mem_cons_of_mem _ hm)
  simp only[dJ]at h1;simp only[az,List.flatMap_cons,List.length_append,List.length_cons]at h2 ⊢;omega
abbrev cnF(N:Nat)(l:List Int):List (List F):=(uD N l).map ikF
set_option maxRecDepth 100000
set_option maxHeartbeats 0
instance(t:Tre):C 130 [aE t] (boF (au t)) true (Sm t):=⟨fun⟨ht,hle⟩=>by
 have hkl:=JC ht.nodes;refine kf rfl rfl ?_;repeat' first|exact k9|refine k2 ?_|apply kA|apply kI;intro hc|refine k8 ?_|apply kL;intro hl
 ·refine aq.b ?_ rfl;simp[au];omega
 ·refine aq.b ?_ rfl;simp[au];omega
 rename_i h0;apply kCt [1,3,4] [];conv=>whnf
 refine Lp.ind (fun x:Nat=>t.nodes.length-x) (fun x=>x≤t.nodes.length∧NOk 0 (t.nodes.take x)) (fun x=>[(4,InD x)]) (fun x=>[(1,.ro 0 3 1 (cnF t.nodes.length (az (t.nodes.take x))))]) (fun _=>(boF (au t),true)) 0 ⟨Nat.zero_le _,by intro j n h;simp at h⟩ rfl rfl ?_ ?_
 ·rw[List.take_zero,show az []=[]from rfl,cnF,F0,List.map_replicate,List.length_map];rfl
 rintro G i ih ⟨hi,hok⟩
 by_cases hx:i<t.nodes.length
 ·have hns:t.nodes[i]?=some t.nodes[i]:=List.getElem?_eq_getElem hx;have hak:=xG hns;have hal:=rN (ns:=t.nodes) (i+1);have htk:t.nodes.take (i+1)=t.nodes.take i++[t.nodes[i]]:=List.take_succ_eq_append_getElem hx;have hwf:=ht.nodes _ (List.getElem_mem hx);rw[hak,List.length_append]at hal;generalize hn:t.nodes[i]=n at *;have hkl1:=hwf.kids.1;simp only[dJ]at hkl1
  repeat' first|exact k9|refine k2 ?_|apply kA|apply kI;intro hc|apply kL;intro hl|((simp only[hn])<;>conv=>whnf)|refine k8 ?_|fail
  ·apply kCt [1,3,4,5,6] [];conv=>whnf
   refine Lp.ind (fun x:Nat×List Int=>n.kids.length-x.1) (fun x=>x.1≤n.kids.length∧x.2=az (t.nodes.take i)++n.kids.take x.1∧∀y∈n.kids.take x.1,0≤y∧y<(i:Int)) (fun x=>[(6,InD x.1)]) (fun x=>[(1,.ro 0 3 1 (cnF t.nodes.length x.2))]) (fun _=>(boF (au t),true)) (0,az (t.nodes.take i)) ⟨by dsimp only;omega,by simp,by simp⟩ rfl rfl rfl ?_
   rintro G' ⟨j,L⟩ ih' ⟨hj,hL,hjk⟩
   dsimp only at hj hL hjk ih' ⊢
   by_cases hjt:j<n.kids.length
   ·have htj:n.kids.take (j+1)=n.kids.take j++[n.kids[j]]:=List.take_succ_eq_append_getElem hjt;have hmj:=List.getElem_mem hjt;have hno:¬(0≤n.kids[j]∧n.kids[j]<(i:Int))→au t=false:=fun hh=>pI fun h=>hh (by have:=h.kok i n hns _ hmj;omega)
    generalize hk:n.kids[j]=x at *;have hcl:L.count x≤(az (t.nodes.take i)).length+n.kids.length:=by
     rw[hL];refine Nat.le_trans List.count_le_length ?_;rw[List.length_append,List.length_take];omega
    have hq:0≤x→x<t.nodes.length→∀h,(uD t.nodes.length L)[x.toNat]'h=((L.count x:Nat):Int):=fun h0 h1 h=>by
     have:=lF (N:=t.nodes.length) L (j:=x.toNat) (by omega);rw[List.getElem?_eq_getElem h,show((x.toNat:Nat):Int)=x by omega]at this;exact Option.some.inj this
    have hset:0≤x→x<t.nodes.length→(cnF t.nodes.length L).set x.toNat [inF (((L.count x:Nat):Int)+1)]=cnF t.nodes.length (L++[x]):=fun h0 h1=>by
     have:=ER (N:=t.nodes.length) (x:=x.toNat) L (by omega);rw[show((x.toNat:Nat):Int)=x by omega]at this;rw[cnF,cnF,←this,List.map_set]
    have hcc:=iX t.nodes.length L
    by_cases hxx:0≤x∧x<(i:Int)
    ·have hq':=hq (by omega) (by omega);have hset':=hset (by omega) (by omega)
     repeat' first|exact k9|refine k2 ?_|apply kA|apply kI;intro hc|apply kL;intro hl|((simp only[hk])<;>conv=>whnf)|((simp only[hq'])<;>conv=>whnf)|refine k8 ?_|fail
     apply kCt [1,3,4,5,6] [];conv=>whnf
     refine ih' (j+1,L++[x]) _ _ _ (by dsimp only;omega) ⟨by dsimp only;omega,by dsimp only;rw[htj,hL,List.append_assoc],fun y hy=>?_⟩ rfl rfl (congrArg (fun z=>jv [(1,B.ro 0 3 1 z)] G'.h) hset');dsimp only at hy;rw[htj]at hy;rcases List.mem_append.1 hy with hy|hy
     ·exact hjk y hy
     ·simp at hy;omega
    ·have hno':=hno hxx;rw[hno']
     repeat' first|exact k9|refine k2 ?_|apply kA|apply kI;intro hc|apply kL;intro hl|((simp only[hk])<;>conv=>whnf)|refine k8 ?_|fail
   ·have hfit:=hc
    repeat' first|exact k9|refine k2 ?_|apply kA|apply kI;intro hc|refine k8 ?_|apply kL;intro hl
    apply kCt [1,3,4] [];conv=>whnf
    rw[List.take_of_length_le (l:=n.kids) (by omega)]at hL hjk;refine ih (i+1) _ _ _ (by omega) ⟨by omega,?_⟩ rfl rfl (by rw[hak,←hL];rfl);rw[htk];refine NOk.app hok ?_;intro a m hm
    cases a with
    |zero=>
     simp at hm;subst hm;refine⟨hfit,fun x hx=>?_⟩;have:=hjk x hx;rw[List.length_take];omega
    |succ a=>simp at hm
  ·refine aq.b ?_ rfl;rw[pI (fun h=>by have:=h.fits i n hns;rw[hc]at this;cases this)]
 ·rw[List.take_of_length_le (by omega)]at hok ⊢
  repeat' first|exact k9|refine k2 ?_|apply kA|apply kI;intro hc|refine k8 ?_|apply kL;intro hl
  apply kCt [1,3,7] [];conv=>whnf
  refine Lp.ind (fun x:Nat=>t.nodes.length-x) (fun x=>x≤t.nodes.length∧∀m:Nat,m<x→(az t.nodes).count (m:Int)=if(m:Int)=t.root then 0 else 1) (fun x=>[(7,InD x)]) (fun x=>[]) (fun _=>(boF (au t),true)) 0 ⟨Nat.zero_le _,by omega⟩ rfl rfl rfl ?_
  rintro G' k ih' ⟨hk,hkm⟩
  have hcc:=iX t.nodes.length (az t.nodes)
  by_cases hkt:k<t.nodes.length
  ·have hq:∀h,(uD t.nodes.length (az t.nodes))[k]'h=(((az t.nodes).count (k:Int):Nat):Int):=fun h=>by
    have:=lF (N:=t.nodes.length) (az t.nodes) (j:=k) hkt;rw[List.getElem?_eq_getElem h]at this;exact Option.some.inj this
   have hno:¬(az t.nodes).count (k:Int)=(if(k:Int)=t.root then 0 else 1)→au t=false:=fun h=>pI fun hR=>h (hR.count k hkt)
   have hyes:(az t.nodes).count (k:Int)=(if(k:Int)=t.root then 0 else 1)→∀m:Nat,m<k+1→(az t.nodes).count (m:Int)=if(m:Int)=t.root then 0 else 1:=by
    intro h m hm;rcases Nat.lt_or_ge m k with h'|h'
    ·exact hkm m h'
    ·obtain rfl:m=k:=by omega
     exact h
   generalize hqq:(az t.nodes).count (k:Int)=q at *
   by_cases hkr:(k:Int)=t.root
   ·rw[if_pos hkr]at hno hyes
    repeat' first|exact k9|refine k2 ?_|apply kA|apply kI;intro hc|apply kL;intro hl|((simp only[hq])<;>conv=>whnf)|refine k8 ?_|fail
    ·have hq0:q=0:=by have:=hq (by omega);omega
     apply kCt [1,3,7] [];conv=>whnf
     exact ih' (k+1) _ _ _ (by omega) ⟨by omega,hyes hq0⟩ rfl rfl rfl
    ·have hq0:¬q=0:=by have:=hq (by omega);omega
     exact aq.b (hno hq0).symm rfl
   ·rw[if_neg hkr]at hno hyes
    repeat' first|exact k9|refine k2 ?_|apply kA|apply kI;intro hc|apply kL;intro hl|((simp only[hq])<;>conv=>whnf)|refine k8 ?_|fail
    ·have hq0:q=1:=by have:=hq (by omega);omega
     apply kCt [1,3,7] [];conv=>whnf
     exact ih' (k+1) _ _ _ (by omega) ⟨by omega,hyes hq0⟩ rfl rfl rfl
    ·have hq0:¬q=1:=by have:=hq (by omega);omega
     exact aq.b (hno hq0).symm rfl
  ·repeat' first|exact k9|refine k2 ?_|apply kA|apply kI;intro hc|refine k8 ?_|apply kL;intro hl
   refine aq.b ?_ rfl;rw[qb (t:=t) ⟨by omega,by omega⟩ hok (fun i hi=>hkm i (by omega))]⟩
set_option maxRecDepth 100000
set_option maxHeartbeats 0
instance(t:Tre)(node:Int):C 150 [aE t,inF node] (.tp [aE (ke t node).1,boF (ke t node).2]) false (Sm t):=⟨fun⟨ht,hle⟩=>by
 have hsm:Sm t:=⟨ht,hle⟩
 refine kf rfl rfl ?_;repeat' first|exact k9|refine k2 ?_|apply kA|apply kI;intro hc|refine k8 ?_|apply kL;intro hl
 ·exact aq.i (by rw[ke,if_neg (by omega)];rfl)
 ·exact aq.i (by rw[ke,if_neg (by omega)];rfl)
 ·rename_i hrt _;rename_i h0;have hn:=hc;have hsub:ke t node=(aD t node,true):=by rw[ke,if_pos ⟨by assumption,by omega,by omega⟩]
  rw[hsub];have hR:av t:=ao (by assumption);have hch:=hR.kok.ae;have hN:=fA hR (by omega) hn;have hmem:=sG hR (by omega) hn;apply Stp.nj 6 3 1 rfl rfl;apply kCt [2,4,6,7] [];conv=>whnf
  refine Lp.ind (fun x:List Int×List Int=>(dfs (en (ae t.nodes)) t.nodes.length x.1.reverse).length) (fun x=>(∀k∈x.1,0≤k∧k<t.nodes.length)∧x.2++dfs (en (ae t.nodes)) t.nodes.length x.1.reverse=dfs (en (ae t.nodes)) t.nodes.length [node]) (fun _=>[])
   (fun x=>[(2,.ro 0 3 1 (x.2.map ikF)),(3,.ro 0 3 1 (x.1.map ikF))]) (fun _=>(.tp [aE (aD t node),boF true],false)) ([node],[]) ⟨?_,?_⟩ rfl rfl rfl ?_
  ·dsimp only;intro k hk;simp at hk;omega
  ·simp
  rintro G ⟨op,out⟩ ih ⟨hop,he⟩
  dsimp only at hop he ih ⊢;have hrm:=room (node:=node) (by omega) (by rw[aT,(cV _ _ _).length_eq]at hN;omega) he;rcases bQ op with rfl|⟨init,x,rfl⟩
  ·repeat' first|exact k9|refine k2 ?_|apply kA|apply kI;intro hc|refine k8 ?_|apply kL;intro hl
   have hb:aT t node=out.reverse:=by
    simp only[List.reverse_nil,bK,List.append_nil]at he;rw[he,aT,show[node]=[node].reverse from rfl,pr];rfl
   apply Stp.nj 10 46 9 rfl rfl;apply kCt [2,4,6,9,10,11] [];conv=>whnf
   have htot:aD t node=⟨a9 t.nodes 0 (List.replicate t.nodes.length 0) (aT t node),(aT t node).length-1⟩:=rfl;have hol:out.length=(aT t node).length:=by rw[hb,List.length_reverse]
   have hoj:∀j (hj:j<(aT t node).length) (h:out.length-1-j<out.length),out[out.length-1-j]'h=(aT t node)[j]:=fun j hj h=>by
    have:=List.getElem_reverse (l:=out) (i:=j) (by rw[List.length_reverse];omega);rw[←this]
    congr 1
    exact hb.symm
   clear he hop hrm ih;generalize hl:aT t node=l at *;refine Lp.ind (fun x:Nat×List Int×List Nod=>l.length-x.1) (fun x=>x.1≤l.length∧x.2.1.length=t.nodes.length∧x.2.2.length=x.1∧x.2.2++a9 t.nodes x.1 x.2.1 (l.drop x.1)=(aD t node).nodes) (fun x=>[(11,InD ((l.length:Int)-1-x.1))])
    (fun x=>[(3,.ro 0 3 1 (x.2.1.map ikF)),(4,.ro 0 46 9 (x.2.2.map a8))]) (fun _=>(.tp [aE (aD t node),boF true],false)) (0,List.replicate t.nodes.length 0,[]) ⟨by simp,by simp,rfl,by rw[htot];rfl⟩ rfl ?_ ?_ ?_
   ·simp only[List.length_map,hol,Int.sub_zero,Int.natCast_zero];rfl
   ·rw[show(List.replicate t.nodes.length (0:Int)).map ikF=List.replicate (t.nodes.map a8).length (ikF 0)by simp];rfl
   rintro G' ⟨j,pl,acc⟩ ih ⟨hj,hpl,hac,hT⟩
   dsimp only at hj hpl hac hT ih ⊢
   by_cases hx:j<l.length
   ·obtain⟨k,hk⟩:∃k:Nat,l[j]=k:=⟨l[j].toNat,by have:=hmem _ (List.getElem_mem hx);omega⟩
    have hkn:k<t.nodes.length:=by have:=hmem _ (List.getElem_mem hx);omega
    have hij:((l.length:Int)-1-(j:Int)).toNat=out.length-1-j:=by omega
    have hli:∀h,out[out.length-1-j]'h=(k:Int):=fun h=>(hoj j hx h).trans hk
    have hil:out.length-1-j<out.length:=by omega
    obtain⟨n,hnk⟩:=exEq (t.nodes[k]);have hni:∀h,t.nodes[k]'h=n:=fun _=>hnk.symm
    have hkl:n.kids.length≤17592186044416:=by rw[hnk];exact(ht.nodes _ (List.getElem_mem hkn)).kids.1
    have hkw:∀x∈n.kids,0≤x∧x<t.nodes.length:=by
     intro x hxk;have:=hR.kok k n (by rw[hnk];exact List.getElem?_eq_getElem hkn) x hxk;omega
    rw[List.drop_eq_getElem_cons hx,a9,hk,Int.toNat_natCast,List.getD_eq_getElem?_getD,List.getElem?_eq_getElem hkn,←hnk]at hT;simp only[Option.getD_some]at hT;have hps:(pl.set k (j:Int)).length=t.nodes.length:=by simp[hpl]
    have hpe:List.map ikF (pl.set k (j:Int))=(List.map ikF pl).set k (ikF j):=by rw[List.map_set]
    repeat' first|exact k9|refine k2 ?_|apply kA|apply kI;intro hc|apply kL;intro hl|((simp only[hij])<;>conv=>whnf)|((simp only[hli,Int.toNat_natCast])<;>conv=>whnf)|((simp only[hni])<;>conv=>whnf)|refine k8 ?_|fail
    apply Stp.nj 13 3 1 rfl rfl;apply kCt [2,4,6,9,10,11,12,13,14] [];conv=>whnf
    refine Lp.ind (fun x:Nat=>n.kids.length-x) (fun x=>x≤n.kids.length) (fun x=>[(14,InD x)]) (fun x=>[(3,.ro 0 3 1 ((pl.set k (j:Int)).map ikF)),(6,.ro 0 3 1 (((n.kids.take x).map (fun x=>(pl.set k (j:Int)).getD x.toNat 0)).map ikF))]) (fun _=>(.tp [aE (aD t node),boF true],false)) 0 (by simp) rfl rfl ?_ ?_
    ·rw[hpe,←hac,List.length_map];rfl
    rintro G'' q ih' hq
    by_cases hy:q<n.kids.length
    ·have hkj:=hkw _ (List.getElem_mem hy);have hg:(pl.set k (j:Int)).getD n.kids[q].toNat 0=(pl.set k (j:Int))[n.kids[q].toNat]'(by omega):=by
      rw[List.getD_eq_getElem?_getD,List.getElem?_eq_getElem (by omega)];rfl
     repeat' first|exact k9|refine k2 ?_|apply kA|apply kI;intro hc|refine k8 ?_|apply kL;intro hl
     apply kCt [2,4,6,9,10,11,12,13,14] [];conv=>whnf
     refine ih' (q+1) _ _ _ (by omega) (by omega) rfl rfl ?_;rw[List.take_succ_eq_append_getElem hy,List.map_append,List.map_append,List.map_singleton,List.map_singleton,hg];rfl
    ·rw[List.take_of_length_le (by omega)]
     repeat' first|exact k9|refine k2 ?_|apply kA|apply kI;intro hc|refine k8 ?_|apply kL;intro hl
     apply kCt [2,4,6,9,10,11] [];conv=>whnf
     refine ih (j+1,pl.set k (j:Int),acc++[{ n with kids:=n.kids.map fun x=>(pl.set k (j:Int)).getD x.toNat 0 }]) _ _ _ (by dsimp only;omega) ⟨by dsimp only;omega,hps,by simp[hac],by simpa using hT⟩ rfl ?_ ?_
     ·dsimp only;rw[show(l.length:Int)-1-((j+1:Nat):Int)=(l.length:Int)-1-(j:Int)-1 by omega];rfl
     ·rw[List.map_append];rfl
   ·rw[List.drop_of_length_le (by omega),a9,List.append_nil]at hT
    repeat' first|exact k9|refine k2 ?_|apply kA|apply kI;intro hc|refine k8 ?_|apply kL;intro hl
    refine aq.i ?_;rw[show aE (aD t node)=F.ag [F.sl ((aD t node).nodes.map a8),inF ((aD t node).root)]from rfl,←hT,htot,List.length_map,show acc.length=l.length by omega]
  ·have hx:=hop x (by simp);obtain⟨i,rfl⟩:∃i:Nat,x=i:=⟨x.toNat,by omega⟩
   have hlast:∀h,(init++[(i:Int)])[((List.map ikF (init++[(i:Int)])).length-1:Int).toNat]'h=(i:Int):=by
    intro h;simp[List.getElem_append]
   have hil:i<t.nodes.length:=by omega
   have hkn2:t.nodes[i].kids=ae t.nodes i:=aF (List.getElem?_eq_getElem hil);have hkl2:=(ht.nodes _ (List.getElem_mem hil)).kids.1;simp only[dJ]at hkl2;rw[List.reverse_append,List.reverse_singleton,List.singleton_append,aQ hch.rev (by omega) (by omega)]at he;have hE:(init++t.nodes[i].kids).reverse=en (ae t.nodes) i++init.reverse:=by
    rw[List.reverse_append,hkn2];rfl
   have he2:(out++[(i:Int)])++dfs (en (ae t.nodes)) t.nodes.length (init++t.nodes[i].kids).reverse=dfs (en (ae t.nodes)) t.nodes.length [node]:=by
    rw[hE,bp,List.append_assoc];exact he
   have hrm2:=room (node:=node) (by omega) (by rw[aT,(cV _ _ _).length_eq]at hN;omega) he2;simp only[List.length_append,List.length_cons,List.length_nil]at hrm hrm2
   repeat' first|exact k9|refine k2 ?_|apply kA|apply kI;intro hc|apply kL;intro hl|((rw[hlast])<;>conv=>whnf)|refine k8 ?_|fail
   apply kCt [2,4,6,7] [];conv=>whnf
   refine ih (init++t.nodes[i].kids,out++[(i:Int)]) _ _ _ ?_ ⟨?_,?_⟩ rfl rfl ?_
   ·dsimp only;rw[hE,List.reverse_append,List.reverse_singleton,List.singleton_append,aQ hch.rev (by omega) (by omega),bp];simp
   ·intro k hk;rcases List.mem_append.1 hk with hk|hk
    ·exact hop k (by simp[hk])
    ·rw[hkn2]at hk;have:=hch i k hk;omega
   ·exact he2
   ·dsimp only;rw[show List.map ikF (init++t.nodes[i].kids)=List.take ((List.map ikF (init++[(i:Int)])).length-1:Int).toNat (List.map ikF (init++[(i:Int)]))++List.map ikF t.nodes[i].kids from by simp[List.take_append],show List.map ikF (out++[(i:Int)])=List.map ikF out++[ikF i]from by simp];rfl
 ·exact aq.i (by rw[ke,if_neg (by rw[hc];simp)];rfl)⟩
theorem DW(t:Tre):(ke t t.root).1=aJ t:=by
 cases hri:au t with
 |false=>rw[ke,if_neg (by rw[hri];simp),aJ,if_neg (by rw[hri];simp)]
 |true=>
  have hR:=(ao hri).root;rw[ke,if_pos ⟨hri,hR.1,hR.2⟩,aJ,if_pos hri]
instance(t:Tre):C 131 [aE t] (aE (aJ t)) false (Sm t):=⟨fun ht=>by
 rw[←DW];refine kf rfl rfl ?_;repeat' (first|exact k9|refine k2 ?_|apply kA|apply kI;intro hc|refine k8 ?_|apply kL;intro hl)⟩
end Go.Km
end
section
namespace Go.Km
open Go Go.RowKit Go.Vc
open Go.Sl hiding lk
theorem vg{c:Cf}{nx:Nat}(hc:c.ι nx 0=some (none,0,0)):∀(i:Nat) (l:List D) (vs:List Value),l[i]?=some uX→D.ah c l vs→D.ah c (l.set i (.own nx 0)) vs
 |i,[],vs,h,_=>by simp at h
 |0,d::l,vs,h,hr=>by
  rw[List.getElem?_cons_zero]at h
  injection h with h
  subst h;rw[List.set_cons_zero];unfold D.ah at hr ⊢;obtain⟨u,us,k5,k6,k7⟩:=hr;refine⟨u,us,k5,?_,k7⟩;unfold D.rep F.rep at k6;unfold D.rep;exact⟨none,0,0,hc,k6⟩
 |i+1,d::l,vs,h,hr=>by
  rw[List.getElem?_cons_succ]at h;rw[List.set_cons_succ];unfold D.ah at hr ⊢;obtain⟨u,us,k5,k6,k7⟩:=hr;exact⟨u,us,k5,k6,vg hc i l us h k7⟩
section
variable {ρ:Type} [ix ρ] {P:Program}{X:Tx}{f0:Nat}{r:ρ}{f N:Nat}{s:List (Nat×D)}{ki:List KI}{ds:List (Nat×Nat)}{ro:Option (Nat×Nat)}{cs:List Fm}{h:List (Nat×B)}{nx:Nat}
theorem Sn.Mg(b i e sz:Nat){v t:Nat}{l l':List D}(hs:lk h b=some (.va v t l))(hi:l[i]?=some uX)(hl:l.set i (.own nx 0)=l')(hf:lk h nx=none)(H:Sn P X f0 r ⟨⟨f,N,s,ki,ds,ro⟩,cs,(b,.va v t l')::(nx,.ro 0 e sz [])::h,nx+1⟩):Sn P X f0 r ⟨⟨f,N,s,ki,ds,ro⟩,cs,h,nx⟩:=by
 subst hl;unfold Sn Snd at *;intro W cs0 hΓ c O fr frs w hr;obtain⟨hle,hp⟩:=Hp.none_ (e:=e) (sz:=sz) hr.hp hf;obtain⟨a,todo,rr,h1,h2,h3,h4,h5⟩:=hr.top.ex;have hb:b≠nx:=fun e=>by rw[e,hf]at hs;cases hs
 have hbx:up (lk h) nx (.ro 0 e sz []) b=some (.va v t l):=by rw[aG (Ne.symm hb)];exact hs
 refine H W cs0 hΓ (c.add nx 0 (none,0,0)) (upO (upO O nx fun _=>False) b (upO O nx (fun _=>False) b)) fr frs w ⟨⟨⟨a,todo,rr,h1,h2.le hle,KIs.le hle h3,bH.le hle h4,jK.le hle h5⟩⟩,Fms.le hle hr.cs,?_,?_,hr.bot⟩
 ·show Hp _ _ (lk ((b,_)::(nx,_)::h)) w
  rw[bU,bU];refine hp.upd Chg.refl (fun g hg=>.inl hg) (Cf.le.refl _) rfl rfl (hp.cu hbx rfl) ?_;obtain⟨g,vs,k1,k2,k3,k4⟩:=hp.pc b _ hbx;exact⟨g,vs,k1,vg Cf.cP i l vs hi k2,k3,k4⟩
 ·exact(Old.none_ hr.old).upd Chg.refl (fun g hg=>.inl hg) rfl rfl
theorem Stp.Mg(b i e sz:Nat){v t:Nat}{l l':List D}(hs:lk h b=some (.va v t l))(hi:l[i]?=some uX)(hl:l.set i (.own nx 0)=l')(hf:lk h nx=none)(H:Stp (Sn P X f0 r ⟨⟨f,N,s,ki,ds,ro⟩,cs,(b,.va v t l')::(nx,.ro 0 e sz [])::h,nx+1⟩)):Stp (Sn P X f0 r ⟨⟨f,N,s,ki,ds,ro⟩,cs,h,nx⟩):=⟨Sn.Mg b i e sz hs hi hl hf H.h⟩
end
end Go.Km
end
section
namespace Go.Km
open Go Go.Vc Go.Proofs Go.aa
set_option maxRecDepth 100000
set_option maxHeartbeats 0
theorem zx{ns:List Nod}{d:Int}{i:Nat}{n:Nod}(h:ns[i]?=some n):bo (ns.take (i+1)) d=bo (ns.take i) d++[{ n with kids:=n.kids.map (· + d) }]:=by
 obtain⟨hi,he⟩:=List.getElem?_eq_some_iff.1 h;rw[List.take_succ_eq_append_getElem hi,he];simp[bo]
theorem K6(kind sa sb sc sd:Int)(text:ByteArray)(lo hi:Int)(K:List (List F))(l:List Tre)(hn:(⟨kind,⟨sa,sb,sc,sd⟩,text,lo,hi,[]⟩:Nod).wf)(hl:l.length≤1466015503701)(hw:∀t∈l,Sm t)(ht:tot l+1≤1466015503701) :
  Pure Tryz.prog X1.Γ 101 [.ag [byF kind,.vl (.int .u64 sa),.vl (.int .u64 sb),.vl (.int .u64 sc),.vl (.int .u64 sd),stF text,inF lo,inF hi,.sl K],kF l]
   (.tp [aE (ofP ⟨kind,⟨sa,sb,sc,sd⟩,text,lo,hi,[]⟩ l).1,boF (ofP ⟨kind,⟨sa,sb,sc,sd⟩,text,lo,hi,[]⟩ l).2]) false:=by
 obtain⟨n,hnn⟩:∃n:Nod,n=⟨kind,⟨sa,sb,sc,sd⟩,text,lo,hi,[]⟩:=⟨_,rfl⟩
 have hF:∀x,fits ⟨kind,⟨sa,sb,sc,sd⟩,text,lo,hi,[]⟩ x=fits n x:=fun x=>by rw[hnn]
 rw[←hnn];refine kf rfl rfl ?_;repeat' first|exact k9|refine k2 ?_|apply kA|apply kI;intro hc|refine k8 ?_|apply kL;intro hl
 ·have hfit:fits n l.length=true:=by rw[←hF];exact hc
  have hno:iJ l [] []=none→ofP n l=(.zero,false):=fun h=>by rw[ofP,if_pos hfit,h]
  have hyes:∀a ks,iJ l [] []=some (a,ks)→ofP n l=(⟨a++[{ n with kids:=ks }],a.length⟩,true):=fun a ks h=>by rw[ofP,if_pos hfit,h]
  apply Stp.nj 6 46 9 rfl rfl;refine Stp.Mg 0 8 3 1 rfl rfl rfl rfl ?_;apply kCt [1,2,4,6,7] [];conv=>whnf
  refine Lp.ind (fun x:Nat×List Nod×List Int=>l.length-x.1) (fun x=>x.1≤l.length∧x.2.2.length=x.1∧x.2.1.length+tot (l.drop x.1)≤tot l∧iJ l [] []=iJ (l.drop x.1) x.2.1 x.2.2) (fun x=>[(7,InD x.1)]) (fun x=>[(1,.ro 0 3 1 (x.2.2.map ikF)),(3,.ro 0 46 9 (x.2.1.map a8))]) (fun _=>(.tp [aE (ofP n l).1,boF (ofP n l).2],false))
   (0,[],[]) ⟨by simp,rfl,by simp,rfl⟩ rfl rfl rfl ?_
  rintro G ⟨i,ar,ks⟩ ih ⟨hil,hks,hto,hT⟩
  dsimp only at hil hks hto hT ih ⊢
  by_cases hx:i<l.length
  ·obtain⟨q,hq⟩:=exEq (l[i]);have hqi:∀h:i<l.length,l[i]'h=q:=fun _=>hq.symm
   have hql:q∈l:=by rw[hq];exact List.getElem_mem hx
   have hwq:=hw q hql;rw[List.drop_eq_getElem_cons hx,←hq]at hT hto;rw[oB]at hto;rw[iJ]at hT
   cases hrq:au q with
   |false=>
    rw[if_neg (by rw[hrq];decide)]at hT
    repeat' first|exact k9|refine k2 ?_|apply kA|apply kI;intro hc|apply kL;intro hl|((simp only[hqi])<;>conv=>whnf)|refine k8 ?_|fail
    refine aq.i ?_;rw[hno hT];rfl
   |true=>
    rw[if_pos hrq]at hT;have hRq:=ao hrq;obtain⟨w1,w2⟩:=gH hwq.wf hRq hRq.root.1 hRq.root.2;have hm4:(aD q q.root).nodes.length≤q.nodes.length:=nm hRq hRq.root.1 hRq.root.2;have hlen:=w1.len;simp only[bY]at hlen w2;have hcl:aJ q=aD q q.root:=jU hrq;rw[←hcl]at hT hm4 w1 w2 hlen;have hml:(bo (aJ q).nodes ar.length).length=(aJ q).nodes.length:=by simp[bo]
    repeat' first|exact k9|refine k2 ?_|apply kA|apply kI;intro hc|apply kL;intro hl|((simp only[hqi])<;>conv=>whnf)|refine k8 ?_|fail
    apply kCt [1,2,4,6,7,8,9,10] [];conv=>whnf
    generalize hC:(aJ q).nodes=C at *;generalize(aJ q).root=cr at *;refine Lp.ind (fun x:Nat×List Nod=>C.length-x.1) (fun x=>x.1≤C.length∧x.2=ar++bo (C.take x.1) ar.length) (fun x=>[(9,InD ar.length),(10,InD x.1)]) (fun x=>[(3,.ro 0 46 9 (x.2.map a8))]) (fun _=>(.tp [aE (ofP n l).1,boF (ofP n l).2],false)) (0,ar) ⟨by simp,by simp[bo]⟩ rfl ?_ rfl ?_
    ·rw[show(List.map a8 ar).length=ar.length from List.length_map ..];rfl
    rintro G' ⟨k,br⟩ ih' ⟨hk,hbr⟩
    dsimp only at hk hbr ih' ⊢;have hbl:br.length=ar.length+k:=by rw[hbr];simp[bo];omega
    by_cases hkc:k<C.length
    ·have hCk:C[k]?=some C[k]:=List.getElem?_eq_getElem hkc;have hmv:=zx (d:=(ar.length:Int)) hCk;have hwx:=w1.nodes _ (by rw[hC];exact List.getElem_mem hkc);have hwk:=w2 _ (List.getElem_mem hkc);obtain⟨y,hy⟩:=exEq (C[k]);have hyi:∀h:k<C.length,C[k]'h=y:=fun _=>hy.symm
     rw[←hy]at hmv hwx hwk;have hyl:=hwx.kids.1;simp only[dJ]at hyl
     repeat' first|exact k9|refine k2 ?_|apply kA|apply kI;intro hc|apply kL;intro hl|((simp only[hyi])<;>conv=>whnf)|refine k8 ?_|fail
     apply Stp.nj 12 3 1 rfl rfl;apply kCt [1,2,4,6,7,8,9,10,11,12,13] [];conv=>whnf
     refine Lp.ind (fun x:Nat=>y.kids.length-x) (fun x=>x≤y.kids.length) (fun x=>[(13,InD x)]) (fun x=>[(6,.ro 0 3 1 (((y.kids.take x).map (fun z=>(ar.length:Int)+z)).map ikF))]) (fun _=>(.tp [aE (ofP n l).1,boF (ofP n l).2],false)) 0 (by simp) rfl rfl rfl ?_
     rintro G'' j ih'' hj
     by_cases hjl:j<y.kids.length
     ·have hwz:=hwk _ (List.getElem_mem hjl)
      repeat' first|exact k9|refine k2 ?_|apply kA|apply kI;intro hc|refine k8 ?_|apply kL;intro hl
      apply kCt [1,2,4,6,7,8,9,10,11,12,13] [];conv=>whnf
      refine ih'' (j+1) _ _ _ (by omega) (by omega) rfl rfl ?_;rw[List.take_succ_eq_append_getElem hjl,List.map_append,List.map_append,List.map_singleton,List.map_singleton];rfl
     ·rw[List.take_of_length_le (by omega)];have hcomm:(fun z:Int=>(ar.length:Int)+z)=(fun z:Int=>z+(ar.length:Int)):=by funext z;omega
      rw[hcomm]
      repeat' first|exact k9|refine k2 ?_|apply kA|apply kI;intro hc|refine k8 ?_|apply kL;intro hl
      apply kCt [1,2,4,6,7,8,9,10] [];conv=>whnf
      refine ih' (k+1,br++[{ y with kids:=y.kids.map (· + (ar.length:Int)) }]) _ _ _ (by dsimp only;omega) ⟨by dsimp only;omega,by dsimp only;rw[hmv,hbr,List.append_assoc]⟩ rfl rfl ?_;rw[List.map_append];rfl
    ·repeat' first|exact k9|refine k2 ?_|apply kA|apply kI;intro hc|refine k8 ?_|apply kL;intro hl
     apply kCt [1,2,4,6,7] [];conv=>whnf
     rw[List.take_of_length_le (by omega)]at hbr;refine ih (i+1,br,ks++[((br.length:Nat):Int)-1]) _ _ _ (by dsimp only;omega) ⟨by dsimp only;omega,by simp[hks],by dsimp only;omega,?_⟩ rfl rfl ?_
     ·rw[hT];dsimp only;rw[hbl,hbr,show k=C.length by omega]
     ·dsimp only;rw[List.length_map,show List.map ikF (ks++[((br.length:Nat):Int)-1])=List.map ikF ks++[ikF (((br.length:Nat):Int)-1)]from by simp];rfl
  ·rw[List.drop_of_length_le (by omega),iJ]at hT;rw[hyes _ _ hT,hnn]
   repeat' first|exact k9|refine k2 ?_|apply kA|apply kI;intro hc|refine k8 ?_|apply kL;intro hl
   refine aq.i ?_;simp only[aE,dq,List.map_append];refine congrArg (fun z=>F.tp [F.ag [F.sl (List.map a8 ar++[[byF kind,F.vl (.int .u64 sa),F.vl (.int .u64 sb),F.vl (.int .u64 sc),F.vl (.int .u64 sd),stF text,inF lo,inF hi,F.sl (List.map ikF ks)]]),inF z],boF true]) ?_;simp
 ·refine aq.i ?_;rw[ofP,if_neg (by rw[←hF,hc];decide)];rfl
instance(kind sa sb sc sd:Int)(text:ByteArray)(lo hi:Int)(K:List (List F))(l:List Tre):C 101 [.ag [byF kind,.vl (.int .u64 sa),.vl (.int .u64 sb),.vl (.int .u64 sc),.vl (.int .u64 sd),stF text,inF lo,inF hi,.sl K],kF l]
  (.tp [aE (ofP ⟨kind,⟨sa,sb,sc,sd⟩,text,lo,hi,[]⟩ l).1,boF (ofP ⟨kind,⟨sa,sb,sc,sd⟩,text,lo,hi,[]⟩ l).2]) false ((⟨kind,⟨sa,sb,sc,sd⟩,text,lo,hi,[]⟩:Nod).wf∧l.length≤1466015503701∧(∀t∈l,Sm t)∧tot l+1≤1466015503701):=⟨fun h=>K6 kind sa sb sc sd text lo hi K l h.1 h.2.1 h.2.2.1 h.2.2.2⟩
set_option maxRecDepth 100000
set_option maxHeartbeats 0
end Go.Km
end
