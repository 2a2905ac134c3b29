/- The texts that the card needs, part 12. -/
import Derived.Test.YtoklkjkmbfebjaaGreatDoorP10
set_option linter.all false
section
namespace Go.aa
open Go Go.Km
structure cx where
 r:Int
 p:List Int
 t:Tre
 kind:Int
 kids:List Tre
def cx.zero:cx:=⟨0,[],.zero,0,[]⟩
def b6(g:List Dfn)(r:Int)(p:List Int):cx×Bool:=if (bR g r p).2=true then (⟨r,p,(bR g r p).1,(a9 (bR g r p).1).kind,cA (bR g r p).1⟩,true) else (.zero,false)
def jz(k:Nat):Bool:=k==1||k==2||k==4||k==5
def ez(k:Nat):Bool:=k==3||k==6
def aB(k:Nat)(s:cx):Int:=if jz k=true∧s.kind=6 then 1 else if ez k=true∧s.kind=4 then (s.kids.length:Int) - 1 else 0
def zF(k:Nat)(c:Cnt):Tre×Bool:=if k=1 then MR c else if k=2 then Mn c else if k=4 then jH c else kG c
def pU(k:Nat)(a b:Tre):Tre×Bool:=if k=3 then ig a b else mw a b
def bV(k:Nat)(s:cx)(at_:Int):Tre×Bool:=if jz k=true then zF k (a8 s.t) else
 if (pU k (s.kids.getD at_.toNat .zero) (s.kids.getD (at_+1).toNat .zero)).2=true then iz dF (s.kids.take at_.toNat++[(pU k (s.kids.getD at_.toNat .zero) (s.kids.getD (at_+1).toNat .zero)).1]++s.kids.drop (at_+2).toNat) else (.zero,false)
def cy(k:Nat)(g:List Dfn)(s:cx)(at_:Int):List Dfn×Bool:=if at_<0∨aB k s≤at_∨(bV k s at_).2=false∨(cb g s.r s.p (bV k s at_).1).2=false∨bO (cb g s.r s.p (bV k s at_).1).1≠0 then ([],false) else ((cb g s.r s.p (bV k s at_).1).1,true)
def ba(g:List Dfn)(pass way r:Int)(p:List Int)(at_:Int):List Dfn×Int:=if bO g≠0 then ([],bO g) else if (b6 g r p).2=false∨pass≠6∨7≤way∨(cy way.toNat g (b6 g r p).1 at_).2=false then ([],47) else ((cy way.toNat g (b6 g r p).1 at_).1,0)
structure cx.wf(s:cx):Prop where
 p:s.p.length≤1000000
 t:s.t.wf
 len:s.t.nodes.length≤20000
 kind:0≤s.kind∧s.kind≤255
 kids:∀x∈s.kids,x.wf
 tot:tot s.kids≤20000
 kl:s.kids.length≤20000
theorem sK(t:Tre):(a8 t).of.nodes.length≤t.nodes.length:=by
 unfold a8
 split
 ·rename_i h;have h2:=(sr h).2.1;have hm:yq t∈cA t:=by rw[←Go.Km.Ch (by omega)];exact List.getElem_mem _
  have:=nT hm;have:=(qb t).1;dsimp only;omega
 ·exact Nat.le_refl _
theorem w8{lo hi:Int}{t:Tre}(h:-1000000≤lo∧lo≤1000000)(k:-1000000≤hi∧hi≤1000000)(ht:t.wf)(hl:t.nodes.length≤100000):(Bw lo hi t).1.wf∧(Bw lo hi t).1.nodes.length≤t.nodes.length+1:=by
 refine⟨CH (n:=JE lo hi) (mh h k) (by simpa using ht) (by simp only[tot,List.map_cons,List.map_nil,List.sum_cons,List.sum_nil];unfold ca;omega),?_⟩;have h1:=tW (JE lo hi) [t];have h2:tot [t]=t.nodes.length:=by simp[tot]
 rw[h2] at h1;exact h1
theorem Dq{u v:Int}(h1:-1≤u)(h2:u≤1000)(h3:-1≤v)(h4:v≤1000):-1000000≤(eC u v).1∧(eC u v).1≤1000000:=by
 unfold eC
 split
 ·dsimp only;omega
 ·dsimp only;omega
theorem yI{a b:Tre}(ha:a.wf)(hb:b.wf)(hal:a.nodes.length≤100000)(hbl:b.nodes.length≤100000):(ig a b).1.wf∧(ig a b).1.nodes.length≤100001:=by
 have hwa:=eu ha hal;have hwb:=eu hb hbl;have h1:=hwa.least;have h2:=hwa.dW;have h3:=hwb.least;have h4:=hwb.dW;unfold ig
 split
 ·exact⟨Tre.a7,by decide⟩
 split
 ·obtain⟨q1,q2⟩:=w8 (Dq (u:=(a8 a).least) (v:=(a8 b).least) (by omega) (by omega) (by omega) (by omega)) (Dq (u:=(a8 a).dW) (v:=(a8 b).dW) (by omega) (by omega) (by omega) (by omega)) hwa.of hwa.len;have:=hwa.len;exact⟨q1,by omega⟩
 ·exact⟨Tre.a7,by decide⟩
theorem td{n:Nod}(h:n.wf):(oP n).wf:=⟨by show 1≤ca;decide,by simp only[oP,List.mem_singleton];rintro m rfl;exact h,by show Go.Sl.I64 0;unfold Go.Sl.I64;decide⟩
theorem B4{a b:Tre}(ha:a.wf)(hb:b.wf)(hal:a.nodes.length≤100000)(hbl:b.nodes.length≤100000):(mw a b).1.wf∧(mw a b).1.nodes.length≤100001:=by
 unfold mw
 split
 ·rename_i h;refine⟨td ⟨by dsimp only;omega,by unfold Bts.wf Bts.zero;dsimp only;omega,?_,by unfold Go.Sl.I64;dsimp only;omega,by unfold Go.Sl.I64;dsimp only;omega,⟨Nat.zero_le _,fun x hx=>by cases hx⟩⟩,by simp[oP]⟩;dsimp only;rw[ByteArray.size_append];omega
 ·exact⟨Tre.a7,by decide⟩
theorem iI(a b:List Tre):tot (a++b)=tot a+tot b:=by simp[tot]
theorem CD{s:cx}{x:Tre}{q:Nat}(hs:s.wf)(hx:x.wf∧x.nodes.length≤100001):(s.kids.take q++[x]++s.kids.drop (q+2)).length≤1466015503701∧(∀t∈(s.kids.take q++[x]++s.kids.drop (q+2)),t.wf)∧tot (s.kids.take q++[x]++s.kids.drop (q+2))+1≤1466015503701:=by
 have hkl:=hs.kl;have ht:=hs.tot;have h1:tot s.kids=tot (s.kids.take q)+tot (s.kids.drop q):=by rw[←iI,List.take_append_drop]
 have h2:tot (s.kids.drop (q+2))≤tot (s.kids.drop q):=by
  rw[show s.kids.drop (q+2)=(s.kids.drop q).drop 2 by rw[List.drop_drop]];have:tot (s.kids.drop q)=tot ((s.kids.drop q).take 2)+tot ((s.kids.drop q).drop 2):=by rw[←iI,List.take_append_drop]
  omega
 refine⟨by simp only[List.length_append,List.length_take,List.length_cons,List.length_nil,List.length_drop];omega,fun t ht=>?_,?_⟩
 ·simp only[List.mem_append,List.mem_singleton] at ht;rcases ht with (ht|rfl)|ht
  ·exact hs.kids t (List.mem_of_mem_take ht)
  ·exact hx.1
  ·exact hs.kids t (List.mem_of_mem_drop ht)
 ·rw[iI,iI,show tot [x]=x.nodes.length by simp[tot]];omega
end Go.aa
namespace Go.Km
open Go Go.Vc Go.Proofs Go.aa Go.Proofs.YtoklkjkmbfebjaaGreatDoor
set_option maxRecDepth 100000
set_option maxHeartbeats 0
theorem Mw(l:List Tre):C 63 [mA l] (t2F (iz dF l)) false (l.length≤1466015503701∧(∀t∈l,t.wf)∧tot l+1≤1466015503701):=inferInstance
theorem fe.seq{P:Program}{Γ:Nat→Option (List F)}{f:Nat}{l l':List F}{r:F}{b:Bool}{pre:Prop}{k:F×Bool→Prop}(h:KC P Γ f l' r b pre)(e:l=l')(hp:pre)(hk:k (r,b)):fe P Γ f l k:=by subst e;exact⟨(r,b),h.h hp,hk⟩
theorem lV{l:List Tre}{i j:Nat}:jh 2 (List.drop i (List.take j (l.map fO)))=true:=by
 rw[jh,List.all_eq_true];intro r hr;obtain⟨x,_,rfl⟩:=List.mem_map.1 (List.mem_of_mem_take (List.mem_of_mem_drop hr));rfl
abbrev bz:F:=.vl .nilFunc
abbrev eX(s:cx):F:=.ag [inF s.r,isF s.p,.sl (s.t.nodes.map aU),inF s.t.root,byF s.kind,.sl (s.kids.map fO)]
instance:C 18 [] (.ag [bz,bz,.cl 34 [],bz,.cl 36 [],bz,bz,.cl 38 [],.cl 39 [],bz,.cl 40 [],bz,bz,.cl 41 []]) true True:=⟨fun _=>by
 refine kf rfl rfl ?_;repeat' (first|exact k9|refine k2 ?_|apply kA|apply kI;intro hc|refine k8 ?_|apply kL;intro hl)⟩
instance(g:List Dfn)(r:Int)(p:List Int):C 19 [bC g,.ag [inF r,isF p]] (.tp [eX (b6 g r p).1,boF (b6 g r p).2]) false ((g.length≤1000∧(∀d∈g,d.wf)∧p.length≤1000000)∧(bR g r p).1.wf):=⟨fun ⟨h,hf⟩=>by
 cases hb:(bR g r p).2 with
 | true=>
  have e:b6 g r p=(⟨r,p,(bR g r p).1,(a9 (bR g r p).1).kind,cA (bR g r p).1⟩,true):=by rw[b6,if_pos hb]
  rw[e];refine kf rfl rfl ?_;repeat' first|exact k9|refine k2 ?_|apply kA|apply kI;intro hc|refine k8 ?_|apply kL;intro hl
 | false=>
  have e:b6 g r p=(.zero,false):=by rw[b6,if_neg (by rw[hb];decide)]
  rw[e];refine kf rfl rfl ?_;repeat' first|exact k9|refine k2 ?_|apply kA|apply kI;intro hc|refine k8 ?_|apply kL;intro hl
  exact ao.i rfl⟩
theorem rB(f k:Nat)(h1:jz k=true)(h2:ez k=false)(s:cx)(hk:s.kids.length≤1000000):Pure Tryz.prog X1.Γ 30 [.ag [.cl f [],bz],eX s] (inF (aB k s)) true:=by
 by_cases h6:s.kind=6
 ·refine kf rfl rfl ?_;repeat' first|exact k9|refine k2 ?_|apply kA|apply kI;intro hc|refine k8 ?_|apply kL;intro hl
  all_goals exact ao.n (by simp[aB,h1,h2,h6]) rfl
 ·refine kf rfl rfl ?_;repeat' first|exact k9|refine k2 ?_|apply kA|apply kI;intro hc|refine k8 ?_|apply kL;intro hl
  all_goals exact ao.n (by simp[aB,h1,h2,h6]) rfl
theorem Ce(f k:Nat)(h1:jz k=false)(h2:ez k=true)(s:cx)(hk:s.kids.length≤1000000):Pure Tryz.prog X1.Γ 30 [.ag [bz,.cl f []],eX s] (inF (aB k s)) true:=by
 by_cases h4:s.kind=4
 ·refine kf rfl rfl ?_;repeat' first|exact k9|refine k2 ?_|apply kA|apply kI;intro hc|refine k8 ?_|apply kL;intro hl
  all_goals exact ao.n (by simp[aB,h1,h2,h4]) rfl
 ·refine kf rfl rfl ?_;repeat' first|exact k9|refine k2 ?_|apply kA|apply kI;intro hc|refine k8 ?_|apply kL;intro hl
  all_goals exact ao.n (by simp[aB,h1,h2,h4]) rfl
instance(s:cx):C 30 [.ag [bz,bz],eX s] (inF (aB 0 s)) true (s.kids.length≤1000000):=⟨fun hk=>by
 have e:aB 0 s=0:=rfl;rw[e];refine kf rfl rfl ?_;repeat' first|exact k9|refine k2 ?_|apply kA|apply kI;intro hc|refine k8 ?_|apply kL;intro hl
 all_goals exact ao.n rfl rfl⟩
instance(s:cx):C 30 [.ag [.cl 34 [],bz],eX s] (inF (aB 1 s)) true (s.kids.length≤1000000):=⟨fun hk=>rB _ 1 rfl rfl s hk⟩
instance(s:cx):C 30 [.ag [.cl 36 [],bz],eX s] (inF (aB 2 s)) true (s.kids.length≤1000000):=⟨fun hk=>rB _ 2 rfl rfl s hk⟩
instance(s:cx):C 30 [.ag [bz,.cl 38 []],eX s] (inF (aB 3 s)) true (s.kids.length≤1000000):=⟨fun hk=>Ce _ 3 rfl rfl s hk⟩
instance(s:cx):C 30 [.ag [.cl 39 [],bz],eX s] (inF (aB 4 s)) true (s.kids.length≤1000000):=⟨fun hk=>rB _ 4 rfl rfl s hk⟩
instance(s:cx):C 30 [.ag [.cl 40 [],bz],eX s] (inF (aB 5 s)) true (s.kids.length≤1000000):=⟨fun hk=>rB _ 5 rfl rfl s hk⟩
instance(s:cx):C 30 [.ag [bz,.cl 41 []],eX s] (inF (aB 6 s)) true (s.kids.length≤1000000):=⟨fun hk=>Ce _ 6 rfl rfl s hk⟩
instance(s:cx)(at_:Int):C 45 [.ag [.cl 34 [],bz],eX s,inF at_] (t2F (bV 1 s at_)) false (s.wf∧(ez 1=true→0≤at_∧at_+2≤s.kids.length)):=⟨fun ⟨hs,_⟩=>by
 have hst:=hs.t;have hcw:=eu hs.t (by have:=hs.len;omega);have e:bV 1 s at_=zF 1 (a8 s.t):=by rw[bV,if_pos (show jz 1=true from rfl)]
 rw[e];refine kf rfl rfl ?_;repeat' first|exact k9|refine k2 ?_|apply kA|apply kI;intro hc|refine k8 ?_|apply kL;intro hl
 all_goals exact ao.i rfl⟩
instance(s:cx)(at_:Int):C 45 [.ag [.cl 36 [],bz],eX s,inF at_] (t2F (bV 2 s at_)) false (s.wf∧(ez 2=true→0≤at_∧at_+2≤s.kids.length)):=⟨fun ⟨hs,_⟩=>by
 have hst:=hs.t;have hcw:=eu hs.t (by have:=hs.len;omega);have e:bV 2 s at_=zF 2 (a8 s.t):=by rw[bV,if_pos (show jz 2=true from rfl)]
 rw[e];refine kf rfl rfl ?_;repeat' first|exact k9|refine k2 ?_|apply kA|apply kI;intro hc|refine k8 ?_|apply kL;intro hl
 all_goals exact ao.i rfl⟩
instance(s:cx)(at_:Int):C 45 [.ag [.cl 39 [],bz],eX s,inF at_] (t2F (bV 4 s at_)) false (s.wf∧(ez 4=true→0≤at_∧at_+2≤s.kids.length)):=⟨fun ⟨hs,_⟩=>by
 have hst:=hs.t;have hcw:=eu hs.t (by have:=hs.len;omega);have e:bV 4 s at_=zF 4 (a8 s.t):=by rw[bV,if_pos (show jz 4=true from rfl)]
 rw[e];refine kf rfl rfl ?_;repeat' first|exact k9|refine k2 ?_|apply kA|apply kI;intro hc|refine k8 ?_|apply kL;intro hl
 all_goals exact ao.i rfl⟩
instance(s:cx)(at_:Int):C 45 [.ag [.cl 40 [],bz],eX s,inF at_] (t2F (bV 5 s at_)) false (s.wf∧(ez 5=true→0≤at_∧at_+2≤s.kids.length)):=⟨fun ⟨hs,_⟩=>by
 have hst:=hs.t;have hcw:=eu hs.t (by have:=hs.len;omega);have e:bV 5 s at_=zF 5 (a8 s.t):=by rw[bV,if_pos (show jz 5=true from rfl)]
 rw[e];refine kf rfl rfl ?_;repeat' first|exact k9|refine k2 ?_|apply kA|apply kI;intro hc|refine k8 ?_|apply kL;intro hl
 all_goals exact ao.i rfl⟩
instance(s:cx)(at_:Int):C 45 [.ag [bz,.cl 38 []],eX s,inF at_] (t2F (bV 3 s at_)) false (s.wf∧(ez 3=true→0≤at_∧at_+2≤s.kids.length)):=⟨fun ⟨hs,hat⟩=>by
 obtain⟨h0,h2⟩:=hat rfl;obtain⟨q,rfl⟩:∃q:Nat,at_=q:=⟨at_.toNat,by omega⟩
 have hkl:=hs.kl;have hq1:q<s.kids.length:=by omega
 have hq2:q+1<s.kids.length:=by omega
 have hbi:∀h:(((q:Nat):Int)+1).toNat<s.kids.length,s.kids[(((q:Nat):Int)+1).toNat]'h=s.kids[q+1]:=fun h=>by
  simp only[show(((q:Nat):Int)+1).toNat=q+1 by omega]
 have hga:s.kids.getD ((q:Nat):Int).toNat .zero=s.kids[q]:=by rw[Int.toNat_natCast,List.getD_eq_getElem?_getD,List.getElem?_eq_getElem hq1];rfl
 have hgb:s.kids.getD (((q:Nat):Int)+1).toNat .zero=s.kids[q+1]:=by rw[show(((q:Nat):Int)+1).toNat=q+1 by omega,List.getD_eq_getElem?_getD,List.getElem?_eq_getElem hq2];rfl
 have hma:s.kids[q]∈s.kids:=List.getElem_mem _;have hmb:s.kids[q+1]∈s.kids:=List.getElem_mem _;have hpre:s.kids[q].wf∧s.kids[q+1].wf∧s.kids[q].nodes.length≤100000∧s.kids[q+1].nodes.length≤100000:=⟨hs.kids _ hma,hs.kids _ hmb,by have:=nT hma;have:=hs.tot;omega,by have:=nT hmb;have:=hs.tot;omega⟩
 have hpre2:s.kids[q].wf∧s.kids[q+1].wf:=⟨hpre.1,hpre.2.1⟩
 cases hx:(ig s.kids[q] s.kids[q+1]).2 with
 | true=>
  have e:bV 3 s (q:Int)=iz dF (s.kids.take q++[(ig s.kids[q] s.kids[q+1]).1]++s.kids.drop (q+2)):=by rw[bV,if_neg (by decide),hga,hgb,show pU 3 s.kids[q] s.kids[q+1]=ig s.kids[q] s.kids[q+1] from rfl,if_pos hx,Int.toNat_natCast,show(((q:Nat):Int)+2).toNat=q+2 by omega]
  have hseq:=CD (q:=q) hs (yI hpre.1 hpre.2.1 hpre.2.2.1 hpre.2.2.2);rw[e];refine kf rfl rfl ?_;repeat' first|exact k9|refine k2 ?_|apply kA|apply kI;intro hc|apply kL;intro hl|((simp only[hbi])<;>conv=>whnf)|((refine fe.seq (Mw (s.kids.take q++[(ig s.kids[q] s.kids[q+1]).1]++s.kids.drop (q+2))) ?_ hseq ?_)<;>conv=>whnf)|refine k8 ?_|fail
  ·exact⟨lV⟩
  ·exact⟨lV⟩
  ·simp only[mA,List.drop_zero,List.take_length,List.map_append,List.map_take,List.map_drop];rfl
 | false=>
  have e:bV 3 s (q:Int)=(.zero,false):=by rw[bV,if_neg (by decide),hga,hgb,show pU 3 s.kids[q] s.kids[q+1]=ig s.kids[q] s.kids[q+1] from rfl,if_neg (by rw[hx];decide)]
  rw[e];refine kf rfl rfl ?_;repeat' first|exact k9|refine k2 ?_|apply kA|apply kI;intro hc|apply kL;intro hl|((simp only[hbi])<;>conv=>whnf)|refine k8 ?_|fail
  exact ao.i rfl⟩
instance(s:cx)(at_:Int):C 45 [.ag [bz,.cl 41 []],eX s,inF at_] (t2F (bV 6 s at_)) false (s.wf∧(ez 6=true→0≤at_∧at_+2≤s.kids.length)):=⟨fun ⟨hs,hat⟩=>by
 obtain⟨h0,h2⟩:=hat rfl;obtain⟨q,rfl⟩:∃q:Nat,at_=q:=⟨at_.toNat,by omega⟩
 have hkl:=hs.kl;have hq1:q<s.kids.length:=by omega
 have hq2:q+1<s.kids.length:=by omega
 have hbi:∀h:(((q:Nat):Int)+1).toNat<s.kids.length,s.kids[(((q:Nat):Int)+1).toNat]'h=s.kids[q+1]:=fun h=>by
  simp only[show(((q:Nat):Int)+1).toNat=q+1 by omega]
 have hga:s.kids.getD ((q:Nat):Int).toNat .zero=s.kids[q]:=by rw[Int.toNat_natCast,List.getD_eq_getElem?_getD,List.getElem?_eq_getElem hq1];rfl
 have hgb:s.kids.getD (((q:Nat):Int)+1).toNat .zero=s.kids[q+1]:=by rw[show(((q:Nat):Int)+1).toNat=q+1 by omega,List.getD_eq_getElem?_getD,List.getElem?_eq_getElem hq2];rfl
 have hma:s.kids[q]∈s.kids:=List.getElem_mem _;have hmb:s.kids[q+1]∈s.kids:=List.getElem_mem _;have hpre:s.kids[q].wf∧s.kids[q+1].wf∧s.kids[q].nodes.length≤100000∧s.kids[q+1].nodes.length≤100000:=⟨hs.kids _ hma,hs.kids _ hmb,by have:=nT hma;have:=hs.tot;omega,by have:=nT hmb;have:=hs.tot;omega⟩
 have hpre2:s.kids[q].wf∧s.kids[q+1].wf:=⟨hpre.1,hpre.2.1⟩
 cases hx:(mw s.kids[q] s.kids[q+1]).2 with
 | true=>
  have e:bV 6 s (q:Int)=iz dF (s.kids.take q++[(mw s.kids[q] s.kids[q+1]).1]++s.kids.drop (q+2)):=by rw[bV,if_neg (by decide),hga,hgb,show pU 6 s.kids[q] s.kids[q+1]=mw s.kids[q] s.kids[q+1] from rfl,if_pos hx,Int.toNat_natCast,show(((q:Nat):Int)+2).toNat=q+2 by omega]
  have hseq:=CD (q:=q) hs (B4 hpre.1 hpre.2.1 hpre.2.2.1 hpre.2.2.2);rw[e];refine kf rfl rfl ?_;repeat' first|exact k9|refine k2 ?_|apply kA|apply kI;intro hc|apply kL;intro hl|((simp only[hbi])<;>conv=>whnf)|((refine fe.seq (Mw (s.kids.take q++[(mw s.kids[q] s.kids[q+1]).1]++s.kids.drop (q+2))) ?_ hseq ?_)<;>conv=>whnf)|refine k8 ?_|fail
  ·exact⟨lV⟩
  ·exact⟨lV⟩
  ·simp only[mA,List.drop_zero,List.take_length,List.map_append,List.map_take,List.map_drop];rfl
 | false=>
  have e:bV 6 s (q:Int)=(.zero,false):=by rw[bV,if_neg (by decide),hga,hgb,show pU 6 s.kids[q] s.kids[q+1]=mw s.kids[q] s.kids[q+1] from rfl,if_neg (by rw[hx];decide)]
  rw[e];refine kf rfl rfl ?_;repeat' first|exact k9|refine k2 ?_|apply kA|apply kI;intro hc|apply kL;intro hl|((simp only[hbi])<;>conv=>whnf)|refine k8 ?_|fail
  exact ao.i rfl⟩
end Go.Km
end
section
namespace Go.aa
open Go Go.Km
theorem Gs{k:Nat}{s:cx}{at_:Int}(h:ez k=true)(h0:0≤at_)(h1:at_<aB k s):0≤at_∧at_+2≤s.kids.length:=by
 have hr:jz k=false:=by
  simp only[ez,Bool.or_eq_true,beq_iff_eq] at h;rcases h with rfl|rfl<;>rfl
 unfold aB at h1;rw[if_neg (by rw[hr];simp)] at h1
 split at h1<;>omega
theorem I7{k:Nat}{c:Cnt}(hc:c.wf):(zF k c).1.wf∧(zF k c).1.nodes.length≤c.of.nodes.length+1:=by
 have hl:=hc.least;have hw:=eu hc.of hc.len;have hcl:=sK c.of;have h1:=hw.dW;unfold zF
 split
 ·exact⟨hc.of,Nat.le_succ _⟩
 split
 ·exact⟨td vq,by show 1≤_;omega⟩
 split
 ·unfold jH
  split
  ·exact⟨Tre.a7,Nat.zero_le _⟩
  split
  ·obtain⟨q1,q2⟩:=w8 (lo:=c.least) (hi:=-1) (by omega) (by omega) hw.of hw.len;exact⟨q1,by omega⟩
  ·exact⟨Tre.a7,Nat.zero_le _⟩
 ·unfold kG
  split
  ·exact⟨Tre.a7,Nat.zero_le _⟩
  split
  ·exact⟨Tre.a7,Nat.zero_le _⟩
  ·obtain⟨q1,q2⟩:=w8 (lo:=0) (hi:=(a8 c.of).dW) (by omega) (by omega) hw.of hw.len;exact⟨q1,by omega⟩
theorem Ex(a b:Tre):(ig a b).1.nodes.length≤a.nodes.length+1:=by
 unfold ig
 split
 ·exact Nat.zero_le _
 split
 ·have h1:=tW (JE (eC (a8 a).least (a8 b).least).1 (eC (a8 a).dW (a8 b).dW).1) [(a8 a).of];have h2:tot [(a8 a).of]=(a8 a).of.nodes.length:=by simp[tot]
  have h3:=sK a;rw[h2] at h1;exact Nat.le_trans h1 (by omega)
 ·exact Nat.zero_le _
theorem FP(a b:Tre):(mw a b).1.nodes.length≤1:=by
 unfold mw
 split
 ·exact Nat.le_refl _
 ·exact Nat.zero_le _
theorem Ca{l:List Tre}(h:∀t∈l,t.wf)(i:Nat):(l.getD i .zero).wf:=by
 rw[List.getD_eq_getElem?_getD]
 cases e:l[i]? with
 | none=>exact Tre.a7
 | some t=>exact h t (List.mem_of_getElem? e)
theorem zy{l:List Tre}(i:Nat):(l.getD i .zero).nodes.length≤tot l:=by
 rw[List.getD_eq_getElem?_getD]
 cases e:l[i]? with
 | none=>exact Nat.zero_le _
 | some t=>exact nT (List.mem_of_getElem? e)
theorem wj{k:Nat}{s:cx}{at_:Int}(hs:s.wf):(bV k s at_).1.wf∧(bV k s at_).1.nodes.length≤100000:=by
 have hl:=hs.len;have ht:=hs.tot;unfold bV
 split
 ·have hc:=eu hs.t (by omega);obtain⟨q1,q2⟩:=I7 (k:=k) hc;have:=sK s.t;exact⟨q1,by omega⟩
 ·split
  ·obtain⟨a,ha⟩:=exEq (s.kids.getD at_.toNat .zero);obtain⟨b,hb⟩:=exEq (s.kids.getD (at_+1).toNat .zero);rw[←ha,←hb];have haw:a.wf:=by rw[ha];exact Ca hs.kids _
   have hbw:b.wf:=by rw[hb];exact Ca hs.kids _
   have hal:a.nodes.length≤20000:=by rw[ha];exact Nat.le_trans (zy _) ht
   have hbl:b.nodes.length≤20000:=by rw[hb];exact Nat.le_trans (zy _) ht
   have hx:(pU k a b).1.wf∧(pU k a b).1.nodes.length≤20001:=by
    unfold pU
    split
    ·exact⟨(yI haw hbw (by omega) (by omega)).1,Nat.le_trans (Ex a b) (by omega)⟩
    ·exact⟨(B4 haw hbw (by omega) (by omega)).1,Nat.le_trans (FP a b) (by omega)⟩
   have hm:∀t∈(s.kids.take at_.toNat++[(pU k a b).1]++s.kids.drop (at_+2).toNat),t.wf:=fun t ht=>by
    simp only[List.mem_append,List.mem_singleton] at ht;rcases ht with (ht|rfl)|ht
    ·exact hs.kids t (List.mem_of_mem_take ht)
    ·exact hx.1
    ·exact hs.kids t (List.mem_of_mem_drop ht)
   have h1:tot s.kids=tot (s.kids.take at_.toNat)+tot (s.kids.drop at_.toNat):=by rw[←iI,List.take_append_drop]
   have h2:tot s.kids=tot (s.kids.take (at_+2).toNat)+tot (s.kids.drop (at_+2).toNat):=by rw[←iI,List.take_append_drop]
   have h3:tot (s.kids.take at_.toNat++[(pU k a b).1]++s.kids.drop (at_+2).toNat)≤60001:=by
    rw[iI,iI,show tot [(pU k a b).1]=(pU k a b).1.nodes.length by simp[tot]];omega
   refine⟨CH oh hm (by unfold ca;omega),Nat.le_trans (tW _ _) (by omega)⟩
  ·exact⟨Tre.a7,Nat.zero_le _⟩
theorem Io{g:List Dfn}{r:Int}{t:Tre}(hg:∀d∈g,d.wf)(ht:t.wf)(hn:g.length≤1000):(mL g r t).1.length≤1000∧∀d∈(mL g r t).1,d.wf:=by
 unfold mL
 split
 ·rename_i h;refine⟨by simpa using hn,fun d hd=>?_⟩;rcases List.mem_or_eq_of_mem_set hd with hd|rfl
  ·exact hg d hd
  ·exact⟨(hg _ (List.getElem_mem _)).name,ht⟩
 ·exact⟨Nat.zero_le _,fun d hd=>by cases hd⟩
theorem qt{g:List Dfn}{r:Int}{p:List Int}{x:Tre}(hn:g.length≤1000)(hg:∀d∈g,d.wf∧0<d.body.nodes.length∧d.body.nodes.length≤100000)(hp:p.length≤1000000)(hx:x.wf)(hxl:x.nodes.length≤100000):(cb g r p x).1.length≤1000∧∀d∈(cb g r p x).1,d.wf:=by
 unfold cb
 split
 ·rename_i h
  split
  ·rename_i h2;obtain⟨h3,h4,h5⟩:=hg _ (List.getElem_mem (show r.toNat<g.length by omega));exact Io (fun d hd=>(hg d hd).1) (yF h3.body hx h5 hxl hp h2).1 hn
  ·exact⟨Nat.zero_le _,fun d hd=>by cases hd⟩
 ·exact⟨Nat.zero_le _,fun d hd=>by cases hd⟩
theorem I5{t:Tre}{p:List Int}(ht:t.wf):(mY t p).1.wf∧(mY t p).1.nodes.length≤t.nodes.length:=by
 unfold mY
 split
 ·rename_i hr;have hR:=aq hr
  split
  ·rename_i l k hd;obtain⟨_,h1,h2,_⟩:=kU hR.kok.ae p t.root hR.root.1 hR.root.2 l k hd;exact⟨(gL ht hR h1 h2).1,nQ hR h1 h2⟩
  ·exact⟨Tre.a7,Nat.zero_le _⟩
 ·exact⟨Tre.a7,Nat.zero_le _⟩
theorem pv{g:List Dfn}{r:Int}{p:List Int}(hg:∀d∈g,d.wf∧d.body.nodes.length≤20000):(bR g r p).1.wf∧(bR g r p).1.nodes.length≤20000:=by
 unfold bR
 split
 ·rename_i h;obtain⟨h1,h2⟩:=hg _ (List.getElem_mem (show r.toNat<g.length by omega));have:=I5 (p:=p) h1.body;exact⟨this.1,Nat.le_trans this.2 h2⟩
 ·exact⟨Tre.a7,Nat.zero_le _⟩
theorem lq{g:List Dfn}{r:Int}{p:List Int}(hg:∀d∈g,d.wf∧d.body.nodes.length≤20000)(hp:p.length≤1000000):(b6 g r p).1.wf:=by
 unfold b6
 split
 ·obtain⟨h1,h2⟩:=pv (r:=r) (p:=p) hg;obtain⟨h3,h4⟩:=qb (bR g r p).1;exact⟨hp,h1,h2,(tX h1).kind,x9 h1,by dsimp only;omega,by dsimp only;omega⟩
 ·exact⟨Nat.zero_le _,Tre.a7,Nat.zero_le _,by show(0:Int)≤0∧(0:Int)≤255;omega,(fun x hx=>by cases hx),Nat.zero_le _,Nat.zero_le _⟩
end Go.aa
namespace Go.Km
open Go Go.Vc Go.Proofs Go.aa Go.Proofs.YtoklkjkmbfebjaaGreatDoor
set_option maxRecDepth 100000
set_option maxHeartbeats 0
instance(g:List Dfn)(s:cx)(at_:Int):C 20 [bC g,.ag [bz,bz],eX s,inF at_] (.tp [bC (cy 0 g s at_).1,boF (cy 0 g s at_).2]) false (g.length≤1000∧(∀d∈g,d.wf∧0<d.body.nodes.length∧d.body.nodes.length≤100000)∧s.wf):=⟨fun ⟨hn,hg,hs⟩=>by
 have hkl:s.kids.length≤1000000:=by have:=hs.kl;omega
 have hz:aB 0 s=0:=rfl;rw[show cy 0 g s at_=([],false) from by rw[cy,if_pos (by omega)]];refine kf rfl rfl ?_;repeat' first|exact k9|refine k2 ?_|apply kA|apply kI;intro hc|refine k8 ?_|apply kL;intro hl
 all_goals exact ao.i rfl⟩
theorem xO{k:Nat}{g:List Dfn}{s:cx}{at_:Int}(h:at_<0∨aB k s≤at_∨(bV k s at_).2=false∨(cb g s.r s.p (bV k s at_).1).2=false∨bO (cb g s.r s.p (bV k s at_).1).1≠0):cy k g s at_=([],false):=by rw[cy,if_pos h]
theorem Dz(f k:Nat)(g:List Dfn)(s:cx)(at_:Int)(hseat:∀s:cx,C 30 [.ag [.cl f [],bz],eX s] (inF (aB k s)) true (s.kids.length≤1000000))(hbec:∀(s:cx) (at_:Int),C 45 [.ag [.cl f [],bz],eX s,inF at_] (t2F (bV k s at_)) false (s.wf∧(ez k=true→0≤at_∧at_+2≤s.kids.length)))(hn:g.length≤1000)(hg:∀d∈g,d.wf∧0<d.body.nodes.length∧d.body.nodes.length≤100000)(hs:s.wf):Pure Tryz.prog X1.Γ 20 [bC g,.ag [.cl f [],bz],eX s,inF at_] (.tp [bC (cy k g s at_).1,boF (cy k g s at_).2]) false:=by
 have hkl:s.kids.length≤1000000:=by have:=hs.kl;omega
 by_cases h0:at_<0
 ·rw[xO (.inl h0)];refine kf rfl rfl ?_;repeat' first|exact k9|refine k2 ?_|apply kA|apply kI;intro hc|refine k8 ?_|apply kL;intro hl
  all_goals exact ao.i rfl
 by_cases h1:aB k s≤at_
 ·rw[xO (.inr (.inl h1))];refine kf rfl rfl ?_;repeat' first|exact k9|refine k2 ?_|apply kA|apply kI;intro hc|refine k8 ?_|apply kL;intro hl
  all_goals exact ao.i rfl
 have hb:=wj (k:=k) (at_:=at_) hs;have hpb:s.wf∧(ez k=true→0≤at_∧at_+2≤s.kids.length):=⟨hs,fun h=>Gs h (by omega) (by omega)⟩
 have hpw:g.length≤1000∧(∀d∈g,d.wf∧0<d.body.nodes.length∧d.body.nodes.length≤100000)∧s.p.length≤1000000∧(bV k s at_).1.wf∧(bV k s at_).1.nodes.length≤100000:=⟨hn,hg,hs.p,hb.1,hb.2⟩
 have hpc:=qt (r:=s.r) hn hg hs.p hb.1 hb.2;have hr:cy k g s at_=if (bV k s at_).2=false∨(cb g s.r s.p (bV k s at_).1).2=false∨bO (cb g s.r s.p (bV k s at_).1).1≠0 then ([],false) else ((cb g s.r s.p (bV k s at_).1).1,true):=by
  by_cases h:(bV k s at_).2=false∨(cb g s.r s.p (bV k s at_).1).2=false∨bO (cb g s.r s.p (bV k s at_).1).1≠0
  ·rw[if_pos h,xO (.inr (.inr h))]
  ·rw[if_neg h,cy,if_neg (by rintro(q|q|q);exact h0 q;exact h1 q;exact h q)]
 refine kf rfl rfl ?_;repeat' first|exact k9|refine k2 ?_|apply kA|apply kI;intro hc|refine k8 ?_|apply kL;intro hl
 ·refine ao.i ?_;rw[hr,if_neg (by rintro(q|q|q);exact bfF (by assumption) q;exact bfF (by assumption) q;exact q (by assumption))]
 ·refine ao.i ?_;rw[hr,if_pos (.inr (.inr (by assumption)))];rfl
 ·refine ao.i ?_;rw[hr,if_pos (.inr (.inl (by assumption)))];rfl
 ·refine ao.i ?_;rw[hr,if_pos (.inl (by assumption))];rfl
theorem Kl(f k:Nat)(g:List Dfn)(s:cx)(at_:Int)(hseat:∀s:cx,C 30 [.ag [bz,.cl f []],eX s] (inF (aB k s)) true (s.kids.length≤1000000))(hbec:∀(s:cx) (at_:Int),C 45 [.ag [bz,.cl f []],eX s,inF at_] (t2F (bV k s at_)) false (s.wf∧(ez k=true→0≤at_∧at_+2≤s.kids.length)))(hn:g.length≤1000)(hg:∀d∈g,d.wf∧0<d.body.nodes.length∧d.body.nodes.length≤100000)(hs:s.wf):Pure Tryz.prog X1.Γ 20 [bC g,.ag [bz,.cl f []],eX s,inF at_] (.tp [bC (cy k g s at_).1,boF (cy k g s at_).2]) false:=by
 have hkl:s.kids.length≤1000000:=by have:=hs.kl;omega
 by_cases h0:at_<0
 ·rw[xO (.inl h0)];refine kf rfl rfl ?_;repeat' first|exact k9|refine k2 ?_|apply kA|apply kI;intro hc|refine k8 ?_|apply kL;intro hl
  all_goals exact ao.i rfl
 by_cases h1:aB k s≤at_
 ·rw[xO (.inr (.inl h1))];refine kf rfl rfl ?_;repeat' first|exact k9|refine k2 ?_|apply kA|apply kI;intro hc|refine k8 ?_|apply kL;intro hl
  all_goals exact ao.i rfl
 have hb:=wj (k:=k) (at_:=at_) hs;have hpb:s.wf∧(ez k=true→0≤at_∧at_+2≤s.kids.length):=⟨hs,fun h=>Gs h (by omega) (by omega)⟩
 have hpw:g.length≤1000∧(∀d∈g,d.wf∧0<d.body.nodes.length∧d.body.nodes.length≤100000)∧s.p.length≤1000000∧(bV k s at_).1.wf∧(bV k s at_).1.nodes.length≤100000:=⟨hn,hg,hs.p,hb.1,hb.2⟩
 have hpc:=qt (r:=s.r) hn hg hs.p hb.1 hb.2;have hr:cy k g s at_=if (bV k s at_).2=false∨(cb g s.r s.p (bV k s at_).1).2=false∨bO (cb g s.r s.p (bV k s at_).1).1≠0 then ([],false) else ((cb g s.r s.p (bV k s at_).1).1,true):=by
  by_cases h:(bV k s at_).2=false∨(cb g s.r s.p (bV k s at_).1).2=false∨bO (cb g s.r s.p (bV k s at_).1).1≠0
  ·rw[if_pos h,xO (.inr (.inr h))]
  ·rw[if_neg h,cy,if_neg (by rintro(q|q|q);exact h0 q;exact h1 q;exact h q)]
 refine kf rfl rfl ?_;repeat' first|exact k9|refine k2 ?_|apply kA|apply kI;intro hc|refine k8 ?_|apply kL;intro hl
 ·refine ao.i ?_;rw[hr,if_neg (by rintro(q|q|q);exact bfF (by assumption) q;exact bfF (by assumption) q;exact q (by assumption))]
 ·refine ao.i ?_;rw[hr,if_pos (.inr (.inr (by assumption)))];rfl
 ·refine ao.i ?_;rw[hr,if_pos (.inr (.inl (by assumption)))];rfl
 ·refine ao.i ?_;rw[hr,if_pos (.inl (by assumption))];rfl
instance(g:List Dfn)(s:cx)(at_:Int):C 20 [bC g,.ag [.cl 34 [],bz],eX s,inF at_] (.tp [bC (cy 1 g s at_).1,boF (cy 1 g s at_).2]) false (g.length≤1000∧(∀d∈g,d.wf∧0<d.body.nodes.length∧d.body.nodes.length≤100000)∧s.wf):=⟨fun ⟨hn,hg,hs⟩=>Dz _ 1 g s at_ (fun _=>inferInstance) (fun _ _=>inferInstance) hn hg hs⟩
instance(g:List Dfn)(s:cx)(at_:Int):C 20 [bC g,.ag [.cl 36 [],bz],eX s,inF at_] (.tp [bC (cy 2 g s at_).1,boF (cy 2 g s at_).2]) false (g.length≤1000∧(∀d∈g,d.wf∧0<d.body.nodes.length∧d.body.nodes.length≤100000)∧s.wf):=⟨fun ⟨hn,hg,hs⟩=>Dz _ 2 g s at_ (fun _=>inferInstance) (fun _ _=>inferInstance) hn hg hs⟩
instance(g:List Dfn)(s:cx)(at_:Int):C 20 [bC g,.ag [bz,.cl 38 []],eX s,inF at_] (.tp [bC (cy 3 g s at_).1,boF (cy 3 g s at_).2]) false (g.length≤1000∧(∀d∈g,d.wf∧0<d.body.nodes.length∧d.body.nodes.length≤100000)∧s.wf):=⟨fun ⟨hn,hg,hs⟩=>Kl _ 3 g s at_ (fun _=>inferInstance) (fun _ _=>inferInstance) hn hg hs⟩
instance(g:List Dfn)(s:cx)(at_:Int):C 20 [bC g,.ag [.cl 39 [],bz],eX s,inF at_] (.tp [bC (cy 4 g s at_).1,boF (cy 4 g s at_).2]) false (g.length≤1000∧(∀d∈g,d.wf∧0<d.body.nodes.length∧d.body.nodes.length≤100000)∧s.wf):=⟨fun ⟨hn,hg,hs⟩=>Dz _ 4 g s at_ (fun _=>inferInstance) (fun _ _=>inferInstance) hn hg hs⟩
instance(g:List Dfn)(s:cx)(at_:Int):C 20 [bC g,.ag [.cl 40 [],bz],eX s,inF at_] (.tp [bC (cy 5 g s at_).1,boF (cy 5 g s at_).2]) false (g.length≤1000∧(∀d∈g,d.wf∧0<d.body.nodes.length∧d.body.nodes.length≤100000)∧s.wf):=⟨fun ⟨hn,hg,hs⟩=>Dz _ 5 g s at_ (fun _=>inferInstance) (fun _ _=>inferInstance) hn hg hs⟩
instance(g:List Dfn)(s:cx)(at_:Int):C 20 [bC g,.ag [bz,.cl 41 []],eX s,inF at_] (.tp [bC (cy 6 g s at_).1,boF (cy 6 g s at_).2]) false (g.length≤1000∧(∀d∈g,d.wf∧0<d.body.nodes.length∧d.body.nodes.length≤100000)∧s.wf):=⟨fun ⟨hn,hg,hs⟩=>Kl _ 6 g s at_ (fun _=>inferInstance) (fun _ _=>inferInstance) hn hg hs⟩
end Go.Km
end
section
namespace Go.aa
open Go Go.Km
theorem fg{g:List Dfn}(h:bO g=0):dI g=0:=by
 unfold bO jK at h
 split at h
 ·assumption
 ·exact h
end Go.aa
namespace Go.Km
open Go Go.Vc Go.Proofs Go.aa Go.Proofs.YtoklkjkmbfebjaaGreatDoor
set_option maxRecDepth 100000
set_option maxHeartbeats 0
instance(g:List Dfn)(pass way r:Int)(p:List Int)(at_:Int):C 8 [bC g,.ag [byF pass,byF way,inF r,isF p,inF at_]] (.tp [bC (ba g pass way r p at_).1,inF (ba g pass way r p at_).2]) false (g.length≤1000∧(∀d∈g,d.wf)∧p.length≤1000000∧0≤way∧way≤255):=⟨fun ⟨hn,hw,hp,hw0,hw1⟩=>by
 have hpre:g.length≤1000∧∀d∈g,d.wf:=⟨hn,hw⟩
 by_cases hc0:bO g=0
 ·have ok:=jF (fg hc0);have hsm:∀d∈g,d.wf∧d.body.nodes.length≤20000:=fun d hd=>⟨hw d hd,by have:=ok.small hd;omega⟩
  have hgp:∀d∈g,d.wf∧0<d.body.nodes.length∧d.body.nodes.length≤100000:=fun d hd=>⟨hw d hd,by have:=(ok.right hd).root;omega,by have:=ok.small hd;omega⟩
  have hsp:(g.length≤1000∧(∀d∈g,d.wf)∧p.length≤1000000)∧(bR g r p).1.wf:=⟨⟨hn,hw,hp⟩,(pv hsm).1⟩
  have hsw:=lq (r:=r) hsm hp;have hrs:g.length≤1000∧(∀d∈g,d.wf∧0<d.body.nodes.length∧d.body.nodes.length≤100000)∧(b6 g r p).1.wf:=⟨hn,hgp,hsw⟩
  cases h1:(b6 g r p).2 with
  | false=>
   rw[show ba g pass way r p at_=([],47) from by rw[ba,if_neg (by simpa using hc0),if_pos (.inl h1)]];refine kf rfl rfl ?_;repeat' first|exact k9|refine k2 ?_|apply kA|apply kI;intro hc|refine k8 ?_|apply kL;intro hl
   all_goals exact ao.i rfl
  | true=>
   by_cases h2:pass=6
   ·by_cases h3:7≤way
    ·rw[show ba g pass way r p at_=([],47) from by rw[ba,if_neg (by simpa using hc0),if_pos (.inr (.inr (.inl h3)))]];refine kf rfl rfl ?_;repeat' first|exact k9|refine k2 ?_|apply kA|apply kI;intro hc|refine k8 ?_|apply kL;intro hl
     all_goals exact ao.i rfl
    ·have hr:ba g pass way r p at_=if (cy way.toNat g (b6 g r p).1 at_).2=false then ([],47) else ((cy way.toNat g (b6 g r p).1 at_).1,0):=by
      rw[ba,if_neg (by simpa using hc0)]
      by_cases h4:(cy way.toNat g (b6 g r p).1 at_).2=false
      ·rw[if_pos h4,if_pos (.inr (.inr (.inr h4)))]
      ·rw[if_neg h4,if_neg (by rw[h1];rintro(h|h|h|h);cases h;exact h h2;exact h3 h;exact h4 h)]
     rw[hr];have hway:way=0∨way=1∨way=2∨way=3∨way=4∨way=5∨way=6:=by omega
     clear hr;rcases hway with rfl|rfl|rfl|rfl|rfl|rfl|rfl
     all_goals
      simp only[Int.reduceToNat];refine kf rfl rfl ?_;repeat' first|exact k9|refine k2 ?_|apply kA|apply kI;intro hc|refine k8 ?_|apply kL;intro hl
      all_goals first
       | (refine ao.i ?_;rw[if_neg (fun q=>bfF hc q)];done)
       | (refine ao.i ?_;rw[if_pos hc];rfl)
   ·rw[show ba g pass way r p at_=([],47) from by rw[ba,if_neg (by simpa using hc0),if_pos (.inr (.inl h2))]];refine kf rfl rfl ?_;repeat' first|exact k9|refine k2 ?_|apply kA|apply kI;intro hc|refine k8 ?_|apply kL;intro hl
    all_goals exact ao.i rfl
 ·rw[show ba g pass way r p at_=([],bO g) from by rw[ba,if_pos hc0]];refine kf rfl rfl ?_;repeat' first|exact k9|refine k2 ?_|apply kA|apply kI;intro hc|refine k8 ?_|apply kL;intro hl
  all_goals exact ao.i rfl⟩
set_option maxRecDepth 100000
set_option maxHeartbeats 0
theorem cM(g:List Dfn)(l:List Fl)(ns:List Nod):(aP g l ns).length=ns.length:=by
 have key:∀(ns:List Nod) (a:List Fl),(ns.foldl (iX g l) a).length=a.length+ns.length:=by
  intro ns
  induction ns with
  | nil=>intro a;rfl
  | cons n ns ih=>
   intro a;rw[List.foldl_cons,ih];simp[iX];omega
 rw[aP,key];simp
set_option maxRecDepth 100000
set_option maxHeartbeats 0
end Go.Km
end
section
namespace Go.aa
open Go Go.Km
def Fo.named(g:List Dfn):Fo→Prop
 | .nil=>True
 | .cons n k r=>(n.kind=3→(bU g n.text).isSome=true)∧k.named g∧r.named g
end Go.aa
namespace Go.Km
open Go Go.Vc Go.Proofs Go.aa Go.Proofs.YtoklkjkmbfebjaaGreatDoor
set_option maxRecDepth 100000
set_option maxHeartbeats 0
end Go.Km
end
section
namespace Go.aa
open Go Go.Km
end Go.aa
namespace Go.Km
open Go Go.Vc Go.Proofs Go.aa Go.Proofs.YtoklkjkmbfebjaaGreatDoor
set_option maxRecDepth 100000
set_option maxHeartbeats 0
set_option maxRecDepth 100000
set_option maxHeartbeats 0
set_option maxRecDepth 100000
set_option maxHeartbeats 0
set_option maxRecDepth 100000
set_option maxHeartbeats 0
set_option maxRecDepth 100000
set_option maxHeartbeats 0
set_option maxRecDepth 100000
set_option maxHeartbeats 0
end Go.Km
end
section
namespace Go.aa
open Go Go.Km
end Go.aa
namespace Go.Km
open Go Go.Vc Go.Proofs Go.aa Go.Proofs.YtoklkjkmbfebjaaGreatDoor
set_option maxRecDepth 100000
set_option maxHeartbeats 0
end Go.Km
end
section
namespace Go.aa
open Go Go.Km
end Go.aa
end
section
namespace Go.Km
open Go Go.Vc Go.Proofs Go.aa Go.Proofs.YtoklkjkmbfebjaaGreatDoor
set_option maxRecDepth 100000
set_option maxHeartbeats 0
end Go.Km
end
section
namespace Go.Km
open Go Go.RowKit Go.Vc
open Go.Sl hiding lk
theorem dp.pure{P:Program}{Γ:Nat→Option (List F)}{η:Env}{f:FuncId}{l:List D}{fl:List F}{is:List Nat}{r:F}{fr:Bool}(hm:cz (D.toF η 6) l=some (fl,is))(h:Pure P Γ f fl r fr):dp P Γ η f l r.toD is (aS η is):=by
 refine⟨fun η' hη' W c O w vs g1 g2 g3 g4=>?_⟩;have hm':cz (D.toF η' 6) l=some (fl,is):=fA (fun d x is' h3 h4=>fv 6 d x is' h3 (fun b' hb'=>hη' b' (h4 b' hb'))) hm;have hg:=cZ (η:=η) (η':=η') is hη';exact(rh.mO (k:=Is3 r.toD is (aS η is)) hm' h ⟨rfl,rfl,hg⟩).go W c O w vs g1 g2 g3 g4
theorem lR{P:Program}{Γ:Nat→Option (List F)}{t f:Nat}{η:Env}{l:List D}{k:Kr Prop}{fl fl':List F}{is:List Nat}{r:F}{b:Bool}{pre:Prop}(h:KC P Γ f fl' r b pre)(hm:cz (D.toF η 6) l=some (fl,is))(e:fl=fl')(hp:pre)(hk:k r.toD is (aS η is)):dR P Γ t η f l k:=by
 subst e;exact dR.i (dp.pure hm (h.h hp)) hk
end Go.Km
end
section
namespace Go.aa
open Go Go.Km
end Go.aa
namespace Go.Km
open Go Go.Vc Go.Proofs Go.aa Go.Proofs.YtoklkjkmbfebjaaGreatDoor
set_option maxRecDepth 100000
set_option maxHeartbeats 0
end Go.Km
end
section
namespace Go.aa
open Go Go.Km
end Go.aa
end
section
namespace Go.Km
open Go Go.Vc Go.Proofs Go.aa Go.Proofs.YtoklkjkmbfebjaaGreatDoor
set_option maxRecDepth 100000
set_option maxHeartbeats 0
abbrev inN(l:List Nat):List F:=[isF (l.map Int.ofNat)]
end Go.Km
end
section
namespace Go.aa
open Go Go.Km
end Go.aa
namespace Go.Km
open Go Go.Vc Go.Proofs Go.aa Go.Proofs.YtoklkjkmbfebjaaGreatDoor
set_option maxRecDepth 100000
set_option maxHeartbeats 0
end Go.Km
end
section
namespace Go.aa
open Go Go.Km
def tE(t:Tre)(way at_:Int):Tre×Bool:=if (ba [⟨⟨#[97]⟩,t⟩] 6 way 0 [] at_).2≠0∨(ba [⟨⟨#[97]⟩,t⟩] 6 way 0 [] at_).1.length≠1 then (.zero,false) else (((ba [⟨⟨#[97]⟩,t⟩] 6 way 0 [] at_).1.headD ⟨⟨#[]⟩,.zero⟩).body,true)
theorem uO{g:List Dfn}{pass way r:Int}{p:List Int}{at_:Int}(hn:g.length≤1000)(hw:∀d∈g,d.wf)(hp:p.length≤1000000):(ba g pass way r p at_).1.length≤1000∧∀d∈(ba g pass way r p at_).1,d.wf:=by
 have hnil:([]:List Dfn).length≤1000∧∀d∈([]:List Dfn),d.wf:=⟨Nat.zero_le _,fun d hd=>by cases hd⟩
 unfold ba
 split
 ·exact hnil
 ·rename_i hc;have hc0:bO g=0:=by omega
  have ok:=jF (fg hc0);have hsm:∀d∈g,d.wf∧d.body.nodes.length≤20000:=fun d hd=>⟨hw d hd,by have:=ok.small hd;omega⟩
  have hgp:∀d∈g,d.wf∧0<d.body.nodes.length∧d.body.nodes.length≤100000:=fun d hd=>⟨hw d hd,by have:=(ok.right hd).root;omega,by have:=ok.small hd;omega⟩
  have hsw:=lq (r:=r) hsm hp
  split
  ·exact hnil
  ·unfold cy
   split
   ·exact hnil
   ·have hb:=wj (k:=way.toNat) (at_:=at_) hsw;exact qt hn hgp hsw.p hb.1 hb.2
end Go.aa
namespace Go.Km
open Go Go.Vc Go.Proofs Go.aa Go.Proofs.YtoklkjkmbfebjaaGreatDoor
set_option maxRecDepth 100000
set_option maxHeartbeats 0
instance(kind sa sb sc sd:Int)(text:ByteArray)(lo hi:Int)(K:List (List F))(l:List Tre):C 23 [.ag [byF kind,.vl (.int .u64 sa),.vl (.int .u64 sb),.vl (.int .u64 sc),.vl (.int .u64 sd),stF text,inF lo,inF hi,.sl K],mA l]
  (az (ofP ⟨kind,⟨sa,sb,sc,sd⟩,text,lo,hi,[]⟩ l).1) false ((⟨kind,⟨sa,sb,sc,sd⟩,text,lo,hi,[]⟩:Nod).wf∧l.length≤1466015503701∧(∀t∈l,Sm t)∧tot l+1≤1466015503701):=⟨fun h=>by
 refine kf rfl rfl ?_;repeat' first|exact k9|refine k2 ?_|apply kA|apply kI;intro hc|refine k8 ?_|apply kL;intro hl
 all_goals exact ao.i rfl⟩
instance(t:Tre)(lo hi:Int):C 12 [inF lo,inF hi,az t] (az (ofP ⟨6,.zero,⟨#[]⟩,lo,hi,[]⟩ [t]).1) false (Sm t∧(-1000000≤lo∧lo≤1000000)∧(-1000000≤hi∧hi≤1000000)):=⟨fun ⟨hs,h1,h2⟩=>by
 have hpre:(⟨6,⟨0,0,0,0⟩,⟨#[]⟩,lo,hi,[]⟩:Nod).wf∧[t].length≤1466015503701∧(∀x∈[t],Sm x)∧tot [t]+1≤1466015503701:=⟨mh h1 h2,by simp,by simpa using hs,by have:=hs.le;simp[tot];omega⟩
 have inst:C 23 [.ag [byF 6,.vl (.int .u64 0),.vl (.int .u64 0),.vl (.int .u64 0),.vl (.int .u64 0),stF ⟨#[]⟩,inF lo,inF hi,.sl []],.sl [fO t]] (az (ofP ⟨6,.zero,⟨#[]⟩,lo,hi,[]⟩ [t]).1) false True:=⟨fun _=>KC.h (P:=Tryz.prog) (Γ:=X1.Γ) (f:=23) (l:=[.ag [byF 6,.vl (.int .u64 0),.vl (.int .u64 0),.vl (.int .u64 0),.vl (.int .u64 0),stF ⟨#[]⟩,inF lo,inF hi,.sl []],mA [t]]) hpre⟩
 refine kf rfl rfl ?_;repeat' first|exact k9|refine k2 ?_|apply kA|apply kI;intro hc|refine k8 ?_|apply kL;intro hl
 all_goals exact ao.i rfl⟩
instance(l:List Tre):C 13 [mA l] (az (ofP dF l).1) false (l.length≤100000∧(∀t∈l,Sm t)∧tot l≤100000):=⟨fun ⟨h1,h2,h3⟩=>by
 have hpre:(⟨4,⟨0,0,0,0⟩,⟨#[]⟩,0,0,[]⟩:Nod).wf∧l.length≤1466015503701∧(∀x∈l,Sm x)∧tot l+1≤1466015503701:=⟨oh,by omega,h2,by omega⟩
 refine kf rfl rfl ?_;repeat' first|exact k9|refine k2 ?_|apply kA|apply kI;intro hc|refine k8 ?_|apply kL;intro hl
 all_goals exact ao.i rfl⟩
instance(t:Tre):C 14 [az t] (bC [⟨⟨#[97]⟩,t⟩]) false True:=⟨fun _=>by
 refine kf rfl rfl ?_;repeat' first|exact k9|refine k2 ?_|apply kA|apply kI;intro hc|refine k8 ?_|apply kL;intro hl
 all_goals exact ao.i rfl⟩
instance(t:Tre)(way at_:Int):C 11 [az t,byF way,inF at_] (t2F (tE t way at_)) false (t.wf∧0≤way∧way≤255):=⟨fun ⟨ht,h0,h1⟩=>by
 rw[tE];have hpre:([⟨⟨#[97]⟩,t⟩]:List Dfn).length≤1000∧(∀d∈([⟨⟨#[97]⟩,t⟩]:List Dfn),d.wf)∧([]:List Int).length≤1000000∧0≤way∧way≤255:=⟨by simp,by intro d hd;simp only[List.mem_singleton] at hd;subst hd;exact⟨by show(1:Nat)≤_;decide,ht⟩,by simp,h0,h1⟩
 obtain⟨g,hg⟩:∃g:List Dfn,g=[⟨⟨#[97]⟩,t⟩]:=⟨_,rfl⟩
 rw[←hg] at hpre ⊢;have i1:C 14 [az t] (bC g) false True:=⟨fun _=>by rw[hg];exact KC.h trivial⟩
 obtain⟨r,hr⟩:=exEq (ba g 6 way 0 [] at_);have i2:C 8 [bC g,.ag [byF 6,byF way,inF 0,.sl [],inF at_]] (.tp [bC r.1,inF r.2]) false True:=⟨fun _=>by rw[hr];exact KC.h (l:=[bC g,.ag [byF 6,byF way,inF 0,isF [],inF at_]]) hpre⟩
 rw[←hr];have hrl:r.1.length≤1000:=by rw[hr];exact(uO hpre.1 hpre.2.1 hpre.2.2.1).1
 refine kf rfl rfl ?_;repeat' first|exact k9|refine k2 ?_|apply kA|apply kI;intro hc|refine k8 ?_|apply kL;intro hl
 ·rw[if_neg (by omega)];rw[show r.1.headD ⟨⟨#[]⟩,.zero⟩=r.1[0] from by rw[List.headD_eq_head?_getD,List.head?_eq_getElem?,List.getElem?_eq_getElem (by omega)];rfl];exact ao.i rfl
 ·rw[if_pos (by omega)];exact ao.i rfl
 ·rw[if_pos (by omega)];exact ao.i rfl⟩
end Go.Km
end
section
namespace Go.aa
open Go Go.Km
end Go.aa
namespace Go.Km
open Go Go.Vc Go.Proofs Go.aa Go.Proofs.YtoklkjkmbfebjaaGreatDoor
set_option maxRecDepth 100000
set_option maxHeartbeats 0
end Go.Km
end
section
namespace Go.aa
open Go Go.Km
def oB(n:Nod):Nat:=1+min 220 n.kids.length+min 220 n.text.size / 20
def qV:Nat→List Nod→Nat
 | a,[]=>a
 | a,n :: l=>if a<220 then qV (a+oB n) l else a
def ow:Nat→List Dfn→Nat
 | a,[]=>a
 | a,d :: g=>if a<220 then ow (qV (a+5+min 220 d.name.size) d.body.nodes) g else a
def qR(g:List Dfn):Bool:=decide (220≤ow 0 g)
theorem Dd:∀(l:List Nod) (a:Nat),a≤qV a l
 | [],a=>Nat.le_refl _
 | n :: l,a=>by
  rw[qV]
  split
  ·have:=Dd l (a+oB n);omega
  ·exact Nat.le_refl _
theorem yg:∀(l:List Nod) (a:Nat),qV a l<220→a+l.length≤qV a l
 | [],a,_=>Nat.le_refl _
 | n :: l,a,h=>by
  rw[qV] at h ⊢
  split at h
  ·rename_i hc;rw[if_pos hc];have:=yg l (a+oB n) h;have h1:1≤oB n:=by unfold oB;omega
   rw[List.length_cons];omega
  ·omega
theorem Cn:∀(g:List Dfn) (a:Nat),a≤ow a g
 | [],a=>Nat.le_refl _
 | d :: g,a=>by
  rw[ow]
  split
  ·have h1:=Cn g (qV (a+5+min 220 d.name.size) d.body.nodes);have h2:=Dd d.body.nodes (a+5+min 220 d.name.size);omega
  ·exact Nat.le_refl _
theorem yM:∀(g:List Dfn) (a:Nat),ow a g<220→a+5 * g.length≤ow a g∧∀d∈g,d.body.nodes.length<220
 | [],a,_=>⟨Nat.le_refl _,fun d h=>by cases h⟩
 | d :: g,a,h=>by
  rw[ow] at h ⊢
  split at h
  ·rename_i hc;rw[if_pos hc];obtain⟨h1,h2⟩:=yM g _ h;have h3:=Cn g (qV (a+5+min 220 d.name.size) d.body.nodes);have h4:=yg d.body.nodes (a+5+min 220 d.name.size) (by omega);refine⟨by rw[List.length_cons];omega,fun x hx=>?_⟩;rcases List.mem_cons.1 hx with rfl|hx
   ·omega
   ·exact h2 x hx
  ·omega
theorem JV{g:List Dfn}(h:qR g=false):g.length≤44∧∀d∈g,d.body.nodes.length<220:=by
 have h1:ow 0 g<220:=by
  unfold qR at h;have:=of_decide_eq_false h;omega
 obtain⟨h2,h3⟩:=yM g 0 h1;exact⟨by omega,h3⟩
theorem wQ(a b:Nat):(bif leI (a:Int) (b:Int) then (a:Int) else (b:Int))=((min a b:Nat):Int):=by
 rw[dt]
 by_cases h:a≤b
 ·rw[decide_eq_true (by omega),Nat.min_eq_left h];rfl
 ·rw[decide_eq_false (by omega),Nat.min_eq_right (by omega)];rfl
theorem Dfn.Dv{a b:Dfn}:a=b↔a.name=b.name∧a.body=b.body:=⟨fun h=>by subst h;exact⟨rfl,rfl⟩,fun ⟨h,k⟩=>by cases a;cases b;simp_all⟩
end Go.aa
namespace Go.Km
open Go Go.Vc Go.Proofs Go.aa Go.Proofs.YtoklkjkmbfebjaaGreatDoor
set_option maxRecDepth 100000
set_option maxHeartbeats 0
instance(g:List Dfn):C 5 [bC g] (boF (qR g)) true (g.length≤dS∧∀d∈g,d.wf):=⟨fun ⟨hn,hw⟩=>by
 simp only[dS] at hn;refine kf rfl rfl ?_;repeat' first|exact k9|refine k2 ?_|apply kA|apply kI;intro hc|refine k8 ?_|apply kL;intro hl
 apply kCt [1,3,4] [];conv=>whnf
 refine Lp.ind (fun x:Nat×Nat=>g.length - x.1) (fun x=>x.1≤g.length∧x.2≤1000∧ow 0 g=ow x.2 (g.drop x.1)) (fun x=>[(4,InD x.1),(3,InD x.2)]) (fun x=>[]) (fun _=>(boF (qR g),true)) (0,0) ⟨by simp,by simp,rfl⟩ rfl rfl rfl ?_
 rintro G ⟨i,a⟩ ih ⟨hi,ha,hW⟩
 dsimp only at hi ha hW ih ⊢
 by_cases hx:i<g.length
 ·obtain⟨d,hd⟩:=exEq (g[i]);have hdi:∀h,g[i]'h=d:=fun _=>hd.symm
  have hgl:g[i].body.nodes.length=d.body.nodes.length:=by rw[hd]
  have hwd:=hw d (by rw[hd];exact List.getElem_mem hx);have hnl:=hwd.body.len;have hnm:=hwd.name;simp only[ca] at hnl;rw[List.drop_eq_getElem_cons hx,←hd,ow] at hW;have hmn:(bif leI 220 (szS d.name:Int) then (220:Int) else (szS d.name:Int))=((min 220 d.name.size:Nat):Int):=wQ 220 (szS d.name)
  by_cases h2:a<220
  ·rw[if_pos h2] at hW
   repeat' first|exact k9|refine k2 ?_|apply kA|apply kI;intro hc|apply kL;intro hl|((simp only[hdi])<;>conv=>whnf)|((rw[hmn])<;>conv=>whnf)|(((apply SdA.m;exact Nd.i (by omega)))<;>conv=>whnf)|refine k8 ?_|fail
   apply kCt [1,3,4,5] [];conv=>whnf
   refine Lp.ind (fun x:Nat×Nat=>d.body.nodes.length - x.1) (fun x=>x.1≤d.body.nodes.length∧x.2≤1000∧ow 0 g=ow (qV x.2 (d.body.nodes.drop x.1)) (g.drop (i+1))) (fun x=>[(5,InD x.1),(3,InD x.2)]) (fun x=>[]) (fun _=>(boF (qR g),true)) (0,a+5+min 220 d.name.size) ⟨by simp,by dsimp only;omega,hW⟩ rfl rfl rfl ?_
   rintro G' ⟨k,b⟩ ih' ⟨hk,hb,hV⟩
   dsimp only at hk hb hV ih' ⊢
   by_cases hkx:k<d.body.nodes.length
   ·obtain⟨n,hnn⟩:=exEq (d.body.nodes[k]);have hni:∀h,d.body.nodes[k]'h=n:=fun _=>hnn.symm
    have hwn:=hwd.body.nodes n (by rw[hnn];exact List.getElem_mem hkx);have hnk:=hwn.kids.1;have hnt:=hwn.text;simp only[dS] at hnk;have hm1:(bif leI 220 ((List.map ikF n.kids).length:Int) then (220:Int) else ((List.map ikF n.kids).length:Int))=((min 220 n.kids.length:Nat):Int):=by rw[List.length_map];exact wQ 220 n.kids.length
    have hm2:IntKind.i64.wrap ((bif leI 220 (szS n.text:Int) then (220:Int) else (szS n.text:Int)).tdiv 20)=((min 220 n.text.size / 20:Nat):Int):=by
     rw[show(bif leI 220 (szS n.text:Int) then (220:Int) else (szS n.text:Int))=((min 220 n.text.size:Nat):Int) from wQ 220 (szS n.text)];rw[show(((min 220 n.text.size:Nat):Int).tdiv 20)=((min 220 n.text.size / 20:Nat):Int) from (Int.ofNat_tdiv _ 20).symm];exact wrap_i64 (by unfold Go.Sl.I64;omega)
    rw[List.drop_eq_getElem_cons hkx,←hnn,qV] at hV
    by_cases h3:b<220
    ·rw[if_pos h3] at hV;have hnw:oB n=1+min 220 n.kids.length+min 220 n.text.size / 20:=rfl
     repeat' first|exact k9|refine k2 ?_|apply kA|apply kI;intro hc|apply kL;intro hl|((simp only[hdi,hni])<;>conv=>whnf)|((simp only[hm1,hm2])<;>conv=>whnf)|(((apply SdA.m;exact Nd.i (by omega)))<;>conv=>whnf)|refine k8 ?_|fail
     apply kCt [1,3,4,5] [];conv=>whnf
     refine ih' (k+1,b+oB n) _ _ _ (by dsimp only;omega) ⟨by dsimp only;omega,by dsimp only;omega,hV⟩ rfl ?_ rfl;have e:((b+oB n:Nat):Int)=(b:Int)+1+((min 220 n.kids.length:Nat):Int)+((min 220 n.text.size / 20:Nat):Int):=by rw[hnw];omega
     dsimp only;show _=iW [(5,InD ((k+1:Nat):Int)),(3,InD ((b+oB n:Nat):Int))] _
     rw[e];rfl
    ·rw[if_neg h3] at hV
     repeat' first|exact k9|refine k2 ?_|apply kA|apply kI;intro hc|apply kL;intro hl|((simp only[hdi,hni])<;>conv=>whnf)|refine k8 ?_|fail
     apply kCt [1,3,4] [];conv=>whnf
     refine ih (i+1,b) _ _ _ (by dsimp only;omega) ⟨by dsimp only;omega,hb,hV⟩ rfl rfl rfl
   ·rw[List.drop_of_length_le (by omega),qV] at hV
    repeat' first|exact k9|refine k2 ?_|apply kA|apply kI;intro hc|apply kL;intro hl|((simp only[hdi])<;>conv=>whnf)|refine k8 ?_|fail
    apply kCt [1,3,4] [];conv=>whnf
    refine ih (i+1,b) _ _ _ (by dsimp only;omega) ⟨by dsimp only;omega,hb,hV⟩ rfl rfl rfl
  ·rw[if_neg h2] at hW
   repeat' first|exact k9|refine k2 ?_|apply kA|apply kI;intro hc|apply kL;intro hl|((simp only[hdi])<;>conv=>whnf)|refine k8 ?_|fail
   exact ao.b (by rw[qR,hW,dt];exact decide_eq_decide.2 (by omega)) rfl
 ·rw[List.drop_of_length_le (by omega),ow] at hW
  repeat' first|exact k9|refine k2 ?_|apply kA|apply kI;intro hc|refine k8 ?_|apply kL;intro hl
  exact ao.b (by rw[qR,hW,dt];exact decide_eq_decide.2 (by omega)) rfl⟩
end Go.Km
end
section
namespace Go.aa
open Go Go.Km
end Go.aa
namespace Go.Km
open Go Go.Vc Go.Proofs Go.aa Go.Proofs.YtoklkjkmbfebjaaGreatDoor
set_option maxRecDepth 100000
set_option maxHeartbeats 0
end Go.Km
end
section
namespace Go.aa
open Go Go.Km
set_option maxRecDepth 100000
def aZ(l:List UInt8):Tre:=oP ⟨2,.zero,⟨l.toArray⟩,0,0,[]⟩
def bP(lo hi:Int)(t:Tre):Tre:=(ofP ⟨6,.zero,⟨#[]⟩,lo,hi,[]⟩ [t]).1
def fP(a b:Tre):Tre:=(ofP dF [a,b]).1
theorem w1:tE (bP 1 1 (aZ [120])) 1 0=(aZ [120],true):=by decide +kernel
theorem w2:tE (fP (aZ [120]) (bP 0 (-1) (aZ [120]))) 3 0=(bP 1 (-1) (aZ [120]),true):=by decide +kernel
theorem w3:(tE (fP (bP 0 1 (aZ [120])) (bP 2 2 (aZ [120]))) 3 0).2=false:=by decide +kernel
theorem w4:tE (bP 0 (-1) (bP 1 (-1) (aZ [120]))) 4 0=(bP 0 (-1) (aZ [120]),true):=by decide +kernel
theorem w5:tE (bP 0 1 (bP 1 5 (aZ [120]))) 5 0=(bP 0 5 (aZ [120]),true):=by decide +kernel
theorem w6:tE (fP (aZ [120]) (aZ [121,122])) 6 0=(aZ [120,121,122],true):=by decide +kernel
theorem w7:ba [⟨⟨#[97]⟩,fP (bP 0 0 (aZ [120])) (aZ [121])⟩] 6 2 0 [0] 0=([⟨⟨#[97]⟩,aZ [121]⟩],0):=by decide +kernel
end Go.aa
namespace Go.Km
open Go Go.Vc Go.Proofs Go.aa Go.Proofs.YtoklkjkmbfebjaaGreatDoor
set_option maxRecDepth 100000
set_option maxHeartbeats 0
theorem Gh (X Y YZ XYZ A1 A2 A3 A4 A5 A6 A7 A8 A9 A10 S1 S2 S3 S4 B3:Tre) (G0 H:List Dfn) (nm:ByteArray) (hHl:H.length=1) (hH:∀h:0<H.length,H[0]'h=⟨nm,Y⟩) (hYw:Y.wf∧Y.wf) (hYs:zK Y Y=true)
  [i1:C 10 [stF ⟨#[120]⟩] (az X) false True]
  [i2:C 10 [stF ⟨#[121]⟩] (az Y) false True]
  [i3:C 10 [stF ⟨#[121,122]⟩] (az YZ) false True]
  [i4:C 10 [stF ⟨#[120,121,122]⟩] (az XYZ) false True]
  [i5:C 12 [inF 1,inF 1,az X] (az A1) false True]
  [i6:C 12 [inF 0,inF (-1),az X] (az A2) false True]
  [i7:C 12 [inF 0,inF 1,az X] (az A3) false True]
  [i8:C 12 [inF 2,inF 2,az X] (az A4) false True]
  [i9:C 12 [inF 1,inF (-1),az X] (az A5) false True]
  [i10:C 12 [inF 0,inF (-1),az A5] (az A6) false True]
  [i11:C 12 [inF 1,inF 5,az X] (az A7) false True]
  [i12:C 12 [inF 0,inF 1,az A7] (az A8) false True]
  [i13:C 12 [inF 0,inF 0,az X] (az A9) false True]
  [i14:C 12 [inF 0,inF 5,az X] (az A10) false True]
  [i15:C 13 [.sl [fO X,fO A2]] (az S1) false True]
  [i16:C 13 [.sl [fO A3,fO A4]] (az S2) false True]
  [i17:C 13 [.sl [fO X,fO YZ]] (az S3) false True]
  [i18:C 13 [.sl [fO A9,fO Y]] (az S4) false True]
  [i19:C 14 [az S4] (bC G0) false True]
  [i20:C 11 [az A1,byF 1,inF 0] (.tp [az X,boF true]) false True]
  [i21:C 11 [az S1,byF 3,inF 0] (.tp [az A5,boF true]) false True]
  [i22:C 11 [az S2,byF 3,inF 0] (.tp [az B3,boF false]) false True]
  [i23:C 11 [az A6,byF 4,inF 0] (.tp [az A2,boF true]) false True]
  [i24:C 11 [az A8,byF 5,inF 0] (.tp [az A10,boF true]) false True]
  [i25:C 11 [az S3,byF 6,inF 0] (.tp [az XYZ,boF true]) false True]
  [i26:C 8 [bC G0,.ag [byF 6,byF 2,inF 0,.sl [[inF 0]],inF 0]] (.tp [bC H,inF 0]) false True]
  [i27:C 15 [az X,az X] (boF true) true True]
  [i28:C 15 [az A5,az A5] (boF true) true True]
  [i29:C 15 [az A2,az A2] (boF true) true True]
  [i30:C 15 [az A10,az A10] (boF true) true True]
  [i31:C 15 [az XYZ,az XYZ] (boF true) true True]:Pure Tryz.prog X1.Γ 4 [] (boF true) true:=by
 have hX:=u4 [] [13,8];refine iL hX rfl rfl ?_;repeat' first|exact k9|refine k2 ?_|apply kA|apply kI;intro hc|apply kL;intro hl|(apply Sn.go hX;conv=>whnf)|((simp only[hH])<;>conv=>whnf)|((first|(refine lR i15 rfl rfl trivial ?_)|(refine lR i16 rfl rfl trivial ?_)|(refine lR i17 rfl rfl trivial ?_)|(refine lR i18 rfl rfl trivial ?_)|(refine lR i26 rfl rfl trivial ?_))<;>conv=>whnf)|refine k8 ?_|fail
 exact ao.b hYs rfl
theorem Nl{t:Tre}(h:t.wf∧t.nodes.length≤500000):Sm t:=⟨h.1,h.2⟩
theorem KE(l:List UInt8)(h:l.length≤1000):Sm (aZ l):=Nl ⟨td ⟨by dsimp only;omega,by unfold Bts.wf Bts.zero;dsimp only;omega,by show l.toArray.size≤_;simp;omega,by unfold Go.Sl.I64;dsimp only;omega,by unfold Go.Sl.I64;dsimp only;omega,⟨Nat.zero_le _,fun x hx=>by cases hx⟩⟩,by show 1≤_;omega⟩
theorem Bu{lo hi:Int}{t:Tre}(h1:-1000000≤lo∧lo≤1000000)(h2:-1000000≤hi∧hi≤1000000)(ht:t.wf∧t.nodes.length≤1000):(bP lo hi t).wf∧(bP lo hi t).nodes.length≤t.nodes.length+1:=by
 have e:tot [t]=t.nodes.length:=by simp[tot]
 exact⟨As (mh h1 h2) (by simpa using ht.1) (by rw[e];unfold ca;omega),by have:=C5 (n:=⟨6,.zero,⟨#[]⟩,lo,hi,[]⟩) (l:=[t]);rw[e] at this;exact this⟩
theorem KF{a b:Tre}(ha:a.wf∧a.nodes.length≤1000)(hb:b.wf∧b.nodes.length≤1000):(fP a b).wf∧(fP a b).nodes.length≤a.nodes.length+b.nodes.length+1:=by
 have e:tot [a,b]=a.nodes.length+b.nodes.length:=by simp[tot]
 refine⟨As oh (fun x hx=>?_) (by rw[e];unfold ca;omega),by have:=C5 (n:=dF) (l:=[a,b]);rw[e] at this;exact this⟩;simp only[List.mem_cons,List.not_mem_nil,or_false] at hx;rcases hx with rfl|rfl
 ·exact ha.1
 ·exact hb.1
theorem wl{t:Tre}{n:Nat}(h:t.wf∧t.nodes.length≤n)(k:n≤1000):t.wf∧t.nodes.length≤1000:=⟨h.1,Nat.le_trans h.2 k⟩
theorem mJ{lo hi:Int}{t:Tre}(ht:t.wf∧t.nodes.length≤1000)(h1:-1000000≤lo∧lo≤1000000)(h2:-1000000≤hi∧hi≤1000000):C 12 [inF lo,inF hi,az t] (az (bP lo hi t)) false True:=⟨fun _=>KC.h ⟨⟨ht.1,by omega⟩,h1,h2⟩⟩
theorem Dm{a b:Tre}(ha:a.wf∧a.nodes.length≤1000)(hb:b.wf∧b.nodes.length≤1000):C 13 [.sl [fO a,fO b]] (az (fP a b)) false True:=⟨fun _=>KC.h (l:=[mA [a,b]]) ⟨by simp,fun x hx=>by
 simp only[List.mem_cons,List.not_mem_nil,or_false] at hx;rcases hx with rfl|rfl
 ·exact⟨ha.1,by omega⟩
 ·exact⟨hb.1,by omega⟩,by simp only[tot,List.map_cons,List.map_nil,List.sum_cons,List.sum_nil];omega⟩⟩
theorem vP{t x:Tre}{w:Int}{b:Bool}(ht:t.wf∧t.nodes.length≤1000)(hw:0≤w∧w≤255)(h:tE t w 0=(x,b)):C 11 [az t,byF w,inF 0] (.tp [az x,boF b]) false True:=⟨fun _=>by
 have:=KC.h (P:=Tryz.prog) (Γ:=X1.Γ) (f:=11) (l:=[az t,byF w,inF 0]) ⟨ht.1,hw⟩;rw[h] at this;exact this⟩
theorem th{t:Tre}(ht:t.wf∧t.nodes.length≤1000)(h:zK t t=true):C 15 [az t,az t] (boF true) true True:=⟨fun _=>by
 have:=KC.h (P:=Tryz.prog) (Γ:=X1.Γ) (f:=15) (l:=[az t,az t]) ⟨ht.1,ht.1⟩;rw[h] at this;exact this⟩
theorem txw(l:List UInt8)(h:l.length≤1000):(aZ l).wf∧(aZ l).nodes.length≤1000:=⟨(KE l h).wf,by show 1≤_;omega⟩
instance:C 4 [] (boF true) true True:=⟨fun _=>by
 have hX:=txw [120] (by simp);have hY:=txw [121] (by simp);have hYZ:=txw [121,122] (by simp);have hXYZ:=txw [120,121,122] (by simp);have rp:∀(lo hi:Int) {t:Tre},(-1000000≤lo∧lo≤1000000)→(-1000000≤hi∧hi≤1000000)→t.wf∧t.nodes.length≤100→(bP lo hi t).wf∧(bP lo hi t).nodes.length≤1000:=fun lo hi t h1 h2 h=>by have:=Bu h1 h2 (wl h (by omega));exact⟨this.1,by omega⟩
 have r2:∀(lo hi lo2 hi2:Int) {t:Tre},(-1000000≤lo∧lo≤1000000)→(-1000000≤hi∧hi≤1000000)→(-1000000≤lo2∧lo2≤1000000)→(-1000000≤hi2∧hi2≤1000000)→t.wf∧t.nodes.length≤100→(bP lo hi (bP lo2 hi2 t)).wf∧(bP lo hi (bP lo2 hi2 t)).nodes.length≤1000:=fun lo hi lo2 hi2 t h1 h2 h3 h4 h=>by
  have h5:=Bu h3 h4 (wl h (by omega));have h6:=Bu h1 h2 (t:=bP lo2 hi2 t) ⟨h5.1,by omega⟩;exact⟨h6.1,by omega⟩
 have x1:(aZ [120]).wf∧(aZ [120]).nodes.length≤100:=⟨hX.1,by show 1≤_;omega⟩
 have A1:=rp 1 1 (by omega) (by omega) x1;have A2:=rp 0 (-1) (by omega) (by omega) x1;have A3:=rp 0 1 (by omega) (by omega) x1;have A4:=rp 2 2 (by omega) (by omega) x1;have A5:=rp 1 (-1) (by omega) (by omega) x1;have A6:=r2 0 (-1) 1 (-1) (by omega) (by omega) (by omega) (by omega) x1;have A7:=rp 1 5 (by omega) (by omega) x1;have A8:=r2 0 1 1 5 (by omega) (by omega) (by omega) (by omega) x1;have A9:=rp 0 0 (by omega) (by omega) x1;have A10:=rp 0 5 (by omega) (by omega) x1;have sq:∀{a b:Tre},a.wf∧a.nodes.length≤100→b.wf∧b.nodes.length≤100→(fP a b).wf∧(fP a b).nodes.length≤1000:=fun ha hb=>by have:=KF (wl ha (by omega)) (wl hb (by omega));exact⟨this.1,by omega⟩
 have S1:(fP (aZ [120]) (bP 0 (-1) (aZ [120]))).wf∧(fP (aZ [120]) (bP 0 (-1) (aZ [120]))).nodes.length≤1000:=sq x1 ⟨A2.1,by decide +kernel⟩;have S2:(fP (bP 0 1 (aZ [120])) (bP 2 2 (aZ [120]))).wf∧(fP (bP 0 1 (aZ [120])) (bP 2 2 (aZ [120]))).nodes.length≤1000:=sq ⟨A3.1,by decide +kernel⟩ ⟨A4.1,by decide +kernel⟩;have S3:(fP (aZ [120]) (aZ [121,122])).wf∧(fP (aZ [120]) (aZ [121,122])).nodes.length≤1000:=sq x1 ⟨hYZ.1,by decide +kernel⟩;have S4:(fP (bP 0 0 (aZ [120])) (aZ [121])).wf∧(fP (bP 0 0 (aZ [120])) (aZ [121])).nodes.length≤1000:=sq ⟨A9.1,by decide +kernel⟩ ⟨hY.1,by decide +kernel⟩;have b3:tE (fP (bP 0 1 (aZ [120])) (bP 2 2 (aZ [120]))) 3 0=((tE (fP (bP 0 1 (aZ [120])) (bP 2 2 (aZ [120]))) 3 0).1,false):=by rw[←w3]
 have iD:C 8 [bC [⟨⟨#[97]⟩,fP (bP 0 0 (aZ [120])) (aZ [121])⟩],.ag [byF 6,byF 2,inF 0,.sl [[inF 0]],inF 0]] (.tp [bC [⟨⟨#[97]⟩,aZ [121]⟩],inF 0]) false True:=⟨fun _=>by
  have:=KC.h (P:=Tryz.prog) (Γ:=X1.Γ) (f:=8) (l:=[bC [⟨⟨#[97]⟩,fP (bP 0 0 (aZ [120])) (aZ [121])⟩],.ag [byF 6,byF 2,inF 0,isF [0],inF 0]]) ⟨by simp,fun d hd=>by
   simp only[List.mem_singleton] at hd;subst hd;exact⟨by show(1:Nat)≤_;omega,S4.1⟩,by simp,by omega,by omega⟩
  rw[w7] at this;exact this⟩
 exact Gh (aZ [120]) (aZ [121]) (aZ [121,122]) (aZ [120,121,122]) (bP 1 1 (aZ [120])) (bP 0 (-1) (aZ [120])) (bP 0 1 (aZ [120])) (bP 2 2 (aZ [120])) (bP 1 (-1) (aZ [120])) (bP 0 (-1) (bP 1 (-1) (aZ [120]))) (bP 1 5 (aZ [120])) (bP 0 1 (bP 1 5 (aZ [120]))) (bP 0 0 (aZ [120])) (bP 0 5 (aZ [120])) (fP (aZ [120]) (bP 0 (-1) (aZ [120]))) (fP (bP 0 1 (aZ [120])) (bP 2 2 (aZ [120]))) (fP (aZ [120]) (aZ [121,122])) (fP (bP 0 0 (aZ [120])) (aZ [121])) _ [⟨⟨#[97]⟩,fP (bP 0 0 (aZ [120])) (aZ [121])⟩] [⟨⟨#[97]⟩,aZ [121]⟩] ⟨#[97]⟩ rfl (fun _=>rfl) ⟨hY.1,hY.1⟩ (by decide +kernel)
  (i1:=⟨fun _=>KC.h trivial⟩) (i2:=⟨fun _=>KC.h trivial⟩) (i3:=⟨fun _=>KC.h trivial⟩) (i4:=⟨fun _=>KC.h trivial⟩)
  (i5:=mJ hX (by omega) (by omega)) (i6:=mJ hX (by omega) (by omega)) (i7:=mJ hX (by omega) (by omega)) (i8:=mJ hX (by omega) (by omega)) (i9:=mJ hX (by omega) (by omega)) (i10:=mJ A5 (by omega) (by omega)) (i11:=mJ hX (by omega) (by omega)) (i12:=mJ A7 (by omega) (by omega)) (i13:=mJ hX (by omega) (by omega)) (i14:=mJ hX (by omega) (by omega))
  (i15:=Dm hX A2) (i16:=Dm A3 A4) (i17:=Dm hX hYZ) (i18:=Dm A9 hY) (i19:=⟨fun _=>KC.h trivial⟩)
  (i20:=vP A1 (by omega) w1) (i21:=vP S1 (by omega) w2) (i22:=vP S2 (by omega) b3) (i23:=vP A6 (by omega) w4) (i24:=vP A8 (by omega) w5) (i25:=vP S3 (by omega) w6) (i26:=iD)
  (i27:=th hX (by decide +kernel)) (i28:=th A5 (by decide +kernel)) (i29:=th A2 (by decide +kernel)) (i30:=th A10 (by decide +kernel)) (i31:=th hXYZ (by decide +kernel))⟩
end Go.Km
end
section
namespace Go.aa
open Go Go.Sl
def cS(ch:Int→List Int):Nat→Int→List Int→List (List Int)
 | 0,_,_=>[]
 | n+1,k,p=>p :: ((ch k).zipIdx.flatMap fun x=>cS ch n x.1 (p++[(x.2:Int)]))
theorem kJ{α β:Type}{l:List α}{f g:α→List β}(h:∀a∈l,f a=g a):l.flatMap f=l.flatMap g:=by
 rw[List.flatMap_def,List.flatMap_def,List.map_congr_left h]
theorem jV{ch:Int→List Int}(hc:bw ch):∀(n m:Nat) (k:Int) (p:List Int),0≤k→k<n→k<m→cS ch n k p=cS ch m k p
 | 0,m,k,p,h0,h1,h2=>by omega
 | n+1,0,k,p,h0,h1,h2=>by omega
 | n+1,m+1,k,p,h0,h1,h2=>by
  simp only[cS]
  congr 1
  refine kJ fun x hx=>?_;have:=hc k x.1 (List.fst_mem_of_mem_zipIdx hx);exact jV hc n m x.1 _ (by omega) (by omega) (by omega)
theorem Ir{β:Type}(f:Int×Nat→List β)(l:List Int):l.zipIdx.flatMap f=(List.range l.length).flatMap fun i=>match l[i]? with|some x=>f (x,i)|none=>[]:=by
 have h:l.zipIdx=(List.range l.length).map fun i=>(l.getD i 0,i):=by
  refine List.ext_getElem (by simp) fun i h1 h2=>?_;simp at h1 h2;simp[List.getD_eq_getElem?_getD,List.getElem?_eq_getElem h1]
 rw[h,List.flatMap_map];refine kJ fun i hi=>?_
 have hi:=List.mem_range.1 hi;simp[List.getD_eq_getElem?_getD,List.getElem?_eq_getElem hi]
abbrev sn(ch:Int→List Int)(k:Int)(p:List Int):List (List Int):=cS ch (k.toNat+1) k p
def N3(ch:Int→List Int)(k:Int)(p:List Int)(i:Nat):List (List Int):=match (ch k)[i]? with
 | some x=>sn ch x (p++[(i:Int)])
 | none=>[]
def sG(ch:Int→List Int)(k:Int)(p:List Int)(i:Nat):Nat:=1+((List.range i).flatMap (N3 ch k p)).length
theorem ry{ch:Int→List Int}(hc:bw ch){k:Int}(h0:0≤k)(p:List Int):sn ch k p=p :: (List.range (ch k).length).flatMap (N3 ch k p):=by
 show p :: ((ch k).zipIdx.flatMap fun x=>cS ch k.toNat x.1 (p++[(x.2:Int)]))=_
 rw[Ir]
 congr 1
 refine kJ fun i hi=>?_;have hi:=List.mem_range.1 hi;unfold N3;rw[List.getElem?_eq_getElem hi];have:=hc k _ (List.getElem_mem hi);exact jV hc _ _ _ _ (by omega) (by omega) (by omega)
theorem EZ(ch:Int→List Int)(k:Int)(p:List Int)(i:Nat):sG ch k p (i+1)=sG ch k p i+(N3 ch k p i).length:=by
 unfold sG;rw[List.range_succ,List.flatMap_append,List.length_append];simp;omega
theorem H8{ch:Int→List Int}(hc:bw ch){k:Int}(h0:0≤k)(p:List Int):(sn ch k p).length=sG ch k p (ch k).length:=by
 rw[ry hc h0,sG,List.length_cons];omega
theorem GB{ch:Int→List Int}(hc:bw ch){k:Int}(h0:0≤k)(p:List Int){i j:Nat}(hi:i<(ch k).length)(hj:j<(N3 ch k p i).length) :
  (sn ch k p).getD (sG ch k p i+j) []=(N3 ch k p i).getD j []∧sG ch k p i+j<(sn ch k p).length:=by
 have hs:(List.range (ch k).length).flatMap (N3 ch k p)=(List.range i).flatMap (N3 ch k p)++(N3 ch k p i++(List.range' (i+1) ((ch k).length - (i+1))).flatMap (N3 ch k p)):=by
  have:List.range (ch k).length=List.range i++(i :: List.range' (i+1) ((ch k).length - (i+1))):=by
   have h:=List.range'_append_1 (s:=0) (m:=i) (n:=(ch k).length - (i+1)+1);rw[Nat.zero_add] at h;rw[List.range_eq_range',List.range_eq_range',←List.range'_succ,h]
   congr 1
   omega
  rw[this,List.flatMap_append,List.flatMap_cons]
 refine⟨?_,?_⟩
 ·rw[ry hc h0,hs,sG,List.getD_eq_getElem?_getD,List.getD_eq_getElem?_getD,show 1+((List.range i).flatMap (N3 ch k p)).length+j=(((List.range i).flatMap (N3 ch k p)).length+j)+1 by omega,List.getElem?_cons_succ,
   List.getElem?_append_right (by omega),Nat.add_sub_cancel_left,List.getElem?_append_left hj]
 ·rw[ry hc h0,hs,sG];simp only[List.length_cons,List.length_append];omega
def kp(a b:Int):Int:=if a<b then -1 else if b<a then 1 else 0
def cmpL:List Int→List Int→Int
 | [],[]=>0
 | [],_ :: _=>-1
 | _ :: _,[]=>1
 | a :: l,b :: m=>if a<b then -1 else if b<a then 1 else cmpL l m
theorem ml{a b:Int}:kp a b=0↔a=b:=by
 unfold kp
 constructor
 ·intro h
  split at h
  ·omega
  split at h<;>omega
 ·rintro rfl
  simp
theorem uP:∀{a b:List Int},cmpL a b=0↔a=b
 | [],[]=>by simp[cmpL]
 | [],_ :: _=>by simp[cmpL]
 | _ :: _,[]=>by simp[cmpL]
 | a :: l,b :: m=>by
  simp only[cmpL]
  split
  ·simp;omega
  split
  ·simp;omega
  ·rw[uP];simp;omega
theorem oW:∀(p a b:List Int),cmpL (p++a) (p++b)=cmpL a b
 | [],a,b=>rfl
 | x :: p,a,b=>by simp[cmpL,oW p a b]
theorem GW(p:List Int)(x:Int)(l:List Int):cmpL p (p++x :: l)=-1:=by
 have:=oW p [] (x :: l);rw[List.append_nil] at this;rw[this];rfl
theorem EY(a b:Int):kp b a=- kp a b:=by
 unfold kp;rcases Int.lt_trichotomy a b with h|h|h
 ·have h':¬b<a:=by omega
  simp[h,h']
 ·subst h;simp
 ·have h':¬a<b:=by omega
  simp[h,h']
theorem vX:∀(a b:List Int),cmpL b a=- cmpL a b
 | [],[]=>rfl
 | [],_ :: _=>rfl
 | _ :: _,[]=>rfl
 | a :: l,b :: m=>by
  simp only[cmpL];rcases Int.lt_trichotomy a b with h|h|h
  ·have h':¬b<a:=by omega
   simp[h,h']
  ·subst h;simpa using vX l m
  ·have h':¬a<b:=by omega
   simp[h,h']
theorem fR{ch:Int→List Int}:∀(n:Nat) (k:Int) (p q:List Int),q∈cS ch n k p→∃r,q=p++r
 | 0,k,p,q,h=>by cases h
 | n+1,k,p,q,h=>by
  simp only[cS,List.mem_cons,List.mem_flatMap] at h;rcases h with rfl|⟨x,hx,h⟩
  ·exact⟨[],by simp⟩
  ·obtain⟨r,rfl⟩:=fR n _ _ q h;exact⟨(x.2:Int) :: r,by simp⟩
theorem qQ{ch:Int→List Int}:∀(n:Nat) (k:Int) (p q:List Int),q∈cS ch n k p→q.length≤p.length+n
 | 0,k,p,q,h=>by cases h
 | n+1,k,p,q,h=>by
  simp only[cS,List.mem_cons,List.mem_flatMap] at h;rcases h with rfl|⟨x,hx,h⟩
  ·omega
  ·have:=qQ n _ _ q h;rw[List.length_append,List.length_singleton] at this;omega
theorem cG{α β:Type}{R:β→β→Prop}{f:α→List β}:∀{l:List α},(∀a∈l,(f a).Pairwise R)→l.Pairwise (fun a b=>∀x∈f a,∀y∈f b,R x y)→(l.flatMap f).Pairwise R
 | [],_,_=>by simp
 | a :: l,h1,h2=>by
  rw[List.flatMap_cons,List.pairwise_append];rw[List.pairwise_cons] at h2;refine⟨h1 a (by simp),cG (fun b hb=>h1 b (by simp[hb])) h2.2,fun x hx y hy=>?_⟩;obtain⟨b,hb,hy⟩:=List.mem_flatMap.1 hy;exact h2.1 b hb x hx y hy
theorem mG{α:Type}(l:List α)(n:Nat):(l.zipIdx n).Pairwise (fun a b=>a.2<b.2):=by
 rw[List.pairwise_iff_getElem];intro i j hi hj hij;simp;omega
theorem lr{ch:Int→List Int}:∀(n:Nat) (k:Int) (p:List Int),(cS ch n k p).Pairwise (fun a b=>cmpL a b=-1)
 | 0,k,p=>List.Pairwise.nil
 | n+1,k,p=>by
  simp only[cS];rw[List.pairwise_cons];refine⟨fun q hq=>?_,cG (fun x _=>lr n _ _) ?_⟩
  ·obtain⟨x,hx,hq⟩:=List.mem_flatMap.1 hq;obtain⟨r,rfl⟩:=fR n _ _ q hq;rw[List.append_assoc];exact GW p _ _
  ·refine(mG (ch k) 0).imp fun {a b} hab x hx y hy=>?_;obtain⟨r,rfl⟩:=fR n _ _ x hx;obtain⟨s,rfl⟩:=fR n _ _ y hy;rw[List.append_assoc,List.append_assoc,oW];show(if (a.2:Int)<(b.2:Int) then (-1:Int) else _)=-1
   rw[if_pos (by omega)]
theorem qK{ns:List Nod}(hc:bw (ae ns)):∀(n:Nat) (k:Int) (p q:List Int),0≤k→k<n→((p++q)∈cS (ae ns) n k p↔(cI ns k q).isSome=true)
 | 0,k,p,q,h0,h1=>by omega
 | n+1,k,p,q,h0,h1=>by
  simp only[cS,List.mem_cons,List.mem_flatMap]
  cases q with
  | nil=>simp[cI]
  | cons a q=>
   have hne:¬p++a :: q=p:=by simp
   simp only[hne,false_or];have hin:∀(x:Int) (i:Nat),x∈ae ns k→((p++(i:Int) :: q)∈cS (ae ns) n x (p++[(i:Int)])↔(cI ns x q).isSome=true):=fun x i hx=>by
    have:=hc k x hx;have h:=qK hc n x (p++[(i:Int)]) q (by omega) (by omega)
    rwa [List.append_assoc] at h
   constructor
   ·rintro⟨⟨x,i⟩,hx,hq⟩
    have hxi:=List.mem_zipIdx' hx;obtain⟨r,hr⟩:=fR n _ _ _ hq;rw[List.append_assoc,List.append_cancel_left_eq] at hr;simp only[List.cons_append,List.nil_append,List.cons.injEq] at hr;obtain⟨rfl,rfl⟩:=hr;have hm:x∈ae ns k:=List.fst_mem_of_mem_zipIdx hx;have h2:=(hin x i hm).1 hq;have hg:(ae ns k)[i]?=some x:=by
     rw[List.getElem?_eq_getElem hxi.1,←hxi.2]
    rw[cI,if_neg (by omega),Int.toNat_natCast,hg];simp only
    cases hd:cI ns x q with
    | none=>rw[hd] at h2;cases h2
    | some y=>obtain⟨l,e⟩:=y;rfl
   ·intro h;rw[cI] at h
    split at h
    ·cases h
    ·rename_i h3
     cases hg:(ae ns k)[a.toNat]? with
     | none=>rw[hg] at h;cases h
     | some x=>
      rw[hg] at h;simp only at h;have hm:x∈ae ns k:=List.mem_of_getElem? hg;have ha:((a.toNat:Nat):Int)=a:=by omega
      refine⟨(x,a.toNat),List.mk_mem_zipIdx_iff_getElem?.2 hg,?_⟩;have h2:=(hin x a.toNat hm).2 (by
       cases hd:cI ns x q with
       | none=>rw[hd] at h;cases h
       | some y=>rfl)
      simp only[ha] at h2 ⊢;exact h2
def wT(t:Tre):List (List Int):=cS (ae t.nodes) t.nodes.length t.root []
theorem yB{t:Tre}(h:aC t)(q:List Int):q∈wT t↔(mY t q).2=true:=by
 have:=qK h.kok.ae t.nodes.length t.root [] q h.root.1 h.root.2;rw[List.nil_append] at this;rw[wT,this,mY,if_pos h.right]
 cases hd:cI t.nodes t.root q with
 | none=>simp
 | some x=>obtain⟨l,k⟩:=x;simp
theorem zJ(t:Tre):(wT t).Pairwise (fun a b=>cmpL a b=-1):=lr _ _ _
structure Sto where
 pass:Int
 way:Int
 r:Int
 p:List Int
 at_:Int
def mu(r:Int)(p:List Int)(r':Int)(p':List Int):Int:=if kp r r'≠0 then kp r r' else cmpL p p'
def cN(a b:Sto):Bool:=decide (mu a.r a.p b.r b.p<0)||(decide (mu a.r a.p b.r b.p=0)&&(decide (a.way<b.way)||(decide (a.way=b.way)&&decide (a.at_<b.at_))))
theorem EE(r:Int)(p:List Int)(r':Int)(p':List Int):mu r' p' r p=- mu r p r' p':=by
 have:=EY r r';unfold mu
 by_cases h:kp r r'≠0
 ·rw[if_pos h,if_pos (by omega)];exact this
 ·rw[if_neg h,if_neg (by omega)];exact vX p p'
theorem qs{r:Int}{p:List Int}{r':Int}{p':List Int}:mu r p r' p'=0↔r=r'∧p=p':=by
 unfold mu
 by_cases h:kp r r'≠0
 ·rw[if_pos h]
  constructor
  ·exact fun e=>absurd e h
  ·rintro⟨e,_⟩
   exact absurd (ml.2 e) h
 ·rw[if_neg h,uP];have:=ml.1 (show kp r r'=0 by omega);simp[this]
theorem ES{a b:Sto}(h1:cN a b=false)(h2:cN b a=false):a.r=b.r∧a.p=b.p∧a.way=b.way∧a.at_=b.at_:=by
 have hf:=EE a.r a.p b.r b.p;simp only[cN,Bool.or_eq_false_iff,Bool.and_eq_false_iff,decide_eq_false_iff_not] at h1 h2;obtain⟨h1,h3⟩:=h1;obtain⟨h2,h4⟩:=h2;have h0:mu a.r a.p b.r b.p=0:=by omega
 obtain⟨e1,e2⟩:=qs.1 h0;refine⟨e1,e2,?_⟩;omega
theorem Bd(a:Sto):cN a a=false:=by
 have:mu a.r a.p a.r a.p=0:=qs.2 ⟨rfl,rfl⟩;simp[cN,this]
end Go.aa
end
section
namespace Go.Km
open Go Go.Vc Go.Proofs Go.aa Go.Proofs.YtoklkjkmbfebjaaGreatDoor
set_option maxRecDepth 100000
set_option maxHeartbeats 0
abbrev Hv(t:Tre)(k:Int)(p:List Int):List F:=[.pt 1 [[isF p]] 0 0,.pt 2 [[.sl (t.nodes.map aU),inF t.root]] 0 0,.pt 1 [[inF k]] 0 0]
instance(t:Tre)(k:Int)(p:List Int):C 55 [az t,inF k,isF p] (.cl 80 (Hv t k p)) false True:=⟨fun _=>by
 refine kf rfl rfl ?_;repeat' first|exact k9|refine k2 ?_|apply kA|apply kI;intro hc|(apply Sn.go hX;conv=>whnf)|refine k8 ?_|apply kL;intro hl
 exact ao.i rfl⟩
theorem oC(t:Tre)(ht:t.wf)(hR:aC t):∀(N:Nat) (k:Int) (p:List Int),0≤k→k<N→k<t.nodes.length→p.length+N≤1000000→
  Co Tryz.prog X1.Γ 80 ((Hv t k p).map F.toD) (sn (ae t.nodes) k p).length (fun i=>[isF ((sn (ae t.nodes) k p).getD i [])].map D.fr)
 | 0,k,p,h0,h1,h2,h3=>by omega
 | N+1,k,p,h0,h1,h2,h3=>by
  have hX:=u4 [] [55];refine E8 hX rfl rfl ?_;intro A hA vs;obtain⟨q,rfl⟩:∃q:Nat,k=(q:Int):=⟨k.toNat,by omega⟩
  have hq:q<t.nodes.length:=by omega
  obtain⟨n,hn⟩:=exEq (t.nodes[q]);have hget:t.nodes[q]?=some n:=by rw[hn];exact List.getElem?_eq_getElem hq
  have hc:=hR.kok.ae;have hkl:n.kids.length≤17592186044416:=(ht.nodes n (by rw[hn];exact List.getElem_mem hq)).kids.1;obtain⟨ks,hks⟩:=exEq (t.nodes[q].kids);have hck:ae t.nodes (q:Int)=ks:=by rw[hks,←hn];exact(aI hget).symm
  have hkl2:ks.length≤17592186044416:=by rw[hks,←hn];exact hkl
  have hkk:∀x∈ks,0≤x∧x<(q:Int):=fun x hx=>hc q x (by rw[hck];exact hx)
  have hlen:=H8 hc h0 p;have hget2:∀{i j:Nat},i<ks.length→j<(N3 (ae t.nodes) q p i).length→_:=fun {i j} hi hj=>GB hc h0 p (i:=i) (j:=j) (by rw[hck];exact hi) hj
  have hsub:∀(i:Nat) (hi:i<ks.length),N3 (ae t.nodes) q p i=sn (ae t.nodes) ks[i] (p++[(i:Int)]):=fun i hi=>by rw[N3,hck,List.getElem?_eq_getElem hi]
  have hsucc:=EZ (ae t.nodes) q p;have ho0:sG (ae t.nodes) q p 0=1:=rfl;rw[hck] at hlen;have hA0:∀(η:Env) b v,η b=some (.ab v (A 0))→wg Tryz.prog X1.Γ η b v [D.fr (isF p)] (Bo true) [b] [(b,.ab v (A 1))]:=fun η b v h=>hA 0 (by show 0<(p :: _:List (List Int)).length;simp) η b v h
  obtain⟨off,hoff⟩:=exEq (sG (ae t.nodes) q p);rw[←hoff] at hsucc hlen ho0;apply Sn.go hX;repeat' first|exact k9|refine k2 ?_|apply kA|apply kI;intro hc|(apply Sn.go hX;conv=>whnf)|((refine u6.i (hA0 _ 0 0 rfl) ?_)<;>conv=>whnf)|refine k8 ?_|apply kL;intro hl
  refine Stp.FU (by rfl) ?_;apply kCt [1,2,4,17,18,19] [];conv=>whnf
  rw[←hks];refine Lp.ind (fun x:Nat=>ks.length - x) (fun x=>x≤ks.length) (fun x=>[(19,InD x)]) (fun x=>[(1,.ab 0 (A (off x)))]) (fun _=>_) 0 (Nat.zero_le _) rfl rfl (by rw[ho0];rfl) ?_
  rintro G x ih hx
  by_cases hxl:x<ks.length
  ·have hki:=hkk _ (List.getElem_mem hxl);have happ:List.drop 0 (List.take (List.map ikF p).length (List.map ikF p))++[[(F.vl (Value.int IntKind.i64 (x:Int))).nz]]=List.map ikF (p++[(x:Int)]):=by rw[List.drop_zero,List.take_length,List.map_append];rfl
   have hkc:KC Tryz.prog X1.Γ 55 [az t,inF ks[x],isF (p++[(x:Int)])] (.cl 80 (Hv t ks[x] (p++[(x:Int)]))) false True:=inferInstance;have hlx:om 1 (List.drop 0 (List.take (List.map ikF p).length (List.map ikF p)))=true:=by simp only[List.drop_zero,List.take_length];exact sS p
   have hsx:=hsub x hxl;have ihx:=oC t ht hR N ks[x] (p++[(x:Int)]) hki.1 (by omega) (by omega) (by rw[List.length_append,List.length_singleton];omega);rw[←hsx] at ihx;obtain⟨sb,hsb⟩:=exEq (N3 (ae t.nodes) q p x);have hs1:=hsucc x;rw[←hsb] at ihx hs1;have hAj:∀j,j<sb.length→∀(η:Env) b v,η b=some (.ab v (A (off x+j)))→wg Tryz.prog X1.Γ η b v [D.fr (isF (sb.getD j []))] (Bo true) [b] [(b,.ab v (A (off x+(j+1))))]:=fun j hj η b v h=>by
    obtain⟨e1,e2⟩:=hget2 (i:=x) (j:=j) hxl (by rw[←hsb];exact hj);rw[←hoff] at e1 e2;rw[←hsb] at e1;have:=hA (off x+j) e2 η b v h;rw[e1] at this;exact this
   apply Sn.go hX;repeat' first|exact k9|refine k2 ?_|apply kA|apply kI;intro hc|(apply Sn.go hX;conv=>whnf)|(((refine lR hkc rfl (congrArg (fun z=>[az t,inF ks[x],F.sl z]) happ) trivial ?_))<;>conv=>whnf)|refine k8 ?_|apply kL;intro hl
   refine dR.i (vb (b0:=53) (v0:=0) (bs:=[52,0,1]) (kc:=[4]) (m:=4) (nx:=5) (x:=[.ptr 0 0 0,.yl 1 0]) (x0:=[.ptr 1 0 0,.ptr 2 0 0,.yl 3 0]) (T:=fun j=>[(1,.df 0),(2,.va 0 144 [.yl 3 0]),(3,.ab 0 (A (off x+j)))]) (e:=[(52,.df 0),(0,.va 0 144 [.yl 1 0]),(1,.ab 0 (A (off x+sb.length)))]) ihx rfl rfl rfl rfl rfl rfl rfl rfl rfl rfl rfl (fun _ _=>rfl) rfl (fun _ _=>rfl) ?_) ?_
   ·intro vs j hj
    repeat' first|exact k9|refine k2 ?_|apply kA|apply kI;intro hc|(apply Sn.go hX;conv=>whnf)|(((refine u6.i (hAj j hj _ _ _ rfl) ?_))<;>conv=>whnf)|refine k8 ?_|apply kL;intro hl
    exact⟨rfl,rfl⟩
   ·(conv=>whnf);repeat' first|exact k9|refine k2 ?_|apply kA|apply kI;intro hc|(apply Sn.go hX;conv=>whnf)|refine k8 ?_|apply kL;intro hl
    refine Stp.Gy (by rfl) (by rfl) (by rfl) ?_;apply kCt [1,2,4,17,18,19] [];conv=>whnf
    exact ih (x+1) _ _ _ (by omega) (by omega) rfl rfl (by rw[hs1];rfl)
  ·obtain rfl:x=ks.length:=by omega
   apply Sn.go hX;repeat' first|exact k9|refine k2 ?_|apply kA|apply kI;intro hc|(apply Sn.go hX;conv=>whnf)|refine k8 ?_|apply kL;intro hl
   exact cQ.i rfl (by rw[hlen];rfl)
end Go.Km
end
section
namespace Go.aa
open Go Go.Km
def jW(g:List Dfn):List (Int×List Int):=if dI g=0 then g.zipIdx.flatMap (fun x=>(wT x.1.body).map fun p=>((x.2:Int),p)) else []
theorem Ar{t:Tre}(h:aC t):wT t=sn (ae t.nodes) t.root []:=jV h.kok.ae _ _ _ _ h.root.1 h.root.2 (by have:=h.root.1;omega)
def fc(g:List Dfn)(i:Nat):List (Int×List Int):=(g.zipIdx.take i).flatMap fun x=>(wT x.1.body).map fun p=>((x.2:Int),p)
theorem qc(g:List Dfn)(h:dI g=0):jW g=fc g g.length:=by
 rw[jW,if_pos h,fc,List.take_of_length_le (by simp)]
theorem tA{g:List Dfn}{i:Nat}(h:i<g.length):fc g (i+1)=fc g i++(wT g[i].body).map fun p=>((i:Int),p):=by
 rw[fc,List.take_succ_eq_append_getElem (by simpa using h),List.flatMap_append,List.flatMap_singleton];simp[fc]
theorem zg{ns:List Nod}(hc:bw (ae ns)):∀(N:Nat) (k:Int) (p:List Int),0≤k→k<N→k<ns.length→(sn (ae ns) k p).length=szN ns k
 | 0,k,p,h0,h1,h2=>by omega
 | N+1,k,p,h0,h1,h2=>by
  rw[ry hc h0,List.length_cons,List.length_flatMap,wG hc h0 h2]
  congr 2
  refine List.ext_getElem (by simp) fun i hi hi2=>?_;simp only[List.length_map,List.length_range] at hi;simp only[List.getElem_map,List.getElem_range];have hx:=hc k _ (List.getElem_mem hi);rw[N3,List.getElem?_eq_getElem hi];exact zg hc N _ _ hx.1 (by omega) (by omega)
theorem oY{t:Tre}(h:aC t):(wT t).length≤t.nodes.length:=by
 rw[Ar h,zg h.kok.ae (t.root.toNat+1) t.root [] h.root.1 (by have:=h.root.1;omega) h.root.2];exact Nat.le_of_eq (gF h)
theorem lX{g:List Dfn}:∀(i:Nat),i≤g.length→(∀d∈g,(wT d.body).length≤2000)→(fc g i).length≤i * 2000
 | 0,_,_=>by simp[fc]
 | i+1,h,hd=>by
  have:=lX i (by omega) hd;rw[tA (by omega),List.length_append,List.length_map];have:=hd _ (List.getElem_mem (show i<g.length by omega));omega
end Go.aa
namespace Go.Km
open Go Go.Vc Go.Proofs Go.aa Go.Proofs.YtoklkjkmbfebjaaGreatDoor
set_option maxRecDepth 100000
set_option maxHeartbeats 0
theorem fe.e{P:Program}{Γ:Nat→Option (List F)}{f:Nat}{l:List F}{r:F}{b:Bool}{pre:Prop}{k:F×Bool→Prop}(h:KC P Γ f l r b pre)(hp:pre)(hk:k (r,b)):fe P Γ f l k:=⟨(r,b),h.h hp,hk⟩
abbrev wM(x:Int×List Int):List F:=[inF x.1,isF x.2]
instance(g:List Dfn):C 29 [bC g] (.sl ((jW g).map wM)) false (g.length≤1000∧(∀d∈g,d.wf)∧(dI g=0→∀d∈g,aC d.body∧d.body.nodes.length≤2000)):=⟨fun ⟨hn,hw,hr⟩=>by
 have hp:g.length≤1000∧∀d∈g,d.wf:=⟨hn,hw⟩
 by_cases hm:dI g=0
 ·have hr:=hr hm;rw[qc g hm];refine kf rfl rfl ?_;repeat' first|exact k9|refine k2 ?_|apply kA|apply kI;intro hc|refine k8 ?_|apply kL;intro hl
  refine Stp.By 5 83 60 2 rfl rfl ?_;refine Stp.FU (by rfl) ?_;apply kCt [3,11,12,13] [];conv=>whnf
  refine Lp.ind (fun x:Nat=>g.length - x) (fun x=>x≤g.length) (fun x=>[(13,InD x)]) (fun x=>[(1,.ro 0 60 2 ((fc g x).map wM))]) (fun _=>_) 0 (Nat.zero_le _) rfl rfl rfl ?_
  rintro G x ih hx
  by_cases hxl:x<g.length
  ·have hwx:=hw _ (List.getElem_mem hxl);have hrx:=hr _ (List.getElem_mem hxl);obtain⟨t,ht⟩:=exEq (g[x].body);have hkc:KC Tryz.prog X1.Γ 55 [az g[x].body,inF g[x].body.root,.sl []] (.cl 80 (Hv g[x].body g[x].body.root [])) false True:=(inferInstance:C 55 [az g[x].body,inF g[x].body.root,isF []] (.cl 80 (Hv g[x].body g[x].body.root [])) false True)
   have hit:=oC g[x].body hwx.body hrx.1 (g[x].body.root.toNat+1) g[x].body.root [] hrx.1.root.1 (by have:=hrx.1.root;omega) hrx.1.root.2 (by simp only[List.length_nil];have:=hrx.1.root;omega);have hall:=tA hxl;rw[Ar hrx.1] at hall;obtain⟨ps,hps⟩:=exEq (sn (ae g[x].body.nodes) g[x].body.root []);rw[←hps] at hit hall
   repeat' first|exact k9|refine k2 ?_|apply kA|apply kI;intro hc|(((refine fe.e hkc trivial ?_))<;>conv=>whnf)|refine k8 ?_|apply kL;intro hl
   have hpl:ps.length≤2000:=by rw[hps,←Ar hrx.1];exact Nat.le_trans (oY hrx.1) hrx.2
   have hal:(fc g x).length≤x * 2000:=lX x (by omega) fun d hd=>Nat.le_trans (oY (hr d hd).1) (hr d hd).2
   have hrow:∀j,j<ps.length→((fc g x++(ps.take (j+1)).map fun p=>((x:Int),p)).map wM)=(fc g x++(ps.take j).map fun p=>((x:Int),p)).map wM++[[inF (x:Int),isF (ps.getD j [])]]:=fun j hj=>by
    rw[List.take_succ_eq_append_getElem hj,List.map_append,List.map_append,List.map_append,List.map_append,List.getD_eq_getElem?_getD,List.getElem?_eq_getElem hj,List.append_assoc];rfl
   have hl2:∀j,(fc g x++(ps.take j).map fun p=>((x:Int),p)).length≤2002000:=fun j=>by rw[List.length_append,List.length_map,List.length_take];omega
   have hl3:∀j,((fc g x++(ps.take j).map fun p=>((x:Int),p)).map wM).length≤2002000:=fun j=>by rw[List.length_map];exact hl2 j
   have hrow0:(fc g x++(ps.take 0).map fun p=>((x:Int),p)).map wM=(fc g x).map wM:=by simp
   refine dR.i (vb (b0:=18) (v0:=0) (bs:=[17,0,1,7]) (kc:=[3,4]) (m:=5) (nx:=6) (x:=[.ptr 0 0 0,.ptr 7 0 0]) (x0:=[.ptr 1 0 0,.ptr 2 0 0,.ptr 4 0 0])
    (T:=fun j=>[(1,.df 0),(2,.va 0 83 [.own 3 0]),(3,.ro 0 60 2 ((fc g x++(ps.take j).map fun p=>((x:Int),p)).map wM)),(4,.va 0 3 [.fr (inF (x:Int))])])
    (e:=[(17,.df 0),(0,.va 0 83 [.own 1 1]),(1,.ro 1 60 2 ((fc g x++(ps.take ps.length).map fun p=>((x:Int),p)).map wM)),(7,.va 0 3 [.fr (inF (x:Int))])]) hit rfl rfl rfl rfl rfl rfl (by rw[hrow0];rfl) rfl rfl rfl rfl (fun _ _=>rfl) rfl (fun _ _=>rfl) ?_) ?_
   ·intro vs j hj;have hl4:=hl3 j
    repeat' first|exact k9|refine k2 ?_|apply kA|apply kI;intro hc|refine k8 ?_|apply kL;intro hl
    exact⟨rfl,by dsimp only;rw[hrow j hj];rfl⟩
   ·rw[List.take_length,←hall]
    (conv=>whnf);repeat' first|exact k9|refine k2 ?_|apply kA|apply kI;intro hc|refine k8 ?_|apply kL;intro hl
    refine Stp.Gy (by rfl) (by rfl) (by rfl) ?_;apply kCt [3,11,12,13] [];conv=>whnf
    exact ih (x+1) _ _ _ (by omega) (by omega) rfl rfl rfl
  ·obtain rfl:x=g.length:=by omega
   repeat' first|exact k9|refine k2 ?_|apply kA|apply kI;intro hc|refine k8 ?_|apply kL;intro hl
 ·rw[show jW g=[] from by rw[jW,if_neg hm]];refine kf rfl rfl ?_;repeat' first|exact k9|refine k2 ?_|apply kA|apply kI;intro hc|refine k8 ?_|apply kL;intro hl
  exact ao.i rfl⟩
end Go.Km
end
section
namespace Go.aa
open Go Go.Sl Go.Km
def eV(g:List Dfn)(x:Int×List Int):List Sto:=(List.range 7).flatMap fun k=>((List.range (aB k (b6 g x.1 x.2).1).toNat).filter fun (a:Nat)=>(cy k g (b6 g x.1 x.2).1 (a:Int)).2).map fun (a:Nat)=>⟨6,(k:Int),x.1,x.2,(a:Int)⟩
def aO(g:List Dfn):List Sto:=if bO g=0 then (jW g).flatMap (eV g) else []
theorem sA{g:List Dfn}(h:dI g=0)(r:Int)(p:List Int):(r,p)∈jW g↔(bR g r p).2=true:=by
 have ok:=jF h;rw[jW,if_pos h,List.mem_flatMap,bR]
 constructor
 ·rintro⟨⟨d,i⟩,hx,hp⟩
  have hxi:=List.mem_zipIdx' hx;obtain⟨q,hq,e⟩:=List.mem_map.1 hp;simp only[Prod.mk.injEq] at e;obtain⟨rfl,rfl⟩:=e;rw[dif_pos ⟨by omega,by have:=hxi.1;omega⟩];have hd:g[i]'hxi.1=d:=hxi.2.symm;have:=(yB (ok.right (List.getElem_mem hxi.1)) q).1 (by rw[hd];exact hq);exact this
 ·intro hh
  split at hh
  ·rename_i hr;obtain⟨i,rfl⟩:∃i:Nat,r=(i:Int):=⟨r.toNat,by omega⟩
   have hi:i<g.length:=by omega
   have h2:=(yB (ok.right (List.getElem_mem hi)) p).2 hh;exact⟨(g[i],i),List.mk_mem_zipIdx_iff_getElem?.2 (List.getElem?_eq_getElem hi),List.mem_map.2 ⟨p,h2,rfl⟩⟩
  ·cases hh
theorem zc(g:List Dfn):(jW g).Pairwise (fun a b=>mu a.1 a.2 b.1 b.2=-1):=by
 unfold jW
 split
 ·refine cG (fun x _=>?_) ?_
  ·rw[List.pairwise_map];refine(zJ x.1.body).imp fun {a b} h=>?_
   unfold mu;rw[if_neg (by simp[ml]),h]
  ·refine(mG g 0).imp fun {a b} hab x hx y hy=>?_;obtain⟨p,_,rfl⟩:=List.mem_map.1 hx;obtain⟨q,_,rfl⟩:=List.mem_map.1 hy;have:kp (a.2:Int) (b.2:Int)=-1:=by
    unfold kp;rw[if_pos (by omega)]
   unfold mu;rw[if_pos (by dsimp only;omega),this]
 ·exact List.Pairwise.nil
theorem eD{g:List Dfn}{x:Int×List Int}{s:Sto}:s∈eV g x↔s.pass=6∧s.r=x.1∧s.p=x.2∧0≤s.way∧s.way<7∧(cy s.way.toNat g (b6 g x.1 x.2).1 s.at_).2=true:=by
 unfold eV;simp only[List.mem_flatMap,List.mem_range,List.mem_map,List.mem_filter]
 constructor
 ·rintro⟨k,hk,a,⟨ha,hr⟩,rfl⟩
  exact⟨rfl,rfl,rfl,by dsimp only;omega,by dsimp only;omega,by simpa using hr⟩
 ·rintro⟨h1,h2,h3,h4,h5,h6⟩
  have hr:¬(s.at_<0∨aB s.way.toNat (b6 g x.1 x.2).1≤s.at_):=by
   rintro(h|h)
   ·rw[xO (.inl h)] at h6;cases h6
   ·rw[xO (.inr (.inl h))] at h6;cases h6
  refine⟨s.way.toNat,by omega,s.at_.toNat,⟨by omega,?_⟩,?_⟩
  ·rw[show((s.at_.toNat:Nat):Int)=s.at_ by omega];exact h6
  ·obtain⟨pass,way,r,p,at_⟩:=s;simp only at *;subst h1;subst h2;subst h3
   congr 1<;>omega
theorem sP(g:List Dfn)(x:Int×List Int):(eV g x).Pairwise (fun a b=>cN a b=true):=by
 have h0:mu x.1 x.2 x.1 x.2=0:=qs.2 ⟨rfl,rfl⟩;refine cG (fun k _=>?_) ?_
 ·rw[List.pairwise_map];refine List.Pairwise.filter _ ((List.pairwise_lt_range (n:=(aB k (b6 g x.1 x.2).1).toNat)).imp fun {a b} h=>?_);simp only[cN,h0];simp;exact h
 ·refine(List.pairwise_lt_range (n:=7)).imp fun {a b} h x1 hx y hy=>?_;obtain⟨c,_,rfl⟩:=List.mem_map.1 hx;obtain⟨d,_,rfl⟩:=List.mem_map.1 hy;simp only[cN,h0];have:(a:Int)<(b:Int):=by omega
  simp[this]
theorem qk(g:List Dfn):(aO g).Pairwise (fun a b=>cN a b=true):=by
 unfold aO
 split
 ·refine cG (fun x _=>sP g x) ((zc g).imp fun {a b} h x hx y hy=>?_);obtain⟨_,h1,h2,_⟩:=eD.1 hx;obtain⟨_,h3,h4,_⟩:=eD.1 hy;simp only[cN,h1,h2,h3,h4,h];simp
 ·exact List.Pairwise.nil
theorem gY{g:List Dfn}{s:Sto}(h:s∈aO g):s.pass=6:=by
 unfold aO at h
 split at h
 ·obtain⟨x,_,hx⟩:=List.mem_flatMap.1 h;exact(eD.1 hx).1
 ·cases h
theorem tw(g:List Dfn)(r:Int)(p:List Int):(b6 g r p).2=(bR g r p).2:=by
 unfold b6
 cases h:(bR g r p).2<;>simp
theorem mI{g:List Dfn}(hc:bO g=0){s:Sto}(hw:0≤s.way):s∈aO g↔(ba g s.pass s.way s.r s.p s.at_).2=0:=by
 have hm:=fg hc;rw[aO,if_pos hc,List.mem_flatMap,ba,if_neg (by simpa using hc)]
 constructor
 ·rintro⟨x,hx,h⟩
  obtain⟨h1,h2,h3,h4,h5,h6⟩:=eD.1 h;have:=(sA hm x.1 x.2).1 hx;rw[h2,h3,if_neg]
  rintro(q|q|q|q)
  ·rw[tw,this] at q;cases q
  ·exact q h1
  ·omega
  ·rw[h6] at q;cases q
 ·intro h
  split at h
  ·cases h
  ·rename_i q;simp only[not_or,Bool.not_eq_false] at q;obtain⟨q1,q2,q3,q4⟩:=q;refine⟨(s.r,s.p),(sA hm _ _).2 (by rw[←tw];exact q1),eD.2 ⟨by simpa using q2,rfl,rfl,hw,by omega,q4⟩⟩
theorem qE(g:List Dfn)(pass way r:Int)(p:List Int)(at_:Int)(hc:bO g=0):((ba g pass way r p at_).2=0∧bO (ba g pass way r p at_).1=0)∨ba g pass way r p at_=([],47):=by
 rw[ba,if_neg (by simpa using hc)]
 split
 ·exact .inr rfl
 ·rename_i q;simp only[not_or,Bool.not_eq_false] at q;obtain⟨_,_,_,q4⟩:=q;refine .inl ⟨rfl,?_⟩;unfold cy at q4 ⊢
  split at q4
  ·cases q4
  ·rename_i h;rw[if_neg h];simp only[not_or] at h;simpa using h.2.2.2.2
def ib(l:List Sto)(s:Sto):Bool:=l.any fun x=>decide (s.pass=6) && !cN s x && !cN x s
theorem vW{g:List Dfn}{s:Sto}:ib (aO g) s=true↔s∈aO g:=by
 rw[ib,List.any_eq_true]
 constructor
 ·rintro⟨x,hx,h⟩
  simp only[Bool.and_eq_true,decide_eq_true_eq,Bool.not_eq_true'] at h;obtain⟨⟨h1,h2⟩,h3⟩:=h;obtain⟨e1,e2,e3,e4⟩:=ES h2 h3;have e5:=gY hx;have:s=x:=by
   cases s;cases x;simp only at *;subst e1;subst e2;subst e3;subst e4;subst h1;subst e5;rfl
  rw[this];exact hx
 ·intro h;refine⟨s,h,?_⟩;rw[Bd,gY h];rfl
end Go.aa
end
section
namespace Go.aa
open Go
theorem pD{a b:List Int}:∀(i:Nat),i≤a.length→i≤b.length→a.take i=b.take i→cmpL a b=cmpL (a.drop i) (b.drop i):=by
 intro i ha hb h;conv=>lhs;rw[←List.take_append_drop i a,←List.take_append_drop i b,h]
 exact oW _ _ _
theorem IF{a b:List Int}{i:Nat}(ha:i<a.length)(hb:i<b.length)(h:a.take i=b.take i):cmpL a b=if a[i]<b[i] then -1 else if b[i]<a[i] then 1 else cmpL (a.drop (i+1)) (b.drop (i+1)):=by
 rw[pD i (by omega) (by omega) h,List.drop_eq_getElem_cons ha,List.drop_eq_getElem_cons hb];rfl
theorem Ju{a b:List Int}{i:Nat}(ha:i<a.length)(hb:i<b.length)(h:a.take i=b.take i)(hc:kp a[i] b[i]≠0):kp a[i] b[i]=cmpL a b:=by
 rw[IF ha hb h];unfold kp at hc ⊢
 split
 ·rfl
 split
 ·rfl
 ·rw[if_neg (by assumption),if_neg (by assumption)] at hc;exact absurd rfl hc
theorem EW{a b:List Int}{i:Nat}(ha:i<a.length)(hb:i<b.length)(h:a.take i=b.take i)(hc:kp a[i] b[i]=0):a.take (i+1)=b.take (i+1):=by
 rw[List.take_succ_eq_append_getElem ha,List.take_succ_eq_append_getElem hb,h,ml.1 hc]
theorem EK{a b:List Int}(h:a.take b.length=b)(hl:b.length<a.length):1=cmpL a b:=by
 rw[pD b.length (by omega) (Nat.le_refl _) (by rw[h,List.take_length]),List.drop_length,List.drop_eq_getElem_cons hl];rfl
theorem Gz{a b:List Int}(h:a=b.take a.length)(hl:a.length≤b.length):cmpL a b=if a.length<b.length then -1 else 0:=by
 rw[pD a.length (Nat.le_refl _) hl (by rw[List.take_length];exact h),List.drop_length]
 by_cases q:a.length<b.length
 ·rw[if_pos q,List.drop_eq_getElem_cons q];rfl
 ·rw[if_neg q,List.drop_eq_nil_of_le (by omega)];rfl
end Go.aa
namespace Go.Km
open Go Go.Vc Go.Proofs Go.aa Go.Proofs.YtoklkjkmbfebjaaGreatDoor
set_option maxRecDepth 100000
set_option maxHeartbeats 0
abbrev mz(s:Sto):List F:=[byF s.pass,byF s.way,inF s.r,isF s.p,inF s.at_]
instance(a:Int):C 56 [inF a] (boF false) true True:=⟨fun _=>by
 refine kf rfl rfl ?_;repeat' first|exact k9|refine k2 ?_|apply kA|apply kI;intro hc|refine k8 ?_|apply kL;intro hl
 exact ao.b (by rw[dd];simp) rfl⟩
instance(a b:Int):C 32 [inF a,inF b] (inF (kp a b)) true True:=⟨fun _=>by
 refine kf rfl rfl ?_;repeat' first|exact k9|refine k2 ?_|apply kA|apply kI;intro hc|refine k8 ?_|apply kL;intro hl
 all_goals exact ao.n (by unfold kp;repeat (first|rw[if_pos (by omega)]|rw[if_neg (by omega)])) rfl⟩
instance(a b:List Int):C 33 [isF a,isF b] (inF (cmpL a b)) true (a.length≤1000000∧b.length≤1000000):=⟨fun ⟨ha,hb⟩=>by
 refine kf rfl rfl ?_;repeat' first|exact k9|refine k2 ?_|apply kA|apply kI;intro hc|refine k8 ?_|apply kL;intro hl
 apply kCt [0,1,9,10,11] [];conv=>whnf
 refine Lp.ind (fun x:Nat=>a.length - x) (fun x=>x≤a.length∧x≤b.length∧a.take x=b.take x) (fun x=>[(11,InD x)]) (fun _=>[]) (fun _=>_) 0 ⟨Nat.zero_le _,Nat.zero_le _,by simp⟩ rfl rfl rfl ?_
 rintro G x ih ⟨hx,hxb,he⟩
 by_cases h:x<a.length
 ·by_cases h2:x<b.length
  ·repeat' first|exact k9|refine k2 ?_|apply kA|apply kI;intro hc|refine k8 ?_|apply kL;intro hl
   ·apply kCt [0,1,9,10,11] [];conv=>whnf
    exact ih (x+1) _ _ _ (by omega) ⟨by omega,by omega,EW h h2 he (by assumption)⟩ rfl rfl rfl
   ·exact ao.n (Ju h h2 he (by assumption)) rfl
  ·obtain rfl:x=b.length:=by omega
   repeat' first|exact k9|refine k2 ?_|apply kA|apply kI;intro hc|refine k8 ?_|apply kL;intro hl
   exact ao.n (EK (by rw[he,List.take_length]) h) rfl
 ·obtain rfl:x=a.length:=by omega
  have hz:=Gz (a:=a) (b:=b) (by rw[←he,List.take_length]) hxb
  repeat' first|exact k9|refine k2 ?_|apply kA|apply kI;intro hc|refine k8 ?_|apply kL;intro hl
  ·exact ao.n (by rw[hz,if_pos (by omega)]) rfl
  ·exact ao.n (by rw[hz,if_neg (by omega)]) rfl⟩
instance(r r':Int)(p p':List Int):C 17 [.ag [inF r,isF p],.ag [inF r',isF p']] (inF (mu r p r' p')) true (p.length≤1000000∧p'.length≤1000000):=⟨fun ⟨hp,hp'⟩=>by
 have hpp:p.length≤1000000∧p'.length≤1000000:=⟨hp,hp'⟩
 refine kf rfl rfl ?_;repeat' first|exact k9|refine k2 ?_|apply kA|apply kI;intro hc|refine k8 ?_|apply kL;intro hl
 ·exact ao.n (by unfold mu;rw[if_neg (by omega)]) rfl
 ·exact ao.n (by unfold mu;rw[if_pos (by assumption)]) rfl⟩
instance(a b:Sto):C 7 [.ag (mz a),.ag (mz b)] (boF (cN a b)) true (a.p.length≤1000000∧b.p.length≤1000000):=⟨fun ⟨hp,hp'⟩=>by
 have hpp:a.p.length≤1000000∧b.p.length≤1000000:=⟨hp,hp'⟩
 refine kf rfl rfl ?_;repeat' first|exact k9|refine k2 ?_|apply kA|apply kI;intro hc|refine k8 ?_|apply kL;intro hl
 all_goals
  refine ao.b ?_ rfl;rw[Bool.eq_iff_iff];simp only[cN,kM,Bool.or_eq_true,Bool.and_eq_true,decide_eq_true_eq,true_iff,Bool.false_eq_true,false_iff];omega⟩
end Go.Km
end
section
namespace Go.aa
open Go Go.Km
def bp(g:List Dfn)(x:Int×List Int)(k:Nat):List Sto:=((List.range (aB k (b6 g x.1 x.2).1).toNat).filter fun (a:Nat)=>(cy k g (b6 g x.1 x.2).1 (a:Int)).2).map fun (a:Nat)=>⟨6,(k:Int),x.1,x.2,(a:Int)⟩
def cw(g:List Dfn)(x:Int×List Int)(s:cx)(k a:Nat):List Sto:=((List.range a).filter fun (a:Nat)=>(cy k g s (a:Int)).2).map fun (a:Nat)=>⟨6,(k:Int),x.1,x.2,(a:Int)⟩
theorem gO(g:List Dfn)(x:Int×List Int)(s:cx)(k:Nat):cw g x s k 0=[]:=rfl
theorem dO(g:List Dfn)(x:Int×List Int)(s:cx)(k a:Nat):cw g x s k (a+1)=cw g x s k a++(if (cy k g s (a:Int)).2=true then [⟨6,(k:Int),x.1,x.2,(a:Int)⟩] else []):=by
 unfold cw;rw[List.range_succ,List.filter_append,List.map_append]
 congr 1
 cases h:(cy k g s (a:Int)).2<;>simp[h]
theorem da(g:List Dfn)(x:Int×List Int)(s:cx)(k a:Nat):(cw g x s k a).length≤a:=by
 unfold cw;rw[List.length_map];have:=List.length_filter_le (fun (a:Nat)=>(cy k g s (a:Int)).2) (List.range a)
 rwa [List.length_range] at this
theorem fX(k:Nat)(s:cx):aB k s≤(s.kids.length:Int)+1:=by
 unfold aB
 split
 ·omega
 split<;>omega
theorem eK{α β:Type}{f:α→List β}(c:Nat):∀(l:List α),(∀a∈l,(f a).length≤c)→(l.flatMap f).length≤l.length * c
 | [],_=>by simp
 | a :: l,h=>by
  have h1:=eK c l (fun b hb=>h b (by simp[hb]));have h2:=h a (by simp);rw[List.flatMap_cons,List.length_append,List.length_cons,Nat.add_mul];omega
theorem pz(g:List Dfn)(x:Int×List Int):eV g x=(List.range 7).flatMap (bp g x):=rfl
theorem rP{g:List Dfn}(h:dI g=0){x:Int×List Int}(hx:x∈jW g):(bR g x.1 x.2).2=true∧x.2.length≤2000:=by
 refine⟨(sA h x.1 x.2).1 hx,?_⟩;rw[jW,if_pos h,List.mem_flatMap] at hx;obtain⟨⟨d,i⟩,hd,hp⟩:=hx;obtain⟨q,hq,rfl⟩:=List.mem_map.1 hp;have:=qQ _ _ _ _ hq;have hd':d∈g:=List.fst_mem_of_mem_zipIdx hd;have:=(jF h).small hd';simp only[List.length_nil,Nat.zero_add] at *;omega
end Go.aa
namespace Go.Km
open Go Go.Vc Go.Proofs Go.aa Go.Proofs.YtoklkjkmbfebjaaGreatDoor
set_option maxRecDepth 100000
set_option maxHeartbeats 0
instance(r w a:Int)(p:List Int):C 31 [.ag [inF r,isF p],inF w,inF a] (.ag (mz ⟨6,w,r,p,a⟩)) false (p.length≤1000000∧0≤w∧w≤255):=⟨fun ⟨hp,h0,h1⟩=>by
 refine kf rfl rfl ?_;repeat' (first|exact k9|refine k2 ?_|apply kA|apply kI;intro hc|refine k8 ?_|apply kL;intro hl)⟩
instance(g:List Dfn):C 16 [bC g] (.cl 28 [.pt 1 [[.sl (g.map sN)]] 0 0]) false True:=⟨fun _=>by
 refine kf rfl rfl ?_;repeat' first|exact k9|refine k2 ?_|apply kA|apply kI;intro hc|refine k8 ?_|apply kL;intro hl
 exact ao.i rfl⟩
instance(g:List Dfn):C 6 [bC g] (.sl ((aO g).map mz)) false (g.length≤1000∧∀d∈g,d.wf):=⟨fun ⟨hn,hw⟩=>by
 have hp:g.length≤1000∧∀d∈g,d.wf:=⟨hn,hw⟩
 by_cases hc0:bO g=0
 ·have ok:=jF (fg hc0);have hm:=fg hc0;have hall:g.length≤1000∧(∀d∈g,d.wf)∧(dI g=0→∀d∈g,aC d.body∧d.body.nodes.length≤2000):=⟨hn,hw,fun _ d hd=>⟨ok.right hd,by have:=ok.small hd;omega⟩⟩
  rw[show aO g=(jW g).flatMap (eV g) from by rw[aO,if_pos hc0]];obtain⟨al,hal⟩:=exEq (jW g);have hsm:∀d∈g,d.wf∧d.body.nodes.length≤20000:=fun d hd=>⟨hw d hd,by have:=ok.small hd;omega⟩
  have hWl:∀y∈al,∀k,(bp g y k).length≤20001:=fun y hy k=>by
   have h1:=(rP hm (x:=y) (by rw[←hal];exact hy)).2;have h2:=(lq (r:=y.1) (p:=y.2) hsm (by omega)).kl;have h3:=fX k (b6 g y.1 y.2).1;exact Nat.le_trans (da g y (b6 g y.1 y.2).1 k (aB k (b6 g y.1 y.2).1).toNat) (by omega)
  have hAl:∀y∈al,(eV g y).length≤140007:=fun y hy=>by
   have:=eK (f:=bp g y) 20001 (List.range 7) (fun k _=>hWl y hy k);rw[List.length_range] at this;rw[pz];omega
  have hll:al.length≤2000000:=by
   rw[hal,qc g hm];exact Nat.le_trans (lX g.length (Nat.le_refl _) fun d hd=>Nat.le_trans (oY (ok.right hd)) (by have:=ok.small hd;omega)) (by omega)
  refine kf rfl rfl ?_;repeat' first|exact k9|refine k2 ?_|apply kA|apply kI;intro hc|refine k8 ?_|apply kL;intro hl
  refine Stp.By 2 30 27 5 rfl rfl ?_;apply kCt [0,1,3,18,19,20] [3];conv=>whnf
  rw[←hal];refine Lp.ind (fun x:Nat=>al.length - x) (fun x=>x≤al.length) (fun x=>[(20,InD x)]) (fun x=>[(3,.ro 0 27 5 (((al.take x).flatMap (eV g)).map mz))]) (fun _=>_) 0 (Nat.zero_le _) rfl rfl rfl ?_
  rintro G x ih hx
  by_cases hxl:x<al.length
  ·obtain⟨pl,hpl⟩:=exEq (al[x]);have hmem:pl∈jW g:=by rw[hpl,←hal];exact List.getElem_mem hxl
   obtain⟨hpf,hpn⟩:=rP hm hmem;have hsok:(b6 g al[x].1 al[x].2).2=true:=by rw[←hpl,tw];exact hpf
   have hpn':al[x].2.length≤1000000:=by rw[←hpl];omega
   have hspre:(g.length≤1000∧(∀d∈g,d.wf)∧al[x].2.length≤1000000)∧(bR g al[x].1 al[x].2).1.wf:=⟨⟨hn,hw,hpn'⟩,(pv hsm).1⟩
   repeat' first|exact k9|refine k2 ?_|apply kA|apply kI;intro hc|refine k8 ?_|apply kL;intro hl
   obtain⟨sp,hsp⟩:=exEq ((b6 g al[x].1 al[x].2).1);rw[←hsp];apply kCt [0,1,3,5,6,18,19,20,32,33] [3];conv=>whnf
   obtain⟨acc,hacc⟩:=exEq ((al.take x).flatMap (eV g));rw[←hacc];have hacl:acc.length≤280014000000:=by
    have:=eK 140007 (al.take x) (fun y hy=>hAl y (List.mem_of_mem_take hy));rw[←hacc,List.length_take] at this;have:min x al.length * 140007≤2000000 * 140007:=Nat.mul_le_mul_right _ (by omega);omega
   refine Lp.ind (fun w:Nat=>7 - w) (fun w=>w≤7) (fun w=>[(33,InD w)]) (fun w=>[(3,.ro 0 27 5 ((acc++(List.range w).flatMap (bp g al[x])).map mz))]) (fun _=>_) 0 (by omega) rfl rfl (by rw[List.range_zero,List.flatMap_nil,List.append_nil];rfl) ?_
   rintro G2 w ih2 hw7
   by_cases hwl:w<7
   ·have hwc:w=0∨w=1∨w=2∨w=3∨w=4∨w=5∨w=6:=by omega
    have hswf:sp.wf:=by rw[hsp];exact lq hsm hpn'
    have hrpre:g.length≤1000∧(∀d∈g,d.wf∧0<d.body.nodes.length∧d.body.nodes.length≤100000)∧sp.wf:=⟨hn,fun d hd=>⟨hw d hd,by have:=(ok.right hd).root;omega,by have:=ok.small hd;omega⟩,hswf⟩
    have hkl:sp.kids.length≤1000000:=by have:=hswf.kl;omega
    rcases hwc with rfl|rfl|rfl|rfl|rfl|rfl|rfl
    ·repeat' first|exact k9|refine k2 ?_|apply kA|apply kI;intro hc|refine k8 ?_|apply kL;intro hl
     apply kCt [0,1,3,5,6,8,9,18,19,20,32,33,39,40] [3];conv=>whnf
     refine⟨?_⟩
     repeat' first|exact k9|refine k2 ?_|apply kA|apply kI;intro hc|refine k8 ?_|apply kL;intro hl
     apply kCt [0,1,3,5,6,18,19,20,32,33] [3];conv=>whnf
     exact ih2 1 _ _ _ (by omega) (by omega) rfl rfl rfl
    ·have hst:=fX 1 sp;have hst2:(aB 1 sp).toNat≤20001:=by have:=hswf.kl;omega
     have hrl:=eK (f:=bp g al[x]) 20001 (List.range 1) (fun k _=>hWl _ (List.getElem_mem hxl) k);rw[List.length_range] at hrl;have hnext:acc++(List.range (1+1)).flatMap (bp g al[x])=acc++(List.range 1).flatMap (bp g al[x])++cw g al[x] sp 1 (aB 1 sp).toNat:=by
      rw[List.range_succ,List.flatMap_append,List.flatMap_singleton,List.append_assoc,hsp];rfl
     repeat' first|exact k9|refine k2 ?_|apply kA|apply kI;intro hc|refine k8 ?_|apply kL;intro hl
     apply kCt [0,1,3,5,6,8,9,18,19,20,32,33,39,40] [3];conv=>whnf
     refine Lp.ind (fun a:Nat=>(aB 1 sp).toNat - a) (fun a=>a≤(aB 1 sp).toNat) (fun a=>[(40,InD a)]) (fun a=>[(3,.ro 0 27 5 ((acc++(List.range 1).flatMap (bp g al[x])++cw g al[x] sp 1 a).map mz))]) (fun _=>_) 0 (Nat.zero_le _) rfl rfl (by rw[gO,List.append_nil];rfl) ?_
     rintro G3 a ih3 ha
     by_cases hal3:a<(aB 1 sp).toNat
     ·have hsucc:=dO g al[x] sp 1 a;have hsl:=da g al[x] sp 1 a
      cases hrs:(cy 1 g sp (a:Int)).2 with
      | true=>
       rw[hrs,if_pos rfl] at hsucc
       repeat' first|exact k9|refine k2 ?_|apply kA|apply kI;intro hc|refine k8 ?_|apply kL;intro hl
       apply kCt [0,1,3,5,6,8,9,18,19,20,32,33,39,40] [3];conv=>whnf
       exact ih3 (a+1) _ _ _ (by omega) (by omega) rfl rfl (by rw[hsucc,←List.append_assoc,List.map_append (l₂:=[_])];rfl)
      | false=>
       rw[hrs,if_neg (by decide),List.append_nil] at hsucc
       repeat' first|exact k9|refine k2 ?_|apply kA|apply kI;intro hc|refine k8 ?_|apply kL;intro hl
       apply kCt [0,1,3,5,6,8,9,18,19,20,32,33,39,40] [3];conv=>whnf
       exact ih3 (a+1) _ _ _ (by omega) (by omega) rfl rfl (by rw[hsucc];rfl)
     ·obtain rfl:a=(aB 1 sp).toNat:=by omega
      repeat' first|exact k9|refine k2 ?_|apply kA|apply kI;intro hc|refine k8 ?_|apply kL;intro hl
      apply kCt [0,1,3,5,6,18,19,20,32,33] [3];conv=>whnf
      exact ih2 (1+1) _ _ _ (by omega) (by omega) rfl rfl (by rw[hnext];rfl)
    ·have hst:=fX 2 sp;have hst2:(aB 2 sp).toNat≤20001:=by have:=hswf.kl;omega
     have hrl:=eK (f:=bp g al[x]) 20001 (List.range 2) (fun k _=>hWl _ (List.getElem_mem hxl) k);rw[List.length_range] at hrl;have hnext:acc++(List.range (2+1)).flatMap (bp g al[x])=acc++(List.range 2).flatMap (bp g al[x])++cw g al[x] sp 2 (aB 2 sp).toNat:=by
      rw[List.range_succ,List.flatMap_append,List.flatMap_singleton,List.append_assoc,hsp];rfl
     repeat' first|exact k9|refine k2 ?_|apply kA|apply kI;intro hc|refine k8 ?_|apply kL;intro hl
     apply kCt [0,1,3,5,6,8,9,18,19,20,32,33,39,40] [3];conv=>whnf
     refine Lp.ind (fun a:Nat=>(aB 2 sp).toNat - a) (fun a=>a≤(aB 2 sp).toNat) (fun a=>[(40,InD a)]) (fun a=>[(3,.ro 0 27 5 ((acc++(List.range 2).flatMap (bp g al[x])++cw g al[x] sp 2 a).map mz))]) (fun _=>_) 0 (Nat.zero_le _) rfl rfl (by rw[gO,List.append_nil];rfl) ?_
     rintro G3 a ih3 ha
     by_cases hal3:a<(aB 2 sp).toNat
     ·have hsucc:=dO g al[x] sp 2 a;have hsl:=da g al[x] sp 2 a
      cases hrs:(cy 2 g sp (a:Int)).2 with
      | true=>
       rw[hrs,if_pos rfl] at hsucc
       repeat' first|exact k9|refine k2 ?_|apply kA|apply kI;intro hc|refine k8 ?_|apply kL;intro hl
       apply kCt [0,1,3,5,6,8,9,18,19,20,32,33,39,40] [3];conv=>whnf
       exact ih3 (a+1) _ _ _ (by omega) (by omega) rfl rfl (by rw[hsucc,←List.append_assoc,List.map_append (l₂:=[_])];rfl)
      | false=>
       rw[hrs,if_neg (by decide),List.append_nil] at hsucc
       repeat' first|exact k9|refine k2 ?_|apply kA|apply kI;intro hc|refine k8 ?_|apply kL;intro hl
       apply kCt [0,1,3,5,6,8,9,18,19,20,32,33,39,40] [3];conv=>whnf
       exact ih3 (a+1) _ _ _ (by omega) (by omega) rfl rfl (by rw[hsucc];rfl)
     ·obtain rfl:a=(aB 2 sp).toNat:=by omega
      repeat' first|exact k9|refine k2 ?_|apply kA|apply kI;intro hc|refine k8 ?_|apply kL;intro hl
      apply kCt [0,1,3,5,6,18,19,20,32,33] [3];conv=>whnf
      exact ih2 (2+1) _ _ _ (by omega) (by omega) rfl rfl (by rw[hnext];rfl)
    ·have hst:=fX 3 sp;have hst2:(aB 3 sp).toNat≤20001:=by have:=hswf.kl;omega
     have hrl:=eK (f:=bp g al[x]) 20001 (List.range 3) (fun k _=>hWl _ (List.getElem_mem hxl) k);rw[List.length_range] at hrl;have hnext:acc++(List.range (3+1)).flatMap (bp g al[x])=acc++(List.range 3).flatMap (bp g al[x])++cw g al[x] sp 3 (aB 3 sp).toNat:=by
      rw[List.range_succ,List.flatMap_append,List.flatMap_singleton,List.append_assoc,hsp];rfl
     repeat' first|exact k9|refine k2 ?_|apply kA|apply kI;intro hc|refine k8 ?_|apply kL;intro hl
     apply kCt [0,1,3,5,6,8,9,18,19,20,32,33,39,40] [3];conv=>whnf
     refine Lp.ind (fun a:Nat=>(aB 3 sp).toNat - a) (fun a=>a≤(aB 3 sp).toNat) (fun a=>[(40,InD a)]) (fun a=>[(3,.ro 0 27 5 ((acc++(List.range 3).flatMap (bp g al[x])++cw g al[x] sp 3 a).map mz))]) (fun _=>_) 0 (Nat.zero_le _) rfl rfl (by rw[gO,List.append_nil];rfl) ?_
     rintro G3 a ih3 ha
     by_cases hal3:a<(aB 3 sp).toNat
     ·have hsucc:=dO g al[x] sp 3 a;have hsl:=da g al[x] sp 3 a
      cases hrs:(cy 3 g sp (a:Int)).2 with
      | true=>
       rw[hrs,if_pos rfl] at hsucc
       repeat' first|exact k9|refine k2 ?_|apply kA|apply kI;intro hc|refine k8 ?_|apply kL;intro hl
       apply kCt [0,1,3,5,6,8,9,18,19,20,32,33,39,40] [3];conv=>whnf
       exact ih3 (a+1) _ _ _ (by omega) (by omega) rfl rfl (by rw[hsucc,←List.append_assoc,List.map_append (l₂:=[_])];rfl)
      | false=>
       rw[hrs,if_neg (by decide),List.append_nil] at hsucc
       repeat' first|exact k9|refine k2 ?_|apply kA|apply kI;intro hc|refine k8 ?_|apply kL;intro hl
       apply kCt [0,1,3,5,6,8,9,18,19,20,32,33,39,40] [3];conv=>whnf
       exact ih3 (a+1) _ _ _ (by omega) (by omega) rfl rfl (by rw[hsucc];rfl)
     ·obtain rfl:a=(aB 3 sp).toNat:=by omega
      repeat' first|exact k9|refine k2 ?_|apply kA|apply kI;intro hc|refine k8 ?_|apply kL;intro hl
      apply kCt [0,1,3,5,6,18,19,20,32,33] [3];conv=>whnf
      exact ih2 (3+1) _ _ _ (by omega) (by omega) rfl rfl (by rw[hnext];rfl)
    ·have hst:=fX 4 sp;have hst2:(aB 4 sp).toNat≤20001:=by have:=hswf.kl;omega
     have hrl:=eK (f:=bp g al[x]) 20001 (List.range 4) (fun k _=>hWl _ (List.getElem_mem hxl) k);rw[List.length_range] at hrl;have hnext:acc++(List.range (4+1)).flatMap (bp g al[x])=acc++(List.range 4).flatMap (bp g al[x])++cw g al[x] sp 4 (aB 4 sp).toNat:=by
      rw[List.range_succ,List.flatMap_append,List.flatMap_singleton,List.append_assoc,hsp];rfl
     repeat' first|exact k9|refine k2 ?_|apply kA|apply kI;intro hc|refine k8 ?_|apply kL;intro hl
     apply kCt [0,1,3,5,6,8,9,18,19,20,32,33,39,40] [3];conv=>whnf
     refine Lp.ind (fun a:Nat=>(aB 4 sp).toNat - a) (fun a=>a≤(aB 4 sp).toNat) (fun a=>[(40,InD a)]) (fun a=>[(3,.ro 0 27 5 ((acc++(List.range 4).flatMap (bp g al[x])++cw g al[x] sp 4 a).map mz))]) (fun _=>_) 0 (Nat.zero_le _) rfl rfl (by rw[gO,List.append_nil];rfl) ?_
     rintro G3 a ih3 ha
     by_cases hal3:a<(aB 4 sp).toNat
     ·have hsucc:=dO g al[x] sp 4 a;have hsl:=da g al[x] sp 4 a
      cases hrs:(cy 4 g sp (a:Int)).2 with
      | true=>
       rw[hrs,if_pos rfl] at hsucc
       repeat' first|exact k9|refine k2 ?_|apply kA|apply kI;intro hc|refine k8 ?_|apply kL;intro hl
       apply kCt [0,1,3,5,6,8,9,18,19,20,32,33,39,40] [3];conv=>whnf
       exact ih3 (a+1) _ _ _ (by omega) (by omega) rfl rfl (by rw[hsucc,←List.append_assoc,List.map_append (l₂:=[_])];rfl)
      | false=>
       rw[hrs,if_neg (by decide),List.append_nil] at hsucc
       repeat' first|exact k9|refine k2 ?_|apply kA|apply kI;intro hc|refine k8 ?_|apply kL;intro hl
       apply kCt [0,1,3,5,6,8,9,18,19,20,32,33,39,40] [3];conv=>whnf
       exact ih3 (a+1) _ _ _ (by omega) (by omega) rfl rfl (by rw[hsucc];rfl)
     ·obtain rfl:a=(aB 4 sp).toNat:=by omega
      repeat' first|exact k9|refine k2 ?_|apply kA|apply kI;intro hc|refine k8 ?_|apply kL;intro hl
      apply kCt [0,1,3,5,6,18,19,20,32,33] [3];conv=>whnf
      exact ih2 (4+1) _ _ _ (by omega) (by omega) rfl rfl (by rw[hnext];rfl)
    ·have hst:=fX 5 sp;have hst2:(aB 5 sp).toNat≤20001:=by have:=hswf.kl;omega
     have hrl:=eK (f:=bp g al[x]) 20001 (List.range 5) (fun k _=>hWl _ (List.getElem_mem hxl) k);rw[List.length_range] at hrl;have hnext:acc++(List.range (5+1)).flatMap (bp g al[x])=acc++(List.range 5).flatMap (bp g al[x])++cw g al[x] sp 5 (aB 5 sp).toNat:=by
      rw[List.range_succ,List.flatMap_append,List.flatMap_singleton,List.append_assoc,hsp];rfl
     repeat' first|exact k9|refine k2 ?_|apply kA|apply kI;intro hc|refine k8 ?_|apply kL;intro hl
     apply kCt [0,1,3,5,6,8,9,18,19,20,32,33,39,40] [3];conv=>whnf
     refine Lp.ind (fun a:Nat=>(aB 5 sp).toNat - a) (fun a=>a≤(aB 5 sp).toNat) (fun a=>[(40,InD a)]) (fun a=>[(3,.ro 0 27 5 ((acc++(List.range 5).flatMap (bp g al[x])++cw g al[x] sp 5 a).map mz))]) (fun _=>_) 0 (Nat.zero_le _) rfl rfl (by rw[gO,List.append_nil];rfl) ?_
     rintro G3 a ih3 ha
     by_cases hal3:a<(aB 5 sp).toNat
     ·have hsucc:=dO g al[x] sp 5 a;have hsl:=da g al[x] sp 5 a
      cases hrs:(cy 5 g sp (a:Int)).2 with
      | true=>
       rw[hrs,if_pos rfl] at hsucc
       repeat' first|exact k9|refine k2 ?_|apply kA|apply kI;intro hc|refine k8 ?_|apply kL;intro hl
       apply kCt [0,1,3,5,6,8,9,18,19,20,32,33,39,40] [3];conv=>whnf
       exact ih3 (a+1) _ _ _ (by omega) (by omega) rfl rfl (by rw[hsucc,←List.append_assoc,List.map_append (l₂:=[_])];rfl)
      | false=>
       rw[hrs,if_neg (by decide),List.append_nil] at hsucc
       repeat' first|exact k9|refine k2 ?_|apply kA|apply kI;intro hc|refine k8 ?_|apply kL;intro hl
       apply kCt [0,1,3,5,6,8,9,18,19,20,32,33,39,40] [3];conv=>whnf
       exact ih3 (a+1) _ _ _ (by omega) (by omega) rfl rfl (by rw[hsucc];rfl)
     ·obtain rfl:a=(aB 5 sp).toNat:=by omega
      repeat' first|exact k9|refine k2 ?_|apply kA|apply kI;intro hc|refine k8 ?_|apply kL;intro hl
      apply kCt [0,1,3,5,6,18,19,20,32,33] [3];conv=>whnf
      exact ih2 (5+1) _ _ _ (by omega) (by omega) rfl rfl (by rw[hnext];rfl)
    ·have hst:=fX 6 sp;have hst2:(aB 6 sp).toNat≤20001:=by have:=hswf.kl;omega
     have hrl:=eK (f:=bp g al[x]) 20001 (List.range 6) (fun k _=>hWl _ (List.getElem_mem hxl) k);rw[List.length_range] at hrl;have hnext:acc++(List.range (6+1)).flatMap (bp g al[x])=acc++(List.range 6).flatMap (bp g al[x])++cw g al[x] sp 6 (aB 6 sp).toNat:=by
      rw[List.range_succ,List.flatMap_append,List.flatMap_singleton,List.append_assoc,hsp];rfl
     repeat' first|exact k9|refine k2 ?_|apply kA|apply kI;intro hc|refine k8 ?_|apply kL;intro hl
     apply kCt [0,1,3,5,6,8,9,18,19,20,32,33,39,40] [3];conv=>whnf
     refine Lp.ind (fun a:Nat=>(aB 6 sp).toNat - a) (fun a=>a≤(aB 6 sp).toNat) (fun a=>[(40,InD a)]) (fun a=>[(3,.ro 0 27 5 ((acc++(List.range 6).flatMap (bp g al[x])++cw g al[x] sp 6 a).map mz))]) (fun _=>_) 0 (Nat.zero_le _) rfl rfl (by rw[gO,List.append_nil];rfl) ?_
     rintro G3 a ih3 ha
     by_cases hal3:a<(aB 6 sp).toNat
     ·have hsucc:=dO g al[x] sp 6 a;have hsl:=da g al[x] sp 6 a
      cases hrs:(cy 6 g sp (a:Int)).2 with
      | true=>
       rw[hrs,if_pos rfl] at hsucc
       repeat' first|exact k9|refine k2 ?_|apply kA|apply kI;intro hc|refine k8 ?_|apply kL;intro hl
       apply kCt [0,1,3,5,6,8,9,18,19,20,32,33,39,40] [3];conv=>whnf
       exact ih3 (a+1) _ _ _ (by omega) (by omega) rfl rfl (by rw[hsucc,←List.append_assoc,List.map_append (l₂:=[_])];rfl)
      | false=>
       rw[hrs,if_neg (by decide),List.append_nil] at hsucc
       repeat' first|exact k9|refine k2 ?_|apply kA|apply kI;intro hc|refine k8 ?_|apply kL;intro hl
       apply kCt [0,1,3,5,6,8,9,18,19,20,32,33,39,40] [3];conv=>whnf
       exact ih3 (a+1) _ _ _ (by omega) (by omega) rfl rfl (by rw[hsucc];rfl)
     ·obtain rfl:a=(aB 6 sp).toNat:=by omega
      repeat' first|exact k9|refine k2 ?_|apply kA|apply kI;intro hc|refine k8 ?_|apply kL;intro hl
      apply kCt [0,1,3,5,6,18,19,20,32,33] [3];conv=>whnf
      exact ih2 (6+1) _ _ _ (by omega) (by omega) rfl rfl (by rw[hnext];rfl)
   ·obtain rfl:w=7:=by omega
    have htk:(al.take (x+1)).flatMap (eV g)=acc++(List.range 7).flatMap (bp g al[x]):=by
     rw[List.take_succ_eq_append_getElem hxl,List.flatMap_append,List.flatMap_singleton,←hacc,pz]
    repeat' first|exact k9|refine k2 ?_|apply kA|apply kI;intro hc|refine k8 ?_|apply kL;intro hl
    apply kCt [0,1,3,18,19,20] [3];conv=>whnf
    exact ih (x+1) _ _ _ (by omega) (by omega) rfl rfl (by rw[htk];rfl)
  ·obtain rfl:x=al.length:=by omega
   rw[List.take_length] at *
   repeat' first|exact k9|refine k2 ?_|apply kA|apply kI;intro hc|refine k8 ?_|apply kL;intro hl
 ·rw[show aO g=[] from by rw[aO,if_neg hc0]];refine kf rfl rfl ?_;repeat' first|exact k9|refine k2 ?_|apply kA|apply kI;intro hc|refine k8 ?_|apply kL;intro hl
  exact ao.i rfl⟩
end Go.Km
end
section
namespace Go.aa
open Go Go.Km
theorem tj{g:List Dfn}{s:Sto}(h:s∈aO g):s.p.length≤2000:=by
 unfold aO at h
 split at h
 ·rename_i hc;obtain⟨x,hx,h⟩:=List.mem_flatMap.1 h;obtain⟨_,_,e,_⟩:=eD.1 h;rw[e];exact(rP (fg hc) hx).2
 ·cases h
theorem Az{l:List Sto}{s:Sto}{i:Nat}(h:i<l.length):ib (l.take (i+1)) s=(ib (l.take i) s||(decide (s.pass=6) && !cN s l[i] && !cN l[i] s)):=by
 rw[ib,List.take_succ_eq_append_getElem h,List.any_append,ib];simp
theorem Fe{g:List Dfn}{l:List Sto}(e:l=aO g){i:Nat}(h:i+1<l.length):cN l[i] l[i+1]=true:=by
 subst e;exact List.pairwise_iff_getElem.1 (qk g) i (i+1) (by omega) h (by omega)
theorem ur{g:List Dfn}(hn:g.length≤1000)(hw:∀d∈g,d.wf):(aO g).length≤280014000000:=by
 unfold aO
 split
 ·rename_i hc;have hm:=fg hc;have ok:=jF hm;have hsm:∀d∈g,d.wf∧d.body.nodes.length≤20000:=fun d hd=>⟨hw d hd,by have:=ok.small hd;omega⟩
  have hAl:∀y∈jW g,(eV g y).length≤140007:=fun y hy=>by
   have h1:=(rP hm hy).2;have h2:=(lq (r:=y.1) (p:=y.2) hsm (by omega)).kl;have:=eK (f:=bp g y) 20001 (List.range 7) (fun k _=>by
    have h3:=fX k (b6 g y.1 y.2).1;exact Nat.le_trans (da g y (b6 g y.1 y.2).1 k (aB k (b6 g y.1 y.2).1).toNat) (by omega))
   rw[List.length_range] at this;rw[pz];omega
  have hll:(jW g).length≤2000000:=by
   rw[qc g hm];exact Nat.le_trans (lX g.length (Nat.le_refl _) fun d hd=>Nat.le_trans (oY (ok.right hd)) (by have:=ok.small hd;omega)) (by omega)
  have:=eK 140007 (jW g) hAl;have:(jW g).length * 140007≤2000000 * 140007:=Nat.mul_le_mul_right _ hll;omega
 ·exact Nat.zero_le _
theorem I4{g:List Dfn}{pass way r:Int}{p:List Int}{at_:Int}(hw0:0≤way)(hc:bO g=0)(h:ib (aO g) ⟨pass,way,r,p,at_⟩=true):(ba g pass way r p at_).2=0∧bO (ba g pass way r p at_).1=0:=by
 have h2:=(mI hc (s:=⟨pass,way,r,p,at_⟩) hw0).1 (vW.1 h);rcases qE g pass way r p at_ hc with h3|h3
 ·exact h3
 ·rw[show(ba g pass way r p at_).2=47 from by rw[h3]] at h2;cases h2
theorem KP{g:List Dfn}{pass way r:Int}{p:List Int}{at_:Int}(hw0:0≤way)(hc:bO g=0)(h:ib (aO g) ⟨pass,way,r,p,at_⟩=false):ba g pass way r p at_=([],47):=by
 rcases qE g pass way r p at_ hc with h3|h3
 ·have:=vW.2 ((mI hc (s:=⟨pass,way,r,p,at_⟩) hw0).2 h3.1);rw[h] at this
  cases this
 ·exact h3
theorem IS{g:List Dfn}{pass way r:Int}{p:List Int}{at_:Int}(hc:bO g≠0):ba g pass way r p at_=([],bO g)∧aO g=[]:=⟨by rw[ba,if_pos hc],by rw[aO,if_neg hc]⟩
end Go.aa
namespace Go.Km
open Go Go.Vc Go.Proofs Go.aa Go.Proofs.YtoklkjkmbfebjaaGreatDoor
set_option maxRecDepth 100000
set_option maxHeartbeats 0
theorem CO(a b:Sto):KC Tryz.prog X1.Γ 7 [.ag (mz a),.ag (mz b)] (boF (cN a b)) true (a.p.length≤1000000∧b.p.length≤1000000):=inferInstance
theorem sl6{a b c d:D}{v w:Bool}(h:v=w):([(2,a),(3,b),(5,c),(6,.fr (.vl (.bool v))),(7,d)]:List (Nat×D))=[(2,a),(3,b),(5,c),(6,.fr (.vl (.bool w))),(7,d)]:=by rw[h]
theorem D4(g:List Dfn)(pass way r:Int)(p:List Int)(at_:Int)(hn:g.length≤dS)(hw:∀d∈g,d.wf)(hw0:0≤way)(hw1:way≤255)(hp:p.length≤dS) :
  Pure Tryz.prog X1.Γ 3 [bC g,.ag [byF pass,byF way,inF r,isF p,inF at_]] (boF true) true:=by
 simp only[dS] at hn hp;have hlo:g.length≤dS∧∀d∈g,d.wf:=⟨by unfold dS;omega,hw⟩
 cases hl:qR g with
 | true=>
  refine kf rfl rfl ?_;repeat' first|exact k9|refine k2 ?_|apply kA|apply kI;intro hc|refine k8 ?_|apply kL;intro hl
 | false=>
  by_cases hpl:p.length≤500
  ·obtain⟨h1,h2⟩:=JV hl;have hd1:g.length≤1000∧(∀d∈g,d.wf)∧p.length≤1000000∧0≤way∧way≤255:=⟨by omega,hw,by omega,hw0,hw1⟩
   have hwe:g.length≤1000∧∀d∈g,d.wf:=⟨by omega,hw⟩
   have hres:=uO (pass:=pass) (way:=way) (r:=r) (at_:=at_) hwe.1 hw hd1.2.2.1;obtain⟨l,hfl⟩:=exEq (aO g);obtain⟨S,hS⟩:∃S:Sto,S=⟨pass,way,r,p,at_⟩:=⟨_,rfl⟩
   have hSp:S.pass=pass:=by rw[hS]
   have hll:l.length≤280014000000:=by rw[hfl];exact ur hwe.1 hw
   refine kf rfl rfl ?_;repeat' first|exact k9|refine k2 ?_|apply kA|apply kI;intro hc|refine k8 ?_|apply kL;intro hl
   apply kCt [2,3,5,6,7] [];conv=>whnf
   rw[←hfl];refine Lp.ind (fun x:Nat=>l.length - x) (fun x=>x≤l.length) (fun x=>[(6,BoD (ib (l.take x) S)),(7,InD x)]) (fun _=>[]) (fun _=>_) 0 (Nat.zero_le _) rfl rfl rfl ?_
   rintro G x ih hx
   by_cases hxl:x<l.length
   ·have hps:l[x].pass=6:=gY (g:=g) (by rw[←hfl];exact List.getElem_mem hxl);have hpa:∀(i:Nat) (hi:i<l.length),l[i].p.length≤1000000:=fun i hi=>by have:=tj (g:=g) (s:=l[i]) (by rw[←hfl];exact List.getElem_mem hi);omega
    have hat:=Az (s:=S) hxl;rw[hSp] at hat;have hC1:KC Tryz.prog X1.Γ 7 [.ag [byF pass,byF way,inF r,isF p,inF at_],.ag (mz l[x])] (boF (cN S l[x])) true (p.length≤1000000∧l[x].p.length≤1000000):=by rw[hS];exact CO ⟨pass,way,r,p,at_⟩ l[x]
    have hC2:KC Tryz.prog X1.Γ 7 [.ag (mz l[x]),.ag [byF pass,byF way,inF r,isF p,inF at_]] (boF (cN l[x] S)) true (l[x].p.length≤1000000∧p.length≤1000000):=by rw[hS];exact CO l[x] ⟨pass,way,r,p,at_⟩
    have ha1:p.length≤1000000∧l[x].p.length≤1000000:=⟨by omega,hpa x hxl⟩
    have ha2:l[x].p.length≤1000000∧p.length≤1000000:=⟨hpa x hxl,by omega⟩
    cases x with
    | zero=>
     repeat' first|exact k9|refine k2 ?_|apply kA|apply kI;intro hc|(((refine fe.e hC1 ha1 ?_))<;>conv=>whnf)|(((refine fe.e hC2 ha2 ?_))<;>conv=>whnf)|refine k8 ?_|apply kL;intro hl
     all_goals
      apply kCt [2,3,5,6,7] [];conv=>whnf
      refine ih 1 _ _ _ (by omega) (by omega) rfl (sl6 ?_) rfl;rw[hat,show ib (l.take 0) _=false from rfl];clear ih hfl hat hS hSp;simp[*]
    | succ y=>
     have hay:=Fe hfl hxl;have hyi:(((y+1:Nat):Int) - 1).toNat=y:=by omega
     have hay2:cN (l[(((y+1:Nat):Int) - 1).toNat]'(by omega)) l[y+1]=true:=by
      simp only[hyi];exact hay
     have ha3:(l[(((y+1:Nat):Int) - 1).toNat]'(by omega)).p.length≤1000000∧l[y+1].p.length≤1000000:=⟨hpa _ (by omega),hpa (y+1) hxl⟩
     repeat' first|exact k9|refine k2 ?_|apply kA|apply kI;intro hc|(((refine fe.e hC1 ha1 ?_))<;>conv=>whnf)|(((refine fe.e hC2 ha2 ?_))<;>conv=>whnf)|refine k8 ?_|apply kL;intro hl
     all_goals
      apply kCt [2,3,5,6,7] [];conv=>whnf
      refine ih (y+1+1) _ _ _ (by omega) (by omega) rfl (sl6 ?_) rfl;rw[hat];clear ih hfl hat hS hSp;simp[*]
   ·obtain rfl:x=l.length:=by omega
    rw[List.take_length] at *
    by_cases hcg:bO g=0
    ·cases ham:ib l S with
     | true=>
      have hy:=I4 hw0 hcg (by rw[←hfl,←hS];exact ham)
      repeat' first|exact k9|refine k2 ?_|apply kA|apply kI;intro hc|refine k8 ?_|apply kL;intro hl
      exact ao.b (by rw[dd,hy.2];rfl) rfl
     | false=>
      have hy:=KP hw0 hcg (by rw[←hfl,←hS];exact ham);have hy2:(ba g pass way r p at_).2=47:=by rw[hy]
      repeat' first|exact k9|refine k2 ?_|apply kA|apply kI;intro hc|refine k8 ?_|apply kL;intro hl
      exact ao.b (by rw[dd,hy];rfl) rfl
    ·obtain⟨hy,hz⟩:=IS (pass:=pass) (way:=way) (r:=r) (p:=p) (at_:=at_) hcg;have hy2:(ba g pass way r p at_).2=bO g:=by rw[hy]
     have hz2:l.length=0:=by rw[hfl,hz];rfl
     repeat' first|exact k9|refine k2 ?_|apply kA|apply kI;intro hc|refine k8 ?_|apply kL;intro hl
     exact ao.b (by rw[dd,hy];rfl) rfl
  ·refine kf rfl rfl ?_;repeat' first|exact k9|refine k2 ?_|apply kA|apply kI;intro hc|refine k8 ?_|apply kL;intro hl
end Go.Km
end
