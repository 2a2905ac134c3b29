/- FuseDoes answers true whatever grammar and step come in, and what came in reads as it did. Conditions: the card's own alone. -/
import Derived.Test.YthebhpcjcihjgaaGreatDoorP10
set_option linter.all false
section
namespace Go.ab
open Go Go.Km
def uO(t:Tre)(way at_:Int):Tre×Bool:=if (a7 [⟨⟨#[97]⟩,t⟩] 6 way 0 [] at_).2≠0∨(a7 [⟨⟨#[97]⟩,t⟩] 6 way 0 [] at_).1.length≠1 then (.zero,false) else (((a7 [⟨⟨#[97]⟩,t⟩] 6 way 0 [] at_).1.headD ⟨⟨#[]⟩,.zero⟩).body,true)
theorem vB{g:List Dfn}{pass way r:Int}{p:List Int}{at_:Int}(hn:g.length≤1000)(hw:∀d∈g,d.wf)(hp:p.length≤1000000):(a7 g pass way r p at_).1.length≤1000∧∀d∈(a7 g pass way r p at_).1,d.wf:=by
 have hnil:([]:List Dfn).length≤1000∧∀d∈([]:List Dfn),d.wf:=⟨Oq _,fun d hd=>by cases hd⟩
 unfold a7
 split
 ·exact hnil
 ·rename_i hc;have hc0:dL g=0:=by omega
  have ok:=eO (qk hc0);have hsm:∀d∈g,d.wf∧d.body.nodes.length≤20000:=fun d hd=>⟨hw d hd,by have:=ok.small hd;omega⟩
  have hgp:∀d∈g,d.wf∧0<d.body.nodes.length∧d.body.nodes.length≤100000:=fun d hd=>⟨hw d hd,by have:=(ok.right hd).root;omega,by have:=ok.small hd;omega⟩
  have hsw:=uI (r:=r) hsm hp
  split
  ·exact hnil
  ·unfold ez
   split
   ·exact hnil
   ·have hb:=sg (k:=way.toNat) (at_:=at_) hsw;exact qG hn hgp hsw.p hb.1 hb.2
end Go.ab
namespace Go.Km
open Go Go.Vc Go.Proofs Go.ab Go.Proofs.YthebhpcjcihjgaaGreatDoor
set_option maxRecDepth 100000
set_option maxHeartbeats 0
instance(kind sa sb sc sd:Int)(text:ByteArray)(lo hi:Int)(K:List (List F))(l:List Tre):C 30 [.ag [byF kind,.vl (.int .u64 sa),.vl (.int .u64 sb),.vl (.int .u64 sc),.vl (.int .u64 sd),stF text,inF lo,inF hi,.sl K],dO l]
  (aw (ofP ⟨kind,⟨sa,sb,sc,sd⟩,text,lo,hi,[]⟩ l).1) false ((⟨kind,⟨sa,sb,sc,sd⟩,text,lo,hi,[]⟩:Nod).wf∧l.length≤1466015503701∧(∀t∈l,Sm t)∧tot l+1≤1466015503701):=⟨fun h=>by
 refine kf rfl rfl ?_;repeat' first|exact k9|refine k2 ?_|apply kA|apply kI;intro hc|refine k8 ?_|apply kL;intro hl
 all_goals exact aa.i rfl⟩
instance(t:Tre)(lo hi:Int):C 13 [inF lo,inF hi,aw t] (aw (ofP ⟨6,.zero,⟨#[]⟩,lo,hi,[]⟩ [t]).1) false (Sm t∧(-1000000≤lo∧lo≤1000000)∧(-1000000≤hi∧hi≤1000000)):=⟨fun ⟨hs,h1,h2⟩=>by
 have hpre:(⟨6,⟨0,0,0,0⟩,⟨#[]⟩,lo,hi,[]⟩:Nod).wf∧[t].length≤1466015503701∧(∀x∈[t],Sm x)∧tot [t]+1≤1466015503701:=⟨ia h1 h2,by simp,by simpa using hs,by have:=hs.le;simp[tot];omega⟩
 have inst:C 30 [.ag [byF 6,.vl (.int .u64 0),.vl (.int .u64 0),.vl (.int .u64 0),.vl (.int .u64 0),stF ⟨#[]⟩,inF lo,inF hi,.sl []],.sl [fg t]] (aw (ofP ⟨6,.zero,⟨#[]⟩,lo,hi,[]⟩ [t]).1) false True:=⟨fun _=>KC.h (P:=Tryz.prog) (Γ:=X1.Γ) (f:=30) (l:=[.ag [byF 6,.vl (.int .u64 0),.vl (.int .u64 0),.vl (.int .u64 0),.vl (.int .u64 0),stF ⟨#[]⟩,inF lo,inF hi,.sl []],dO [t]]) hpre⟩
 refine kf rfl rfl ?_;repeat' first|exact k9|refine k2 ?_|apply kA|apply kI;intro hc|refine k8 ?_|apply kL;intro hl
 all_goals exact aa.i rfl⟩
instance(l:List Tre):C 14 [dO l] (aw (ofP b5 l).1) false (l.length≤100000∧(∀t∈l,Sm t)∧tot l≤100000):=⟨fun ⟨h1,h2,h3⟩=>by
 have hpre:(⟨4,⟨0,0,0,0⟩,⟨#[]⟩,0,0,[]⟩:Nod).wf∧l.length≤1466015503701∧(∀x∈l,Sm x)∧tot l+1≤1466015503701:=⟨kx,by omega,h2,by omega⟩
 refine kf rfl rfl ?_;repeat' first|exact k9|refine k2 ?_|apply kA|apply kI;intro hc|refine k8 ?_|apply kL;intro hl
 all_goals exact aa.i rfl⟩
instance(t:Tre):C 15 [aw t] (aN [⟨⟨#[97]⟩,t⟩]) false True:=⟨fun _=>by
 refine kf rfl rfl ?_;repeat' first|exact k9|refine k2 ?_|apply kA|apply kI;intro hc|refine k8 ?_|apply kL;intro hl
 all_goals exact aa.i rfl⟩
instance(t:Tre)(way at_:Int):C 12 [aw t,byF way,inF at_] (t2F (uO t way at_)) false (t.wf∧0≤way∧way≤255):=⟨fun ⟨ht,h0,h1⟩=>by
 rw[uO];have hpre:([⟨⟨#[97]⟩,t⟩]:List Dfn).length≤1000∧(∀d∈([⟨⟨#[97]⟩,t⟩]:List Dfn),d.wf)∧([]:List Int).length≤1000000∧0≤way∧way≤255:=⟨by simp,by intro d hd;simp only[Pj] at hd;subst hd;exact⟨by show(1:Nat)≤_;decide,ht⟩,by simp,h0,h1⟩
 obtain⟨g,hg⟩:∃g:List Dfn,g=[⟨⟨#[97]⟩,t⟩]:=⟨_,rfl⟩
 rw[←hg] at hpre ⊢;have i1:C 15 [aw t] (aN g) false True:=⟨fun _=>by rw[hg];exact KC.h trivial⟩
 obtain⟨r,hr⟩:=exEq (a7 g 6 way 0 [] at_);have i2:C 6 [aN g,.ag [byF 6,byF way,inF 0,.sl [],inF at_]] (.tp [aN r.1,inF r.2]) false True:=⟨fun _=>by rw[hr];exact KC.h (l:=[aN g,.ag [byF 6,byF way,inF 0,isF [],inF at_]]) hpre⟩
 rw[←hr];have hrl:r.1.length≤1000:=by rw[hr];exact(vB hpre.1 hpre.2.1 hpre.2.2.1).1
 refine kf rfl rfl ?_;repeat' first|exact k9|refine k2 ?_|apply kA|apply kI;intro hc|refine k8 ?_|apply kL;intro hl
 ·rw[if_neg (by omega)];rw[show r.1.headD ⟨⟨#[]⟩,.zero⟩=r.1[0] from by rw[List.headD_eq_head?_getD,List.head?_eq_getElem?,Oe (by omega)];rfl];exact aa.i rfl
 ·rw[if_pos (by omega)];exact aa.i rfl
 ·rw[if_pos (by omega)];exact aa.i rfl⟩
end Go.Km
end
section
namespace Go.ab
open Go Go.Km
theorem Gw(t:Tre)(p:List Int)(x:Tre)(ht:t.wf)(hx:x.wf)(hs:t.nodes.length+x.nodes.length≤100000):(cx t p x).1.wf∧(cx t p x).1.nodes.length≤t.nodes.length+x.nodes.length:=by
 by_cases h:ao t=true∧ao x=true∧(gi t p).2=true
 ·obtain⟨h1,h2,h3⟩:=h;obtain⟨hsome,e⟩:=vC h1 h2 ht hx (by omega) h3;obtain⟨f1,f2,f3,f4⟩:=jH h1 h2 ht hx hsome (by omega);rw[e];exact⟨Hz f2,OA (DT _) f3⟩
 ·have e:cx t p x=(.zero,false):=by
   unfold cx
   split
   ·rename_i hr;rw[Oi] at hr
    cases hd:cM t.nodes t.root p with
    | none=>rfl
    | some a=>
     exfalso
     refine h ⟨hr.1,hr.2,?_⟩;rw[gi,if_pos hr.1,hd]
   ·rfl
  rw[e];exact⟨Tre.aV,Oq _⟩
theorem Gs{k:Nat}{s:dw}{at_:Int}(hs:s.wf):(ba k s at_).1.nodes.length≤60002:=by
 have hl:=hs.len;have ht:=hs.tot;unfold ba
 split
 ·have hc:=fa hs.t (by omega);obtain⟨q1,q2⟩:=DL (k:=k) hc;have:=mw s.t;omega
 ·split
  ·have hx:(kX k (s.kids.getD at_.toNat .zero) (s.kids.getD (at_+1).toNat .zero)).1.nodes.length≤20001:=by
    have:=OA (tI (l:=s.kids) at_.toNat) ht;unfold kX
    split
    ·exact OA (qO _ _) (by omega)
    ·exact OA (ua _ _) (by omega)
   have h1:tot s.kids=tot (s.kids.take at_.toNat)+tot (s.kids.drop at_.toNat):=by rw[←cy,List.take_append_drop]
   have h2:tot s.kids=tot (s.kids.take (at_+2).toNat)+tot (s.kids.drop (at_+2).toNat):=by rw[←cy,List.take_append_drop]
   refine OA (pb _ _) ?_;rw[cy,cy];simp only[tot,OB,P0,P4,Rw] at *;omega
  ·exact Oq _
theorem AU{t:Tre}{p:List Int}(h:(gi t p).2=true):ax (gi t p).1:=by
 unfold gi at h ⊢
 split at h
 ·rename_i hr;have hR:=ak hr;rw[if_pos hr]
  cases hd:cM t.nodes t.root p with
  | none=>rw[hd] at h;cases h
  | some a=>
   obtain⟨l,k⟩:=a;obtain⟨_,h1,h2,_⟩:=kG hR.kok.ah p t.root hR.root.1 hR.root.2 l k hd;have e:aC t k=aR (aF t.nodes t.nodes.length [k]):=mM hR h1 h2;show ax (aC t k)
   rw[e];obtain⟨j,hj⟩:=ew (ns:=t.nodes) (f:=t.nodes.length) k (by omega);have hf:=oY hR t.nodes.length [k] (by simpa using ⟨h1,h2⟩) (Ov _);rw[hj] at hf ⊢;exact ak (jo hf)
 ·cases h
theorem xG{g:List Dfn}{r:Int}{p:List Int}(h:(aY g r p).2=true):ax (aY g r p).1:=by
 unfold aY at h ⊢
 split at h
 ·rename_i hr;rw[dif_pos hr];exact AU h
 ·cases h
theorem EY{g:List Dfn}{r:Int}{p:List Int}{x:Tre}(hg:SmG g)(h4:∀d∈g,d.body.nodes.length+x.nodes.length≤100000)(hx:x.wf):SmG (aX g r p x).1:=by
 have hnil:SmG []:=⟨Oq _,fun d hd=>by cases hd⟩
 unfold aX
 split
 ·rename_i hr
  split
  ·have hm:g[r.toNat]'(by omega)∈g:=Of _;obtain⟨q1,q2⟩:=Gw (g[r.toNat]'(by omega)).body p x (hg.2 _ hm).1.body hx (h4 _ hm);have:=h4 _ hm;rw[lI,dif_pos hr];refine⟨by rw[Qt];exact hg.1,fun d hd=>?_⟩;rcases PI hd with hd|rfl
   ·exact hg.2 d hd
   ·exact⟨⟨(hg.2 _ hm).1.name,q1⟩,by dsimp only;omega⟩
  ·exact hnil
 ·exact hnil
end Go.ab
namespace Go.Km
open Go Go.Vc Go.Proofs Go.ab Go.Proofs.YthebhpcjcihjgaaGreatDoor
set_option maxRecDepth 100000
set_option maxHeartbeats 0
instance(g:List Dfn)(r:Int)(p:List Int)(x:Tre):C 24 [aN g,.ag [inF r,isF p],aw x] (.tp [aN (aX g r p x).1,boF (aX g r p x).2]) false (SmG g∧p.length≤1000000∧x.wf∧∀d∈g,d.body.nodes.length+x.nodes.length≤100000):=⟨fun ⟨hs,hp,hx,hsz⟩=>by
 have hgl:=hs.1
 by_cases h:0≤r∧r<g.length
 ·obtain⟨h0,h1⟩:=h;obtain⟨d,hd⟩:=exEq (g[r.toNat]'(by omega));have hdi:∀h,g[r.toNat]'h=d:=fun _=>hd.symm
  have hmem:d∈g:=by rw[hd];exact Of _
  have hdm:=hs.2 d hmem;have hpre:d.body.wf∧x.wf∧d.body.nodes.length+x.nodes.length≤100000∧p.length≤1000000:=⟨hdm.1.body,hx,hsz d hmem,hp⟩
  have hW:aX g r p x=if (cx d.body p x).2=true then (g.set r.toNat { d with body:=(cx d.body p x).1 },true) else ([],false):=by
   rw[aX,dif_pos ⟨h0,h1⟩,lI,dif_pos ⟨h0,h1⟩,←hd]
  rw[hW]
  cases hb:(cx d.body p x).2 with
  | false=>
   rw[if_neg (by decide)];refine kf rfl rfl ?_;repeat' first|exact k9|refine k2 ?_|apply kA|apply kI;intro hc|apply kL;intro hl|((simp only[hdi])<;>conv=>whnf)|refine k8 ?_|fail
   all_goals exact aa.i rfl
  | true=>
   rw[if_pos rfl];have hget:(List.map mI g)[r.toNat]?=some (mI d):=by rw[Pv,Oe (by omega),hdi];rfl
   refine kf rfl rfl ?_;repeat' first|exact k9|refine k2 ?_|apply kA|apply kI;intro hc|apply kL;intro hl|((simp only[hdi])<;>conv=>whnf)|((rw[OH])<;>conv=>whnf)|refine k8 ?_|fail
   refine aa.i ?_;rw[aN,List.map_set];rfl
 ·rw[aX,dif_neg h];refine kf rfl rfl ?_;repeat' first|exact k9|refine k2 ?_|apply kA|apply kI;intro hc|refine k8 ?_|apply kL;intro hl
  all_goals exact aa.i rfl⟩
theorem GO{g:List Dfn}{r:Int}{p:List Int}{k:Nat}{at_:Int}(h:(aY g r p).2=true):(dn g r p).2=true∧(dn g r p).1.r=r∧(dn g r p).1.p=p∧aJ k (dn g r p).1=aJ k (cn (aY g r p).1)∧ba k (dn g r p).1 at_=ba k (cn (aY g r p).1) at_:=by
 rw[dn,if_pos h];exact⟨rfl,rfl,rfl,rfl,rfl⟩
instance(g:List Dfn)(pass way r:Int)(p:List Int)(at_:Int):C 7 [aN g,.ag [byF pass,byF way,inF r,isF p,inF at_]] (.tp [aN (a7 g pass way r p at_).1,inF (a7 g pass way r p at_).2]) false (SmG g∧p.length≤1000000∧0≤way∧way≤255):=⟨fun ⟨hs,hp,hw0,hw1⟩=>by
 by_cases hc0:dL g=0
 ·have ok:=eO (qk hc0);have hsm:∀d∈g,d.wf∧d.body.nodes.length≤20000:=fun d hd=>⟨(hs.2 d hd).1,by have:=ok.small hd;omega⟩
  have hpf:=qV (r:=r) (p:=p) hsm;have hf1:SmG g∧p.length≤17592186044416:=⟨hs,by omega⟩
  cases h1:(aY g r p).2 with
  | false=>
   have e:(dn g r p).2=false:=by rw[dn,if_neg (by rw[h1];decide)]
   rw[show a7 g pass way r p at_=([],47) from by rw[a7,if_neg (by simpa using hc0),if_pos (.inl e)]];refine kf rfl rfl ?_;repeat' first|exact k9|refine k2 ?_|apply kA|apply kI;intro hc|refine k8 ?_|apply kL;intro hl
   all_goals exact aa.i rfl
  | true=>
   obtain⟨s1,s2,s3,s4,s5⟩:=GO (k:=way.toNat) (at_:=at_) h1;have hR:ax (aY g r p).1:=xG h1;have hb0:0≤way∧Sm (aY g r p).1∧ax (aY g r p).1∧(aY g r p).1.nodes.length≤20000:=⟨hw0,⟨hpf.1,by omega⟩,hR,hpf.2⟩
   by_cases h2:pass=6
   ·have hno:ez way.toNat g (dn g r p).1 at_=([],false)→a7 g pass way r p at_=([],47):=fun h=>by
     rw[a7,if_neg (by simpa using hc0),if_pos (.inr (.inr (.inr (by rw[h])))) ]
    by_cases hd:0≤at_∧at_<aJ way.toNat (cn (aY g r p).1)
    ·have e1:iq (aY g r p).1 way at_=ba way.toNat (dn g r p).1 at_:=by rw[iq,if_pos hd,s5]
     have hsw:=uI (r:=r) hsm hp;have hbw:=sg (k:=way.toNat) (at_:=at_) hsw;have hbl:=Gs (k:=way.toNat) (at_:=at_) hsw;have h7:¬7≤way:=fun h=>by
      have h0:aJ way.toNat (cn (aY g r p).1)=0:=by
       have e1:gR way.toNat=false:=by simp only[gR,PX,beq_eq_false_iff_ne];omega
       have e2:dW way.toNat=false:=by simp only[dW,PX,beq_eq_false_iff_ne];omega
       rw[aJ,e1,e2,if_neg (fun h=>by cases h.1),if_neg (fun h=>by cases h.1)]
      omega
     rw[←s4] at hd;generalize hB:ba way.toNat (dn g r p).1 at_=B at *;have hpw:SmG g∧p.length≤1000000∧B.1.wf∧∀d∈g,d.body.nodes.length+B.1.nodes.length≤100000:=⟨hs,hp,hbw.1,fun d hd=>by have:=ok.small hd;omega⟩
     have hsg:=EY (r:=r) (p:=p) hs hpw.2.2.2 hbw.1;have hres:ez way.toNat g (dn g r p).1 at_=if B.2=false∨(aX g r p B.1).2=false∨dL (aX g r p B.1).1≠0 then ([],false) else ((aX g r p B.1).1,true):=by
      rw[ez,hB,s2,s3]
      by_cases hq:B.2=false∨(aX g r p B.1).2=false∨dL (aX g r p B.1).1≠0
      ·rw[if_pos hq,if_pos (.inr (.inr hq))]
      ·rw[if_neg hq,if_neg]
       rintro(h|h|h)
       ·omega
       ·omega
       ·exact hq h
     clear s2 s3 s4 s5 hd hB hbw hbl;have e1b:(iq (aY g r p).1 way at_).2=B.2:=by rw[e1]
     cases b1:B.2 with
     | false=>
      rw[b1] at e1b;rw[hno (by rw[hres,if_pos (.inl b1)])];refine kf rfl rfl ?_;repeat' first|exact k9|refine k2 ?_|apply kA|apply kI;intro hc|apply kL;intro hl|((simp only[e1])<;>conv=>whnf)|refine k8 ?_|fail
      all_goals exact aa.i rfl
     | true=>
      rw[b1] at e1b
      cases b2:(aX g r p B.1).2 with
      | false=>
       rw[hno (by rw[hres,if_pos (.inr (.inl b2))])];refine kf rfl rfl ?_;repeat' first|exact k9|refine k2 ?_|apply kA|apply kI;intro hc|apply kL;intro hl|((simp only[e1])<;>conv=>whnf)|refine k8 ?_|fail
       all_goals exact aa.i rfl
      | true=>
       by_cases b3:dL (aX g r p B.1).1=0
       ·have e2:ez way.toNat g (dn g r p).1 at_=((aX g r p B.1).1,true):=by
         rw[hres,if_neg (by rw[b1,b2];simp[b3])]
        rw[show a7 g pass way r p at_=((aX g r p B.1).1,0) from by
         rw[a7,if_neg (by simpa using hc0),if_neg (by rw[s1,e2];rintro(h|h|h|h);cases h;exact h h2;exact h7 h;cases h),e2]]
        refine kf rfl rfl ?_;repeat' first|exact k9|refine k2 ?_|apply kA|apply kI;intro hc|apply kL;intro hl|((simp only[e1])<;>conv=>whnf)|refine k8 ?_|fail
        all_goals exact aa.i rfl
       ·rw[hno (by rw[hres,if_pos (.inr (.inr b3))])];refine kf rfl rfl ?_;repeat' first|exact k9|refine k2 ?_|apply kA|apply kI;intro hc|apply kL;intro hl|((simp only[e1])<;>conv=>whnf)|refine k8 ?_|fail
        all_goals exact aa.i rfl
    ·have e1:=eC hd;have e1b:(iq (aY g r p).1 way at_).2=false:=by rw[e1]
     rw[hno (by rw[ez,if_pos];rw[s4];omega)];refine kf rfl rfl ?_;repeat' first|exact k9|refine k2 ?_|apply kA|apply kI;intro hc|apply kL;intro hl|((simp only[e1])<;>conv=>whnf)|refine k8 ?_|fail
     all_goals exact aa.i rfl
   ·rw[show a7 g pass way r p at_=([],47) from by rw[a7,if_neg (by simpa using hc0),if_pos (.inr (.inl h2))]];refine kf rfl rfl ?_;repeat' first|exact k9|refine k2 ?_|apply kA|apply kI;intro hc|refine k8 ?_|apply kL;intro hl
    all_goals exact aa.i rfl
 ·rw[show a7 g pass way r p at_=([],dL g) from by rw[a7,if_pos hc0]];refine kf rfl rfl ?_;repeat' first|exact k9|refine k2 ?_|apply kA|apply kI;intro hc|refine k8 ?_|apply kL;intro hl
  all_goals exact aa.i rfl⟩
end Go.Km
end
section
namespace Go.ab
open Go Go.Km
def pe(n:Nod):Nat:=1+min 220 n.kids.length+min 220 n.text.size / 20
def rT:Nat→List Nod→Nat
 | a,[]=>a
 | a,n :: l=>if a<220 then rT (a+pe n) l else a
def oT:Nat→List Dfn→Nat
 | a,[]=>a
 | a,d :: g=>if a<220 then oT (rT (a+5+min 220 d.name.size) d.body.nodes) g else a
def rj(g:List Dfn):Bool:=decide (220≤oT 0 g)
theorem CK:∀(l:List Nod) (a:Nat),a≤rT a l
 | [],a=>Ov _
 | n :: l,a=>by
  rw[rT]
  split
  ·have:=CK l (a+pe n);omega
  ·exact Ov _
theorem Ag:∀(l:List Nod) (a:Nat),rT a l<220→a+l.length≤rT a l
 | [],a,_=>Ov _
 | n :: l,a,h=>by
  rw[rT] at h ⊢
  split at h
  ·rename_i hc;rw[if_pos hc];have:=Ag l (a+pe n) h;have h1:1≤pe n:=by unfold pe;omega
   rw[Og];omega
  ·omega
theorem DG:∀(g:List Dfn) (a:Nat),a≤oT a g
 | [],a=>Ov _
 | d :: g,a=>by
  rw[oT]
  split
  ·have h1:=DG g (rT (a+5+min 220 d.name.size) d.body.nodes);have h2:=CK d.body.nodes (a+5+min 220 d.name.size);omega
  ·exact Ov _
theorem Ar:∀(g:List Dfn) (a:Nat),oT a g<220→a+5 * g.length≤oT a g∧∀d∈g,d.body.nodes.length<220
 | [],a,_=>⟨Ov _,fun d h=>by cases h⟩
 | d :: g,a,h=>by
  rw[oT] at h ⊢
  split at h
  ·rename_i hc;rw[if_pos hc];obtain⟨h1,h2⟩:=Ar g _ h;have h3:=DG g (rT (a+5+min 220 d.name.size) d.body.nodes);have h4:=Ag d.body.nodes (a+5+min 220 d.name.size) (by omega);refine⟨by rw[Og];omega,fun x hx=>?_⟩;rcases OD.1 hx with rfl|hx
   ·omega
   ·exact h2 x hx
  ·omega
theorem Jr{g:List Dfn}(h:rj g=false):g.length≤44∧∀d∈g,d.body.nodes.length<220:=by
 have h1:oT 0 g<220:=by
  unfold rj at h;have:=of_decide_eq_false h;omega
 obtain⟨h2,h3⟩:=Ar g 0 h1;exact⟨by omega,h3⟩
theorem x5(a b:Nat):(bif leI (a:Int) (b:Int) then (a:Int) else (b:Int))=((min a b:Nat):Int):=by
 rw[ed]
 by_cases h:a≤b
 ·rw[decide_eq_true (by omega),O5 h];rfl
 ·rw[decide_eq_false (by omega),Nat.min_eq_right (by omega)];rfl
theorem Dfn.tE{a b:Dfn}:a=b↔a.name=b.name∧a.body=b.body:=⟨fun h=>by subst h;exact⟨rfl,rfl⟩,fun ⟨h,k⟩=>by cases a;cases b;simp_all⟩
end Go.ab
namespace Go.Km
open Go Go.Vc Go.Proofs Go.ab Go.Proofs.YthebhpcjcihjgaaGreatDoor
set_option maxRecDepth 100000
set_option maxHeartbeats 0
instance(g:List Dfn):C 4 [aN g] (boF (rj g)) true (g.length≤eX∧∀d∈g,d.wf):=⟨fun ⟨hn,hw⟩=>by
 simp only[eX] at hn;refine kf rfl rfl ?_;repeat' first|exact k9|refine k2 ?_|apply kA|apply kI;intro hc|refine k8 ?_|apply kL;intro hl
 apply kCt [1,3,4] [];conv=>whnf
 refine Lp.ind (fun x:Nat×Nat=>g.length - x.1) (fun x=>x.1≤g.length∧x.2≤1000∧oT 0 g=oT x.2 (g.drop x.1)) (fun x=>[(4,InD x.1),(3,InD x.2)]) (fun x=>[]) (fun _=>(boF (rj g),true)) (0,0) ⟨by simp,by simp,rfl⟩ rfl rfl rfl ?_
 rintro G ⟨i,a⟩ ih ⟨hi,ha,hW⟩
 dsimp only at hi ha hW ih ⊢
 by_cases hx:i<g.length
 ·obtain⟨d,hd⟩:=exEq (g[i]);have hdi:∀h,g[i]'h=d:=fun _=>hd.symm
  have hgl:g[i].body.nodes.length=d.body.nodes.length:=by rw[hd]
  have hwd:=hw d (by rw[hd];exact Of hx);have hnl:=hwd.body.len;have hnm:=hwd.name;simp only[b9] at hnl;rw[Oz hx,←hd,oT] at hW;have hmn:(bif leI 220 (szS d.name:Int) then (220:Int) else (szS d.name:Int))=((min 220 d.name.size:Nat):Int):=x5 220 (szS d.name)
  by_cases h2:a<220
  ·rw[if_pos h2] at hW
   repeat' first|exact k9|refine k2 ?_|apply kA|apply kI;intro hc|apply kL;intro hl|((simp only[hdi])<;>conv=>whnf)|((rw[hmn])<;>conv=>whnf)|(((apply SdA.m;exact Nd.i (by omega)))<;>conv=>whnf)|refine k8 ?_|fail
   apply kCt [1,3,4,5] [];conv=>whnf
   refine Lp.ind (fun x:Nat×Nat=>d.body.nodes.length - x.1) (fun x=>x.1≤d.body.nodes.length∧x.2≤1000∧oT 0 g=oT (rT x.2 (d.body.nodes.drop x.1)) (g.drop (i+1))) (fun x=>[(5,InD x.1),(3,InD x.2)]) (fun x=>[]) (fun _=>(boF (rj g),true)) (0,a+5+min 220 d.name.size) ⟨by simp,by dsimp only;omega,hW⟩ rfl rfl rfl ?_
   rintro G' ⟨k,b⟩ ih' ⟨hk,hb,hV⟩
   dsimp only at hk hb hV ih' ⊢
   by_cases hkx:k<d.body.nodes.length
   ·obtain⟨n,hnn⟩:=exEq (d.body.nodes[k]);have hni:∀h,d.body.nodes[k]'h=n:=fun _=>hnn.symm
    have hwn:=hwd.body.nodes n (by rw[hnn];exact Of hkx);have hnk:=hwn.kids.1;have hnt:=hwn.text;simp only[eX] at hnk;have hm1:(bif leI 220 ((List.map ikF n.kids).length:Int) then (220:Int) else ((List.map ikF n.kids).length:Int))=((min 220 n.kids.length:Nat):Int):=by rw[Ok];exact x5 220 n.kids.length
    have hm2:IntKind.i64.wrap ((bif leI 220 (szS n.text:Int) then (220:Int) else (szS n.text:Int)).tdiv 20)=((min 220 n.text.size / 20:Nat):Int):=by
     rw[show(bif leI 220 (szS n.text:Int) then (220:Int) else (szS n.text:Int))=((min 220 n.text.size:Nat):Int) from x5 220 (szS n.text)];rw[show(((min 220 n.text.size:Nat):Int).tdiv 20)=((min 220 n.text.size / 20:Nat):Int) from (Int.ofNat_tdiv _ 20).symm];exact wrap_i64 (by unfold Go.Sl.I64;omega)
    rw[Oz hkx,←hnn,rT] at hV
    by_cases h3:b<220
    ·rw[if_pos h3] at hV;have hnw:pe n=1+min 220 n.kids.length+min 220 n.text.size / 20:=rfl
     repeat' first|exact k9|refine k2 ?_|apply kA|apply kI;intro hc|apply kL;intro hl|((simp only[hdi,hni])<;>conv=>whnf)|((simp only[hm1,hm2])<;>conv=>whnf)|(((apply SdA.m;exact Nd.i (by omega)))<;>conv=>whnf)|refine k8 ?_|fail
     apply kCt [1,3,4,5] [];conv=>whnf
     refine ih' (k+1,b+pe n) _ _ _ (by dsimp only;omega) ⟨by dsimp only;omega,by dsimp only;omega,hV⟩ rfl ?_ rfl;have e:((b+pe n:Nat):Int)=(b:Int)+1+((min 220 n.kids.length:Nat):Int)+((min 220 n.text.size / 20:Nat):Int):=by rw[hnw];omega
     dsimp only;show _=jX [(5,InD ((k+1:Nat):Int)),(3,InD ((b+pe n:Nat):Int))] _
     rw[e];rfl
    ·rw[if_neg h3] at hV
     repeat' first|exact k9|refine k2 ?_|apply kA|apply kI;intro hc|apply kL;intro hl|((simp only[hdi,hni])<;>conv=>whnf)|refine k8 ?_|fail
     apply kCt [1,3,4] [];conv=>whnf
     refine ih (i+1,b) _ _ _ (by dsimp only;omega) ⟨by dsimp only;omega,hb,hV⟩ rfl rfl rfl
   ·rw[OE (by omega),rT] at hV
    repeat' first|exact k9|refine k2 ?_|apply kA|apply kI;intro hc|apply kL;intro hl|((simp only[hdi])<;>conv=>whnf)|refine k8 ?_|fail
    apply kCt [1,3,4] [];conv=>whnf
    refine ih (i+1,b) _ _ _ (by dsimp only;omega) ⟨by dsimp only;omega,hb,hV⟩ rfl rfl rfl
  ·rw[if_neg h2] at hW
   repeat' first|exact k9|refine k2 ?_|apply kA|apply kI;intro hc|apply kL;intro hl|((simp only[hdi])<;>conv=>whnf)|refine k8 ?_|fail
   exact aa.b (by rw[rj,hW,ed];exact decide_eq_decide.2 (by omega)) rfl
 ·rw[OE (by omega),oT] at hW
  repeat' first|exact k9|refine k2 ?_|apply kA|apply kI;intro hc|refine k8 ?_|apply kL;intro hl
  exact aa.b (by rw[rj,hW,ed];exact decide_eq_decide.2 (by omega)) rfl⟩
instance(a b:List Dfn):C 8 [aN a,aN b] (boF (decide (a=b))) true ((a.length≤1000∧∀d∈a,d.wf)∧(b.length≤1000∧∀d∈b,d.wf)):=⟨fun ⟨⟨hal,haw⟩,hbl,hbw⟩=>by
 refine kf rfl rfl ?_;repeat' first|exact k9|refine k2 ?_|apply kA|apply kI;intro hc|refine k8 ?_|apply kL;intro hl
 ·have hab:a.length=b.length:=by omega
  apply kCt [2,3,5] [];conv=>whnf
  refine Lp.ind (fun x:Nat=>a.length - x) (fun x=>x≤a.length∧a.take x=b.take x) (fun x=>[(5,InD x)]) (fun _=>[]) (fun _=>(boF (decide (a=b)),true)) 0 ⟨by simp,by simp⟩ rfl rfl rfl ?_
  rintro G i ih ⟨hi,hT⟩
  by_cases hx:i<a.length
  ·obtain⟨m,hm⟩:=exEq (a[i]);obtain⟨n,hn⟩:=exEq (b[i]'(by omega));have hmi:∀h,a[i]'h=m:=fun _=>hm.symm
   have hni:∀h,b[i]'h=n:=fun _=>hn.symm
   have hwm:m.body.wf∧n.body.wf:=⟨(haw m (by rw[hm];exact Of hx)).body,(hbw n (by rw[hn];exact Of _)).body⟩
   have hno:m≠n→decide (a=b)=false:=fun h=>decide_eq_false fun e=>h (by subst e;rw[hm,hn])
   have hyes:m=n→a.take (i+1)=b.take (i+1):=fun h=>py hT hx (by omega) (by rw[←hm,←hn,h])
   repeat' first|exact k9|refine k2 ?_|apply kA|apply kI;intro hc|apply kL;intro hl|((simp only[hmi,hni])<;>conv=>whnf)|refine k8 ?_|fail
   ·apply kCt [2,3,5] [];conv=>whnf
    refine ih (i+1) _ _ _ (by omega) ⟨by omega,hyes (Dfn.tE.2 ⟨?_,hc⟩)⟩ rfl rfl rfl;rw[hm,hn]
    assumption
   ·exact aa.b (hno fun e=>hc (by rw[e])).symm rfl
   ·exact aa.b (hno fun e=>hc (by rw[←hm,←hn,e])).symm rfl
  ·have hee:a=b:=mn hT (by omega) (by omega)
   repeat' first|exact k9|refine k2 ?_|apply kA|apply kI;intro hc|refine k8 ?_|apply kL;intro hl
   exact aa.b (by rw[decide_eq_true hee]) rfl
 ·exact aa.b (by rw[decide_eq_false (fun e=>by subst e;omega)]) rfl⟩
end Go.Km
end
section
namespace Go.ab
open Go Go.Km
def dC:List Nod→Int
 | []=>0
 | n :: l=>(if n.kind=4 then (n.kids.length:Int) else 0)+dC l
def dP:List Dfn→Int
 | []=>0
 | d :: g=>dC d.body.nodes+dP g
def nq(g:List Dfn):Int:=if b4 g=0 then bw g+dP g else 0
theorem Dd{K:Nat}:∀{l:List Nod},(∀n∈l,n.kids.length≤K)→0≤dC l∧dC l≤((l.length * K:Nat):Int)
 | [],_=>by simp[dC]
 | n :: l,h=>by
  have h1:=Dd (l:=l) fun x hx=>h x (by simp[hx])
  have h2:=h n (by simp);rw[dC,Og,Ps]
  split<;>omega
theorem wz:∀(a b:List Nod),dC (a++b)=dC a+dC b
 | [],b=>by simp[dC]
 | n :: a,b=>by rw[List.cons_append,dC,dC,wz a b];omega
theorem vL:∀(a b:List Dfn),dP (a++b)=dP a+dP b
 | [],b=>by simp[dP]
 | n :: a,b=>by rw[List.cons_append,dP,dP,vL a b];omega
theorem tG{l:List Nod}{i:Nat}(h:i<l.length):dC (l.take (i+1))=dC (l.take i)+(if l[i].kind=4 then (l[i].kids.length:Int) else 0):=by
 rw[List.take_succ_eq_append_getElem h,wz];simp[dC]
theorem uj{l:List Dfn}{i:Nat}(h:i<l.length):dP (l.take (i+1))=dP (l.take i)+dC l[i].body.nodes:=by
 rw[List.take_succ_eq_append_getElem h,vL];simp[dP]
theorem tz{g:List Dfn}(h:b4 g=0){d:Dfn}(hd:d∈g):∀n∈d.body.nodes,n.kids.length≤1024:=by
 have hok:=eO h;intro n hn;obtain⟨i,hi,rfl⟩:=OT hn;exact OA (xy (hok.right hd) (Oe hi)) (hok.small hd)
theorem qA{g:List Dfn}(h:b4 g=0){d:Dfn}(hd:d∈g)(i:Nat):0≤dC (d.body.nodes.take i)∧dC (d.body.nodes.take i)≤1048576:=by
 have h1:=Dd (K:=1024) (l:=d.body.nodes.take i) fun n hn=>tz h hd n (OC hn)
 have h2:=(eO h).small hd;have h3:(d.body.nodes.take i).length * 1024≤1024 * 1024:=PH _ (by rw[Ou];omega);omega
theorem DA:∀{g:List Dfn},(∀d∈g,0≤dC d.body.nodes∧dC d.body.nodes≤1048576)→0≤dP g∧dP g≤1048576 * (g.length:Int)
 | [],_=>by simp[dP]
 | d :: g,h=>by
  have h1:=DA (g:=g) fun x hx=>h x (by simp[hx])
  have h2:=h d (by simp);rw[dP,Og];omega
theorem wi{g:List Dfn}(h:b4 g=0)(i:Nat):0≤dP (g.take i)∧dP (g.take i)≤67108864:=by
 have h1:=DA (g:=g.take i) fun d hd=>by
  have:=qA h (OC hd) d.body.nodes.length
  rwa [OU] at this
 have h2:=(eO h).len;have h3:(g.take i).length≤64:=by rw[Ou];omega
 omega
theorem sG{g:List Dfn}(h:b4 g=0)(i:Nat):0≤bw (g.take i)∧bw (g.take i)≤65536:=by
 have key:∀l:List Dfn,(∀d∈l,d∈g)→0≤bw l∧bw l≤1024 * (l.length:Int):=by
  intro l
  induction l with
  | nil=>intro _;simp[bw]
  | cons d l ih=>
   intro hl;have h1:=ih fun x hx=>hl x (by simp[hx])
   have h2:=(eO h).small (hl d (by simp));have h3:0≤iF d.body∧iF d.body≤1024:=by
    unfold iF
    split<;>omega
   simp only[bw,OB,P4,Og] at h1 ⊢;omega
 have h1:=key (g.take i) fun d hd=>OC hd
 have h2:=(eO h).len;have h3:(g.take i).length≤64:=by rw[Ou];omega
 omega
end Go.ab
namespace Go.Km
open Go Go.Vc Go.Proofs Go.ab Go.Proofs.YthebhpcjcihjgaaGreatDoor
set_option maxRecDepth 100000
set_option maxHeartbeats 0
instance(g:List Dfn):C 9 [aN g] (inF (nq g)) true (g.length≤1000∧∀d∈g,d.wf):=⟨fun h=>by
 by_cases hm:b4 g=0
 ·rw[nq,if_pos hm];have hb:=sG hm g.length;rw[OU] at hb;generalize hN:bw g=N at *;refine kf rfl rfl ?_;repeat' first|exact k9|refine k2 ?_|apply kA|apply kI;intro hc|apply kL;intro hl|((simp only[hN])<;>conv=>whnf)|refine k8 ?_|fail
  apply kCt [3,14,15,16] [];conv=>whnf
  refine Lp.ind (fun z:Nat=>g.length - z) (fun z=>z≤g.length) (fun z=>[(16,InD z),(3,InD (N+dP (g.take z)))]) (fun z=>[]) (fun _=>(inF (N+dP g),true)) 0 (by omega) rfl (by simp only[Pd,dP,Ry];rfl) rfl ?_
  rintro G i ih hi
  have hq:=wi hm i
  by_cases hx:i<g.length
  ·have hsn:=uj hx;obtain⟨d,hd⟩:=exEq (g[i]);have hdi:∀h:i<g.length,g[i]'h=d:=fun _=>hd.symm
   have hmem:d∈g:=by rw[hd];exact Of hx
   rw[←hd] at hsn;have hdl:=(eO hm).small hmem;generalize dP (g.take i)=S at *
   repeat' first|exact k9|refine k2 ?_|apply kA|apply kI;intro hc|apply kL;intro hl|((simp only[hdi])<;>conv=>whnf)|refine k8 ?_|fail
   apply kCt [3,14,15,16,22,23,24] [];conv=>whnf
   refine Lp.ind (fun z:Nat=>d.body.nodes.length - z) (fun z=>z≤d.body.nodes.length) (fun z=>[(24,InD z),(3,InD (N+S+dC (d.body.nodes.take z)))]) (fun z=>[]) (fun _=>(inF (N+dP g),true)) 0 (by omega) rfl (by simp only[Pd,dC,Ry];rfl) rfl ?_
   rintro G' k ihk hk
   have ht:=qA hm hmem k
   by_cases hkx:k<d.body.nodes.length
   ·have htn:=tG hkx;obtain⟨n,hnn⟩:=exEq (d.body.nodes[k]);have hni:∀h:k<d.body.nodes.length,d.body.nodes[k]'h=n:=fun _=>hnn.symm
    have hnk:=tz hm hmem n (by rw[hnn];exact Of hkx);rw[←hnn] at htn;generalize dC (d.body.nodes.take k)=T0 at *
    repeat' first|exact k9|refine k2 ?_|apply kA|apply kI;intro hc|apply kL;intro hl|((simp only[hdi,hni])<;>conv=>whnf)|refine k8 ?_|fail
    ·simp only[hni] at hc;rw[if_pos hc] at htn;rw[show(List.map ikF n.kids).length=n.kids.length from Ok ..];apply kCt [3,14,15,16,22,23,24] [];conv=>whnf
     refine ihk (k+1) _ _ _ (by omega) (by omega) rfl ?_ rfl;rw[htn,←Int.add_assoc];rfl
    ·simp only[hni] at hc;rw[if_neg hc,Ry] at htn;apply kCt [3,14,15,16,22,23,24] [];conv=>whnf
     refine ihk (k+1) _ _ _ (by omega) (by omega) rfl ?_ rfl;rw[htn];rfl
   ·obtain rfl:k=d.body.nodes.length:=by omega
    rw[OU] at ht ⊢
    repeat' first|exact k9|refine k2 ?_|apply kA|apply kI;intro hc|apply kL;intro hl|((simp only[hdi])<;>conv=>whnf)|refine k8 ?_|fail
    apply kCt [3,14,15,16] [];conv=>whnf
    refine ih (i+1) _ _ _ (by omega) (by omega) rfl ?_ rfl;rw[hsn,←Int.add_assoc];rfl
  ·obtain rfl:i=g.length:=by omega
   rw[OU]
   repeat' first|exact k9|refine k2 ?_|apply kA|apply kI;intro hc|refine k8 ?_|apply kL;intro hl
 ·rw[nq,if_neg hm];refine kf rfl rfl ?_;repeat' (first|exact k9|refine k2 ?_|apply kA|apply kI;intro hc|refine k8 ?_|apply kL;intro hl)⟩
instance(g:List Dfn):C 10 [aN g] (inF (nq g)) true (SmG g):=⟨fun h=>by
 by_cases hm:b4 g=0
 ·rw[nq,if_pos hm];refine kf rfl rfl ?_;repeat' first|exact k9|refine k2 ?_|apply kA|apply kI;intro hc|refine k8 ?_|apply kL;intro hl
  apply kCt [1,3,4] [];conv=>whnf
  refine Lp.ind (fun z:Nat=>g.length - z) (fun z=>z≤g.length) (fun z=>[(4,InD z),(3,InD (bw (g.take z)+dP (g.take z)))]) (fun z=>[]) (fun _=>(inF (bw g+dP g),true)) 0 (by omega) rfl rfl rfl ?_
  rintro G i ih hi
  have hq:=wi hm i;have hb:=sG hm i
  by_cases hx:i<g.length
  ·have hsn:=uj hx;have hnn:=mi hx;obtain⟨d,hd⟩:=exEq (g[i]);have hdi:∀h:i<g.length,g[i]'h=d:=fun _=>hd.symm
   have hmem:d∈g:=by rw[hd];exact Of hx
   rw[←hd] at hsn hnn;have hdl:=(eO hm).small hmem;generalize dP (g.take i)=S at *;generalize bw (g.take i)=N at *;have hszp:iF d.body=d.body.nodes.length:=by rw[iF,if_pos (bG.2 ((eO hm).right hmem))]
   rw[hszp] at hnn
   repeat' first|exact k9|refine k2 ?_|apply kA|apply kI;intro hc|apply kL;intro hl|((simp only[hdi])<;>conv=>whnf)|refine k8 ?_|fail
   rw[show(List.map aT d.body.nodes).length=d.body.nodes.length from Ok ..];apply kCt [1,3,4,5,6] [];conv=>whnf
   refine Lp.ind (fun z:Nat=>d.body.nodes.length - z) (fun z=>z≤d.body.nodes.length) (fun z=>[(6,InD z),(3,InD (N+S+d.body.nodes.length+dC (d.body.nodes.take z)))]) (fun z=>[]) (fun _=>(inF (bw g+dP g),true)) 0 (by omega) rfl (by simp only[Pd,dC,Ry];rfl) rfl ?_
   rintro G' k ihk hk
   have ht:=qA hm hmem k
   by_cases hkx:k<d.body.nodes.length
   ·have htn:=tG hkx;obtain⟨n,hnn'⟩:∃n,n=d.body.nodes[k]:=⟨_,rfl⟩
    have hni:∀h:k<d.body.nodes.length,d.body.nodes[k]'h=n:=fun _=>hnn'.symm
    have hnk:=tz hm hmem n (by rw[hnn'];exact Of hkx);rw[←hnn'] at htn;generalize dC (d.body.nodes.take k)=T0 at *
    repeat' first|exact k9|refine k2 ?_|apply kA|apply kI;intro hc|apply kL;intro hl|((simp only[hdi,hni])<;>conv=>whnf)|refine k8 ?_|fail
    ·simp only[hni] at hc;rw[if_pos hc] at htn;rw[show(List.map ikF n.kids).length=n.kids.length from Ok ..];apply kCt [1,3,4,5,6] [];conv=>whnf
     refine ihk (k+1) _ _ _ (by omega) (by omega) rfl ?_ rfl;rw[htn,←Int.add_assoc];rfl
    ·simp only[hni] at hc;rw[if_neg hc,Ry] at htn;apply kCt [1,3,4,5,6] [];conv=>whnf
     refine ihk (k+1) _ _ _ (by omega) (by omega) rfl ?_ rfl;rw[htn];rfl
   ·obtain rfl:k=d.body.nodes.length:=by omega
    rw[OU] at ht ⊢
    repeat' first|exact k9|refine k2 ?_|apply kA|apply kI;intro hc|apply kL;intro hl|((simp only[hdi])<;>conv=>whnf)|refine k8 ?_|fail
    apply kCt [1,3,4] [];conv=>whnf
    refine ih (i+1) _ _ _ (by omega) (by omega) rfl ?_ rfl;rw[hsn,hnn,show N+(d.body.nodes.length:Int)+(S+dC d.body.nodes)=N+S+d.body.nodes.length+dC d.body.nodes by omega];rfl
  ·obtain rfl:i=g.length:=by omega
   rw[OU]
   repeat' first|exact k9|refine k2 ?_|apply kA|apply kI;intro hc|refine k8 ?_|apply kL;intro hl
 ·rw[nq,if_neg hm];refine kf rfl rfl ?_;repeat' (first|exact k9|refine k2 ?_|apply kA|apply kI;intro hc|refine k8 ?_|apply kL;intro hl)⟩
end Go.Km
end
section
namespace Go.ab
open Go Go.Km
set_option maxRecDepth 100000
def bh(l:List UInt8):Tre:=my ⟨2,.zero,⟨l.toArray⟩,0,0,[]⟩
def cw(lo hi:Int)(t:Tre):Tre:=(ofP ⟨6,.zero,⟨#[]⟩,lo,hi,[]⟩ [t]).1
def iv(a b:Tre):Tre:=(ofP b5 [a,b]).1
theorem w1:uO (cw 1 1 (bh [120])) 1 0=(bh [120],true):=by decide +kernel
theorem w2:uO (iv (bh [120]) (cw 0 (-1) (bh [120]))) 3 0=(cw 1 (-1) (bh [120]),true):=by decide +kernel
theorem w3:(uO (iv (cw 0 1 (bh [120])) (cw 2 2 (bh [120]))) 3 0).2=false:=by decide +kernel
theorem w4:uO (cw 0 (-1) (cw 1 (-1) (bh [120]))) 4 0=(cw 0 (-1) (bh [120]),true):=by decide +kernel
theorem w5:uO (cw 0 1 (cw 1 5 (bh [120]))) 5 0=(cw 0 5 (bh [120]),true):=by decide +kernel
theorem w6:uO (iv (bh [120]) (bh [121,122])) 6 0=(bh [120,121,122],true):=by decide +kernel
theorem w7:a7 [⟨⟨#[97]⟩,iv (cw 0 0 (bh [120])) (bh [121])⟩] 6 2 0 [0] 0=([⟨⟨#[97]⟩,bh [121]⟩],0):=by decide +kernel
end Go.ab
namespace Go.Km
open Go Go.Vc Go.Proofs Go.ab Go.Proofs.YthebhpcjcihjgaaGreatDoor
set_option maxRecDepth 100000
set_option maxHeartbeats 0
theorem GP (X Y YZ XYZ A1 A2 A3 A4 A5 A6 A7 A8 A9 A10 S1 S2 S3 S4 B3:Tre) (G0 H:List Dfn) (nm:ByteArray) (hHl:H.length=1) (hH:∀h:0<H.length,H[0]'h=⟨nm,Y⟩) (hYw:Y.wf∧Y.wf) (hYs:j9 Y Y=true)
  [i1:C 11 [stF ⟨#[120]⟩] (aw X) false True]
  [i2:C 11 [stF ⟨#[121]⟩] (aw Y) false True]
  [i3:C 11 [stF ⟨#[121,122]⟩] (aw YZ) false True]
  [i4:C 11 [stF ⟨#[120,121,122]⟩] (aw XYZ) false True]
  [i5:C 13 [inF 1,inF 1,aw X] (aw A1) false True]
  [i6:C 13 [inF 0,inF (-1),aw X] (aw A2) false True]
  [i7:C 13 [inF 0,inF 1,aw X] (aw A3) false True]
  [i8:C 13 [inF 2,inF 2,aw X] (aw A4) false True]
  [i9:C 13 [inF 1,inF (-1),aw X] (aw A5) false True]
  [i10:C 13 [inF 0,inF (-1),aw A5] (aw A6) false True]
  [i11:C 13 [inF 1,inF 5,aw X] (aw A7) false True]
  [i12:C 13 [inF 0,inF 1,aw A7] (aw A8) false True]
  [i13:C 13 [inF 0,inF 0,aw X] (aw A9) false True]
  [i14:C 13 [inF 0,inF 5,aw X] (aw A10) false True]
  [i15:C 14 [.sl [fg X,fg A2]] (aw S1) false True]
  [i16:C 14 [.sl [fg A3,fg A4]] (aw S2) false True]
  [i17:C 14 [.sl [fg X,fg YZ]] (aw S3) false True]
  [i18:C 14 [.sl [fg A9,fg Y]] (aw S4) false True]
  [i19:C 15 [aw S4] (aN G0) false True]
  [i20:C 12 [aw A1,byF 1,inF 0] (.tp [aw X,boF true]) false True]
  [i21:C 12 [aw S1,byF 3,inF 0] (.tp [aw A5,boF true]) false True]
  [i22:C 12 [aw S2,byF 3,inF 0] (.tp [aw B3,boF false]) false True]
  [i23:C 12 [aw A6,byF 4,inF 0] (.tp [aw A2,boF true]) false True]
  [i24:C 12 [aw A8,byF 5,inF 0] (.tp [aw A10,boF true]) false True]
  [i25:C 12 [aw S3,byF 6,inF 0] (.tp [aw XYZ,boF true]) false True]
  [i26:C 6 [aN G0,.ag [byF 6,byF 2,inF 0,.sl [[inF 0]],inF 0]] (.tp [aN H,inF 0]) false True]
  [i27:C 16 [aw X,aw X] (boF true) true True]
  [i28:C 16 [aw A5,aw A5] (boF true) true True]
  [i29:C 16 [aw A2,aw A2] (boF true) true True]
  [i30:C 16 [aw A10,aw A10] (boF true) true True]
  [i31:C 16 [aw XYZ,aw XYZ] (boF true) true True]:Pure Tryz.prog X1.Γ 5 [] (boF true) true:=by
 have hX:=pG [] [14,6];refine fK hX rfl rfl ?_;repeat' first|exact k9|refine k2 ?_|apply kA|apply kI;intro hc|apply kL;intro hl|(apply Sn.go hX;conv=>whnf)|((simp only[hH])<;>conv=>whnf)|((first|(refine lD i15 rfl rfl trivial ?_)|(refine lD i16 rfl rfl trivial ?_)|(refine lD i17 rfl rfl trivial ?_)|(refine lD i18 rfl rfl trivial ?_)|(refine lD i26 rfl rfl trivial ?_))<;>conv=>whnf)|refine k8 ?_|fail
 exact aa.b hYs rfl
theorem Mf{t:Tre}(h:t.wf∧t.nodes.length≤500000):Sm t:=⟨h.1,h.2⟩
theorem LA(l:List UInt8)(h:l.length≤1000):Sm (bh l):=Mf ⟨sP ⟨by dsimp only;omega,by unfold Bts.wf Bts.zero;dsimp only;omega,by show l.toArray.size≤_;simp;omega,by unfold Go.Sl.I64;dsimp only;omega,by unfold Go.Sl.I64;dsimp only;omega,⟨Oq _,fun x hx=>by cases hx⟩⟩,by show 1≤_;omega⟩
theorem BX{lo hi:Int}{t:Tre}(h1:-1000000≤lo∧lo≤1000000)(h2:-1000000≤hi∧hi≤1000000)(ht:t.wf∧t.nodes.length≤1000):(cw lo hi t).wf∧(cw lo hi t).nodes.length≤t.nodes.length+1:=by
 have e:tot [t]=t.nodes.length:=by simp[tot]
 exact⟨Ci (ia h1 h2) (by simpa using ht.1) (by rw[e];unfold b9;omega),by have:=Ds (n:=⟨6,.zero,⟨#[]⟩,lo,hi,[]⟩) (l:=[t]);rw[e] at this;exact this⟩
theorem LU{a b:Tre}(ha:a.wf∧a.nodes.length≤1000)(hb:b.wf∧b.nodes.length≤1000):(iv a b).wf∧(iv a b).nodes.length≤a.nodes.length+b.nodes.length+1:=by
 have e:tot [a,b]=a.nodes.length+b.nodes.length:=by simp[tot]
 refine⟨Ci kx (fun x hx=>?_) (by rw[e];unfold b9;omega),by have:=Ds (n:=b5) (l:=[a,b]);rw[e] at this;exact this⟩;simp only[OD,Pz,or_false] at hx;rcases hx with rfl|rfl
 ·exact ha.1
 ·exact hb.1
theorem wl{t:Tre}{n:Nat}(h:t.wf∧t.nodes.length≤n)(k:n≤1000):t.wf∧t.nodes.length≤1000:=⟨h.1,OA h.2 k⟩
theorem nH{lo hi:Int}{t:Tre}(ht:t.wf∧t.nodes.length≤1000)(h1:-1000000≤lo∧lo≤1000000)(h2:-1000000≤hi∧hi≤1000000):C 13 [inF lo,inF hi,aw t] (aw (cw lo hi t)) false True:=⟨fun _=>KC.h ⟨⟨ht.1,by omega⟩,h1,h2⟩⟩
theorem CJ{a b:Tre}(ha:a.wf∧a.nodes.length≤1000)(hb:b.wf∧b.nodes.length≤1000):C 14 [.sl [fg a,fg b]] (aw (iv a b)) false True:=⟨fun _=>KC.h (l:=[dO [a,b]]) ⟨by simp,fun x hx=>by
 simp only[OD,Pz,or_false] at hx;rcases hx with rfl|rfl
 ·exact⟨ha.1,by omega⟩
 ·exact⟨hb.1,by omega⟩,by simp only[tot,OB,P0,P4,Rw];omega⟩⟩
theorem wG{t x:Tre}{w:Int}{b:Bool}(ht:t.wf∧t.nodes.length≤1000)(hw:0≤w∧w≤255)(h:uO t w 0=(x,b)):C 12 [aw t,byF w,inF 0] (.tp [aw x,boF b]) false True:=⟨fun _=>by
 have:=KC.h (P:=Tryz.prog) (Γ:=X1.Γ) (f:=12) (l:=[aw t,byF w,inF 0]) ⟨ht.1,hw⟩;rw[h] at this;exact this⟩
theorem tM{t:Tre}(ht:t.wf∧t.nodes.length≤1000)(h:j9 t t=true):C 16 [aw t,aw t] (boF true) true True:=⟨fun _=>by
 have:=KC.h (P:=Tryz.prog) (Γ:=X1.Γ) (f:=16) (l:=[aw t,aw t]) ⟨ht.1,ht.1⟩;rw[h] at this;exact this⟩
theorem txw(l:List UInt8)(h:l.length≤1000):(bh l).wf∧(bh l).nodes.length≤1000:=⟨(LA l h).wf,by show 1≤_;omega⟩
instance:C 5 [] (boF true) true True:=⟨fun _=>by
 have hX:=txw [120] (by simp);have hY:=txw [121] (by simp);have hYZ:=txw [121,122] (by simp);have hXYZ:=txw [120,121,122] (by simp);have rp:∀(lo hi:Int) {t:Tre},(-1000000≤lo∧lo≤1000000)→(-1000000≤hi∧hi≤1000000)→t.wf∧t.nodes.length≤100→(cw lo hi t).wf∧(cw lo hi t).nodes.length≤1000:=fun lo hi t h1 h2 h=>by have:=BX h1 h2 (wl h (by omega));exact⟨this.1,by omega⟩
 have r2:∀(lo hi lo2 hi2:Int) {t:Tre},(-1000000≤lo∧lo≤1000000)→(-1000000≤hi∧hi≤1000000)→(-1000000≤lo2∧lo2≤1000000)→(-1000000≤hi2∧hi2≤1000000)→t.wf∧t.nodes.length≤100→(cw lo hi (cw lo2 hi2 t)).wf∧(cw lo hi (cw lo2 hi2 t)).nodes.length≤1000:=fun lo hi lo2 hi2 t h1 h2 h3 h4 h=>by
  have h5:=BX h3 h4 (wl h (by omega));have h6:=BX h1 h2 (t:=cw lo2 hi2 t) ⟨h5.1,by omega⟩;exact⟨h6.1,by omega⟩
 have x1:(bh [120]).wf∧(bh [120]).nodes.length≤100:=⟨hX.1,by show 1≤_;omega⟩
 have A1:=rp 1 1 (by omega) (by omega) x1;have A2:=rp 0 (-1) (by omega) (by omega) x1;have A3:=rp 0 1 (by omega) (by omega) x1;have A4:=rp 2 2 (by omega) (by omega) x1;have A5:=rp 1 (-1) (by omega) (by omega) x1;have A6:=r2 0 (-1) 1 (-1) (by omega) (by omega) (by omega) (by omega) x1;have A7:=rp 1 5 (by omega) (by omega) x1;have A8:=r2 0 1 1 5 (by omega) (by omega) (by omega) (by omega) x1;have A9:=rp 0 0 (by omega) (by omega) x1;have A10:=rp 0 5 (by omega) (by omega) x1;have sq:∀{a b:Tre},a.wf∧a.nodes.length≤100→b.wf∧b.nodes.length≤100→(iv a b).wf∧(iv a b).nodes.length≤1000:=fun ha hb=>by have:=LU (wl ha (by omega)) (wl hb (by omega));exact⟨this.1,by omega⟩
 have S1:(iv (bh [120]) (cw 0 (-1) (bh [120]))).wf∧(iv (bh [120]) (cw 0 (-1) (bh [120]))).nodes.length≤1000:=sq x1 ⟨A2.1,by decide +kernel⟩;have S2:(iv (cw 0 1 (bh [120])) (cw 2 2 (bh [120]))).wf∧(iv (cw 0 1 (bh [120])) (cw 2 2 (bh [120]))).nodes.length≤1000:=sq ⟨A3.1,by decide +kernel⟩ ⟨A4.1,by decide +kernel⟩;have S3:(iv (bh [120]) (bh [121,122])).wf∧(iv (bh [120]) (bh [121,122])).nodes.length≤1000:=sq x1 ⟨hYZ.1,by decide +kernel⟩;have S4:(iv (cw 0 0 (bh [120])) (bh [121])).wf∧(iv (cw 0 0 (bh [120])) (bh [121])).nodes.length≤1000:=sq ⟨A9.1,by decide +kernel⟩ ⟨hY.1,by decide +kernel⟩;have b3:uO (iv (cw 0 1 (bh [120])) (cw 2 2 (bh [120]))) 3 0=((uO (iv (cw 0 1 (bh [120])) (cw 2 2 (bh [120]))) 3 0).1,false):=by rw[←w3]
 have iD:C 6 [aN [⟨⟨#[97]⟩,iv (cw 0 0 (bh [120])) (bh [121])⟩],.ag [byF 6,byF 2,inF 0,.sl [[inF 0]],inF 0]] (.tp [aN [⟨⟨#[97]⟩,bh [121]⟩],inF 0]) false True:=⟨fun _=>by
  have:=KC.h (P:=Tryz.prog) (Γ:=X1.Γ) (f:=6) (l:=[aN [⟨⟨#[97]⟩,iv (cw 0 0 (bh [120])) (bh [121])⟩],.ag [byF 6,byF 2,inF 0,isF [0],inF 0]]) ⟨by simp,fun d hd=>by
   simp only[Pj] at hd;subst hd;exact⟨by show(1:Nat)≤_;omega,S4.1⟩,by simp,by omega,by omega⟩
  rw[w7] at this;exact this⟩
 exact GP (bh [120]) (bh [121]) (bh [121,122]) (bh [120,121,122]) (cw 1 1 (bh [120])) (cw 0 (-1) (bh [120])) (cw 0 1 (bh [120])) (cw 2 2 (bh [120])) (cw 1 (-1) (bh [120])) (cw 0 (-1) (cw 1 (-1) (bh [120]))) (cw 1 5 (bh [120])) (cw 0 1 (cw 1 5 (bh [120]))) (cw 0 0 (bh [120])) (cw 0 5 (bh [120])) (iv (bh [120]) (cw 0 (-1) (bh [120]))) (iv (cw 0 1 (bh [120])) (cw 2 2 (bh [120]))) (iv (bh [120]) (bh [121,122])) (iv (cw 0 0 (bh [120])) (bh [121])) _ [⟨⟨#[97]⟩,iv (cw 0 0 (bh [120])) (bh [121])⟩] [⟨⟨#[97]⟩,bh [121]⟩] ⟨#[97]⟩ rfl (fun _=>rfl) ⟨hY.1,hY.1⟩ (by decide +kernel)
  (i1:=⟨fun _=>KC.h trivial⟩) (i2:=⟨fun _=>KC.h trivial⟩) (i3:=⟨fun _=>KC.h trivial⟩) (i4:=⟨fun _=>KC.h trivial⟩)
  (i5:=nH hX (by omega) (by omega)) (i6:=nH hX (by omega) (by omega)) (i7:=nH hX (by omega) (by omega)) (i8:=nH hX (by omega) (by omega)) (i9:=nH hX (by omega) (by omega)) (i10:=nH A5 (by omega) (by omega)) (i11:=nH hX (by omega) (by omega)) (i12:=nH A7 (by omega) (by omega)) (i13:=nH hX (by omega) (by omega)) (i14:=nH hX (by omega) (by omega))
  (i15:=CJ hX A2) (i16:=CJ A3 A4) (i17:=CJ hX hYZ) (i18:=CJ A9 hY) (i19:=⟨fun _=>KC.h trivial⟩)
  (i20:=wG A1 (by omega) w1) (i21:=wG S1 (by omega) w2) (i22:=wG S2 (by omega) b3) (i23:=wG A6 (by omega) w4) (i24:=wG A8 (by omega) w5) (i25:=wG S3 (by omega) w6) (i26:=iD)
  (i27:=tM hX (by decide +kernel)) (i28:=tM A5 (by decide +kernel)) (i29:=tM A2 (by decide +kernel)) (i30:=tM A10 (by decide +kernel)) (i31:=tM hXYZ (by decide +kernel))⟩
theorem BY(g:List Dfn)(pass way r:Int)(p:List Int)(at_:Int)(hn:g.length≤eX)(hw:∀d∈g,d.wf)(hw0:0≤way)(hw1:way≤255)(hp:p.length≤eX) :
  Pure Tryz.prog X1.Γ 3 [aN g,.ag [byF pass,byF way,inF r,isF p,inF at_]] (boF true) true:=by
 simp only[eX] at hn hp;have hlo:g.length≤eX∧∀d∈g,d.wf:=⟨by unfold eX;omega,hw⟩
 cases hl:rj g with
 | true=>
  refine kf rfl rfl ?_;repeat' first|exact k9|refine k2 ?_|apply kA|apply kI;intro hc|(apply Sn.go hX;conv=>whnf)|refine k8 ?_|apply kL;intro hl
 | false=>
  by_cases hpl:p.length≤500
  ·obtain⟨h1,h2⟩:=Jr hl;have hsm:SmG g:=⟨by omega,fun d hd=>⟨hw d hd,by have:=h2 d hd;omega⟩⟩
   have hd1:g.length≤1000∧(∀d∈g,d.wf)∧p.length≤1000000∧0≤way∧way≤255:=⟨by omega,hw,by omega,hw0,hw1⟩
   have hd2:SmG g∧p.length≤1000000∧0≤way∧way≤255:=⟨hsm,by omega,hw0,hw1⟩
   have hwe:g.length≤1000∧∀d∈g,d.wf:=⟨by omega,hw⟩
   have hres:=vB (pass:=pass) (way:=way) (r:=r) (at_:=at_) hwe.1 hw hd2.2.1;have hsa:((a7 g pass way r p at_).1.length≤1000∧∀d∈(a7 g pass way r p at_).1,d.wf)∧((a7 g pass way r p at_).1.length≤1000∧∀d∈(a7 g pass way r p at_).1,d.wf):=⟨hres,hres⟩
   have hde:decide ((a7 g pass way r p at_).1=(a7 g pass way r p at_).1)=true:=decide_eq_true rfl;refine kf rfl rfl ?_;repeat' first|exact k9|refine k2 ?_|apply kA|apply kI;intro hc|(apply Sn.go hX;conv=>whnf)|refine k8 ?_|apply kL;intro hl
   all_goals exact absurd trivial hc
  ·refine kf rfl rfl ?_;repeat' first|exact k9|refine k2 ?_|apply kA|apply kI;intro hc|(apply Sn.go hX;conv=>whnf)|refine k8 ?_|apply kL;intro hl
end Go.Km
end
section
namespace Go.Km
open Go Go.Sl Go.RowKit Go.Vc Go.ab
section
variable {H:Type} {enc:TypeId×Value→H} {P:Program} {w:World}
def gy(P:Program)(t:TypeId)(d:DataW H):Prop:=∀k∈d.weights P t,k≤reachBytes
theorem vE{e:TypeId}:∀{l:List (DataW H)},(∀k∈DataW.weightsAll P e l,k≤reachBytes)→∀d∈l,gy P e d
 | [],_,d,hd=>by cases hd
 | x :: l,h,d,hd=>by
  simp only[DataW.weightsAll,Oy] at h;rcases OD.1 hd with rfl|hd
  ·exact fun k hk=>h k (.inl hk)
  ·exact vE (fun k hk=>h k (.inr hk)) d hd
theorem fL:∀{ts:List TypeId} {l:List (DataW H)},(∀k∈DataW.weightsEach P ts l,k≤reachBytes)→∀(i:Nat) t d,ts[i]?=some t→l[i]?=some d→gy P t d
 | [],_,_,i,t,d,ht,_=>by simp at ht
 | _ :: _,[],_,i,t,d,_,hd=>by simp at hd
 | t0 :: ts,x :: l,h,0,t,d,ht,hd=>by
  simp only[DataW.weightsEach,Oy] at h;simp at ht hd;subst ht;subst hd;exact fun k hk=>h k (.inl hk)
 | t0 :: ts,x :: l,h,i+1,t,d,ht,hd=>by
  simp only[DataW.weightsEach,Oy] at h;exact fL (fun k hk=>h k (.inr hk)) i t d (by simpa using ht) (by simpa using hd)
theorem mr:reachBytes=140737488351232:=by decide
theorem np{n:Int}(h:(Lit.int .i64 n).wf=true):I64 n:=by
 simp only[Lit.wf,Oi,decide_eq_true_eq] at h;exact h
theorem BJ{n:Int}(h:(Lit.int .u8 n).wf=true):0≤n∧n≤255:=by
 simp only[Lit.wf,Oi,decide_eq_true_eq] at h;exact h
theorem r7{n:Int}(h:(Lit.int .u64 n).wf=true):0≤n∧n<18446744073709551616:=by
 simp only[Lit.wf,Oi,decide_eq_true_eq] at h;have h1:(0:Int)≤n:=h.1;have h2:n≤(18446744073709551615:Int):=h.2;omega
theorem xJ {α:Type} [Inhabited α] {t e sz:Nat} {R:List Value→α→Prop} {F:α→Prop} (ht:P.underlying t=some (.slice e)) (hc:P.cellsOf e=sz) (hsz:0<sz)
  (hE:∀(n:Nat) cs (y:DataW H×List MemPlace),DataW.trod enc P w 0 (fun _=>true) true n e cs=some y→gy P e y.1→∃a,R cs a∧F a)
  {fuel:Nat} {cs:List Value} {x:DataW H×List MemPlace} (h:DataW.trod enc P w 0 (fun _=>true) true fuel t cs=some x) (hs:gy P t x.1) :
  ∃(xs:List α) (A:Option Addr) (c:Nat) (rows:List (List Value)),cs=[.slice A xs.length c]∧Arr sz (fun b=>b<w.heap.size) w A xs.length rows∧(rows.length=xs.length∧∀(i:Nat) a b,rows[i]?=some a→xs[i]?=some b→R a b)∧xs.length≤c∧xs.length * P.bytesOf e≤reachBytes∧∀a∈xs,F a:=by
 rcases DataW.trod_slice ht h with ⟨rfl,rfl⟩|⟨a,len,cap,elems,rest,n,rfl,rfl,rfl,_,hlc,hcm,hel,hg,_,_⟩
 ·exact⟨[],none,0,[],rfl,Arr.nil,⟨rfl,fun i a b h=>by simp at h⟩,Ov _,by simp,by simp⟩
 ·unfold gy at hs;simp only[DataW.weights,ht,OD,Oy,Ok] at hs;have hb:=hs _ (.inl rfl);have hse:=vE (P:=P) (e:=e) (fun k hk=>hs k (.inr (.inl hk)));have key:∀i:Nat,∃p:List Value×α,i<len→w.cells? 0 (a.add (i * sz)) sz=some p.1∧R p.1 p.2∧F p.2:=by
   intro i
   by_cases hi:i<len
   ·have h1:=hg i hi;rw[Oe (by omega),hc] at h1;obtain⟨ci,h2,h3⟩:=Option.bind_eq_some_iff.1 h1;obtain⟨ai,h4,h5⟩:=hE n ci _ h3 (hse _ (Pq.2 ⟨elems[i],Of _,rfl⟩));exact⟨(ci,ai),fun _=>⟨h2,h4,h5⟩⟩
   ·exact⟨([],default),fun h=>absurd h hi⟩
  obtain⟨f,hf⟩:=Classical.axiomOfChoice key;have hlr:((List.range len).map fun i=>(f i).1).length=len:=by simp
  have hlx:((List.range len).map fun i=>(f i).2).length=len:=by simp
  have hgr:∀i,i<len→((List.range len).map fun i=>(f i).1)[i]?=some (f i).1:=fun i hi=>by simp[hi]
  have hgx:∀i,i<len→((List.range len).map fun i=>(f i).2)[i]?=some (f i).2:=fun i hi=>by simp[hi]
  have hrs:∀r∈(List.range len).map (fun i=>(f i).1),r.length=sz:=by
   intro r hr;obtain⟨i,hi,rfl⟩:=Pq.1 hr;exact(World.cells?_some (hf i (Pf.1 hi)).1).2.1
  refine⟨(List.range len).map fun i=>(f i).2,some a,cap,(List.range len).map fun i=>(f i).1,by rw[hlx],?_,⟨by rw[hlr,hlx],fun i x y hx hy=>?_⟩,by rw[hlx];exact hlc,?_,fun y hy=>?_⟩
  ·rw[hlx];refine⟨hlr,hrs,fun h0=>⟨a,rfl,?_,fun j v hj=>?_⟩⟩
   ·have:=World.cells?_block (hf 0 h0).1 hsz;simpa [qy] using this
   ·have hjl:j<len * sz:=by
     have:=(Ox.1 hj).1
     rwa [length_flatten hrs,hlr] at this
    have hi:j / sz<len:=Nat.div_lt_of_lt_mul (by rw[Rb];exact hjl);have ho:j % sz<sz:=Nat.mod_lt _ hsz;have hdm:j / sz * sz+j % sz=j:=by rw[Rb];exact Nat.div_add_mod j sz
    have h1:=oI hrs (hgr _ hi) ho;rw[hdm,hj] at h1;have h2:=(World.cells?_some (hf _ hi).1).2.2 _ ho;rw[Sl.add_add,hdm,←h1] at h2;exact h2
  ·have hi:i<len:=by have:=(Ox.1 hx).1;simpa using this
   rw[hgr i hi] at hx;rw[hgx i hi] at hy
   injection hx with hx
   injection hy with hy
   subst hx;subst hy;exact(hf i hi).2.1
  ·rw[hlx];refine OA (PH _ ?_) hb;omega
  ·obtain⟨i,hi,rfl⟩:=Pq.1 hy;exact(hf i (Pf.1 hi)).2.2
theorem aP{Z:Nat→Prop}{w:World}{x:F}{u:Value}{l:List F}{us:List Value}(h:F.rep Z w x u)(k:F.aq Z w l us):F.aq Z w (x :: l) (u :: us):=by
 unfold F.aq;exact⟨u,us,rfl,h,k⟩
theorem gP{Z:Nat→Prop}{w:World}:F.aq Z w [] []:=by unfold F.aq;rfl
theorem dE{Z:Nat→Prop}{w:World}(v:Value):F.rep Z w (.vl v) v:=by unfold F.rep;rfl
theorem Cv{Z:Nat→Prop}{w:World}{l:List F}{vs:List Value}(h:F.aq Z w l vs):F.rep Z w (.ag l) (.agg vs.toArray):=by unfold F.rep;exact⟨vs,rfl,h⟩
theorem CZ{Z:Nat→Prop}{w:World}{α:Type}{c:α→List F}:∀{xs:List α} {rows:List (List Value)},rows.length=xs.length→(∀(i:Nat) a b,rows[i]?=some a→xs[i]?=some b→F.aq Z w (c b) a)→F.aI Z w (xs.map c) rows
 | [],[],_,_=>by unfold F.aI;rfl
 | [],_ :: _,h,_=>by simp at h
 | _ :: _,[],h,_=>by simp at h
 | x :: xs,r :: rows,h,k=>by
  rw[OB];unfold F.aI;exact⟨r,rows,rfl,k 0 r x rfl rfl,CZ (by simpa using h) fun i a b ha hb=>k (i+1) a b (by simpa using ha) (by simpa using hb)⟩
theorem qs{Z:Nat→Prop}{w:World}{α:Type}{c:α→List F}{xs:List α}{A:Option Addr}{k sz:Nat}{rows:List (List Value)}(hk:xs.length≤k)(hA:Arr sz Z w A xs.length rows)(hR:rows.length=xs.length∧∀(i:Nat) a b,rows[i]?=some a→xs[i]?=some b→F.aq Z w (c b) a)(h1:∀x,(c x).all F.one=true):F.rep Z w (.sl (xs.map c)) (.slice A xs.length k):=by
 unfold F.rep;refine⟨A,k,rows,sz,by rw[Ok],by rw[Ok];exact hk,by rw[Ok];exact hA,fun r hr=>?_,CZ hR.1 hR.2⟩;obtain⟨i,hi,rfl⟩:=OT hr;exact F.gB (hR.2 i _ (xs[i]'(by rw[←hR.1];exact hi)) (Oe hi) (Oe _)) (h1 _)
instance:Inhabited Nod:=⟨.zero⟩
instance:Inhabited Dfn:=⟨⟨⟨#[]⟩,.zero⟩⟩
end
end Go.Km
namespace Go.Proofs.YthebhpcjcihjgaaGreatDoor
open Go Go.Sl Go.RowKit Go.Vc Go.Km Go.ab
variable {H:Type} {enc:TypeId×Value→H} {w:World}
abbrev lT(w:World):Nat→Prop:=fun b=>b<w.heap.size
theorem IE:Tryz.prog.cellsOf 3=1:=by kernel_rfl
theorem Od:Tryz.prog.cellsOf 43=4:=by kernel_rfl
theorem NY:Tryz.prog.cellsOf 5=1:=by kernel_rfl
theorem NH:Tryz.prog.cellsOf 9=1:=by kernel_rfl
theorem N3:Tryz.prog.cellsOf 25=1:=by kernel_rfl
theorem Oa:Tryz.prog.cellsOf 36=1:=by kernel_rfl
theorem N8:Tryz.prog.cellsOf 22=1:=by kernel_rfl
theorem Mu:Tryz.prog.cellsOf 45=9:=by kernel_rfl
theorem Nh:Tryz.prog.cellsOf 38=2:=by kernel_rfl
theorem NR:Tryz.prog.cellsOf 41=1:=by kernel_rfl
theorem NN:Tryz.prog.bytesOf 3=8:=by kernel_rfl
theorem N6:Tryz.prog.bytesOf 45=96:=by kernel_rfl
theorem Mq:Tryz.prog.cellsOf 40=3:=by kernel_rfl
theorem NV:Tryz.prog.cellsOf 24=1:=by kernel_rfl
theorem NM:Tryz.prog.bytesOf 40=48:=by kernel_rfl
theorem GG{fuel:Nat}{cs:List Value}{x:DataW H×List MemPlace}(h:DataW.trod enc Tryz.prog w 0 (fun _=>true) true fuel 25 cs=some x)(hs:gy Tryz.prog 25 x.1):∃xs:List Int,∃u,cs=[u]∧F.rep (lT w) w (isF xs) u∧BA xs:=by
 obtain⟨xs,A,c,rows,h1,h2,h3,h4,h5,h6⟩:=xJ (R:=fun cs (a:Int)=>F.aq (lT w) w (ikF a) cs) (F:=fun a=>I64 a) Tryz.underlying25 IE (by decide) (fun n cs y hy _=>by
  obtain⟨k,e1,e2,e3⟩:=DataW.trod_int Tryz.underlying3 hy;subst e1;exact⟨k,aP (dE _) gP,np e3⟩) h hs
 rw[NN] at h5;refine⟨xs,_,h1,qs h4 h2 h3 (fun _=>rfl),?_,h6⟩;rw[mr] at h5;unfold eX;omega
set_option maxRecDepth 100000 in
theorem Lf{fuel:Nat}{cs:List Value}{x:DataW H×List MemPlace}(h:DataW.trod enc Tryz.prog w 0 (fun _=>true) true fuel 45 cs=some x)(hs:gy Tryz.prog 45 x.1):∃n:Nod,F.aq (lT w) w (aT n) cs∧n.wf:=by
 obtain⟨xs,m,_,rfl,hl,hlen,hf⟩:=DataW.trod_struct Tryz.underlying45 h;have hl:=hl.trans Mu
 match cs,hl with
 | [c0,c1,c2,c3,c4,c5,c6,c7,c8],_=>
  match xs,hlen with
  | [y0,y1,y2,y3,y4,y5],_=>
   unfold gy at hs;simp only[DataW.weights,Tryz.underlying45] at hs;have hse:=fL hs;have f0:=hf 0 _ rfl;have f1:=hf 1 _ rfl;have f2:=hf 2 _ rfl;have f3:=hf 3 _ rfl;have f4:=hf 4 _ rfl;have f5:=hf 5 _ rfl;simp only[NY,Od,NH,IE,N3,PR,Pb,O7,Pd,OZ,O4] at f0 f1 f2 f3 f4 f5;obtain⟨k0,e0,_,w0⟩:=DataW.trod_int Tryz.underlying5 f0;obtain⟨zs,m1,_,_,_,hzl,hz⟩:=DataW.trod_array Tryz.underlying43 f1;obtain⟨s,e2,rfl',_⟩:=DataW.trod_string Tryz.underlying9 f2;obtain⟨k3,e3,_,w3⟩:=DataW.trod_int Tryz.underlying3 f3;obtain⟨k4,e4,_,w4⟩:=DataW.trod_int Tryz.underlying3 f4;obtain⟨ks,u5,e5,hr5,hw5⟩:=GG f5 (hse 5 _ _ rfl rfl)
   match zs,hzl with
   | [z0,z1,z2,z3],_=>
    have g0:=hz 0 (by decide);have g1:=hz 1 (by decide);have g2:=hz 2 (by decide);have g3:=hz 3 (by decide);simp only[NR,Nat.zero_mul,Nat.one_mul,Rt,PR,Pb,O7,Pd,OZ,O4] at g0 g1 g2 g3;obtain⟨b0,q0,_,u0⟩:=DataW.trod_int Tryz.underlying41 g0;obtain⟨b1,q1,_,u1⟩:=DataW.trod_int Tryz.underlying41 g1;obtain⟨b2,q2,_,u2⟩:=DataW.trod_int Tryz.underlying41 g2;obtain⟨b3,q3,_,u3⟩:=DataW.trod_int Tryz.underlying41 g3;have hst:=hse 2 _ _ rfl rfl;have htx:s.size≤reachBytes:=by
     have e:y2.1=.lit (.string s.data.toList):=by rw[rfl']
     simp only[OB,OZ,O4] at hst;rw[e] at hst;have:=hst s.data.toList.length (by simp[DataW.weights]);simpa using this
    obtain⟨rfl,_⟩:=Pl e0;obtain⟨rfl,_⟩:=Pl e2;obtain⟨rfl,_⟩:=Pl e3;obtain⟨rfl,_⟩:=Pl e4;obtain⟨rfl,_⟩:=Pl e5;obtain⟨rfl,_⟩:=Pl q0;obtain⟨rfl,_⟩:=Pl q1;obtain⟨rfl,_⟩:=Pl q2;obtain⟨rfl,_⟩:=Pl q3;refine⟨⟨k0,⟨b0,b1,b2,b3⟩,s,k3,k4,ks⟩,aP (dE _) (aP (dE _) (aP (dE _) (aP (dE _) (aP (dE _) (aP (dE _) (aP (dE _) (aP (dE _) (aP hr5 gP)))))))),BJ w0,⟨r7 u0,r7 u1,r7 u2,r7 u3⟩,?_,np w3,np w4,hw5⟩;show s.size≤140737488355328
    rw[mr] at htx;omega
theorem JL{fuel:Nat}{cs:List Value}{x:DataW H×List MemPlace}(h:DataW.trod enc Tryz.prog w 0 (fun _=>true) true fuel 36 cs=some x)(hs:gy Tryz.prog 36 x.1):∃ns:List Nod,∃u,cs=[u]∧F.rep (lT w) w (.sl (ns.map aT)) u∧ns.length≤b9∧∀n∈ns,n.wf:=by
 obtain⟨ns,A,c,rows,h1,h2,h3,h4,h5,h6⟩:=xJ (R:=fun cs (n:Nod)=>F.aq (lT w) w (aT n) cs) (F:=Nod.wf) Tryz.underlying36 Mu (by decide) (fun n cs y hy hys=>Lf hy hys) h hs;rw[N6] at h5;refine⟨ns,_,h1,qs h4 h2 h3 (fun _=>rfl),?_,h6⟩;rw[mr] at h5;unfold b9;omega
set_option maxRecDepth 100000 in
theorem Kw{fuel:Nat}{cs:List Value}{x:DataW H×List MemPlace}(h:DataW.trod enc Tryz.prog w 0 (fun _=>true) true fuel 38 cs=some x)(hs:gy Tryz.prog 38 x.1):∃t:Tre,F.aq (lT w) w (fg t) cs∧t.wf:=by
 obtain⟨xs,m,_,rfl,hl,hlen,hf⟩:=DataW.trod_struct Tryz.underlying38 h;have hl:=hl.trans Nh
 match cs,hl with
 | [c0,c1],_=>
  match xs,hlen with
  | [y0,y1],_=>
   unfold gy at hs;simp only[DataW.weights,Tryz.underlying38] at hs;have hse:=fL hs;have f0:=hf 0 _ rfl;have f1:=hf 1 _ rfl;simp only[Oa,IE,PR,Pb,O7,Pd,OZ,O4] at f0 f1;obtain⟨ns,u0,e0,hr,hnl,hw⟩:=JL f0 (hse 0 _ _ rfl rfl);obtain⟨k1,e1,_,w1⟩:=DataW.trod_int Tryz.underlying3 f1;obtain⟨rfl,_⟩:=Pl e0;obtain⟨rfl,_⟩:=Pl e1;exact⟨⟨ns,k1⟩,aP hr (aP (dE _) gP),hnl,hw,np w1⟩
set_option maxRecDepth 100000 in
theorem Mt{fuel:Nat}{cs:List Value}{x:DataW H×List MemPlace}(h:DataW.trod enc Tryz.prog w 0 (fun _=>true) true fuel 40 cs=some x)(hs:gy Tryz.prog 40 x.1):∃d:Dfn,F.aq (lT w) w (mI d) cs∧d.wf:=by
 obtain⟨xs,m,_,rfl,hl,hlen,hf⟩:=DataW.trod_struct Tryz.underlying40 h;have hl:=hl.trans Mq
 match cs,hl with
 | [c0,c1,c2],_=>
  match xs,hlen with
  | [y0,y1],_=>
   unfold gy at hs;simp only[DataW.weights,Tryz.underlying40] at hs;have hse:=fL hs;have f0:=hf 0 _ rfl;have f1:=hf 1 _ rfl;simp only[NH,Nh,PR,Pb,O7,Pd,OZ,O4] at f0 f1;obtain⟨s,e0,rfl',_⟩:=DataW.trod_string Tryz.underlying9 f0;obtain⟨t,ht,hw⟩:=Kw f1 (hse 1 _ _ rfl rfl);have hst:=hse 0 _ _ rfl rfl;have htx:s.size≤reachBytes:=by
    have e:y0.1=.lit (.string s.data.toList):=by rw[rfl']
    simp only[OB,OZ,O4] at hst;rw[e] at hst;have:=hst s.data.toList.length (by simp[DataW.weights]);simpa using this
   obtain⟨rfl,_⟩:=Pl e0;refine⟨⟨s,t⟩,aP (dE _) ht,?_,hw⟩;show s.size≤_
   rw[mr] at htx;omega
theorem Lb{fuel:Nat}{cs:List Value}{x:DataW H×List MemPlace}(h:DataW.trod enc Tryz.prog w 0 (fun _=>true) true fuel 22 cs=some x)(hs:gy Tryz.prog 22 x.1):∃l:List Dfn,∃u,cs=[u]∧F.rep (lT w) w (.sl (l.map mI)) u∧l.length≤eX∧∀d∈l,d.wf:=by
 obtain⟨l,A,c,rows,h1,h2,h3,h4,h5,h6⟩:=xJ (R:=fun cs (d:Dfn)=>F.aq (lT w) w (mI d) cs) (F:=Dfn.wf) Tryz.underlying22 Mq (by decide) (fun n cs y hy hys=>Mt hy hys) h hs;rw[NM] at h5;refine⟨l,_,h1,qs h4 h2 h3 (fun _=>rfl),?_,h6⟩;rw[mr] at h5;unfold eX;omega
set_option maxRecDepth 100000 in
theorem D7{fuel:Nat}{cs:List Value}{x:DataW H×List MemPlace}(h:DataW.trod enc Tryz.prog w 0 (fun _=>true) true fuel 24 cs=some x)(hs:gy Tryz.prog 24 x.1):∃g:List Dfn,F.rep (lT w) w (aN g) (.agg cs.toArray)∧g.length≤eX∧∀d∈g,d.wf:=by
 obtain⟨xs,m,_,rfl,hl,hlen,hf⟩:=DataW.trod_struct Tryz.underlying24 h;have hl:=hl.trans NV
 match cs,hl with
 | [c0],_=>
  match xs,hlen with
  | [y0],_=>
   unfold gy at hs;simp only[DataW.weights,Tryz.underlying24] at hs;have hse:=fL hs;have f0:=hf 0 _ rfl;simp only[N8,PR,Pb,O7,Pd,OZ,O4] at f0;obtain⟨l,u0,e0,hr,hnl,hw⟩:=Lb f0 (hse 0 _ _ rfl rfl);obtain⟨rfl,_⟩:=Pl e0;exact⟨l,Cv (aP hr gP),hnl,hw⟩
set_option maxRecDepth 100000 in
theorem Ln{fuel:Nat}{cs:List Value}{x:DataW H×List MemPlace}(h:DataW.trod enc Tryz.prog w 0 (fun _=>true) true fuel 27 cs=some x)(hs:gy Tryz.prog 27 x.1):∃(pass way r:Int) (p:List Int) (at_:Int),F.rep (lT w) w (.ag [byF pass,byF way,inF r,isF p,inF at_]) (.agg cs.toArray)∧(0≤pass∧pass≤255)∧(0≤way∧way≤255)∧I64 r∧BA p∧I64 at_:=by
 obtain⟨xs,m,_,rfl,hl,hlen,hf⟩:=DataW.trod_struct Tryz.underlying27 h;have hl:=hl.trans (show Tryz.prog.cellsOf 27=5 by kernel_rfl)
 match cs,hl with
 | [c0,c1,c2,c3,c4],_=>
  match xs,hlen with
  | [y0,y1,y2,y3,y4],_=>
   unfold gy at hs;simp only[DataW.weights,Tryz.underlying27] at hs;have hse:=fL hs;have f0:=hf 0 _ rfl;have f1:=hf 1 _ rfl;have f2:=hf 2 _ rfl;have f3:=hf 3 _ rfl;have f4:=hf 4 _ rfl;simp only[NY,IE,N3,PR,Pb,O7,Pd,OZ,O4] at f0 f1 f2 f3 f4;obtain⟨k0,e0,_,w0⟩:=DataW.trod_int Tryz.underlying5 f0;obtain⟨k1,e1,_,w1⟩:=DataW.trod_int Tryz.underlying5 f1;obtain⟨k2,e2,_,w2⟩:=DataW.trod_int Tryz.underlying3 f2;obtain⟨ks,u3,e3,hr3,hw3⟩:=GG f3 (hse 3 _ _ rfl rfl);obtain⟨k4,e4,_,w4⟩:=DataW.trod_int Tryz.underlying3 f4;obtain⟨rfl,_⟩:=Pl e0;obtain⟨rfl,_⟩:=Pl e1;obtain⟨rfl,_⟩:=Pl e2;obtain⟨rfl,_⟩:=Pl e3;obtain⟨rfl,_⟩:=Pl e4;exact⟨k0,k1,k2,ks,k4,Cv (aP (dE _) (aP (dE _) (aP (dE _) (aP hr3 (aP (dE _) gP))))),BJ w0,BJ w1,np w2,hw3,np w4⟩
end Go.Proofs.YthebhpcjcihjgaaGreatDoor
end
section
namespace Go.Km
open Go Go.Sl Go.RowKit Go.Vc
mutual
def flD{H:Type}:DataW H→Option (List Value)
 | .lit (.int k n)=>some [.int k n]
 | .lit (.string b)=>some [.string ⟨b.toArray⟩]
 | .agg ds=>HY ds
 | _=>none
def HY{H:Type}:List (DataW H)→Option (List Value)
 | []=>some []
 | d :: ds=>match flD d,HY ds with
  | some a,some b=>some (a++b)
  | _,_=>none
end
def FlT(H:Type)(P:Program)(w:World)(t:TypeId):Prop:=∀(enc:TypeId×Value→H) (base:Nat) (spare:Nat→Bool) (held:Bool) (m:Nat) (cs:List Value) (y:DataW H×List MemPlace),DataW.trod enc P w base spare held m t cs=some y→∀vs,flD y.1=some vs→cs=vs
section
variable {H:Type} {P:Program} {w:World} {t:TypeId}
theorem AS{k:IntKind}(ht:P.underlying t=some (.int k)):FlT H P w t:=fun enc base spare held m cs y h vs hv=>by
 obtain⟨n,rfl,rfl,_⟩:=DataW.trod_int ht h;rw[flD] at hv;exact Option.some.inj hv
theorem K0(ht:P.underlying t=some .string):FlT H P w t:=fun enc base spare held m cs y h vs hv=>by
 obtain⟨s,rfl,rfl,_⟩:=DataW.trod_string ht h;rw[flD] at hv;have:=Option.some.inj hv;rw[←this]
theorem chunks{sz:Nat}:∀(l:List (List Value)) (cs:List Value),cs.length=l.length * sz→(∀(i:Nat) (h:i<l.length),(cs.drop (i * sz)).take sz=l[i])→cs=l.flatten
 | [],cs,h,_=>by
  simp at h;rw[h];rfl
 | x :: l,cs,h,k=>by
  have h0:=k 0 (by simp);simp only[Nat.zero_mul,Pb,Pa] at h0;have ih:=chunks (sz:=sz) l (cs.drop sz) (by rw[OX,h,Og,Ps];omega) fun i hi=>by
   have:=k (i+1) (by simpa using hi);rw[List.getElem_cons_succ] at this;rw[←this,List.drop_drop,Ps,Nat.one_mul,Nat.add_comm]
  rw[Ph,←ih,←h0,List.take_append_drop]
theorem xR:∀(ds:List (DataW H)) (vs:List Value),HY ds=some vs→∃l:List (List Value),vs=l.flatten∧l.length=ds.length∧∀(i:Nat) (d:DataW H) (r:List Value),ds[i]?=some d→l[i]?=some r→flD d=some r
 | [],vs,h=>⟨[],by rw[HY] at h;rw[←Option.some.inj h];rfl,rfl,fun i d r h=>by simp at h⟩
 | d :: ds,vs,h=>by
  rw[HY] at h
  split at h
  ·rename_i a b ha hb;obtain⟨l,h1,h2,h3⟩:=xR ds b hb;refine⟨a :: l,by rw[←Option.some.inj h,h1];rfl,by simp[h2],fun i d' r hd hr=>?_⟩
   cases i with
   | zero=>
    simp only[OZ,PA] at hd hr;rw[←hd,←hr];exact ha
   | succ i=>exact h3 i d' r (by simpa using hd) (by simpa using hr)
  ·cases h
theorem oA{n e sz:Nat}(ht:P.underlying t=some (.array n e))(hc:P.cellsOf t=n * sz)(hs:P.cellsOf e=sz)(he:FlT H P w e):FlT H P w t:=fun enc base spare held m cs y h vs hv=>by
 obtain⟨xs,m1,_,rfl,hl,hn,hf⟩:=DataW.trod_array ht h;simp only[flD] at hv;obtain⟨l,h1,h2,h3⟩:=xR _ _ hv;rw[Ok] at h2;rw[h1];refine chunks (sz:=sz) l cs (by rw[hl,hc,h2,hn]) fun i hi=>?_
 have hi2:i<xs.length:=by omega
 have h4:=hf i (by omega);rw[hs,Oe hi2] at h4;exact he enc base spare held m1 _ _ h4 _ (h3 i xs[i].1 l[i] (by rw[Pv,Oe hi2];rfl) (Oe hi))
theorem FJ{fs:Array Field}{a b c:Field}(ht:P.underlying t=some (.struct fs))(hfs:fs=#[a,b,c])(hc:P.cellsOf t=3)(oa:a.offset=0∧P.cellsOf a.type=1)(ob:b.offset=1∧P.cellsOf b.type=1)(oc:c.offset=2∧P.cellsOf c.type=1)(ha:FlT H P w a.type)(hb:FlT H P w b.type)(hcc:FlT H P w c.type):FlT H P w t:=fun enc base spare held m cs y h vs hv=>by
 subst hfs;obtain⟨xs,m1,_,rfl,hl,hn,hf⟩:=DataW.trod_struct ht h;have hl:=hl.trans hc
 match cs,hl with
 | [c0,c1,c2],_=>
  match xs,hn with
  | [x0,x1,x2],_=>
   have f0:=hf 0 a rfl;have f1:=hf 1 b rfl;have f2:=hf 2 c rfl;rw[oa.1,oa.2] at f0;rw[ob.1,ob.2] at f1;rw[oc.1,oc.2] at f2;simp only[PR,Pb,O7,Pd,OZ,O4] at f0 f1 f2;simp only[flD,OB,P0] at hv;obtain⟨l,h1,h2,h3⟩:=xR _ _ hv
   match l,h2 with
   | [r0,r1,r2],_=>
    have e0:=ha enc base spare held m1 _ _ f0 r0 (h3 0 _ _ rfl rfl);have e1:=hb enc base spare held m1 _ _ f1 r1 (h3 1 _ _ rfl rfl);have e2:=hcc enc base spare held m1 _ _ f2 r2 (h3 2 _ _ rfl rfl);rw[h1,←e0,←e1,←e2];rfl
theorem zE{Z:Nat→Prop}:∀vs:List Value,F.aq Z w (vs.map .vl) vs
 | []=>gP
 | v :: vs=>aP (dE v) (zE vs)
theorem M1{n:String}{g:Nat}{cs:Array Value}{vs:List Value}(hg:P.globalNamed n=some g)(hv:w.var? P n=some cs)(e:cs.toList=vs)(h1:du vs=true)(h0:0<vs.length):F.rep (fun b=>b<w.heap.size) w (.pt vs.length [vs.map .vl] 0 0) (.pointer (some ⟨g,0,none⟩)):=by
 have hcell:=World.var?_cell hg hv;have hsz:g<w.heap.size:=by
  simp only[World.var?,hg,QR] at hv
  split at hv
  ·rename_i hh;exact(OO.1 hh).1
  ·cases hv
 unfold F.rep;refine⟨⟨g,0,none⟩,[vs],by simp[Addr.add],⟨rfl,by simp,fun _=>⟨⟨g,0,none⟩,rfl,hsz,fun j v hj=>?_⟩⟩,by simpa using h1,?_⟩
 ·simp only[Ph,List.flatten_nil,Oj] at hj;rw[add_lit,OS,hcell j,←Array.getElem?_toList,e];exact hj
 ·unfold F.aI;refine⟨vs,[],rfl,zE vs,?_⟩;unfold F.aI;rfl
end
end Go.Km
namespace Go.Proofs.YthebhpcjcihjgaaGreatDoor
open Go Go.Sl Go.RowKit Go.Vc Go.Km Go.ab
open Go.ChangeShapes Go.WideShapes Go.ChangeAt
set_option maxRecDepth 100000
theorem N7:ownKnob Tryz.prog.godebug=none:=by kernel_rfl
theorem zX:laidOutB Tryz.prog=true:=by kernel_rfl
def iI:List (String×DataW Unit):=[("math/bits.deBruijn32tab",Rows.laid_math_bits_deBruijn32tab),("math/bits.deBruijn64tab",Rows.laid_math_bits_deBruijn64tab),("internal/strconv.uint64pow10",Rows.laid_internal_strconv_uint64pow10),("bonsai/tree.counts",Rows.laid_bonsai_tree_counts),("bonsai/print.counts",Rows.laid_bonsai_print_counts),("bonsai/print.signs",Rows.laid_bonsai_print_signs)]
theorem D5(os:Os)(args:Array Value):laidMetH Tryz.prog iI ((World.doorLaid Tryz.prog 400 os).forCall (fun _ _=>0) ⟨#[],args,[]⟩).memory:=
 laidMetH_of_parts3 (fuel:=8) (laidMet_of_run' 8 (by kernel_rfl) (by kernel_rfl)) (by kernel_rfl) (by kernel_rfl)
variable {H:Type} {W:World}
theorem Fy:FlT H Tryz.prog W 3:=AS Tryz.underlying3
theorem Dg:FlT H Tryz.prog W 9:=K0 Tryz.underlying9
theorem Ms:FlT H Tryz.prog W 5:=AS Tryz.underlying5
theorem MP:FlT H Tryz.prog W 41:=AS Tryz.underlying41
theorem flA:FlT H Tryz.prog W 135:=oA (sz:=2) Tryz.underlying135 (by kernel_rfl) (by kernel_rfl) (oA (sz:=1) Tryz.underlying134 (by kernel_rfl) (by kernel_rfl) Fy)
theorem flB:FlT H Tryz.prog W 245:=oA (sz:=1) Tryz.underlying245 (by kernel_rfl) (by kernel_rfl) Ms
theorem flC:FlT H Tryz.prog W 259:=oA (sz:=1) Tryz.underlying259 (by kernel_rfl) (by kernel_rfl) Ms
theorem flE:FlT H Tryz.prog W 253:=oA (sz:=1) Tryz.underlying253 (by kernel_rfl) (by kernel_rfl) MP
theorem flS:FlT H Tryz.prog W 220:=oA (sz:=3) Tryz.underlying220 (by kernel_rfl) (by kernel_rfl) (FJ Tryz.underlying219 rfl (by kernel_rfl) ⟨rfl,by kernel_rfl⟩ ⟨rfl,by kernel_rfl⟩ ⟨rfl,by kernel_rfl⟩ Dg Dg Dg)
theorem flN:FlT H Tryz.prog W 236:=oA (sz:=3) Tryz.underlying236 (by kernel_rfl) (by kernel_rfl) (FJ Tryz.underlying235 rfl (by kernel_rfl) ⟨rfl,by kernel_rfl⟩ ⟨rfl,by kernel_rfl⟩ ⟨rfl,by kernel_rfl⟩ Fy Fy Dg)
theorem Ee{W:World}(h:laidMetH Tryz.prog iI W):∀(n:String) (d:DataW Unit),(n,d)∈iI→∃g t cs fuel p,Tryz.prog.globalNamed n=some g∧(Tryz.prog.globals[g]?).map (·.type)=some t∧W.var? Tryz.prog n=some cs∧DataW.trod (fun _=>()) Tryz.prog W 0 (fun _=>true) false fuel t cs.toList=some (d,p):=by
 rw[MakeChecks.laidMetH_plain _ _ _ (by kernel_rfl)] at h;obtain⟨ps,hl,_⟩:=h;have key:∀(l:List (String×DataW Unit)) (ps:List MemPlace),DataW.LaidVars Tryz.prog W l ps→∀n d,(n,d)∈l→∃g t cs fuel p,Tryz.prog.globalNamed n=some g∧(Tryz.prog.globals[g]?).map (·.type)=some t∧W.var? Tryz.prog n=some cs∧DataW.trod (fun _=>()) Tryz.prog W 0 (fun _=>true) false fuel t cs.toList=some (d,p):=by
  intro l
  induction l with
  | nil=>intro ps _ n d hm;cases hm
  | cons x l ih=>
   intro ps hx n d hm;obtain⟨n0,d0⟩:=x;obtain⟨g,t,cs,f,p,q,h1,h2,h3,h4,h5,h6⟩:=hx;rcases OD.1 hm with e|hm
   ·cases e;exact⟨g,t,cs,f,p,h1,h2,h3,h4⟩
   ·exact ih _ h5 n d hm
 exact key iI ps hl
theorem Nl{W:World}(h:laidMetH Tryz.prog iI W):∀g cs,X1.Γ g=some cs→F.rep (lT W) W (.pt cs.length [cs] 0 0) (.pointer (some ⟨g,0,none⟩)):=by
 have hv:=Ee h;have one:∀(n:String) (d:DataW Unit) (g t:Nat) (vs:List Value),(n,d)∈iI→Tryz.prog.globalNamed n=some g→(Tryz.prog.globals[g]?).map (·.type)=some t→FlT Unit Tryz.prog W t→flD d=some vs→du vs=true→0<vs.length→F.rep (lT W) W (.pt vs.length [vs.map .vl] 0 0) (.pointer (some ⟨g,0,none⟩)):=fun n d g t vs hm hg ht hf hd h1 h0=>by
  obtain⟨g',t',cs,fuel,p,q1,q2,q3,q4⟩:=hv n d hm;obtain rfl:=Option.some.inj (hg.symm.trans q1);obtain rfl:=Option.some.inj (ht.symm.trans q2);exact M1 hg q3 (hf _ _ _ _ _ _ _ q4 vs hd) h1 h0
 have a0:=one "bonsai/tree.counts" Rows.laid_bonsai_tree_counts 0 135 _ (by simp[iI]) (by kernel_rfl) (by kernel_rfl) flA rfl (by kernel_rfl) (On rfl);have a1:=one "bonsai/print.signs" Rows.laid_bonsai_print_signs 1 220 _ (by simp[iI]) (by kernel_rfl) (by kernel_rfl) flS rfl (by kernel_rfl) (On rfl);have a2:=one "bonsai/print.counts" Rows.laid_bonsai_print_counts 2 236 _ (by simp[iI]) (by kernel_rfl) (by kernel_rfl) flN rfl (by kernel_rfl) (On rfl);have a3:=one "math/bits.deBruijn64tab" Rows.laid_math_bits_deBruijn64tab 3 245 _ (by simp[iI]) (by kernel_rfl) (by kernel_rfl) flB rfl (by kernel_rfl) (On rfl);have a5:=one "internal/strconv.uint64pow10" Rows.laid_internal_strconv_uint64pow10 5 253 _ (by simp[iI]) (by kernel_rfl) (by kernel_rfl) flE rfl (by kernel_rfl) (On rfl);have a6:=one "math/bits.deBruijn32tab" Rows.laid_math_bits_deBruijn32tab 6 259 _ (by simp[iI]) (by kernel_rfl) (by kernel_rfl) flC rfl (by kernel_rfl) (On rfl);intro g cs hg;have key:∀(l:List (Nat×List F)),(∀x∈l,F.rep (lT W) W (.pt x.2.length [x.2] 0 0) (.pointer (some ⟨x.1,0,none⟩)))→Vc.lk l g=some cs→F.rep (lT W) W (.pt cs.length [cs] 0 0) (.pointer (some ⟨g,0,none⟩)):=by
  intro l
  induction l with
  | nil=>intro _ h;cases h
  | cons x l ih=>
   intro hx h;obtain⟨k,v⟩:=x;unfold Vc.lk at h
   cases hk:Nat.beq k g with
   | true=>
    rw[hk,cond_true] at h;have e:=Nat.eq_of_beq_eq_true hk;have e2:=Option.some.inj h;subst e e2;exact hx (_,_) (O3 ..)
   | false=>
    rw[hk,cond_false] at h;exact ih (fun y hy=>hx y (by simp[hy])) h
 exact key Kq (by
  intro x hx;simp only[Kq,OD,Pz,or_false] at hx;rcases hx with rfl|rfl|rfl|rfl|rfl|rfl
  ·exact a0
  ·exact a1
  ·exact a2
  ·exact a3
  ·exact a5
  ·exact a6) hg
theorem FF{H:Type}{P:Program}{ts:List TypeId}{ds:List (DataW H)}(h:(DataW.weightsEach P ts ds).all (·≤reachBytes)=true):∀(i:Nat) t d,ts[i]?=some t→ds[i]?=some d→gy P t d:=by
 refine fL fun k hk=>?_;have:=OF.1 h k hk;simpa using this
end Go.Proofs.YthebhpcjcihjgaaGreatDoor
end
section
namespace Go.Proofs.YthebhpcjcihjgaaGreatDoor
open Go Go.Sl Go.RowKit Go.Vc Go.Km Go.ab
open Go.ChangeShapes Go.WideShapes Go.ChangeAt
theorem xO (W:World) (v1 v2:Value) (g:List Dfn) (pass way r:Int) (p:List Int) (at_:Int) (h1:F.rep (lT W) W (aN g) v1) (h2:F.rep (lT W) W (.ag [byF pass,byF way,inF r,isF p,inF at_]) v2) (hL:laidMetH Tryz.prog iI W)
  (hn:g.length≤eX) (hw:∀d∈g,d.wf) (hw0:0≤way) (hw1:way≤255) (hp:p.length≤eX) :
  Calls Tryz.prog 3 #[v1,v2] W (fun e W'=>e=.returned (.bool true)∧Below W.heap.size W W'):=by
 have hr:=(BY g pass way r p at_ hn hw hw0 hw1 hp).run (lT W) W [v1,v2] (fun _ h=>h) (Nl hL) (aP h1 (aP h2 gP));refine hr.mono fun e W' ⟨v,he,hb,hv⟩=>?_
 unfold F.rep at hv;subst hv;exact⟨he,hb⟩
set_option maxRecDepth 100000 in
theorem rU(os:Os)(started:os.Started)(H:Type)(enc:TypeId×Value→H) :
  ReturnsInHanded {} Tryz.checked os 3 .any (fun w args=>(Rows.fuseDoesSpec.pre enc Tryz.prog Tryz.f3 [] false w args∧laidMetH Tryz.prog iI w)∧sizedMet enc Tryz.prog Tryz.f3 (OpenSpec.ofChange Rows.fuseDoesSpec) false w args)
   (Rows.fuseDoesSpec.post enc Tryz.prog Tryz.f3 false true false false):=by
 refine returnsInHanded_of_change_and (C:=Tryz.checked) (X:=fun w _=>laidMetH Tryz.prog iI w) (fun _ _ _ hh h=>h.of_heap hh) N7 started (by kernel_rfl) Tryz.func3
  (ChangeSpec.witness_shaped (enc:=enc) (C:=Tryz.checked) (os:=os) (X:=fun w _=>laidMetH Tryz.prog iI w) false (World.doorLaid Tryz.prog 400 os) #[.agg #[.slice none 0 0],.agg #[.int .u8 0,.int .u8 0,.int .i64 0,.slice none 0 0,.int .i64 0]] 8 rfl (World.shaped_of_RefB (by kernel_rfl) (by kernel_rfl)) (by kernel_rfl) (by kernel_rfl) (by kernel_rfl) (D5 os _)) ?_
 intro W base args ds gs before hval0 hW _ hsz0 hL _;have hsz:=FF hsz0;have hlt:∀x∈before,x.block<W.heap.size:=fun x hx=>by simpa using hW.lt x hx
 have hW':=hW;obtain⟨p,q,hA0,hV,rfl,hfz,hnd⟩:=hW;have hA:DataW.TrodAll enc Tryz.prog W 0 (fun _=>true) true Tryz.f3.params.toList args.toList ds p:=hA0;rw[Tryz.params3] at hA hsz hval0;obtain⟨v1,v2,d1,d2,p1,p2,rfl,rfl,rfl,h1,h2⟩:=trodAll_two hA;obtain⟨rfl,rfl⟩:=trodVars_none hV;have h1':=h1;obtain⟨a1,rfl,_⟩:=okWide_struct Tryz.underlying24 (hval0 0 _ _ rfl rfl);obtain⟨_,h1⟩:=h1;obtain⟨x1,hr1,hlr1,hw1⟩:=D7 h1 (hsz 0 _ _ rfl rfl);have h2':=h2;obtain⟨a2,rfl,_⟩:=okWide_struct Tryz.underlying27 (hval0 1 _ _ rfl rfl);obtain⟨_,h2⟩:=h2;obtain⟨pass,way,r,ps,at_,hr2,hb1,hb2,hb3,hb4,hb5⟩:=Ln h2 (hsz 1 _ _ rfl rfl);simp only[Oj] at hW' hlt;have hb1':∀x∈p1,x.block<W.heap.size:=fun x hx=>hlt x (by simp[hx])
 have hb2':∀x∈p2,x.block<W.heap.size:=fun x hx=>hlt x (by simp[hx])
 have hxGrammar:∀W':World,Below W.heap.size W W'→∀(v d p),DataW.Trod enc Tryz.prog W 0 (fun _=>true) true 24 v d p→(∀x∈p,x.block<W.heap.size)→DataW.Trod enc Tryz.prog W' 0 (fun b=>decide (b<W.heap.size)) true 24 v d p:=
  fun W' hb v d p h hp=>Below.trod zX (by kernel_rfl) (of_decide_eq_true (by kernel_rfl)) h hb hp
 have hxStep:∀W':World,Below W.heap.size W W'→∀(v d p),DataW.Trod enc Tryz.prog W 0 (fun _=>true) true 27 v d p→(∀x∈p,x.block<W.heap.size)→DataW.Trod enc Tryz.prog W' 0 (fun b=>decide (b<W.heap.size)) true 27 v d p:=
  fun W' hb v d p h hp=>Below.trod zX (by kernel_rfl) (of_decide_eq_true (by kernel_rfl)) h hb hp
 refine(xO W _ _ x1 pass way r ps at_ hr1 hr2 hL hlr1 hw1 hb2.1 hb2.2 hb4.1).mono fun e W' ⟨he,hb⟩=>?_;subst he
 try simp only[List.append_assoc] at hW'
 exact⟨_,rfl,_,_,_,[],p1++p2,[],hW',trodAll_mk1 (shut_bool Tryz.underlying4 _),trodAll_mk2 (hxGrammar W' hb _ _ _ h1' hb1') (hxStep W' hb _ _ _ h2' hb2'),rfl,hb.frame _,fun h=>by cases h⟩
set_option maxRecDepth 100000 in
theorem ta:Rows.FuseDoesSaid:=
 OpenClaim.holds_of_wide 3 Tryz.f3 rfl rfl rfl rfl rfl rfl rfl ⟨rfl,rfl,rfl,rfl,rfl⟩ rfl rfl rfl rfl rfl (by kernel_rfl) Tryz.func3 (by kernel_rfl)
  (of_decide_eq_true (by kernel_rfl)) (by unfold Func.isWrapper;first|(rw[if_pos (by decide +kernel)];kernel_rfl)|(rw[if_neg (by decide +kernel)];exact⟨rfl,rfl⟩))
  (fun os started H enc _=>rU os started H enc)
set_option maxRecDepth 100000 in
theorem fuseDoes_card_holds:Rows.FuseDoesCardSaid:=
 Claim7.holds_tied_plain_at .later [] [.data,.data,.data,.data,.data,.data] true (true,"724dfa8cea3df9c1452189239b2b83e2a22094e67f73e1d2469a48f3d9adde59") false
  ta (fun _ h=>by cases h) (by kernel_rfl) (fun _ h=>by cases h) fuseDoes_row_tie rfl ⟨rfl,rfl⟩ (by kernel_rfl) rfl
  (fun f fn hf hfn=>by
   obtain rfl:f=3:=Option.some.inj ((show Tryz.prog.funcNamed "bonsai/bonsailaw24.FuseDoes"=some 3 by kernel_rfl).symm.trans hf) |>.symm;obtain rfl:fn=Tryz.f3:=(Option.some.inj (Tryz.func3.symm.trans hfn)).symm;exact⟨by kernel_rfl,fun j t ht=>by
    rw[Tryz.params3] at ht;have hm:t∈[24,27]:=by simpa using Array.mem_of_getElem? ht
    have hall:([24,27].all fun u=>!Tryz.prog.wantsStandIn u)=true:=by kernel_rfl
    exact(show Tryz.prog.wantsStandIn t=false by simpa using OF.1 hall t hm)⟩)
  (by kernel_rfl)
#print axioms fuseDoes_card_holds
end Go.Proofs.YthebhpcjcihjgaaGreatDoor
end
