/- The texts that the card needs, part 11. -/
import Derived.Test.YthebhpcjcihjgaaGreatDoorP9
set_option linter.all false
section
namespace Go.ab
open Go Go.Km
structure Cnt where
 of:Tre
 least:Int
 cG:Int
def p9(t:Tre):Tre:=(ae t).headD .zero
def aD(t:Tre):Cnt:=if (av t).kind=6 then ⟨p9 t,(av t).min,(av t).max⟩ else ⟨t,1,1⟩
def eg(t u:Int):Int×Bool:=if t=-1∨u=-1 then (-1,true) else (t+u,decide (t+u≤99))
def I9(lo hi:Int):Nod:=⟨6,.zero,⟨#[]⟩,lo,hi,[]⟩
def AF(lo hi:Int)(t:Tre):Tre×Bool:=eG (I9 lo hi) [t]
def isC(c:Cnt)(lo hi:Int):Bool:=decide (c.least=lo)&&decide (c.cG=hi)
def Nv(c:Cnt):Tre×Bool:=(c.of,isC c 1 1)
def MW(c:Cnt):Tre×Bool:=(my dB,isC c 0 0)
def fp(c:Cnt):Tre×Bool:=if 1<c.least∨c.cG=0∨(av c.of).kind≠6 then (.zero,false) else if isC (aD c.of) 1 (-1)=true then AF c.least (-1) (aD c.of).of else (.zero,false)
def gH(c:Cnt):Tre×Bool:=if isC c 0 1=false∨(av c.of).kind≠6 then (.zero,false) else if 1<(aD c.of).least then (.zero,false) else AF 0 (aD c.of).cG (aD c.of).of
def bO(a b:Tre):Tre×Bool:=if ((aD b).least≠0∧(aD a).least≠(aD a).cG)∨j9 (aD a).of (aD b).of=false then (.zero,false) else if (eg (aD a).least (aD b).least).2=true∧(eg (aD a).cG (aD b).cG).2=true then AF (eg (aD a).least (aD b).least).1 (eg (aD a).cG (aD b).cG).1 (aD a).of else (.zero,false)
def fh(a b:Tre):Tre×Bool:=if (av a).kind=2∧(av b).kind=2∧(av a).text.size+(av b).text.size≤255 then (my ⟨2,.zero,(av a).text++(av b).text,0,0,[]⟩,true) else (.zero,false)
structure Cnt.wf(c:Cnt):Prop where
 of:c.of.wf
 len:c.of.nodes.length≤100000
 least:0≤c.least∧c.least≤1000
 cG:-1≤c.cG∧c.cG≤1000
theorem j7{t:Tre}(h:(av t).kind=6):ao t=true∧(ae t).length=1∧(0≤(av t).min∧(av t).min≤99)∧(-1≤(av t).max∧(av t).max≤99):=by
 cases hr:ao t with
 | false=>
  rw[av,if_neg (by rw[hr];decide)] at h
  cases h
 | true=>
  obtain⟨F,h1,h2,h3,h4,h5⟩:=fU hr;refine⟨rfl,?_,?_⟩
  ·rw[h5,Fo.bq];have:=(nu h4).2.1 (by omega);omega
  ·unfold fits at h4;rw[if_neg (by omega),if_neg (by omega),if_neg (by omega),if_neg (by omega),if_neg (by omega),if_pos h] at h4;simp only[Oi,Pp,decide_eq_true_eq] at h4;omega
theorem fa{t:Tre}(ht:t.wf)(hl:t.nodes.length≤100000):(aD t).wf:=by
 unfold aD
 split
 ·rename_i h;obtain⟨h1,h2,h3,h4⟩:=j7 h;have hm:p9 t∈ae t:=by
   rw[p9]
   cases e:ae t with
   | nil=>rw[e] at h2;cases h2
   | cons a l=>simp
  have:=bH hm;have:=(bu t).1;exact⟨dp ht _ hm,by dsimp only;omega,by dsimp only;omega,by dsimp only;omega⟩
 ·exact⟨ht,hl,by dsimp only;omega,by dsimp only;omega⟩
theorem ia{lo hi:Int}(h:-1000000≤lo∧lo≤1000000)(k:-1000000≤hi∧hi≤1000000):(⟨6,.zero,⟨#[]⟩,lo,hi,[]⟩:Nod).wf:=⟨by dsimp only;omega,by unfold Bts.wf Bts.zero;dsimp only;omega,Oq _,by unfold Go.Sl.I64;dsimp only;omega,by unfold Go.Sl.I64;dsimp only;omega,⟨Oq _,fun x hx=>by cases hx⟩⟩
end Go.ab
namespace Go.Km
open Go Go.Vc Go.Proofs Go.ab Go.Proofs.YthebhpcjcihjgaaGreatDoor
set_option maxRecDepth 100000
set_option maxHeartbeats 0
abbrev Fb(c:Cnt):F:=.ag [.sl (c.of.nodes.map aT),inF c.of.root,inF c.least,inF c.cG]
instance(t u:Int):C 78 [inF t,inF u] (.tp [inF (eg t u).1,boF (eg t u).2]) true (-1000000≤t∧t≤1000000∧-1000000≤u∧u≤1000000):=⟨fun h=>by
 by_cases e:t=-1∨u=-1
 ·have hp:eg t u=(-1,true):=by rw[eg,if_pos e]
  rw[hp];refine kf rfl rfl ?_;repeat' first|exact k9|refine k2 ?_|apply kA|apply kI;intro hc|refine k8 ?_|apply kL;intro hl
 ·have hp:eg t u=(t+u,decide (t+u≤99)):=by rw[eg,if_neg e]
  rw[hp];refine kf rfl rfl ?_;repeat' first|exact k9|refine k2 ?_|apply kA|apply kI;intro hc|refine k8 ?_|apply kL;intro hl
  exact aa.j (by rw[ed]) rfl⟩
instance(c:Cnt)(lo hi:Int):C 37 [Fb c,inF lo,inF hi] (boF (isC c lo hi)) true True:=⟨fun _=>by
 refine kf rfl rfl ?_;repeat' first|exact k9|refine k2 ?_|apply kA|apply kI;intro hc|refine k8 ?_|apply kL;intro hl
 ·exact aa.b (by rw[isC,dG,decide_eq_true hc,PG]) rfl
 ·exact aa.b (by rw[isC,decide_eq_false hc,P5]) rfl⟩
theorem Cp{t:Tre}(h:0<(ae t).length):(ae t)[0]=p9 t:=by
 rw[p9,List.headD_eq_head?_getD,List.head?_eq_getElem?,Oe h];rfl
instance(t:Tre):C 77 [aw t] (Fb (aD t)) false t.wf:=⟨fun ht=>by
 by_cases h6:(av t).kind=6
 ·have e:aD t=⟨p9 t,(av t).min,(av t).max⟩:=by rw[aD,if_pos h6]
  have hk:=(j7 h6).2.1;have hk0:∀h:0<(ae t).length,(ae t)[0]'h=p9 t:=fun h=>Cp h
  rw[e];refine kf rfl rfl ?_;repeat' first|exact k9|refine k2 ?_|apply kA|apply kI;intro hc|apply kL;intro hl|((simp only[hk0])<;>conv=>whnf)|refine k8 ?_|fail
  all_goals exact aa.i rfl
 ·have e:aD t=⟨t,1,1⟩:=by rw[aD,if_neg h6]
  rw[e];refine kf rfl rfl ?_;repeat' (first|exact k9|refine k2 ?_|apply kA|apply kI;intro hc|refine k8 ?_|apply kL;intro hl)⟩
instance(c:Cnt):C 36 [Fb c] (t2F (Nv c)) false True:=⟨fun _=>by
 refine kf rfl rfl ?_;repeat' first|exact k9|refine k2 ?_|apply kA|apply kI;intro hc|refine k8 ?_|apply kL;intro hl
 exact aa.i rfl⟩
instance(c:Cnt):C 38 [Fb c] (t2F (MW c)) false True:=⟨fun _=>by
 refine kf rfl rfl ?_;repeat' first|exact k9|refine k2 ?_|apply kA|apply kI;intro hc|refine k8 ?_|apply kL;intro hl
 exact aa.i rfl⟩
instance(c:Cnt):C 41 [Fb c] (t2F (fp c)) false c.wf:=⟨fun hc0=>by
 have hw:=fa hc0.of hc0.len;have hof:=hc0.of;have h1:=hc0.least
 by_cases h:1<c.least∨c.cG=0∨(av c.of).kind≠6
 ·have e:fp c=(.zero,false):=by rw[fp,if_pos h]
  rw[e];refine kf rfl rfl ?_;repeat' first|exact k9|refine k2 ?_|apply kA|apply kI;intro hc|refine k8 ?_|apply kL;intro hl
  all_goals first|exact aa.i rfl|(exfalso;omega)
 ·have hrp:(aD c.of).of.wf∧(aD c.of).of.nodes.length+1≤1466015503701∧(⟨6,.zero,⟨#[]⟩,c.least,-1,[]⟩:Nod).wf:=⟨hw.of,by have:=hw.len;omega,ia (by omega) (by omega)⟩
  cases h2:isC (aD c.of) 1 (-1) with
  | true=>
   have e:fp c=AF c.least (-1) (aD c.of).of:=by rw[fp,if_neg h,if_pos h2]
   rw[e];refine kf rfl rfl ?_;repeat' first|exact k9|refine k2 ?_|apply kA|apply kI;intro hc|refine k8 ?_|apply kL;intro hl
   all_goals exact aa.i rfl
  | false=>
   have e:fp c=(.zero,false):=by rw[fp,if_neg h,if_neg (by rw[h2];decide)]
   rw[e];refine kf rfl rfl ?_;repeat' first|exact k9|refine k2 ?_|apply kA|apply kI;intro hc|refine k8 ?_|apply kL;intro hl
   all_goals exact aa.i rfl⟩
instance(c:Cnt):C 42 [Fb c] (t2F (gH c)) false c.wf:=⟨fun hc0=>by
 have hw:=fa hc0.of hc0.len;have hof:=hc0.of;have h1:=hw.cG;have hrp:(aD c.of).of.wf∧(aD c.of).of.nodes.length+1≤1466015503701∧(⟨6,.zero,⟨#[]⟩,0,(aD c.of).cG,[]⟩:Nod).wf:=⟨hw.of,by have:=hw.len;omega,ia (by omega) (by omega)⟩
 cases hb:isC c 0 1 with
 | false=>
  have e:gH c=(.zero,false):=by rw[gH,if_pos (.inl hb)]
  rw[e];refine kf rfl rfl ?_;repeat' first|exact k9|refine k2 ?_|apply kA|apply kI;intro hc|refine k8 ?_|apply kL;intro hl
  all_goals exact aa.i rfl
 | true=>
  by_cases h6:(av c.of).kind=6
  ·have hn:¬(isC c 0 1=false∨(av c.of).kind≠6):=by rw[hb];simp[h6]
   by_cases h2:1<(aD c.of).least
   ·have e:gH c=(.zero,false):=by rw[gH,if_neg hn,if_pos h2]
    rw[e];refine kf rfl rfl ?_;repeat' first|exact k9|refine k2 ?_|apply kA|apply kI;intro hc|refine k8 ?_|apply kL;intro hl
    all_goals exact aa.i rfl
   ·have e:gH c=AF 0 (aD c.of).cG (aD c.of).of:=by rw[gH,if_neg hn,if_neg h2]
    rw[e];refine kf rfl rfl ?_;repeat' first|exact k9|refine k2 ?_|apply kA|apply kI;intro hc|refine k8 ?_|apply kL;intro hl
    all_goals exact aa.i rfl
  ·have e:gH c=(.zero,false):=by rw[gH,if_pos (.inr h6)]
   rw[e];refine kf rfl rfl ?_;repeat' first|exact k9|refine k2 ?_|apply kA|apply kI;intro hc|refine k8 ?_|apply kL;intro hl
   all_goals exact aa.i rfl⟩
theorem bfF{x:Bool}(h:x=true)(k:x=false):False:=by rw[h] at k;cases k
instance(a b:Tre):C 40 [aw a,aw b] (t2F (bO a b)) false (a.wf∧b.wf∧a.nodes.length≤100000∧b.nodes.length≤100000):=⟨fun ⟨ha,hb,hal,hbl⟩=>by
 have hwa:=fa ha hal;have hwb:=fa hb hbl;have h1:=hwa.least;have h2:=hwa.cG;have h3:=hwb.least;have h4:=hwb.cG;have hsp:(aD a).of.wf∧(aD b).of.wf:=⟨hwa.of,hwb.of⟩
 have hp1:-1000000≤(aD a).least∧(aD a).least≤1000000∧-1000000≤(aD b).least∧(aD b).least≤1000000:=by omega
 have hp2:-1000000≤(aD a).cG∧(aD a).cG≤1000000∧-1000000≤(aD b).cG∧(aD b).cG≤1000000:=by omega
 have hpb:∀u v:Int,-1≤u→u≤1000→-1≤v→v≤1000→-1000000≤(eg u v).1∧(eg u v).1≤1000000:=fun u v _ _ _ _=>by
  unfold eg
  split
  ·dsimp only;omega
  ·dsimp only;omega
 have hr2:(aD a).of.wf∧(aD a).of.nodes.length+1≤1466015503701∧(⟨6,.zero,⟨#[]⟩,(eg (aD a).least (aD b).least).1,(eg (aD a).cG (aD b).cG).1,[]⟩:Nod).wf:=⟨hwa.of,by have:=hwa.len;omega,ia (hpb _ _ (by omega) (by omega) (by omega) (by omega)) (hpb _ _ (by omega) (by omega) (by omega) (by omega))⟩
 clear hpb h1 h2 h3 h4;refine kf rfl rfl ?_;repeat' first|exact k9|refine k2 ?_|apply kA|apply kI;intro hc|refine k8 ?_|apply kL;intro hl
 all_goals
  clear hr2 hp1 hp2 hsp hwa hwb ha hb hal hbl
  first
   | (rw[bO,if_pos (by first|exact .inr (by assumption)|exact .inl ⟨by assumption,by assumption⟩)];exact aa.i rfl)
   | (rw[bO,if_neg (by rintro(⟨h1,h2⟩|h1)<;>first|exact absurd (by assumption) h1|exact absurd (by assumption) h2|exact(bfF (by assumption) h1).elim),if_pos ⟨by assumption,by assumption⟩];exact aa.i rfl)
   | (rw[bO,if_neg (by rintro(⟨h1,h2⟩|h1)<;>first|exact absurd (by assumption) h1|exact absurd (by assumption) h2|exact(bfF (by assumption) h1).elim),if_neg (by rintro⟨h1,h2⟩;first|exact(bfF h1 (by assumption)).elim|exact(bfF h2 (by assumption)).elim)];exact aa.i rfl)⟩
instance(a b:Tre):C 43 [aw a,aw b] (t2F (fh a b)) false (a.wf∧b.wf):=⟨fun ⟨ha,hb⟩=>by
 have h1:=(iu ha).text;have h2:=(iu hb).text;refine kf rfl rfl ?_;repeat' first|exact k9|refine k2 ?_|apply kA|apply kI;intro hc|refine k8 ?_|apply kL;intro hl
 ·rw[fh,if_neg (by omega)];exact aa.i rfl
 ·rw[fh,if_pos (by omega)];refine aa.i ?_;rw[xF]
 ·rw[fh,if_neg (by omega)];exact aa.i rfl
 ·rw[fh,if_neg (by omega)];exact aa.i rfl⟩
end Go.Km
end
section
namespace Go.ab
open Go Go.Km
structure dw where
 r:Int
 p:List Int
 t:Tre
 kind:Int
 kids:List Tre
def dw.zero:dw:=⟨0,[],.zero,0,[]⟩
def dn(g:List Dfn)(r:Int)(p:List Int):dw×Bool:=if (aY g r p).2=true then (⟨r,p,(aY g r p).1,(av (aY g r p).1).kind,ae (aY g r p).1⟩,true) else (.zero,false)
def gR(k:Nat):Bool:=k==1||k==2||k==4||k==5
def dW(k:Nat):Bool:=k==3||k==6
def aJ(k:Nat)(s:dw):Int:=if gR k=true∧s.kind=6 then 1 else if dW k=true∧s.kind=4 then (s.kids.length:Int) - 1 else 0
def nA(k:Nat)(c:Cnt):Tre×Bool:=if k=1 then Nv c else if k=2 then MW c else if k=4 then fp c else gH c
def kX(k:Nat)(a b:Tre):Tre×Bool:=if k=3 then bO a b else fh a b
def ba(k:Nat)(s:dw)(at_:Int):Tre×Bool:=if gR k=true then nA k (aD s.t) else
 if (kX k (s.kids.getD at_.toNat .zero) (s.kids.getD (at_+1).toNat .zero)).2=true then eG b5 (s.kids.take at_.toNat++[(kX k (s.kids.getD at_.toNat .zero) (s.kids.getD (at_+1).toNat .zero)).1]++s.kids.drop (at_+2).toNat) else (.zero,false)
def ez(k:Nat)(g:List Dfn)(s:dw)(at_:Int):List Dfn×Bool:=if at_<0∨aJ k s≤at_∨(ba k s at_).2=false∨(aX g s.r s.p (ba k s at_).1).2=false∨dL (aX g s.r s.p (ba k s at_).1).1≠0 then ([],false) else ((aX g s.r s.p (ba k s at_).1).1,true)
def a7(g:List Dfn)(pass way r:Int)(p:List Int)(at_:Int):List Dfn×Int:=if dL g≠0 then ([],dL g) else if (dn g r p).2=false∨pass≠6∨7≤way∨(ez way.toNat g (dn g r p).1 at_).2=false then ([],47) else ((ez way.toNat g (dn g r p).1 at_).1,0)
structure dw.wf(s:dw):Prop where
 p:s.p.length≤1000000
 t:s.t.wf
 len:s.t.nodes.length≤20000
 kind:0≤s.kind∧s.kind≤255
 kids:∀x∈s.kids,x.wf
 tot:tot s.kids≤20000
 kl:s.kids.length≤20000
theorem mw(t:Tre):(aD t).of.nodes.length≤t.nodes.length:=by
 unfold aD
 split
 ·rename_i h;have h2:=(j7 h).2.1;have hm:p9 t∈ae t:=by rw[←Go.Km.Cp (by omega)];exact Of _
  have:=bH hm;have:=(bu t).1;dsimp only;omega
 ·exact Ov _
theorem xK{lo hi:Int}{t:Tre}(h:-1000000≤lo∧lo≤1000000)(k:-1000000≤hi∧hi≤1000000)(ht:t.wf)(hl:t.nodes.length≤100000):(AF lo hi t).1.wf∧(AF lo hi t).1.nodes.length≤t.nodes.length+1:=by
 refine⟨Dh (n:=I9 lo hi) (ia h k) (by simpa using ht) (by simp only[tot,OB,P0,P4,Rw];unfold b9;omega),?_⟩;have h1:=pb (I9 lo hi) [t];have h2:tot [t]=t.nodes.length:=by simp[tot]
 rw[h2] at h1;exact h1
theorem C8{u v:Int}(h1:-1≤u)(h2:u≤1000)(h3:-1≤v)(h4:v≤1000):-1000000≤(eg u v).1∧(eg u v).1≤1000000:=by
 unfold eg
 split
 ·dsimp only;omega
 ·dsimp only;omega
theorem MK:Tre.zero.wf∧Tre.zero.nodes.length≤100000:=⟨Tre.aV,by decide⟩
theorem tO{a b:Tre}(ha:a.wf)(hb:b.wf)(hal:a.nodes.length≤100000)(hbl:b.nodes.length≤100000):(bO a b).1.wf∧(bO a b).1.nodes.length≤100001:=by
 have hwa:=fa ha hal;have hwb:=fa hb hbl;have h1:=hwa.least;have h2:=hwa.cG;have h3:=hwb.least;have h4:=hwb.cG;unfold bO
 split
 ·exact⟨Tre.aV,by decide⟩
 split
 ·obtain⟨q1,q2⟩:=xK (C8 (u:=(aD a).least) (v:=(aD b).least) (by omega) (by omega) (by omega) (by omega)) (C8 (u:=(aD a).cG) (v:=(aD b).cG) (by omega) (by omega) (by omega) (by omega)) hwa.of hwa.len;have:=hwa.len;exact⟨q1,by omega⟩
 ·exact⟨Tre.aV,by decide⟩
theorem sP{n:Nod}(h:n.wf):(my n).wf:=⟨by show 1≤b9;decide,by simp only[my,Pj];rintro m rfl;exact h,by show Go.Sl.I64 0;unfold Go.Sl.I64;decide⟩
theorem xL{a b:Tre}(ha:a.wf)(hb:b.wf)(hal:a.nodes.length≤100000)(hbl:b.nodes.length≤100000):(fh a b).1.wf∧(fh a b).1.nodes.length≤100001:=by
 unfold fh
 split
 ·rename_i h;refine⟨sP ⟨by dsimp only;omega,by unfold Bts.wf Bts.zero;dsimp only;omega,?_,by unfold Go.Sl.I64;dsimp only;omega,by unfold Go.Sl.I64;dsimp only;omega,⟨Oq _,fun x hx=>by cases hx⟩⟩,by simp[my]⟩;dsimp only;rw[ByteArray.size_append];omega
 ·exact⟨Tre.aV,by decide⟩
theorem cy(a b:List Tre):tot (a++b)=tot a+tot b:=by simp[tot]
theorem sm{s:dw}{x:Tre}{q:Nat}(hs:s.wf)(hx:x.wf∧x.nodes.length≤100001):(s.kids.take q++[x]++s.kids.drop (q+2)).length≤1466015503701∧(∀t∈(s.kids.take q++[x]++s.kids.drop (q+2)),t.wf)∧tot (s.kids.take q++[x]++s.kids.drop (q+2))+1≤1466015503701:=by
 have hkl:=hs.kl;have ht:=hs.tot;have h1:tot s.kids=tot (s.kids.take q)+tot (s.kids.drop q):=by rw[←cy,List.take_append_drop]
 have h2:tot (s.kids.drop (q+2))≤tot (s.kids.drop q):=by
  rw[show s.kids.drop (q+2)=(s.kids.drop q).drop 2 by rw[List.drop_drop]];have:tot (s.kids.drop q)=tot ((s.kids.drop q).take 2)+tot ((s.kids.drop q).drop 2):=by rw[←cy,List.take_append_drop]
  omega
 refine⟨by simp only[Oh,Ou,Og,Ol,OX];omega,fun t ht=>?_,?_⟩
 ·simp only[Oy,Pj] at ht;rcases ht with (ht|rfl)|ht
  ·exact hs.kids t (OC ht)
  ·exact hx.1
  ·exact hs.kids t (OM ht)
 ·rw[cy,cy,show tot [x]=x.nodes.length by simp[tot]];omega
end Go.ab
namespace Go.Km
open Go Go.Vc Go.Proofs Go.ab Go.Proofs.YthebhpcjcihjgaaGreatDoor
set_option maxRecDepth 100000
set_option maxHeartbeats 0
theorem Na(l:List Tre):C 83 [dO l] (t2F (eG b5 l)) false (l.length≤1466015503701∧(∀t∈l,t.wf)∧tot l+1≤1466015503701):=inferInstance
theorem jL.seq{P:Program}{Γ:Nat→Option (List F)}{f:Nat}{l l':List F}{r:F}{b:Bool}{pre:Prop}{k:F×Bool→Prop}(h:KC P Γ f l' r b pre)(e:l=l')(hp:pre)(hk:k (r,b)):jL P Γ f l k:=by subst e;exact⟨(r,b),h.h hp,hk⟩
theorem fT{l:List Tre}{i j:Nat}:kF 2 (List.drop i (List.take j (l.map fg)))=true:=by
 rw[kF,OF];intro r hr;obtain⟨x,_,rfl⟩:=Pq.1 (OC (OM hr));rfl
abbrev bU:F:=.vl .nilFunc
abbrev fY(s:dw):F:=.ag [inF s.r,isF s.p,.sl (s.t.nodes.map aT),inF s.t.root,byF s.kind,.sl (s.kids.map fg)]
instance:C 18 [] (.ag [bU,bU,.cl 36 [],bU,.cl 38 [],bU,bU,.cl 40 [],.cl 41 [],bU,.cl 42 [],bU,bU,.cl 43 []]) true True:=⟨fun _=>by
 refine kf rfl rfl ?_;repeat' (first|exact k9|refine k2 ?_|apply kA|apply kI;intro hc|refine k8 ?_|apply kL;intro hl)⟩
instance(g:List Dfn)(r:Int)(p:List Int):C 19 [aN g,.ag [inF r,isF p]] (.tp [fY (dn g r p).1,boF (dn g r p).2]) false ((g.length≤1000∧(∀d∈g,d.wf)∧p.length≤1000000)∧(aY g r p).1.wf):=⟨fun ⟨h,hf⟩=>by
 cases hb:(aY g r p).2 with
 | true=>
  have e:dn g r p=(⟨r,p,(aY g r p).1,(av (aY g r p).1).kind,ae (aY g r p).1⟩,true):=by rw[dn,if_pos hb]
  rw[e];refine kf rfl rfl ?_;repeat' first|exact k9|refine k2 ?_|apply kA|apply kI;intro hc|refine k8 ?_|apply kL;intro hl
 | false=>
  have e:dn g r p=(.zero,false):=by rw[dn,if_neg (by rw[hb];decide)]
  rw[e];refine kf rfl rfl ?_;repeat' first|exact k9|refine k2 ?_|apply kA|apply kI;intro hc|refine k8 ?_|apply kL;intro hl
  exact aa.i rfl⟩
theorem su(f k:Nat)(h1:gR k=true)(h2:dW k=false)(s:dw)(hk:s.kids.length≤1000000):Pure Tryz.prog X1.Γ 47 [.ag [.cl f [],bU],fY s] (inF (aJ k s)) true:=by
 by_cases h6:s.kind=6
 ·refine kf rfl rfl ?_;repeat' first|exact k9|refine k2 ?_|apply kA|apply kI;intro hc|refine k8 ?_|apply kL;intro hl
  all_goals exact aa.n (by simp[aJ,h1,h2,h6]) rfl
 ·refine kf rfl rfl ?_;repeat' first|exact k9|refine k2 ?_|apply kA|apply kI;intro hc|refine k8 ?_|apply kL;intro hl
  all_goals exact aa.n (by simp[aJ,h1,h2,h6]) rfl
theorem DE(f k:Nat)(h1:gR k=false)(h2:dW k=true)(s:dw)(hk:s.kids.length≤1000000):Pure Tryz.prog X1.Γ 47 [.ag [bU,.cl f []],fY s] (inF (aJ k s)) true:=by
 by_cases h4:s.kind=4
 ·refine kf rfl rfl ?_;repeat' first|exact k9|refine k2 ?_|apply kA|apply kI;intro hc|refine k8 ?_|apply kL;intro hl
  all_goals exact aa.n (by simp[aJ,h1,h2,h4]) rfl
 ·refine kf rfl rfl ?_;repeat' first|exact k9|refine k2 ?_|apply kA|apply kI;intro hc|refine k8 ?_|apply kL;intro hl
  all_goals exact aa.n (by simp[aJ,h1,h2,h4]) rfl
instance(s:dw):C 47 [.ag [bU,bU],fY s] (inF (aJ 0 s)) true (s.kids.length≤1000000):=⟨fun hk=>by
 have e:aJ 0 s=0:=rfl;rw[e];refine kf rfl rfl ?_;repeat' first|exact k9|refine k2 ?_|apply kA|apply kI;intro hc|refine k8 ?_|apply kL;intro hl
 all_goals exact aa.n rfl rfl⟩
instance(s:dw):C 47 [.ag [.cl 36 [],bU],fY s] (inF (aJ 1 s)) true (s.kids.length≤1000000):=⟨fun hk=>su _ 1 rfl rfl s hk⟩
instance(s:dw):C 47 [.ag [.cl 38 [],bU],fY s] (inF (aJ 2 s)) true (s.kids.length≤1000000):=⟨fun hk=>su _ 2 rfl rfl s hk⟩
instance(s:dw):C 47 [.ag [bU,.cl 40 []],fY s] (inF (aJ 3 s)) true (s.kids.length≤1000000):=⟨fun hk=>DE _ 3 rfl rfl s hk⟩
instance(s:dw):C 47 [.ag [.cl 41 [],bU],fY s] (inF (aJ 4 s)) true (s.kids.length≤1000000):=⟨fun hk=>su _ 4 rfl rfl s hk⟩
instance(s:dw):C 47 [.ag [.cl 42 [],bU],fY s] (inF (aJ 5 s)) true (s.kids.length≤1000000):=⟨fun hk=>su _ 5 rfl rfl s hk⟩
instance(s:dw):C 47 [.ag [bU,.cl 43 []],fY s] (inF (aJ 6 s)) true (s.kids.length≤1000000):=⟨fun hk=>DE _ 6 rfl rfl s hk⟩
instance(s:dw)(at_:Int):C 48 [.ag [.cl 36 [],bU],fY s,inF at_] (t2F (ba 1 s at_)) false (s.wf∧(dW 1=true→0≤at_∧at_+2≤s.kids.length)):=⟨fun ⟨hs,_⟩=>by
 have hst:=hs.t;have hcw:=fa hs.t (by have:=hs.len;omega);have e:ba 1 s at_=nA 1 (aD s.t):=by rw[ba,if_pos (show gR 1=true from rfl)]
 rw[e];refine kf rfl rfl ?_;repeat' first|exact k9|refine k2 ?_|apply kA|apply kI;intro hc|refine k8 ?_|apply kL;intro hl
 all_goals exact aa.i rfl⟩
instance(s:dw)(at_:Int):C 48 [.ag [.cl 38 [],bU],fY s,inF at_] (t2F (ba 2 s at_)) false (s.wf∧(dW 2=true→0≤at_∧at_+2≤s.kids.length)):=⟨fun ⟨hs,_⟩=>by
 have hst:=hs.t;have hcw:=fa hs.t (by have:=hs.len;omega);have e:ba 2 s at_=nA 2 (aD s.t):=by rw[ba,if_pos (show gR 2=true from rfl)]
 rw[e];refine kf rfl rfl ?_;repeat' first|exact k9|refine k2 ?_|apply kA|apply kI;intro hc|refine k8 ?_|apply kL;intro hl
 all_goals exact aa.i rfl⟩
instance(s:dw)(at_:Int):C 48 [.ag [.cl 41 [],bU],fY s,inF at_] (t2F (ba 4 s at_)) false (s.wf∧(dW 4=true→0≤at_∧at_+2≤s.kids.length)):=⟨fun ⟨hs,_⟩=>by
 have hst:=hs.t;have hcw:=fa hs.t (by have:=hs.len;omega);have e:ba 4 s at_=nA 4 (aD s.t):=by rw[ba,if_pos (show gR 4=true from rfl)]
 rw[e];refine kf rfl rfl ?_;repeat' first|exact k9|refine k2 ?_|apply kA|apply kI;intro hc|refine k8 ?_|apply kL;intro hl
 all_goals exact aa.i rfl⟩
instance(s:dw)(at_:Int):C 48 [.ag [.cl 42 [],bU],fY s,inF at_] (t2F (ba 5 s at_)) false (s.wf∧(dW 5=true→0≤at_∧at_+2≤s.kids.length)):=⟨fun ⟨hs,_⟩=>by
 have hst:=hs.t;have hcw:=fa hs.t (by have:=hs.len;omega);have e:ba 5 s at_=nA 5 (aD s.t):=by rw[ba,if_pos (show gR 5=true from rfl)]
 rw[e];refine kf rfl rfl ?_;repeat' first|exact k9|refine k2 ?_|apply kA|apply kI;intro hc|refine k8 ?_|apply kL;intro hl
 all_goals exact aa.i rfl⟩
instance(s:dw)(at_:Int):C 48 [.ag [bU,.cl 40 []],fY s,inF at_] (t2F (ba 3 s at_)) false (s.wf∧(dW 3=true→0≤at_∧at_+2≤s.kids.length)):=⟨fun ⟨hs,hat⟩=>by
 obtain⟨h0,h2⟩:=hat rfl;obtain⟨q,rfl⟩:∃q:Nat,at_=q:=⟨at_.toNat,by omega⟩
 have hkl:=hs.kl;have hq1:q<s.kids.length:=by omega
 have hq2:q+1<s.kids.length:=by omega
 have hbi:∀h:(((q:Nat):Int)+1).toNat<s.kids.length,s.kids[(((q:Nat):Int)+1).toNat]'h=s.kids[q+1]:=fun h=>by
  simp only[show(((q:Nat):Int)+1).toNat=q+1 by omega]
 have hga:s.kids.getD ((q:Nat):Int).toNat .zero=s.kids[q]:=by rw[Oo,List.getD_eq_getElem?_getD,Oe hq1];rfl
 have hgb:s.kids.getD (((q:Nat):Int)+1).toNat .zero=s.kids[q+1]:=by rw[show(((q:Nat):Int)+1).toNat=q+1 by omega,List.getD_eq_getElem?_getD,Oe hq2];rfl
 have hma:s.kids[q]∈s.kids:=Of _;have hmb:s.kids[q+1]∈s.kids:=Of _;have hpre:s.kids[q].wf∧s.kids[q+1].wf∧s.kids[q].nodes.length≤100000∧s.kids[q+1].nodes.length≤100000:=⟨hs.kids _ hma,hs.kids _ hmb,by have:=bH hma;have:=hs.tot;omega,by have:=bH hmb;have:=hs.tot;omega⟩
 have hpre2:s.kids[q].wf∧s.kids[q+1].wf:=⟨hpre.1,hpre.2.1⟩
 cases hx:(bO s.kids[q] s.kids[q+1]).2 with
 | true=>
  have e:ba 3 s (q:Int)=eG b5 (s.kids.take q++[(bO s.kids[q] s.kids[q+1]).1]++s.kids.drop (q+2)):=by rw[ba,if_neg (by decide),hga,hgb,show kX 3 s.kids[q] s.kids[q+1]=bO s.kids[q] s.kids[q+1] from rfl,if_pos hx,Oo,show(((q:Nat):Int)+2).toNat=q+2 by omega]
  have hseq:=sm (q:=q) hs (tO hpre.1 hpre.2.1 hpre.2.2.1 hpre.2.2.2);rw[e];refine kf rfl rfl ?_;repeat' first|exact k9|refine k2 ?_|apply kA|apply kI;intro hc|apply kL;intro hl|((simp only[hbi])<;>conv=>whnf)|((refine jL.seq (Na (s.kids.take q++[(bO s.kids[q] s.kids[q+1]).1]++s.kids.drop (q+2))) ?_ hseq ?_)<;>conv=>whnf)|refine k8 ?_|fail
  ·exact⟨fT⟩
  ·exact⟨fT⟩
  ·simp only[dO,Pb,OU,List.map_append,List.map_take,List.map_drop];rfl
 | false=>
  have e:ba 3 s (q:Int)=(.zero,false):=by rw[ba,if_neg (by decide),hga,hgb,show kX 3 s.kids[q] s.kids[q+1]=bO s.kids[q] s.kids[q+1] from rfl,if_neg (by rw[hx];decide)]
  rw[e];refine kf rfl rfl ?_;repeat' first|exact k9|refine k2 ?_|apply kA|apply kI;intro hc|apply kL;intro hl|((simp only[hbi])<;>conv=>whnf)|refine k8 ?_|fail
  exact aa.i rfl⟩
instance(s:dw)(at_:Int):C 48 [.ag [bU,.cl 43 []],fY s,inF at_] (t2F (ba 6 s at_)) false (s.wf∧(dW 6=true→0≤at_∧at_+2≤s.kids.length)):=⟨fun ⟨hs,hat⟩=>by
 obtain⟨h0,h2⟩:=hat rfl;obtain⟨q,rfl⟩:∃q:Nat,at_=q:=⟨at_.toNat,by omega⟩
 have hkl:=hs.kl;have hq1:q<s.kids.length:=by omega
 have hq2:q+1<s.kids.length:=by omega
 have hbi:∀h:(((q:Nat):Int)+1).toNat<s.kids.length,s.kids[(((q:Nat):Int)+1).toNat]'h=s.kids[q+1]:=fun h=>by
  simp only[show(((q:Nat):Int)+1).toNat=q+1 by omega]
 have hga:s.kids.getD ((q:Nat):Int).toNat .zero=s.kids[q]:=by rw[Oo,List.getD_eq_getElem?_getD,Oe hq1];rfl
 have hgb:s.kids.getD (((q:Nat):Int)+1).toNat .zero=s.kids[q+1]:=by rw[show(((q:Nat):Int)+1).toNat=q+1 by omega,List.getD_eq_getElem?_getD,Oe hq2];rfl
 have hma:s.kids[q]∈s.kids:=Of _;have hmb:s.kids[q+1]∈s.kids:=Of _;have hpre:s.kids[q].wf∧s.kids[q+1].wf∧s.kids[q].nodes.length≤100000∧s.kids[q+1].nodes.length≤100000:=⟨hs.kids _ hma,hs.kids _ hmb,by have:=bH hma;have:=hs.tot;omega,by have:=bH hmb;have:=hs.tot;omega⟩
 have hpre2:s.kids[q].wf∧s.kids[q+1].wf:=⟨hpre.1,hpre.2.1⟩
 cases hx:(fh s.kids[q] s.kids[q+1]).2 with
 | true=>
  have e:ba 6 s (q:Int)=eG b5 (s.kids.take q++[(fh s.kids[q] s.kids[q+1]).1]++s.kids.drop (q+2)):=by rw[ba,if_neg (by decide),hga,hgb,show kX 6 s.kids[q] s.kids[q+1]=fh s.kids[q] s.kids[q+1] from rfl,if_pos hx,Oo,show(((q:Nat):Int)+2).toNat=q+2 by omega]
  have hseq:=sm (q:=q) hs (xL hpre.1 hpre.2.1 hpre.2.2.1 hpre.2.2.2);rw[e];refine kf rfl rfl ?_;repeat' first|exact k9|refine k2 ?_|apply kA|apply kI;intro hc|apply kL;intro hl|((simp only[hbi])<;>conv=>whnf)|((refine jL.seq (Na (s.kids.take q++[(fh s.kids[q] s.kids[q+1]).1]++s.kids.drop (q+2))) ?_ hseq ?_)<;>conv=>whnf)|refine k8 ?_|fail
  ·exact⟨fT⟩
  ·exact⟨fT⟩
  ·simp only[dO,Pb,OU,List.map_append,List.map_take,List.map_drop];rfl
 | false=>
  have e:ba 6 s (q:Int)=(.zero,false):=by rw[ba,if_neg (by decide),hga,hgb,show kX 6 s.kids[q] s.kids[q+1]=fh s.kids[q] s.kids[q+1] from rfl,if_neg (by rw[hx];decide)]
  rw[e];refine kf rfl rfl ?_;repeat' first|exact k9|refine k2 ?_|apply kA|apply kI;intro hc|apply kL;intro hl|((simp only[hbi])<;>conv=>whnf)|refine k8 ?_|fail
  exact aa.i rfl⟩
end Go.Km
end
section
namespace Go.ab
open Go Go.Km
theorem F3{k:Nat}{s:dw}{at_:Int}(h:dW k=true)(h0:0≤at_)(h1:at_<aJ k s):0≤at_∧at_+2≤s.kids.length:=by
 have hr:gR k=false:=by
  simp only[dW,Pp,beq_iff_eq] at h;rcases h with rfl|rfl<;>rfl
 unfold aJ at h1;rw[if_neg (by rw[hr];simp)] at h1
 split at h1<;>omega
theorem DL{k:Nat}{c:Cnt}(hc:c.wf):(nA k c).1.wf∧(nA k c).1.nodes.length≤c.of.nodes.length+1:=by
 have hl:=hc.least;have hw:=fa hc.of hc.len;have hcl:=mw c.of;have h1:=hw.cG;unfold nA
 split
 ·exact⟨hc.of,Nat.le_succ _⟩
 split
 ·exact⟨sP wD,by show 1≤_;omega⟩
 split
 ·unfold fp
  split
  ·exact⟨Tre.aV,Oq _⟩
  split
  ·obtain⟨q1,q2⟩:=xK (lo:=c.least) (hi:=-1) (by omega) (by omega) hw.of hw.len;exact⟨q1,by omega⟩
  ·exact⟨Tre.aV,Oq _⟩
 ·unfold gH
  split
  ·exact⟨Tre.aV,Oq _⟩
  split
  ·exact⟨Tre.aV,Oq _⟩
  ·obtain⟨q1,q2⟩:=xK (lo:=0) (hi:=(aD c.of).cG) (by omega) (by omega) hw.of hw.len;exact⟨q1,by omega⟩
theorem qO(a b:Tre):(bO a b).1.nodes.length≤a.nodes.length+1:=by
 unfold bO
 split
 ·exact Oq _
 split
 ·have h1:=pb (I9 (eg (aD a).least (aD b).least).1 (eg (aD a).cG (aD b).cG).1) [(aD a).of];have h2:tot [(aD a).of]=(aD a).of.nodes.length:=by simp[tot]
  have h3:=mw a;rw[h2] at h1;exact OA h1 (by omega)
 ·exact Oq _
theorem ua(a b:Tre):(fh a b).1.nodes.length≤1:=by
 unfold fh
 split
 ·exact Ov _
 ·exact Oq _
theorem Dm{l:List Tre}(h:∀t∈l,t.wf)(i:Nat):(l.getD i .zero).wf:=by
 rw[List.getD_eq_getElem?_getD]
 cases e:l[i]? with
 | none=>exact Tre.aV
 | some t=>exact h t (OI e)
theorem tI{l:List Tre}(i:Nat):(l.getD i .zero).nodes.length≤tot l:=by
 rw[List.getD_eq_getElem?_getD]
 cases e:l[i]? with
 | none=>exact Oq _
 | some t=>exact bH (OI e)
theorem sg{k:Nat}{s:dw}{at_:Int}(hs:s.wf):(ba k s at_).1.wf∧(ba k s at_).1.nodes.length≤100000:=by
 have hl:=hs.len;have ht:=hs.tot;unfold ba
 split
 ·have hc:=fa hs.t (by omega);obtain⟨q1,q2⟩:=DL (k:=k) hc;have:=mw s.t;exact⟨q1,by omega⟩
 ·split
  ·obtain⟨a,ha⟩:=exEq (s.kids.getD at_.toNat .zero);obtain⟨b,hb⟩:=exEq (s.kids.getD (at_+1).toNat .zero);rw[←ha,←hb];have haw:a.wf:=by rw[ha];exact Dm hs.kids _
   have hbw:b.wf:=by rw[hb];exact Dm hs.kids _
   have hal:a.nodes.length≤20000:=by rw[ha];exact OA (tI _) ht
   have hbl:b.nodes.length≤20000:=by rw[hb];exact OA (tI _) ht
   have hx:(kX k a b).1.wf∧(kX k a b).1.nodes.length≤20001:=by
    unfold kX
    split
    ·exact⟨(tO haw hbw (by omega) (by omega)).1,OA (qO a b) (by omega)⟩
    ·exact⟨(xL haw hbw (by omega) (by omega)).1,OA (ua a b) (by omega)⟩
   have hm:∀t∈(s.kids.take at_.toNat++[(kX k a b).1]++s.kids.drop (at_+2).toNat),t.wf:=fun t ht=>by
    simp only[Oy,Pj] at ht;rcases ht with (ht|rfl)|ht
    ·exact hs.kids t (OC ht)
    ·exact hx.1
    ·exact hs.kids t (OM ht)
   have h1:tot s.kids=tot (s.kids.take at_.toNat)+tot (s.kids.drop at_.toNat):=by rw[←cy,List.take_append_drop]
   have h2:tot s.kids=tot (s.kids.take (at_+2).toNat)+tot (s.kids.drop (at_+2).toNat):=by rw[←cy,List.take_append_drop]
   have h3:tot (s.kids.take at_.toNat++[(kX k a b).1]++s.kids.drop (at_+2).toNat)≤60001:=by
    rw[cy,cy,show tot [(kX k a b).1]=(kX k a b).1.nodes.length by simp[tot]];omega
   refine⟨Dh kx hm (by unfold b9;omega),OA (pb _ _) (by omega)⟩
  ·exact⟨Tre.aV,Oq _⟩
theorem Ik{g:List Dfn}{r:Int}{t:Tre}(hg:∀d∈g,d.wf)(ht:t.wf)(hn:g.length≤1000):(lI g r t).1.length≤1000∧∀d∈(lI g r t).1,d.wf:=by
 unfold lI
 split
 ·rename_i h;refine⟨by simpa using hn,fun d hd=>?_⟩;rcases PI hd with hd|rfl
  ·exact hg d hd
  ·exact⟨(hg _ (Of _)).name,ht⟩
 ·exact⟨Oq _,fun d hd=>by cases hd⟩
theorem qG{g:List Dfn}{r:Int}{p:List Int}{x:Tre}(hn:g.length≤1000)(hg:∀d∈g,d.wf∧0<d.body.nodes.length∧d.body.nodes.length≤100000)(hp:p.length≤1000000)(hx:x.wf)(hxl:x.nodes.length≤100000):(aX g r p x).1.length≤1000∧∀d∈(aX g r p x).1,d.wf:=by
 unfold aX
 split
 ·rename_i h
  split
  ·rename_i h2;obtain⟨h3,h4,h5⟩:=hg _ (Of (show r.toNat<g.length by omega));exact Ik (fun d hd=>(hg d hd).1) (yA h3.body hx h5 hxl hp h2).1 hn
  ·exact⟨Oq _,fun d hd=>by cases hd⟩
 ·exact⟨Oq _,fun d hd=>by cases hd⟩
theorem J1{t:Tre}{p:List Int}(ht:t.wf):(gi t p).1.wf∧(gi t p).1.nodes.length≤t.nodes.length:=by
 unfold gi
 split
 ·rename_i hr;have hR:=ak hr
  split
  ·rename_i l k hd;obtain⟨_,h1,h2,_⟩:=kG hR.kok.ah p t.root hR.root.1 hR.root.2 l k hd;exact⟨(je ht hR h1 h2).1,jz hR h1 h2⟩
  ·exact⟨Tre.aV,Oq _⟩
 ·exact⟨Tre.aV,Oq _⟩
theorem qV{g:List Dfn}{r:Int}{p:List Int}(hg:∀d∈g,d.wf∧d.body.nodes.length≤20000):(aY g r p).1.wf∧(aY g r p).1.nodes.length≤20000:=by
 unfold aY
 split
 ·rename_i h;obtain⟨h1,h2⟩:=hg _ (Of (show r.toNat<g.length by omega));have:=J1 (p:=p) h1.body;exact⟨this.1,OA this.2 h2⟩
 ·exact⟨Tre.aV,Oq _⟩
theorem uI{g:List Dfn}{r:Int}{p:List Int}(hg:∀d∈g,d.wf∧d.body.nodes.length≤20000)(hp:p.length≤1000000):(dn g r p).1.wf:=by
 unfold dn
 split
 ·obtain⟨h1,h2⟩:=qV (r:=r) (p:=p) hg;obtain⟨h3,h4⟩:=bu (aY g r p).1;exact⟨hp,h1,h2,(iu h1).kind,dp h1,by dsimp only;omega,by dsimp only;omega⟩
 ·exact⟨Oq _,Tre.aV,Oq _,by show(0:Int)≤0∧(0:Int)≤255;omega,(fun x hx=>by cases hx),Oq _,Oq _⟩
end Go.ab
namespace Go.Km
open Go Go.Vc Go.Proofs Go.ab Go.Proofs.YthebhpcjcihjgaaGreatDoor
set_option maxRecDepth 100000
set_option maxHeartbeats 0
instance(g:List Dfn)(s:dw)(at_:Int):C 20 [aN g,.ag [bU,bU],fY s,inF at_] (.tp [aN (ez 0 g s at_).1,boF (ez 0 g s at_).2]) false (g.length≤1000∧(∀d∈g,d.wf∧0<d.body.nodes.length∧d.body.nodes.length≤100000)∧s.wf):=⟨fun ⟨hn,hg,hs⟩=>by
 have hkl:s.kids.length≤1000000:=by have:=hs.kl;omega
 have hz:aJ 0 s=0:=rfl;rw[show ez 0 g s at_=([],false) from by rw[ez,if_pos (by omega)]];refine kf rfl rfl ?_;repeat' first|exact k9|refine k2 ?_|apply kA|apply kI;intro hc|refine k8 ?_|apply kL;intro hl
 all_goals exact aa.i rfl⟩
theorem Fe{k:Nat}{g:List Dfn}{s:dw}{at_:Int}(h:at_<0∨aJ k s≤at_∨(ba k s at_).2=false∨(aX g s.r s.p (ba k s at_).1).2=false∨dL (aX g s.r s.p (ba k s at_).1).1≠0):ez k g s at_=([],false):=by rw[ez,if_pos h]
theorem Df(f k:Nat)(g:List Dfn)(s:dw)(at_:Int)(hseat:∀s:dw,C 47 [.ag [.cl f [],bU],fY s] (inF (aJ k s)) true (s.kids.length≤1000000))(hbec:∀(s:dw) (at_:Int),C 48 [.ag [.cl f [],bU],fY s,inF at_] (t2F (ba k s at_)) false (s.wf∧(dW k=true→0≤at_∧at_+2≤s.kids.length)))(hn:g.length≤1000)(hg:∀d∈g,d.wf∧0<d.body.nodes.length∧d.body.nodes.length≤100000)(hs:s.wf):Pure Tryz.prog X1.Γ 20 [aN g,.ag [.cl f [],bU],fY s,inF at_] (.tp [aN (ez k g s at_).1,boF (ez k g s at_).2]) false:=by
 have hkl:s.kids.length≤1000000:=by have:=hs.kl;omega
 by_cases h0:at_<0
 ·rw[Fe (.inl h0)];refine kf rfl rfl ?_;repeat' first|exact k9|refine k2 ?_|apply kA|apply kI;intro hc|refine k8 ?_|apply kL;intro hl
  all_goals exact aa.i rfl
 by_cases h1:aJ k s≤at_
 ·rw[Fe (.inr (.inl h1))];refine kf rfl rfl ?_;repeat' first|exact k9|refine k2 ?_|apply kA|apply kI;intro hc|refine k8 ?_|apply kL;intro hl
  all_goals exact aa.i rfl
 have hb:=sg (k:=k) (at_:=at_) hs;have hpb:s.wf∧(dW k=true→0≤at_∧at_+2≤s.kids.length):=⟨hs,fun h=>F3 h (by omega) (by omega)⟩
 have hpw:g.length≤1000∧(∀d∈g,d.wf∧0<d.body.nodes.length∧d.body.nodes.length≤100000)∧s.p.length≤1000000∧(ba k s at_).1.wf∧(ba k s at_).1.nodes.length≤100000:=⟨hn,hg,hs.p,hb.1,hb.2⟩
 have hpc:=qG (r:=s.r) hn hg hs.p hb.1 hb.2;have hr:ez k g s at_=if (ba k s at_).2=false∨(aX g s.r s.p (ba k s at_).1).2=false∨dL (aX g s.r s.p (ba k s at_).1).1≠0 then ([],false) else ((aX g s.r s.p (ba k s at_).1).1,true):=by
  by_cases h:(ba k s at_).2=false∨(aX g s.r s.p (ba k s at_).1).2=false∨dL (aX g s.r s.p (ba k s at_).1).1≠0
  ·rw[if_pos h,Fe (.inr (.inr h))]
  ·rw[if_neg h,ez,if_neg (by rintro(q|q|q);exact h0 q;exact h1 q;exact h q)]
 refine kf rfl rfl ?_;repeat' first|exact k9|refine k2 ?_|apply kA|apply kI;intro hc|refine k8 ?_|apply kL;intro hl
 ·refine aa.i ?_;rw[hr,if_neg (by rintro(q|q|q);exact bfF (by assumption) q;exact bfF (by assumption) q;exact q (by assumption))]
 ·refine aa.i ?_;rw[hr,if_pos (.inr (.inr (by assumption)))];rfl
 ·refine aa.i ?_;rw[hr,if_pos (.inr (.inl (by assumption)))];rfl
 ·refine aa.i ?_;rw[hr,if_pos (.inl (by assumption))];rfl
theorem J5(f k:Nat)(g:List Dfn)(s:dw)(at_:Int)(hseat:∀s:dw,C 47 [.ag [bU,.cl f []],fY s] (inF (aJ k s)) true (s.kids.length≤1000000))(hbec:∀(s:dw) (at_:Int),C 48 [.ag [bU,.cl f []],fY s,inF at_] (t2F (ba k s at_)) false (s.wf∧(dW k=true→0≤at_∧at_+2≤s.kids.length)))(hn:g.length≤1000)(hg:∀d∈g,d.wf∧0<d.body.nodes.length∧d.body.nodes.length≤100000)(hs:s.wf):Pure Tryz.prog X1.Γ 20 [aN g,.ag [bU,.cl f []],fY s,inF at_] (.tp [aN (ez k g s at_).1,boF (ez k g s at_).2]) false:=by
 have hkl:s.kids.length≤1000000:=by have:=hs.kl;omega
 by_cases h0:at_<0
 ·rw[Fe (.inl h0)];refine kf rfl rfl ?_;repeat' first|exact k9|refine k2 ?_|apply kA|apply kI;intro hc|refine k8 ?_|apply kL;intro hl
  all_goals exact aa.i rfl
 by_cases h1:aJ k s≤at_
 ·rw[Fe (.inr (.inl h1))];refine kf rfl rfl ?_;repeat' first|exact k9|refine k2 ?_|apply kA|apply kI;intro hc|refine k8 ?_|apply kL;intro hl
  all_goals exact aa.i rfl
 have hb:=sg (k:=k) (at_:=at_) hs;have hpb:s.wf∧(dW k=true→0≤at_∧at_+2≤s.kids.length):=⟨hs,fun h=>F3 h (by omega) (by omega)⟩
 have hpw:g.length≤1000∧(∀d∈g,d.wf∧0<d.body.nodes.length∧d.body.nodes.length≤100000)∧s.p.length≤1000000∧(ba k s at_).1.wf∧(ba k s at_).1.nodes.length≤100000:=⟨hn,hg,hs.p,hb.1,hb.2⟩
 have hpc:=qG (r:=s.r) hn hg hs.p hb.1 hb.2;have hr:ez k g s at_=if (ba k s at_).2=false∨(aX g s.r s.p (ba k s at_).1).2=false∨dL (aX g s.r s.p (ba k s at_).1).1≠0 then ([],false) else ((aX g s.r s.p (ba k s at_).1).1,true):=by
  by_cases h:(ba k s at_).2=false∨(aX g s.r s.p (ba k s at_).1).2=false∨dL (aX g s.r s.p (ba k s at_).1).1≠0
  ·rw[if_pos h,Fe (.inr (.inr h))]
  ·rw[if_neg h,ez,if_neg (by rintro(q|q|q);exact h0 q;exact h1 q;exact h q)]
 refine kf rfl rfl ?_;repeat' first|exact k9|refine k2 ?_|apply kA|apply kI;intro hc|refine k8 ?_|apply kL;intro hl
 ·refine aa.i ?_;rw[hr,if_neg (by rintro(q|q|q);exact bfF (by assumption) q;exact bfF (by assumption) q;exact q (by assumption))]
 ·refine aa.i ?_;rw[hr,if_pos (.inr (.inr (by assumption)))];rfl
 ·refine aa.i ?_;rw[hr,if_pos (.inr (.inl (by assumption)))];rfl
 ·refine aa.i ?_;rw[hr,if_pos (.inl (by assumption))];rfl
instance(g:List Dfn)(s:dw)(at_:Int):C 20 [aN g,.ag [.cl 36 [],bU],fY s,inF at_] (.tp [aN (ez 1 g s at_).1,boF (ez 1 g s at_).2]) false (g.length≤1000∧(∀d∈g,d.wf∧0<d.body.nodes.length∧d.body.nodes.length≤100000)∧s.wf):=⟨fun ⟨hn,hg,hs⟩=>Df _ 1 g s at_ (fun _=>inferInstance) (fun _ _=>inferInstance) hn hg hs⟩
instance(g:List Dfn)(s:dw)(at_:Int):C 20 [aN g,.ag [.cl 38 [],bU],fY s,inF at_] (.tp [aN (ez 2 g s at_).1,boF (ez 2 g s at_).2]) false (g.length≤1000∧(∀d∈g,d.wf∧0<d.body.nodes.length∧d.body.nodes.length≤100000)∧s.wf):=⟨fun ⟨hn,hg,hs⟩=>Df _ 2 g s at_ (fun _=>inferInstance) (fun _ _=>inferInstance) hn hg hs⟩
instance(g:List Dfn)(s:dw)(at_:Int):C 20 [aN g,.ag [bU,.cl 40 []],fY s,inF at_] (.tp [aN (ez 3 g s at_).1,boF (ez 3 g s at_).2]) false (g.length≤1000∧(∀d∈g,d.wf∧0<d.body.nodes.length∧d.body.nodes.length≤100000)∧s.wf):=⟨fun ⟨hn,hg,hs⟩=>J5 _ 3 g s at_ (fun _=>inferInstance) (fun _ _=>inferInstance) hn hg hs⟩
instance(g:List Dfn)(s:dw)(at_:Int):C 20 [aN g,.ag [.cl 41 [],bU],fY s,inF at_] (.tp [aN (ez 4 g s at_).1,boF (ez 4 g s at_).2]) false (g.length≤1000∧(∀d∈g,d.wf∧0<d.body.nodes.length∧d.body.nodes.length≤100000)∧s.wf):=⟨fun ⟨hn,hg,hs⟩=>Df _ 4 g s at_ (fun _=>inferInstance) (fun _ _=>inferInstance) hn hg hs⟩
instance(g:List Dfn)(s:dw)(at_:Int):C 20 [aN g,.ag [.cl 42 [],bU],fY s,inF at_] (.tp [aN (ez 5 g s at_).1,boF (ez 5 g s at_).2]) false (g.length≤1000∧(∀d∈g,d.wf∧0<d.body.nodes.length∧d.body.nodes.length≤100000)∧s.wf):=⟨fun ⟨hn,hg,hs⟩=>Df _ 5 g s at_ (fun _=>inferInstance) (fun _ _=>inferInstance) hn hg hs⟩
instance(g:List Dfn)(s:dw)(at_:Int):C 20 [aN g,.ag [bU,.cl 43 []],fY s,inF at_] (.tp [aN (ez 6 g s at_).1,boF (ez 6 g s at_).2]) false (g.length≤1000∧(∀d∈g,d.wf∧0<d.body.nodes.length∧d.body.nodes.length≤100000)∧s.wf):=⟨fun ⟨hn,hg,hs⟩=>J5 _ 6 g s at_ (fun _=>inferInstance) (fun _ _=>inferInstance) hn hg hs⟩
end Go.Km
end
section
namespace Go.ab
open Go Go.Km
theorem qk{g:List Dfn}(h:dL g=0):b4 g=0:=by
 unfold dL gQ at h
 split at h
 ·assumption
 ·exact h
end Go.ab
namespace Go.Km
open Go Go.Vc Go.Proofs Go.ab Go.Proofs.YthebhpcjcihjgaaGreatDoor
set_option maxRecDepth 100000
set_option maxHeartbeats 0
instance(g:List Dfn)(pass way r:Int)(p:List Int)(at_:Int):C 6 [aN g,.ag [byF pass,byF way,inF r,isF p,inF at_]] (.tp [aN (a7 g pass way r p at_).1,inF (a7 g pass way r p at_).2]) false (g.length≤1000∧(∀d∈g,d.wf)∧p.length≤1000000∧0≤way∧way≤255):=⟨fun ⟨hn,hw,hp,hw0,hw1⟩=>by
 have hpre:g.length≤1000∧∀d∈g,d.wf:=⟨hn,hw⟩
 by_cases hc0:dL g=0
 ·have ok:=eO (qk hc0);have hsm:∀d∈g,d.wf∧d.body.nodes.length≤20000:=fun d hd=>⟨hw d hd,by have:=ok.small hd;omega⟩
  have hgp:∀d∈g,d.wf∧0<d.body.nodes.length∧d.body.nodes.length≤100000:=fun d hd=>⟨hw d hd,by have:=(ok.right hd).root;omega,by have:=ok.small hd;omega⟩
  have hsp:(g.length≤1000∧(∀d∈g,d.wf)∧p.length≤1000000)∧(aY g r p).1.wf:=⟨⟨hn,hw,hp⟩,(qV hsm).1⟩
  have hsw:=uI (r:=r) hsm hp;have hrs:g.length≤1000∧(∀d∈g,d.wf∧0<d.body.nodes.length∧d.body.nodes.length≤100000)∧(dn g r p).1.wf:=⟨hn,hgp,hsw⟩
  cases h1:(dn g r p).2 with
  | false=>
   rw[show a7 g pass way r p at_=([],47) from by rw[a7,if_neg (by simpa using hc0),if_pos (.inl h1)]];refine kf rfl rfl ?_;repeat' first|exact k9|refine k2 ?_|apply kA|apply kI;intro hc|refine k8 ?_|apply kL;intro hl
   all_goals exact aa.i rfl
  | true=>
   by_cases h2:pass=6
   ·by_cases h3:7≤way
    ·rw[show a7 g pass way r p at_=([],47) from by rw[a7,if_neg (by simpa using hc0),if_pos (.inr (.inr (.inl h3)))]];refine kf rfl rfl ?_;repeat' first|exact k9|refine k2 ?_|apply kA|apply kI;intro hc|refine k8 ?_|apply kL;intro hl
     all_goals exact aa.i rfl
    ·have hr:a7 g pass way r p at_=if (ez way.toNat g (dn g r p).1 at_).2=false then ([],47) else ((ez way.toNat g (dn g r p).1 at_).1,0):=by
      rw[a7,if_neg (by simpa using hc0)]
      by_cases h4:(ez way.toNat g (dn g r p).1 at_).2=false
      ·rw[if_pos h4,if_pos (.inr (.inr (.inr h4)))]
      ·rw[if_neg h4,if_neg (by rw[h1];rintro(h|h|h|h);cases h;exact h h2;exact h3 h;exact h4 h)]
     rw[hr];have hway:way=0∨way=1∨way=2∨way=3∨way=4∨way=5∨way=6:=by omega
     clear hr;rcases hway with rfl|rfl|rfl|rfl|rfl|rfl|rfl
     all_goals
      simp only[Int.reduceToNat];refine kf rfl rfl ?_;repeat' first|exact k9|refine k2 ?_|apply kA|apply kI;intro hc|refine k8 ?_|apply kL;intro hl
      all_goals first
       | (refine aa.i ?_;rw[if_neg (fun q=>bfF hc q)];done)
       | (refine aa.i ?_;rw[if_pos hc];rfl)
   ·rw[show a7 g pass way r p at_=([],47) from by rw[a7,if_neg (by simpa using hc0),if_pos (.inr (.inl h2))]];refine kf rfl rfl ?_;repeat' first|exact k9|refine k2 ?_|apply kA|apply kI;intro hc|refine k8 ?_|apply kL;intro hl
    all_goals exact aa.i rfl
 ·rw[show a7 g pass way r p at_=([],dL g) from by rw[a7,if_pos hc0]];refine kf rfl rfl ?_;repeat' first|exact k9|refine k2 ?_|apply kA|apply kI;intro hc|refine k8 ?_|apply kL;intro hl
  all_goals exact aa.i rfl⟩
set_option maxRecDepth 100000
set_option maxHeartbeats 0
instance(n:Nod)(l:List Fl)(r:Fl):C 175 [.ag (aT n),eF l,flF r] (flF (bz n l r)) true ((0≤n.kind∧n.kind≤9)∧l.length≤17592186044416∧(6≤n.kind→0<l.length)):=⟨fun ⟨hk,hl,h6⟩=>by
 obtain⟨kind,⟨sa,sb,sc,sd⟩,text,lo,hi,kids⟩:=n;dsimp only at hk h6;obtain⟨rz,rs,rf⟩:=r;have hkk:kind=0∨kind=1∨kind=2∨kind=3∨kind=4∨kind=5∨kind=6∨kind=7∨kind=8∨kind=9:=by omega
 rcases hkk with rfl|rfl|rfl|rfl|rfl|rfl|rfl|rfl|rfl|rfl
 ·refine kf rfl rfl ?_;repeat' first|exact k9|refine k2 ?_|apply kA|apply kI;intro hc|refine k8 ?_|apply kL;intro hl
  exact aa.j rfl rfl
 ·refine kf rfl rfl ?_;repeat' first|exact k9|refine k2 ?_|apply kA|apply kI;intro hc|refine k8 ?_|apply kL;intro hl
  refine aa.j ?_ rfl;exact congrArg (fun z=>F.ag [boF false,boF (!z),boF true]) (zw ⟨sa,sb,sc,sd⟩)
 ·refine kf rfl rfl ?_;repeat' first|exact k9|refine k2 ?_|apply kA|apply kI;intro hc|refine k8 ?_|apply kL;intro hl
  exact aa.j rfl rfl
 ·refine kf rfl rfl ?_;repeat' first|exact k9|refine k2 ?_|apply kA|apply kI;intro hc|refine k8 ?_|apply kL;intro hl
  exact aa.j rfl rfl
 ·refine kf rfl rfl ?_;repeat' first|exact k9|refine k2 ?_|apply kA|apply kI;intro hc|refine k8 ?_|apply kL;intro hl
  exact aa.j rfl rfl
 ·refine kf rfl rfl ?_;repeat' first|exact k9|refine k2 ?_|apply kA|apply kI;intro hc|refine k8 ?_|apply kL;intro hl
  exact aa.j rfl rfl
 ·have h:0<l.length:=h6 (by omega);have e:bz ⟨6,⟨sa,sb,sc,sd⟩,text,lo,hi,kids⟩ l ⟨rz,rs,rf⟩=if hi=0 then ⟨true,false,false⟩ else ⟨l[0].zero||(decide (lo=0)&&l[0].fail),l[0].some,decide (0<lo)&&l[0].fail⟩:=by
   rw[←l6 h];rfl
  rw[e]
  by_cases hm:hi=0
  ·rw[if_pos hm];refine kf rfl rfl ?_;repeat' first|exact k9|refine k2 ?_|apply kA|apply kI;intro hc|refine k8 ?_|apply kL;intro hl
  rw[if_neg hm];refine kf rfl rfl ?_;repeat' first|exact k9|refine k2 ?_|apply kA|apply kI;intro hc|refine k8 ?_|apply kL;intro hl
  all_goals (refine aa.j ?_ rfl;simp_all)
  all_goals omega
 ·have h:0<l.length:=h6 (by omega);have e:bz ⟨7,⟨sa,sb,sc,sd⟩,text,lo,hi,kids⟩ l ⟨rz,rs,rf⟩=⟨l[0].succ,false,l[0].fail⟩:=by
   rw[←l6 h];rfl
  rw[e];refine kf rfl rfl ?_;repeat' first|exact k9|refine k2 ?_|apply kA|apply kI;intro hc|refine k8 ?_|apply kL;intro hl
  exact aa.j rfl rfl
 ·have h:0<l.length:=h6 (by omega);have e:bz ⟨8,⟨sa,sb,sc,sd⟩,text,lo,hi,kids⟩ l ⟨rz,rs,rf⟩=⟨l[0].fail,false,l[0].succ⟩:=by
   rw[←l6 h];rfl
  rw[e];refine kf rfl rfl ?_;repeat' first|exact k9|refine k2 ?_|apply kA|apply kI;intro hc|refine k8 ?_|apply kL;intro hl
  exact aa.j rfl rfl
 ·have h:0<l.length:=h6 (by omega);have e:bz ⟨9,⟨sa,sb,sc,sd⟩,text,lo,hi,kids⟩ l ⟨rz,rs,rf⟩=l[0]:=by
   rw[←l6 h];rfl
  rw[e];refine kf rfl rfl ?_;repeat' (first|exact k9|refine k2 ?_|apply kA|apply kI;intro hc|refine k8 ?_|apply kL;intro hl)⟩
theorem yQ{n:Nod}(h:n.kind≠3)(l:List Fl)(r r':Fl):bz n l r=bz n l r':=by
 unfold bz;rw[if_neg h,if_neg h]
theorem zt{g:List Dfn}{l:List Fl}{ns:List Nod}{i:Nat}(h:i<ns.length):aG g l (ns.take (i+1))=ir g l (aG g l (ns.take i)) ns[i]:=by
 rw[aG,List.take_succ_eq_append_getElem h,List.foldl_append];rfl
theorem cE(g:List Dfn)(l:List Fl)(ns:List Nod):(aG g l ns).length=ns.length:=by
 have key:∀(ns:List Nod) (a:List Fl),(ns.foldl (ir g l) a).length=a.length+ns.length:=by
  intro ns
  induction ns with
  | nil=>intro a;rfl
  | cons n ns ih=>
   intro a;rw[PJ,ih];simp[ir];omega
 rw[aG,key];simp
instance(g:List Dfn)(l:List Fl)(t:Tre):C 156 [aN g,eF l,aw t] (.tp [eF (aG g l t.nodes),boF true]) false (g.length≤1000∧l.length=g.length∧Sm t∧ax t∧kD g t.nodes):=⟨fun ⟨hg,hl,hs,hR,hN⟩=>by
 have hr:ao t=true:=bG.2 hR;have hlen:=hs.le;refine kf rfl rfl ?_;repeat' first|exact k9|refine k2 ?_|apply kA|apply kI;intro hc|refine k8 ?_|apply kL;intro hl
 apply Stp.fW 8 181 3 rfl rfl;apply kCt [1,3,5,8,9] [];conv=>whnf
 refine Lp.ind (fun x:Nat×List Fl=>t.nodes.length - x.1) (fun x=>x.1≤t.nodes.length∧x.2=aG g l (t.nodes.take x.1)) (fun x=>[(9,InD x.1)]) (fun x=>[(2,.ro 0 181 3 (x.2.map flR))]) (fun _=>(.tp [eF (aG g l t.nodes),boF true],false)) (0,[]) ⟨Oq _,rfl⟩ rfl rfl rfl ?_
 rintro G ⟨i,out⟩ ih ⟨hi,ho⟩
 dsimp only at hi ho ih ⊢;have hol:out.length=i:=by rw[ho,cE,Ou];omega
 by_cases hx:i<t.nodes.length
 ·obtain⟨n,hn⟩:=exEq (t.nodes[i]);have hni:∀h,t.nodes[i]'h=n:=fun _=>hn.symm
  have hget:t.nodes[i]?=some n:=by rw[hn];exact Oe hx
  have hmem:n∈t.nodes:=by rw[hn];exact Of hx
  have hkb:=hR.kok i n hget;have hfit:=hR.fits i n hget;have hkd:=(jj hfit).1;obtain⟨⟨f1,f2,f3⟩,f4⟩:=jr hfit;have hkN:n.kids.length≤500000:=OA (xy hR hget) hlen;have hnx:aG g l (t.nodes.take (i+1))=ir g l out n:=by rw[zt hx,←hn,←ho]
  have hk1:(t.nodes[i]'hx).kind=n.kind:=by rw[hn]
  by_cases h3:n.kind=3
  ·have hsm:=hN n hmem h3;obtain⟨k,hk⟩:=PV.1 hsm;obtain⟨hkl,_⟩:=fM hk;have hfn:cI g n.text=(k:Int):=by rw[cI,hk]
   have hk2:cI g (t.nodes[i]'hx).text=(k:Int):=by rw[←hn];exact hfn
   have hkL:k<l.length:=by omega
   have hru:dX g l n.text=l[k]'hkL:=by
    rw[dX,hk];show l.getD k .bot=_
    rw[List.getD_eq_getElem?_getD,Oe (by omega)];rfl
   repeat' first|exact k9|refine k2 ?_|apply kA|apply kI;intro hc|apply kL;intro hl|((simp only[hni])<;>conv=>whnf)|((simp only[hfn,Oo])<;>conv=>whnf)|refine k8 ?_|fail
   have hkr:bz n (a8 out n.kids) (dX g l n.text)=bz n (a8 out n.kids) (l[k]'hkL):=by rw[hru]
   rw[ir,hkr] at hnx;apply Stp.fW 13 181 3 rfl rfl;apply kCt [1,3,5,8,9,10,11,13,14] [];conv=>whnf
   refine Lp.ind (fun x:Nat=>n.kids.length - x) (fun x=>x≤n.kids.length) (fun x=>[(14,InD x)]) (fun x=>[(5,.ro 0 181 3 ((a8 out (n.kids.take x)).map flR))]) (fun _=>(.tp [eF (aG g l t.nodes),boF true],false)) 0 (by simp) rfl rfl rfl ?_
   rintro G' j ih' hj
   by_cases hy:j<n.kids.length
   ·exfalso
    have:=f1 (by omega);omega
   ·rw[Om (by omega)];have hkl:(a8 out n.kids).length=n.kids.length:=by simp[a8]
    have hpre:(0≤n.kind∧n.kind≤9)∧(a8 out n.kids).length≤17592186044416∧(6≤n.kind→0<(a8 out n.kids).length):=⟨hkd,by omega,fun h=>by have:=f2 h;omega⟩
    repeat' first|exact k9|refine k2 ?_|apply kA|apply kI;intro hc|(((refine jL.i (inferInstance:C 175 [.ag (aT n),eF (a8 out n.kids),flF (l[k]'hkL)] (flF (bz n (a8 out n.kids) (l[k]'hkL))) true _) hpre ?_))<;>conv=>whnf)|refine k8 ?_|apply kL;intro hl
    apply kCt [1,3,5,8,9] [];conv=>whnf
    refine ih (i+1,out++[bz n (a8 out n.kids) (l[k]'hkL)]) _ _ _ (by dsimp only;omega) ⟨by dsimp only;omega,hnx.symm⟩ rfl rfl ?_;dsimp only;rw[List.map_append];rfl
  ·repeat' first|exact k9|refine k2 ?_|apply kA|apply kI;intro hc|apply kL;intro hl|((simp only[hni])<;>conv=>whnf)|refine k8 ?_|fail
   have hkr:bz n (a8 out n.kids) (dX g l n.text)=bz n (a8 out n.kids) Fl.bot:=by exact yQ h3 _ _ _
   rw[ir,hkr] at hnx;apply Stp.fW 13 181 3 rfl rfl;apply kCt [1,3,5,8,9,10,11,13,14] [];conv=>whnf
   refine Lp.ind (fun x:Nat=>n.kids.length - x) (fun x=>x≤n.kids.length) (fun x=>[(14,InD x)]) (fun x=>[(5,.ro 0 181 3 ((a8 out (n.kids.take x)).map flR))]) (fun _=>(.tp [eF (aG g l t.nodes),boF true],false)) 0 (by simp) rfl rfl rfl ?_
   rintro G' j ih' hj
   by_cases hy:j<n.kids.length
   ·obtain⟨q,hq⟩:∃q:Nat,n.kids[j]=q:=⟨(n.kids[j]).toNat,by have:=hkb _ (Of hy);omega⟩
    have hqi:∀h:j<n.kids.length,n.kids[j]'h=(q:Int):=fun _=>hq
    have hql:q<out.length:=by have:=hkb _ (Of hy);omega
    have hktl:(a8 out (n.kids.take j)).length≤500000:=by rw[a8,Ok,Ou];omega
    repeat' first|exact k9|refine k2 ?_|apply kA|apply kI;intro hc|apply kL;intro hl|((simp only[hqi,Oo])<;>conv=>whnf)|refine k8 ?_|fail
    apply kCt [1,3,5,8,9,10,11,13,14] [];conv=>whnf
    refine ih' (j+1) _ _ _ (by omega) (by omega) rfl rfl ?_;have hkn:a8 out (n.kids.take (j+1))=a8 out (n.kids.take j)++[out[q]]:=by
     unfold a8;rw[List.take_succ_eq_append_getElem hy,List.map_append,OK,hq,Oo,List.getD_eq_getElem?_getD,Oe hql];rfl
    rw[hkn,List.map_append];rfl
   ·rw[Om (by omega)];have hkl:(a8 out n.kids).length=n.kids.length:=by simp[a8]
    have hpre:(0≤n.kind∧n.kind≤9)∧(a8 out n.kids).length≤17592186044416∧(6≤n.kind→0<(a8 out n.kids).length):=⟨hkd,by omega,fun h=>by have:=f2 h;omega⟩
    repeat' first|exact k9|refine k2 ?_|apply kA|apply kI;intro hc|(((refine jL.i (inferInstance:C 175 [.ag (aT n),eF (a8 out n.kids),flF Fl.bot] (flF (bz n (a8 out n.kids) Fl.bot)) true _) hpre ?_))<;>conv=>whnf)|refine k8 ?_|apply kL;intro hl
    apply kCt [1,3,5,8,9] [];conv=>whnf
    refine ih (i+1,out++[bz n (a8 out n.kids) Fl.bot]) _ _ _ (by dsimp only;omega) ⟨by dsimp only;omega,hnx.symm⟩ rfl rfl ?_;dsimp only;rw[List.map_append];rfl
 ·rw[Om (by omega)] at ho;rw[←ho]
  repeat' (first|exact k9|refine k2 ?_|apply kA|apply kI;intro hc|refine k8 ?_|apply kL;intro hl)⟩
instance(g:List Dfn)(l:List Fl)(t:Tre):C 144 [aN g,eF l,aw t] (.tp [flF (bM g l t),boF true]) true (g.length≤1000∧l.length=g.length∧Sm t∧ax t∧kD g t.nodes):=⟨fun h=>by
 have hR:=h.2.2.2.1;have h0:=hR.root;have hfl:=cE g l t.nodes;have hrl:t.root.toNat<(aG g l t.nodes).length:=by omega
 have e:bM g l t=(aG g l t.nodes)[t.root.toNat]'hrl:=by
  rw[bM,List.getD_eq_getElem?_getD,Oe hrl];rfl
 rw[e];refine kf rfl rfl ?_;repeat' (first|exact k9|refine k2 ?_|apply kA|apply kI;intro hc|refine k8 ?_|apply kL;intro hl)⟩
set_option maxRecDepth 100000
set_option maxHeartbeats 0
instance(g:List Dfn):C 122 [aN g] (.tp [eF (cR g).1,inF (cR g).2]) false (SmG g):=⟨fun hs=>by
 have hgl:=hs.1
 by_cases hm:b4 g=0
 ·rw[cR,if_pos hm];have hok:=eO hm;refine kf rfl rfl ?_;repeat' first|exact k9|refine k2 ?_|apply kA|apply kI;intro hc|apply kL;intro hl|((simp only[hm])<;>conv=>whnf)|refine k8 ?_|fail
  apply kCt [1,5,6] [];conv=>whnf
  refine Lp.ind (fun x:Nat×List Fl=>3 * g.length+1 - x.1) (fun x=>x.1≤3 * g.length+1∧x.2=itJ g x.1) (fun x=>[(6,InD x.1)]) (fun x=>[(1,.ro 0 181 3 (x.2.map flR))]) (fun _=>(.tp [eF (cz g),inF 0],false)) (0,List.replicate g.length .bot) ⟨Oq _,rfl⟩ rfl rfl ?_ ?_
  ·rw[show(List.replicate g.length Fl.bot).map flR=List.replicate (g.map mI).length (flR .bot) by simp];rfl
  rintro G ⟨k,l⟩ ih ⟨hk,hl⟩
  dsimp only at hk hl ih ⊢;have hll:l.length=g.length:=by rw[hl,ly]
  by_cases hx:k≤3 * g.length
  ·repeat' first|exact k9|refine k2 ?_|apply kA|apply kI;intro hc|refine k8 ?_|apply kL;intro hl
   apply kCt [1,5,6,7,8] [];conv=>whnf
   refine Lp.ind (fun x:Nat=>g.length - x) (fun x=>x≤g.length) (fun x=>[(8,InD x)]) (fun x=>[(2,.ro 0 181 3 ((eE g.length ((dS g l).take x)).map flR))]) (fun _=>(.tp [eF (cz g),inF 0],false)) 0 (Oq _) rfl rfl ?_ ?_
   ·rw[Pd,show eE g.length []=List.replicate g.length .bot by simp[eE],show(List.replicate g.length Fl.bot).map flR=List.replicate (g.map mI).length (flR .bot) by simp];rfl
   rintro G' i ih' hi
   have hsl:=wM g l;have hfl:(eE g.length ((dS g l).take i)).length=g.length:=wA (by rw[Ou];omega)
   by_cases hy:i<g.length
   ·obtain⟨d,hd⟩:=exEq (g[i]);have hdi:∀h:i<g.length,g[i]'h=d:=fun _=>hd.symm
    have hmem:d∈g:=by rw[hd];exact Of hy
    have hdm:=hs.2 d hmem;have hpre:g.length≤1000∧l.length=g.length∧Sm d.body∧ax d.body∧kD g d.body.nodes:=⟨hgl,hll,⟨hdm.1.body,hdm.2⟩,hok.right hmem,hok.named d hmem⟩
    have hset:(eE g.length ((dS g l).take i)).set i (bM g l d.body)=eE g.length ((dS g l).take (i+1)):=by
     have h1:((dS g l).take i).length=i:=by rw[Ou];omega
     have h2:=wm (N:=g.length) (X:=(dS g l).take i) (by omega) (bM g l d.body);rw[h1] at h2;rw[h2,List.take_succ_eq_append_getElem (by omega)];simp[dS,hd]
    generalize eE g.length ((dS g l).take i)=cur at *
    repeat' first|exact k9|refine k2 ?_|apply kA|apply kI;intro hc|apply kL;intro hl|((simp only[hdi])<;>conv=>whnf)|refine k8 ?_|fail
    apply kCt [1,5,6,7,8] [];conv=>whnf
    refine ih' (i+1) _ _ _ (by omega) (by omega) rfl rfl ?_;rw[←hset,List.map_set];rfl
   ·have e2:eE g.length ((dS g l).take i)=dS g l:=by
     rw[Om (by omega),eE,hsl,Pt,Qe,Oj]
    rw[e2]
    repeat' first|exact k9|refine k2 ?_|apply kA|apply kI;intro hc|refine k8 ?_|apply kL;intro hl
    apply kCt [1,5,6] [];conv=>whnf
    exact ih (k+1,dS g l) _ _ _ (by dsimp only;omega) ⟨by dsimp only;omega,by dsimp only;rw[hl];rfl⟩ rfl rfl rfl
  ·obtain rfl:k=3 * g.length+1:=by omega
   have e:cz g=l:=hl.symm;rw[e]
   repeat' first|exact k9|refine k2 ?_|apply kA|apply kI;intro hc|refine k8 ?_|apply kL;intro hl
 ·rw[cR,if_neg hm];refine kf rfl rfl ?_;repeat' first|exact k9|refine k2 ?_|apply kA|apply kI;intro hc|refine k8 ?_|apply kL;intro hl
  exact aa.i rfl⟩
end Go.Km
end
section
namespace Go.ab
open Go Go.Km
def Fo.named(g:List Dfn):Fo→Prop
 | .nil=>True
 | .cons n k r=>(n.kind=3→(bf g n.text).isSome=true)∧k.named g∧r.named g
theorem n9{g:List Dfn}{ns:List Nod}(hn:kD g ns):∀(f:Nat) (l:List Int),(aF ns f l).named g
 | 0,l=>trivial
 | f+1,l=>by
  induction l with
  | nil=>exact trivial
  | cons k l ih=>
   refine⟨?_,n9 hn f _,ih⟩;show(ns.getD k.toNat .zero).kind=3→(bf g (ns.getD k.toNat .zero).text).isSome=true
   rw[List.getD_eq_getElem?_getD]
   cases hg:ns[k.toNat]? with
   | some m=>exact hn m (OI hg)
   | none=>intro h;exact absurd h (by decide)
theorem ui{g:List Dfn}:∀(F:Fo) (o:Nat),F.named g→kD g (F.ar o)
 | .nil,o,_=>fun n h=>by simp[Fo.ar] at h
 | .cons n k r,o,hd=>fun m h=>by
  obtain⟨h1,h2,h3⟩:=hd;simp only[Fo.ar,Oy,OD] at h;rcases h with h|rfl|h
  ·exact ui k o h2 m h
  ·exact h1
  ·exact ui r _ h3 m h
theorem l5{g:List Dfn}:∀{F:Fo},F.named g→∀t∈F.trees,kD g t.nodes
 | .nil,_,t,h=>by simp[Fo.trees] at h
 | .cons n k r,hd,t,h=>by
  rcases OD.1 h with rfl|h
  ·exact ui (.cons n k .nil) 0 ⟨hd.1,hd.2.1,trivial⟩
  ·exact l5 hd.2.2 t h
theorem ry(g:List Dfn)(l:List Fl):∀{F:Fo},F.fb→F.loops g l=F.trees.any fun t=>(foT t).loops g l
 | .nil,_=>rfl
 | .cons n k r,h=>by
  have h':=Fo.aL.1 h;have e:foT (aR (.cons n k .nil))=.cons n k .nil:=ib rfl (Fo.aL.2 ⟨h'.1,Fo.fN⟩).2;rw[Fo.trees,RC,e,←ry g l h'.2];simp only[Fo.loops,Ro]
end Go.ab
namespace Go.Km
open Go Go.Vc Go.Proofs Go.ab Go.Proofs.YthebhpcjcihjgaaGreatDoor
set_option maxRecDepth 100000
set_option maxHeartbeats 0
instance(n:Int)(l:List Int):C 121 [inF n,isF l] (boF (decide (n∈l))) true (l.length≤17592186044416):=⟨fun h=>by
 refine kf rfl rfl ?_;repeat' first|exact k9|refine k2 ?_|apply kA|apply kI;intro hc|refine k8 ?_|apply kL;intro hl
 apply kCt [0,1,5] [];conv=>whnf
 refine Lp.ind (fun z:Nat=>l.length - z) (fun z=>z≤l.length∧decide (n∈l)=decide (n∈l.drop z)) (fun z=>[(5,InD z)]) (fun z=>[]) (fun _=>_) 0 ⟨by omega,rfl⟩ rfl rfl rfl ?_
 rintro G i ih ⟨hi,hw⟩
 by_cases hx:i<l.length
 ·rw[Oz hx] at hw
  repeat' first|exact k9|refine k2 ?_|apply kA|apply kI;intro hc|refine k8 ?_|apply kL;intro hl
  ·exact aa.b (by rw[hw,decide_eq_true (OD.2 (.inl hc.symm))]) rfl
  ·apply kCt [0,1,5] [];conv=>whnf
   refine ih (i+1) _ _ _ (by omega) ⟨by omega,?_⟩ rfl rfl rfl;rw[hw,decide_eq_decide,OD];exact⟨fun h=>h.resolve_left fun e=>hc e.symm,.inr⟩
 ·rw[OE (by omega)] at hw;rw[hw]
  repeat' first|exact k9|refine k2 ?_|apply kA|apply kI;intro hc|refine k8 ?_|apply kL;intro hl
  exact aa.b (by simp) rfl⟩
abbrev WlT(g:List Dfn)(l:List Fl)(t:Tre):Prop:=g.length≤1000∧l.length=g.length∧Sm t∧ax t∧kD g t.nodes
theorem AQ(g:List Dfn)(l:List Fl):∀(N:Nat) (t:Tre),t.nodes.length<N→t.nodes.length≤100000→WlT g l t→Pure Tryz.prog X1.Γ 123 [aN g,eF l,aw t] (boF ((foT t).loops g l)) true:=by
 intro N
 induction N with
 | zero=>intro t ht;omega
 | succ N ih0=>
 intro t hN hle hw;have inst:∀t:Tre,C 123 [aN g,eF l,aw t] (boF ((foT t).loops g l)) true ((t.nodes.length<N∧t.nodes.length≤100000)∧WlT g l t):=fun t=>⟨fun h=>ih0 t h.1.1 h.1.2 h.2⟩
 obtain⟨hg,hl,hsm,hR,hnm⟩:=hw;have hri:=bG.2 hR;obtain⟨Q,hF,hfb,hrk,hfit,hkids⟩:=fU hri;have hless:=qP hri hF;have hdw:Q.dwf:=by
  have h1:(foT t).dwf:=eS hsm.wf.nodes _ _;rw[hF] at h1;exact h1.2.1
 have hqn:Q.named g:=by
  have h1:(foT t).named g:=n9 hnm _ _;rw[hF] at h1;exact h1.2.1
 obtain⟨g1,g2,g3⟩:=jl hdw (by omega);obtain⟨htr,_⟩:=ct hfb.1 hfb.2;have hlen:∀x∈Q.trees,(x.nodes.length<N∧x.nodes.length≤100000)∧WlT g l x:=fun x hx=>by
  have h1:=bH hx;rw[jc] at h1;exact⟨⟨by omega,by omega⟩,hg,hl,g2 x hx,ak (htr x hx),l5 hqn x hx⟩
 have hE:(foT t).loops g l=Q.trees.any fun x=>(decide ((av t).kind=6)&&decide ((av t).max=-1)&&(bM g l x).zero)||(foT x).loops g l:=by
  rw[hF];simp only[Fo.loops,Ro];rw[ry g l hfb]
  by_cases h6:(av t).kind=6
  ·have h1:=(jr hfit).1.2.1 (by omega);obtain⟨m,j,rfl⟩:=Fo.one (show Q.len=1 by omega);have hx:=hlen (aR (.cons m j .nil)) (by simp[Fo.trees]);have e:foT (aR (.cons m j .nil))=.cons m j .nil:=ib rfl hfb.2;simp only[Fo.trees,RC,List.any_nil,Ro];rw[v7 g l hx.2.2.2.2.1,e]
  ·rw[decide_eq_false h6];simp
 rw[hE];generalize hn:av t=n at *;have hgl:g.length≤1000:=hg;refine kf rfl rfl ?_;repeat' first|exact k9|refine k2 ?_|apply kA|apply kI;intro hc|apply kL;intro hl|((simp only[hkids])<;>conv=>whnf)|((simp only[hn])<;>conv=>whnf)|refine k8 ?_|fail
 apply kCt [1,3,7,8,9] [];conv=>whnf
 refine Lp.ind (fun z:Nat=>Q.trees.length - z) (fun z=>z≤Q.trees.length∧(Q.trees.any fun x=>(decide (n.kind=6)&&decide (n.max=-1)&&(bM g l x).zero)||(foT x).loops g l)=((Q.trees.drop z).any fun x=>(decide (n.kind=6)&&decide (n.max=-1)&&(bM g l x).zero)||(foT x).loops g l)) (fun z=>[(9,InD z)]) (fun z=>[]) (fun _=>_) 0 ⟨by omega,rfl⟩ rfl rfl rfl ?_
 rintro G i ih ⟨hi,hw⟩
 by_cases hx:i<Q.trees.length
 ·obtain⟨x,hxx⟩:=exEq (Q.trees[i]);have hxi:∀h,Q.trees[i]'h=x:=fun _=>hxx.symm
  have hlx:=hlen x (by rw[hxx];exact Of hx);have hlw:=hlx.2;rw[Oz hx,RC,←hxx] at hw
  repeat' first|exact k9|refine k2 ?_|apply kA|apply kI;intro hc|apply kL;intro hl|((simp only[hxi])<;>conv=>whnf)|refine k8 ?_|fail
  all_goals first
   | (
     refine aa.b ?_ rfl;rw[hw];clear hw ih inst ih0 hlen hxi hxx hE hF;simp[*]
     done)
   | (
     apply kCt [1,3,7,8,9] [];conv=>whnf
     refine ih (i+1) _ _ _ (by omega) ⟨by omega,?_⟩ rfl rfl rfl;rw[hw];clear hw ih inst ih0 hlen hxi hxx hE hF;simp[*]
     done)
 ·rw[OE (by omega)] at hw;rw[hw]
  repeat' first|exact k9|refine k2 ?_|apply kA|apply kI;intro hc|refine k8 ?_|apply kL;intro hl
  exact aa.b rfl rfl
instance(g:List Dfn)(l:List Fl)(t:Tre):C 123 [aN g,eF l,aw t] (boF ((foT t).loops g l)) true (t.nodes.length≤100000∧WlT g l t):=⟨fun h=>AQ g l (t.nodes.length+1) t (by omega) h.1 h.2⟩
end Go.Km
end
section
namespace Go.ab
open Go Go.Km
theorem kR(g:List Dfn)(l:List Fl):∀(F:Fo) (s:Bool),(F.cU g l s).length≤F.size
 | .nil,_=>Ov _
 | .cons n k r,s=>by
  have h1:=kR g l k (decide (n.kind=4));have h2:=kR g l r s;simp only[Fo.cU,Oh,Fo.size];have h3:(if n.kind=3 then [n.text] else if n.kind=6∧n.max=0 then [] else k.cU g l (decide (n.kind=4))).length≤k.size+1:=by
   split
   ·simp
   ·split
    ·simp
    ·omega
  have h4:(if (s && !(bz n (k.gF g l) (dX g l n.text)).zero)=true then [] else r.cU g l s).length≤r.size:=by
   split
   ·simp
   ·exact h2
  omega
end Go.ab
namespace Go.Km
open Go Go.Vc Go.Proofs Go.ab Go.Proofs.YthebhpcjcihjgaaGreatDoor
set_option maxRecDepth 100000
set_option maxHeartbeats 0
def fZ(g:List Dfn)(l:List Fl)(t:Tre):List Int:=((foT t).cU g l false).map (cI g)
theorem HM{g:List Dfn}{l:List Fl}{t:Tre}{n:Nod}{Q:Fo}(h:foT t=.cons n Q .nil):fZ g l t=(if n.kind=3 then [cI g n.text] else if n.kind=6∧n.max=0 then [] else (Q.cU g l (decide (n.kind=4))).map (cI g)):=by
 rw[fZ,h];simp only[Fo.cU,P5,OQ,if_false,Oj]
 split
 ·rfl
 ·split<;>rfl
theorem Ec(g:List Dfn)(l:List Fl):∀(N:Nat) (t:Tre),t.nodes.length<N→t.nodes.length≤100000→WlT g l t→Pure Tryz.prog X1.Γ 143 [aN g,eF l,aw t] (isF (fZ g l t)) false:=by
 intro N
 induction N with
 | zero=>intro t ht;omega
 | succ N ih0=>
 intro t hN hle hw;have inst:∀t:Tre,C 143 [aN g,eF l,aw t] (isF (fZ g l t)) false ((t.nodes.length<N∧t.nodes.length≤100000)∧WlT g l t):=fun t=>⟨fun h=>ih0 t h.1.1 h.1.2 h.2⟩
 obtain⟨hg,hl,hsm,hR,hnm⟩:=hw;have hri:=bG.2 hR;obtain⟨Q,hF,hfb,hrk,hfit,hkids⟩:=fU hri;have hless:=qP hri hF;have hdw:Q.dwf:=by
  have h1:(foT t).dwf:=eS hsm.wf.nodes _ _;rw[hF] at h1;exact h1.2.1
 have hqn:Q.named g:=by
  have h1:(foT t).named g:=n9 hnm _ _;rw[hF] at h1;exact h1.2.1
 obtain⟨g1,g2,g3⟩:=jl hdw (by omega);obtain⟨htr,_⟩:=ct hfb.1 hfb.2;have hlen:∀x∈Q.trees,(x.nodes.length<N∧x.nodes.length≤100000)∧WlT g l x:=fun x hx=>by
  have h1:=bH hx;rw[jc] at h1;exact⟨⟨by omega,by omega⟩,hg,hl,g2 x hx,ak (htr x hx),l5 hqn x hx⟩
 have hE:=HM (g:=g) (l:=l) hF;rw[hE];obtain⟨n,hnn⟩:=exEq (av t);have hn:av t=n:=hnn.symm;have hk1:(av t).kind=n.kind:=by rw[hn]
 have hk2:(av t).max=n.max:=by rw[hn]
 rw[hn] at hF hrk hfit hE ⊢;have hgl:g.length≤1000000:=by omega
 by_cases h3:n.kind=3
 ·rw[if_pos h3];refine kf rfl rfl ?_;repeat' first|exact k9|refine k2 ?_|apply kA|apply kI;intro hc|apply kL;intro hl|((simp only[hkids])<;>conv=>whnf)|((simp only[hn])<;>conv=>whnf)|refine k8 ?_|fail
  exact aa.i rfl
 ·rw[if_neg h3]
  by_cases h6:n.kind=6∧n.max=0
  ·rw[if_pos h6];obtain⟨h6a,h6b⟩:=h6;refine kf rfl rfl ?_;repeat' first|exact k9|refine k2 ?_|apply kA|apply kI;intro hc|apply kL;intro hl|((simp only[hkids])<;>conv=>whnf)|((simp only[hn])<;>conv=>whnf)|refine k8 ?_|fail
   exact aa.i rfl
  ·rw[if_neg h6];obtain⟨s4,hs4⟩:=exEq (decide (n.kind=4));rw[←hs4];refine kf rfl rfl ?_;repeat' first|exact k9|refine k2 ?_|apply kA|apply kI;intro hc|apply kL;intro hl|((simp only[hkids])<;>conv=>whnf)|((simp only[hn])<;>conv=>whnf)|refine k8 ?_|fail
   all_goals
    apply Stp.fW 9 3 1 rfl rfl;apply kCt [1,3,7,8,9,10] [];conv=>whnf
    refine Lp.ind (fun x:Fo×Fo×List Int=>x.2.1.len) (fun x=>x.1.app x.2.1=Q∧x.2.2++(x.2.1.cU g l s4).map (cI g)=(Q.cU g l s4).map (cI g)) (fun x=>[(10,InD x.1.len)]) (fun x=>[(2,.ro 0 3 1 (x.2.2.map ikF))]) (fun _=>(isF ((Q.cU g l s4).map (cI g)),false)) (.nil,Q,[]) ⟨rfl,rfl⟩ rfl rfl rfl ?_
    rintro G ⟨A,B,out⟩ ih ⟨hAB,ho⟩
    dsimp only at hAB ho ih ⊢;have hol:out.length≤100000:=by
     have h1:=congrArg List.length ho;have h2:=kR g l Q s4;rw[Oh,Ok,Ok] at h1;omega
    cases B with
    | nil=>
     rw[Fo.nV] at hAB;subst hAB;have hAl:=Fo.bq A;rw[show Fo.cU g l s4 .nil=[] from rfl,P0,Oj] at ho;rw[←ho]
     repeat' first|exact k9|refine k2 ?_|apply kA|apply kI;intro hc|refine k8 ?_|apply kL;intro hl
    | cons m j r=>
     have hKt:Q.trees=A.trees++aR (.cons m j .nil) :: r.trees:=by rw[←hAB,Fo.fe];rfl
     have hAl:=Fo.bq A;have hlt:A.len<Q.trees.length:=by rw[hKt,Oh,Og];omega
     have hfb2:(Fo.cons m j r).fb:=(Fo.lu.1 (by rw[hAB];exact hfb)).2;have e:foT (aR (.cons m j .nil))=.cons m j .nil:=ib rfl (Fo.aL.2 ⟨(Fo.aL.1 hfb2).1,Fo.fN⟩).2;obtain⟨x,hx⟩:=exEq (aR (.cons m j .nil));rw[←hx] at e hKt;have hgt:∀h,Q.trees[A.len]'h=x:=fun h=>by
      have:Q.trees[A.len]?=some x:=by rw[hKt,OL (by omega),hAl,Pt];rfl
      rw[Oe h] at this;exact Option.some.inj this
     have hlx:=hlen x (by rw[hKt];simp);have hlw:=hlx.2;have hz:(bM g l x).zero=(bz m (j.gF g l) (dX g l m.text)).zero:=by
      rw[v7 g l hlw.2.2.2.1,e];rfl
     have hlf:(Fo.cU g l s4 (.cons m j r)).map (cI g)=fZ g l x++(if (s4 && !(bM g l x).zero)=true then [] else (r.cU g l s4).map (cI g)):=by
      rw[hz,fZ,e];simp only[Fo.cU,List.map_append,P5,OQ,if_false,Oj,P0]
      by_cases hb:(s4 && !(bz m (j.gF g l) (dX g l m.text)).zero)=true
      ·rw[if_pos hb,if_pos hb];rfl
      ·rw[if_neg hb,if_neg hb]
     rw[hlf,←List.append_assoc] at ho;have hll:(fZ g l x).length≤100000:=by
      have h1:=congrArg List.length ho;have h2:=kR g l Q s4;rw[Oh,Oh,Ok] at h1;omega
     have hgo:(s4 && !(bM g l x).zero)=false→(out++fZ g l x)++(r.cU g l s4).map (cI g)=(Q.cU g l s4).map (cI g):=fun h=>by rw[h] at ho;exact ho
     have hst:(s4 && !(bM g l x).zero)=true→out++fZ g l x=(Q.cU g l s4).map (cI g):=fun h=>by rw[h,if_pos rfl,Oj] at ho;exact ho
     have hapA:(A.app (.cons m j .nil)).app r=Q:=by rw[Fo.m4];exact hAB
     have hlA:(A.app (.cons m j .nil)).len=A.len+1:=by rw[Fo.mT];rfl
     repeat' first|exact k9|refine k2 ?_|apply kA|apply kI;intro hc|apply kL;intro hl|((simp only[hgt])<;>conv=>whnf)|refine k8 ?_|fail
     all_goals first
      | (
        refine aa.i ?_;rw[←List.map_append,hst (by rw[hs4,decide_eq_true (by assumption),show(bM g l x).zero=false by assumption];rfl)]
        done)
      | (
        apply kCt [1,3,7,8,9,10] [];conv=>whnf
        refine ih (A.app (.cons m j .nil),r,out++fZ g l x) _ _ _ (by simp only[Fo.len];omega) ⟨hapA,hgo ?_⟩ rfl ?_ ?_
        ·rw[hs4]
         first
          | (rw[decide_eq_false (by assumption)];rfl)
          | (rw[decide_eq_true (by assumption)];clear hs4 hgo hst ho;simp only[PG,Bool.not_eq_false'];assumption)
        ·dsimp only;rw[hlA];rfl
        ·dsimp only;rw[List.map_append];rfl)
instance(g:List Dfn)(l:List Fl)(t:Tre):C 143 [aN g,eF l,aw t] (isF (fZ g l t)) false (t.nodes.length≤100000∧WlT g l t):=⟨fun h=>Ec g l (t.nodes.length+1) t (by omega) h.1 h.2⟩
set_option maxRecDepth 100000
set_option maxHeartbeats 0
instance(g:List Dfn):C 87 [aN g] (isF (if b4 g=0 then ((List.range g.length).filter (cL g)).map Int.ofNat else [])) false (SmG g):=⟨fun hs=>by
 have hgl:=hs.1
 by_cases hm:b4 g=0
 ·rw[if_pos hm];have hok:=eO hm;have hfo:cR g=(cz g,0):=by rw[cR,if_pos hm]
  have hfl:(cz g).length=g.length:=ly g _;refine kf rfl rfl ?_;repeat' first|exact k9|refine k2 ?_|apply kA|apply kI;intro hc|apply kL;intro hl|((simp only[hfo])<;>conv=>whnf)|refine k8 ?_|fail
  apply Stp.fW 5 3 1 rfl rfl;apply kCt [1,3,4,5,6] [];conv=>whnf
  refine Lp.ind (fun z:Nat=>g.length - z) (fun z=>z≤g.length) (fun z=>[(6,InD z)]) (fun z=>[(1,.ro 0 3 1 ((((List.range z).filter (cL g)).map Int.ofNat).map ikF))]) (fun _=>_) 0 (by omega) rfl rfl rfl ?_
  rintro G i ih hi
  have hll:((List.range i).filter (cL g)).length≤1000:=by
   have:=PU (cL g) (List.range i);rw[Pw] at this;omega
  by_cases hx:i<g.length
  ·obtain⟨d,hd⟩:=exEq (g[i]);have hdi:∀h:i<g.length,g[i]'h=d:=fun _=>hd.symm
   have hmem:d∈g:=by rw[hd];exact Of hx
   have hdm:=hs.2 d hmem;have hpre:d.body.nodes.length≤100000∧WlT g (cz g) d.body:=⟨OA (hok.small hmem) (by decide),hgl,hfl,⟨hdm.1.body,hdm.2⟩,hok.right hmem,hok.named d hmem⟩
   have hlp:cL g i=(foT d.body).loops g (cz g):=by rw[cL,Oe hx,←hd]
   have hnx:((List.range (i+1)).filter (cL g)).map Int.ofNat=((List.range i).filter (cL g)).map Int.ofNat++(if cL g i=true then [(i:Int)] else []):=by
    rw[Qv,PD,List.map_append]
    congr 1
    by_cases h:cL g i=true<;>simp[h]
   rw[hlp] at hnx
   repeat' first|exact k9|refine k2 ?_|apply kA|apply kI;intro hc|apply kL;intro hl|((simp only[hdi])<;>conv=>whnf)|refine k8 ?_|fail
   all_goals
    try simp only[hdi] at hc
    apply kCt [1,3,4,5,6] [];conv=>whnf
    refine ih (i+1) _ _ _ (by omega) (by omega) rfl rfl ?_;rw[hnx,hc];simp only[if_true,OQ,if_false,List.map_append,Oj];rfl
  ·obtain rfl:i=g.length:=by omega
   repeat' first|exact k9|refine k2 ?_|apply kA|apply kI;intro hc|refine k8 ?_|apply kL;intro hl
 ·rw[if_neg hm];have hfo:cR g=([],b4 g):=by rw[cR,if_neg hm]
  refine kf rfl rfl ?_;repeat' first|exact k9|refine k2 ?_|apply kA|apply kI;intro hc|apply kL;intro hl|((simp only[hfo])<;>conv=>whnf)|refine k8 ?_|fail
  apply Stp.on
  repeat' first|exact k9|refine k2 ?_|apply kA|apply kI;intro hc|refine k8 ?_|apply kL;intro hl
  all_goals exact aa.i rfl⟩
set_option maxRecDepth 100000
set_option maxHeartbeats 0
def tg(g:List Dfn)(i:Nat):List Int:=match g[i]? with
 | some d=>((List.range g.length).map Int.ofNat).filter fun k=>decide (k∈fZ g (cz g) d.body)
 | none=>[]
instance(g:List Dfn)(i:Nat):C 120 [aN g,inF (i:Int)] (isF (tg g i)) false (SmG g∧b4 g=0∧i<g.length):=⟨fun ⟨hs,hm,hx⟩=>by
 have hgl:=hs.1;have hok:=eO hm;have hfo:cR g=(cz g,0):=by rw[cR,if_pos hm]
 have hfl:(cz g).length=g.length:=ly g _;obtain⟨d,hd⟩:=exEq (g[i]);have hdi:∀h:i<g.length,g[i]'h=d:=fun _=>hd.symm
 have hmem:d∈g:=by rw[hd];exact Of hx
 have hdm:=hs.2 d hmem;have hpre:d.body.nodes.length≤100000∧WlT g (cz g) d.body:=⟨OA (hok.small hmem) (by decide),hgl,hfl,⟨hdm.1.body,hdm.2⟩,hok.right hmem,hok.named d hmem⟩
 have hll:(fZ g (cz g) d.body).length≤100000:=by
  have h1:=kR g (cz g) (foT d.body) false;rw[dF (hok.right hmem)] at h1;rw[fZ,Ok];omega
 have e:tg g i=((List.range g.length).map Int.ofNat).filter fun k=>decide (k∈fZ g (cz g) d.body):=by rw[tg,Oe hx,←hd]
 rw[e];have hf2:(cR g).2=0:=by rw[hfo]
 refine kf rfl rfl ?_;repeat' first|exact k9|refine k2 ?_|apply kA|apply kI;intro hc|apply kL;intro hl|((simp only[hfo])<;>conv=>whnf)|((simp only[hdi])<;>conv=>whnf)|refine k8 ?_|fail
 generalize fZ g (cz g) d.body=L at *;apply Stp.fW 8 3 1 rfl rfl;apply kCt [2,7,8,9] [];conv=>whnf
 refine Lp.ind (fun z:Nat=>g.length - z) (fun z=>z≤g.length) (fun z=>[(9,InD z)]) (fun z=>[(1,.ro 0 3 1 ((((List.range z).map Int.ofNat).filter fun k=>decide (k∈L)).map ikF))]) (fun _=>_) 0 (by omega) rfl rfl rfl ?_
 rintro G j ih hj
 have hlj:(((List.range j).map Int.ofNat).filter fun k=>decide (k∈L)).length≤1000:=by
  have:=PU (fun k=>decide (k∈L)) ((List.range j).map Int.ofNat);rw[Ok,Pw] at this;omega
 by_cases hy:j<g.length
 ·have hnx:((List.range (j+1)).map Int.ofNat).filter (fun k=>decide (k∈L))=((List.range j).map Int.ofNat).filter (fun k=>decide (k∈L))++(if (j:Int)∈L then [(j:Int)] else []):=by
   rw[Qv,List.map_append,PD]
   congr 1
   by_cases h:(j:Int)∈L<;>simp[h]
  repeat' first|exact k9|refine k2 ?_|apply kA|apply kI;intro hc|refine k8 ?_|apply kL;intro hl
  ·apply kCt [2,7,8,9] [];conv=>whnf
   refine ih (j+1) _ _ _ (by omega) (by omega) rfl rfl ?_;rw[hnx,if_pos hc,List.map_append];rfl
  ·apply kCt [2,7,8,9] [];conv=>whnf
   refine ih (j+1) _ _ _ (by omega) (by omega) rfl rfl ?_;rw[hnx,if_neg hc,Oj];rfl
 ·obtain rfl:j=g.length:=by omega
  repeat' (first|exact k9|refine k2 ?_|apply kA|apply kI;intro hc|refine k8 ?_|apply kL;intro hl)⟩
set_option maxRecDepth 100000
set_option maxHeartbeats 0
def atE(t:Tre)(k:Int)(p:List Int):Tre×Bool:=match cM t.nodes k p with
 | some (_,e)=>(aC t e,true)
 | none=>(.zero,false)
theorem IG(t:Tre)(k:Int):atE t k []=(aC t k,true):=rfl
theorem KR{t:Tre}{k p:Int}{ps:List Int}(h:p<0∨((ah t.nodes k).length:Int)≤p):atE t k (p :: ps)=(.zero,false):=by
 unfold atE cM
 by_cases h0:p<0
 ·rw[if_pos h0]
 ·rw[if_neg h0,OG (by omega)]
theorem Ju{t:Tre}{k p x:Int}{ps:List Int}(h0:0≤p)(h:(ah t.nodes k)[p.toNat]?=some x):atE t k (p :: ps)=atE t x ps:=by
 unfold atE;rw[cM,if_neg (by omega),h];dsimp only
 cases cM t.nodes x ps<;>rfl
instance(t:Tre)(p:List Int):C 51 [aw t,isF p] (t2F (gi t p)) false (Sm t∧p.length≤17592186044416):=⟨fun ⟨hs,hp⟩=>by
 cases hr:ao t with
 | false=>
  rw[gi,if_neg (by rw[hr];decide)];refine kf rfl rfl ?_;repeat' first|exact k9|refine k2 ?_|apply kA|apply kI;intro hc|refine k8 ?_|apply kL;intro hl
  exact aa.i rfl
 | true=>
  have hR:=ak hr;have hrt:=hR.root;rw[show gi t p=atE t t.root p by rw[gi,if_pos hr];rfl];refine kf rfl rfl ?_;repeat' first|exact k9|refine k2 ?_|apply kA|apply kI;intro hc|refine k8 ?_|apply kL;intro hl
  apply kCt [1,2,4,6,7] [];conv=>whnf
  refine Lp.ind (fun x:Nat×Int=>p.length - x.1) (fun x=>x.1≤p.length∧(0≤x.2∧x.2<t.nodes.length)∧atE t t.root p=atE t x.2 (p.drop x.1)) (fun x=>[(7,InD x.1),(6,InD x.2)]) (fun x=>[]) (fun _=>_) (0,t.root) ⟨by omega,hrt,rfl⟩ rfl rfl rfl ?_
  rintro G ⟨i,k⟩ ih ⟨hi,hk,hE⟩
  dsimp only at hi hk hE ih ⊢
  by_cases hx:i<p.length
  ·rw[Oz hx] at hE;obtain⟨n,hn⟩:=exEq (t.nodes[k.toNat]'(by omega));have hni:∀h,t.nodes[k.toNat]'h=n:=fun _=>hn.symm
   have hch:ah t.nodes k=n.kids:=by rw[hn];exact m9 hk.1 (by omega)
   have hget:t.nodes[k.toNat]?=some n:=by rw[hn];exact Oe (by omega)
   have hkb:=hR.kok k.toNat n hget;have hkl:n.kids.length≤500000:=OA (xy hR hget) hs.le;have hno:(p[i]<0∨(n.kids.length:Int)≤p[i])→atE t t.root p=(.zero,false):=fun h=>by rw[hE,KR (by rw[hch];exact h)]
   repeat' first|exact k9|refine k2 ?_|apply kA|apply kI;intro hc|apply kL;intro hl|((simp only[hni])<;>conv=>whnf)|refine k8 ?_|fail
   ·exact aa.i (by rw[hno (.inl hc)];rfl)
   ·simp only[hni] at hc;exact aa.i (by rw[hno (.inr hc)];rfl)
   ·have hpl:p[i].toNat<n.kids.length:=by simp only[hni] at hc;omega
    have hp0:0≤p[i]:=by assumption
    have hk2:=hkb _ (Of hpl);apply kCt [1,2,4,6,7] [];conv=>whnf
    refine ih (i+1,n.kids[p[i].toNat]) _ _ _ (by dsimp only;omega) ⟨by dsimp only;omega,⟨hk2.1,by dsimp only;omega⟩,?_⟩ rfl rfl rfl;rw[hE,Ju hp0 (by rw[hch];exact Oe hpl)]
  ·rw[OE (by omega),IG] at hE;have hsub:iT t k=(aC t k,true):=by rw[iT,if_pos ⟨hr,by omega,by omega⟩]
   rw[hE]
   repeat' (first|exact k9|refine k2 ?_|apply kA|apply kI;intro hc|apply kL;intro hl|((simp only[hsub])<;>conv=>whnf)|refine k8 ?_|fail)⟩
set_option maxRecDepth 100000
set_option maxHeartbeats 0
instance(g:List Dfn)(r:Int)(p:List Int):C 22 [aN g,.ag [inF r,isF p]] (t2F (aY g r p)) false (SmG g∧p.length≤17592186044416):=⟨fun ⟨hs,hp⟩=>by
 have hgl:=hs.1
 by_cases h:0≤r∧r<g.length
 ·rw[aY,dif_pos h];obtain⟨h0,h1⟩:=h;obtain⟨d,hd⟩:=exEq (g[r.toNat]'(by omega));have hdi:∀h,g[r.toNat]'h=d:=fun _=>hd.symm
  have hdm:=hs.2 d (by rw[hd];exact Of _);have hpre:Sm d.body∧p.length≤17592186044416:=⟨⟨hdm.1.body,hdm.2⟩,hp⟩
  rw[←hd];refine kf rfl rfl ?_;repeat' first|exact k9|refine k2 ?_|apply kA|apply kI;intro hc|apply kL;intro hl|((simp only[hdi])<;>conv=>whnf)|refine k8 ?_|fail
 ·rw[aY,dif_neg h];refine kf rfl rfl ?_;repeat' first|exact k9|refine k2 ?_|apply kA|apply kI;intro hc|refine k8 ?_|apply kL;intro hl
  all_goals exact aa.i rfl⟩
set_option maxRecDepth 100000
set_option maxHeartbeats 0
instance(t:Tre):C 90 [aw t] (.tp [aw (aD t).of,inF (aD t).least,inF (aD t).cG]) false (Sm t∧ax t):=⟨fun ⟨hs,hR⟩=>by
 have hri:=bG.2 hR;obtain⟨Q,hF,hfb,hrk,hfit,hkids⟩:=fU hri
 by_cases h6:(av t).kind=6
 ·have h1:=(jr hfit).1.2.1 (by omega);have hl:(ae t).length=1:=by rw[hkids,Fo.bq];omega
  obtain⟨x,hx⟩:=P2.1 hl;have hx0:∀h,(ae t)[0]'h=x:=fun h=>by simp only[hx,Pa]
  rw[aD,if_pos h6,p9,hx];refine kf rfl rfl ?_;repeat' first|exact k9|refine k2 ?_|apply kA|apply kI;intro hc|apply kL;intro hl|((simp only[hx0])<;>conv=>whnf)|refine k8 ?_|fail
  exact aa.i rfl
 ·rw[aD,if_neg h6];refine kf rfl rfl ?_;repeat' (first|exact k9|refine k2 ?_|apply kA|apply kI;intro hc|refine k8 ?_|apply kL;intro hl)⟩
end Go.Km
end
section
namespace Go.ab
open Go Go.Km
theorem J9(t:Tre):(0≤(aD t).least∧(aD t).least≤99)∧(-1≤(aD t).cG∧(aD t).cG≤99):=by
 unfold aD
 split
 ·rename_i h;obtain⟨_,_,h1,h2⟩:=j7 h;exact⟨h1,h2⟩
 ·dsimp only;omega
theorem Gc{t:Tre}(h:Sm t):Sm (aD t).of:=by
 unfold aD
 split
 ·refine⟨?_,OA ?_ h.le⟩
  ·unfold p9
   cases hk:ae t with
   | nil=>exact Tre.aV
   | cons x l=>exact dp h.wf x (by rw[hk];simp)
  ·unfold p9
   cases hk:ae t with
   | nil=>exact Oq _
   | cons x l=>
    have h1:=bH (show x∈ae t by rw[hk];simp);have h2:=(bu t).1;show x.nodes.length≤_
    omega
 ·exact h
end Go.ab
namespace Go.Km
open Go Go.Vc Go.Proofs Go.ab Go.Proofs.YthebhpcjcihjgaaGreatDoor
set_option maxRecDepth 100000
set_option maxHeartbeats 0
instance(x y:Tre):C 54 [aw x,aw y,byF 6] (t2F (fh x y)) false ((Sm x∧ax x)∧(Sm y∧ax y)):=⟨fun ⟨hx,hy⟩=>by
 have hsx:=hx.1;have hsy:=hy.1;have wx:=iu hsx.wf;have wy:=iu hsy.wf;have zx:szS (av x).text≤140737488355328:=wx.text;have zy:szS (av y).text≤140737488355328:=wy.text;simp only[jV] at zx zy;refine kf rfl rfl ?_;repeat' first|exact k9|refine k2 ?_|apply kA|apply kI;intro hc|refine k8 ?_|apply kL;intro hl
 ·rw[fh,if_neg (by omega)];exact aa.i rfl
 ·rw[fh,if_pos (by omega)];refine aa.i ?_;rw[xF];rfl
 ·rw[fh,if_neg (by omega)];exact aa.i rfl
 ·rw[fh,if_neg (by omega)];exact aa.i rfl⟩
theorem CU{t u:Int}(h:0≤t)(k:0≤u):eg t u=(t+u,decide (t+u≤99)):=by rw[eg,if_neg (by omega)]
theorem JM{t u:Int}(h:t=-1∨u=-1):eg t u=(-1,true):=by rw[eg,if_pos h]
instance(x y:Tre):C 54 [aw x,aw y,byF 3] (t2F (bO x y)) false ((Sm x∧ax x)∧(Sm y∧ax y)∧x.nodes.length≤100000):=⟨fun ⟨hx,hy,hxl⟩=>by
 have hsx:=Gc hx.1;have hsy:=Gc hy.1;have hsp:Sm (aD x).of∧Sm (aD y).of:=⟨hsx,hsy⟩
 obtain⟨bx1,bx2⟩:=J9 x;obtain⟨by1,by2⟩:=J9 y;have hol:=mw x;have hl:=CU bx1.1 by1.1
 cases hs:j9 (aD x).of (aD y).of with
 | false=>
  rw[show bO x y=(.zero,false) from by rw[bO,if_pos (.inr hs)]];refine kf rfl rfl ?_;repeat' first|exact k9|refine k2 ?_|apply kA|apply kI;intro hc|refine k8 ?_|apply kL;intro hl
  all_goals exact aa.i rfl
 | true=>
  by_cases h2:(aD y).least≠0∧(aD x).least≠(aD x).cG
  ·rw[show bO x y=(.zero,false) from by rw[bO,if_pos (.inl h2)]];refine kf rfl rfl ?_;repeat' first|exact k9|refine k2 ?_|apply kA|apply kI;intro hc|refine k8 ?_|apply kL;intro hl
   all_goals exact aa.i rfl
  ·have h0:¬(((aD y).least≠0∧(aD x).least≠(aD x).cG)∨j9 (aD x).of (aD y).of=false):=by rw[hs];rintro(h|h);exact h2 h;cases h
   by_cases hb:(aD x).cG=-1∨(aD y).cG=-1
   ·have hm:=JM hb;have hpre:(aD x).of.wf∧(aD x).of.nodes.length≤100000∧(⟨6,.zero,⟨#[]⟩,(aD x).least+(aD y).least,-1,[]⟩:Nod).wf:=⟨hsx.wf,by omega,ia (by omega) (by omega)⟩
    by_cases ha:(aD x).least+(aD y).least≤99
    ·rw[show bO x y=eG ⟨6,.zero,⟨#[]⟩,(aD x).least+(aD y).least,-1,[]⟩ [(aD x).of] from by rw[bO,if_neg h0,hl,hm,decide_eq_true ha,if_pos ⟨rfl,rfl⟩];rfl];refine kf rfl rfl ?_;repeat' first|exact k9|refine k2 ?_|apply kA|apply kI;intro hc|refine k8 ?_|apply kL;intro hl
     all_goals exact aa.i rfl
    ·rw[show bO x y=(.zero,false) from by rw[bO,if_neg h0,hl,hm,decide_eq_false ha,if_neg (fun h=>by cases h.1)]];refine kf rfl rfl ?_;repeat' first|exact k9|refine k2 ?_|apply kA|apply kI;intro hc|refine k8 ?_|apply kL;intro hl
     all_goals exact aa.i rfl
   ·have hm:eg (aD x).cG (aD y).cG=((aD x).cG+(aD y).cG,decide ((aD x).cG+(aD y).cG≤99)):=CU (by omega) (by omega);have hpre:(aD x).of.wf∧(aD x).of.nodes.length≤100000∧(⟨6,.zero,⟨#[]⟩,(aD x).least+(aD y).least,(aD x).cG+(aD y).cG,[]⟩:Nod).wf:=⟨hsx.wf,by omega,ia (by omega) (by omega)⟩
    by_cases ha:(aD x).least+(aD y).least≤99∧(aD x).cG+(aD y).cG≤99
    ·rw[show bO x y=eG ⟨6,.zero,⟨#[]⟩,(aD x).least+(aD y).least,(aD x).cG+(aD y).cG,[]⟩ [(aD x).of] from by rw[bO,if_neg h0,hl,hm,decide_eq_true ha.1,decide_eq_true ha.2,if_pos ⟨rfl,rfl⟩];rfl];refine kf rfl rfl ?_;repeat' first|exact k9|refine k2 ?_|apply kA|apply kI;intro hc|refine k8 ?_|apply kL;intro hl
     all_goals exact aa.i rfl
    ·rw[show bO x y=(.zero,false) from by rw[bO,if_neg h0,hl,hm,if_neg (fun h=>ha ⟨of_decide_eq_true h.1,of_decide_eq_true h.2⟩)]];refine kf rfl rfl ?_;repeat' first|exact k9|refine k2 ?_|apply kA|apply kI;intro hc|refine k8 ?_|apply kL;intro hl
     all_goals exact aa.i rfl⟩
end Go.Km
end
section
namespace Go.ab
open Go Go.Km
def Fo.nth:Fo→Nat→Option Fo
 | .nil,_=>none
 | .cons n k _,0=>some (.cons n k .nil)
 | .cons _ _ r,i+1=>r.nth i
def fv:List Int→Fo→Fo→Option Fo
 | [],_,X=>some X
 | _ :: _,.nil,_=>none
 | i :: ps,.cons n k _,X=>if i<0 then none else match k.nth i.toNat with
  | some T=>(match fv ps T X with
   | some Y=>some (.cons n (Fo.setAt i.toNat Y k) .nil)
   | none=>none)
  | none=>none
theorem yk{ns:List Nod}{f:Nat}(hf:0<f):∀(l:List Int) (i:Nat),(aF ns f l).nth i=(match l[i]? with|some x=>some (aF ns f [x])|none=>none)
 | [],i=>by rw[aA];simp[Fo.nth]
 | x :: l,i=>by
  obtain⟨j,hj⟩:=ew (ns:=ns) (f:=f) x hf;rw[bk x l hf,hj]
  cases i with
  | zero=>simp only[Fo.app,Fo.nth,OZ];rw[hj]
  | succ i=>simp only[Fo.app,Fo.nth,O4];exact yk hf l i
theorem v5{ns:List Nod}(hc:cb (ah ns))(X:Fo):∀(p:List Int) (k:Int),0≤k→k<ns.length→fv p (aF ns ns.length [k]) X=(match cM ns k p with|some (row,_)=>some (upF ns row X)|none=>none)
 | [],k,_,_=>rfl
 | i :: ps,k,h0,h1=>by
  rw[gl hc h0 h1,fv,cM]
  split
  ·rfl
  ·rw[yk (by omega)]
   cases hx:(ah ns k)[i.toNat]? with
   | none=>rfl
   | some x=>
    have:=hc k x (OI hx);dsimp only;rw[v5 hc X ps x this.1 (by omega)]
    cases cM ns x ps with
    | none=>rfl
    | some a=>rfl
theorem xl:∀(F:Fo) (i:Nat) {T:Fo},F.nth i=some T→i<F.len∧∃(A:Fo) (m:Nod) (j B:Fo),F=A.app (.cons m j B)∧A.len=i∧T=.cons m j .nil
 | .nil,i,T,h=>by cases h
 | .cons n k r,0,T,h=>⟨by simp[Fo.len],.nil,n,k,r,rfl,rfl,by cases h;rfl⟩
 | .cons n k r,i+1,T,h=>by
  obtain⟨h1,A,m,j,B,h2,h3,h4⟩:=xl r i h;exact⟨by simp only[Fo.len];omega,.cons n k A,m,j,B,by rw[Fo.app,←h2],by simp only[Fo.len];omega,h4⟩
theorem qa(G:Fo)(m:Nod)(j B:Fo):∀A:Fo,Fo.setAt A.len G (A.app (.cons m j B))=A.app (G.app B)
 | .nil=>rfl
 | .cons n k r=>by
  show Fo.setAt (Fo.cons n k r).len G (.cons n k (r.app (.cons m j B)))=_
  rw[show(Fo.cons n k r).len=r.len+1 by simp only[Fo.len],Fo.setAt,qa G m j B r]
  try rfl
theorem tA:∀(p:List Int) {F X Y:Fo},F.fb→F.len=1→F.dwf→X.fb→X.len=1→X.dwf→fv p F X=some Y→Y.fb∧Y.len=1∧Y.dwf∧Y.size≤F.size+X.size
 | [],F,X,Y,hf,hl,hd,hx,hxl,hxd,h=>by cases h;exact⟨hx,hxl,hxd,by omega⟩
 | i :: ps,.nil,X,Y,hf,hl,hd,hx,hxl,hxd,h=>by cases h
 | i :: ps,.cons n k r,X,Y,hf,hl,hd,hx,hxl,hxd,h=>by
  rw[fv] at h
  split at h
  ·cases h
  split at h
  ·rename_i T hT;obtain⟨h1,A,m,j,B,h2,h3,h4⟩:=xl k i.toNat hT;have hk:=(Fo.aL.1 hf).1;have hkd:=hd.2.1;rw[h2] at hkd;have hkf:=hk.2.2;rw[h2] at hkf;have hkd2:=(Fo.iV _ _).1 hkd;have hkf2:=Fo.lu.1 hkf
   split at h
   ·rename_i Z hZ
    cases h;have hcf:=Fo.aL.1 hkf2.2;obtain⟨q1,q2,q3,q4⟩:=tA ps (F:=T) (X:=X) (Y:=Z) (by rw[h4];exact Fo.aL.2 ⟨hcf.1,Fo.fN⟩) (by rw[h4];rfl) (by rw[h4];exact⟨hkd2.2.1,hkd2.2.2.1,trivial⟩) hx hxl hxd hZ;have e:Fo.setAt i.toNat Z k=A.app (Z.app B):=by rw[h2,←h3];exact qa Z m j B A
    have el:(A.app (Z.app B)).len=k.len:=by
     rw[Fo.BK,Fo.BK,q2,h2,Fo.BK];simp only[Fo.len];omega
    have hs:k.size=A.size+(j.size+1+B.size):=by rw[h2,Fo.eo];simp only[Fo.size];try omega
    rw[h4] at q4;simp only[Fo.size] at q4;rw[e];refine⟨Fo.aL.2 ⟨⟨by rw[el];exact hk.1,hk.2.1,Fo.lu.2 ⟨hkf2.1,Fo.lu.2 ⟨q1,hcf.2⟩⟩⟩,Fo.fN⟩,rfl,⟨hd.1,(Fo.iV _ _).2 ⟨hkd2.1,(Fo.iV _ _).2 ⟨q3,hkd2.2.2.2⟩⟩,trivial⟩,?_⟩;simp only[Fo.size,Fo.eo];omega
   ·cases h
  ·cases h
theorem kW{t:Tre}(h:ao t=true):∀x∈ae t,ao x=true:=by
 obtain⟨Q,_,hfb,_,_,hk⟩:=fU h;rw[hk];exact(ct hfb.1 hfb.2).1
def gm(t:Tre):List Int→Tre→Tre
 | [],x=>x
 | i :: ps,x=>match fv (i :: ps) (foT t) (foT x) with
  | some Y=>aR Y
  | none=>.zero
theorem jH{t x:Tre}{p:List Int}(ht:ao t=true)(hx:ao x=true)(htw:t.wf)(hxw:x.wf)(h:(fv p (foT t) (foT x)).isSome=true)(hs:t.nodes.length+x.nodes.length≤1466015503701) :
  ao (gm t p x)=true∧(gm t p x).wf∧(gm t p x).nodes.length≤t.nodes.length+x.nodes.length∧fv p (foT t) (foT x)=some (foT (gm t p x)):=by
 obtain⟨Y,hY⟩:=PV.1 h;have h1:=ov ht;have h2:=ov hx;obtain⟨q1,q2,q3,q4⟩:=tA p h1.1 h1.2 (eS htw.nodes _ _) h2.1 h2.2 (eS hxw.nodes _ _) hY;rw[dF (ak ht),dF (ak hx)] at q4
 cases p with
 | nil=>
  cases hY;exact⟨hx,hxw,Nat.le_add_left _ _,rfl⟩
 | cons i ps=>
  have e:gm t (i :: ps) x=aR Y:=by rw[gm,hY]
  rw[e];exact⟨jA q2 q1.1,lr q3 (by unfold b9;omega),by rw[j8];exact q4,by rw[hY,ib q2 q1.2]⟩
theorem Ej{t x:Tre}{i:Int}{ps:List Int}(ht:ao t=true)(hx:ao x=true)(htw:t.wf)(hxw:x.wf)(h:(fv (i :: ps) (foT t) (foT x)).isSome=true)(hs:t.nodes.length+x.nodes.length≤1466015503701) :
  0≤i∧i<(ae t).length∧∀q,(ae t)[i.toNat]?=some q→(fv ps (foT q) (foT x)).isSome=true∧ofP (av t) ((ae t).set i.toNat (gm q ps x))=(gm t (i :: ps) x,true):=by
 obtain⟨Q,hF,hfb,hrk,hfit,hkids⟩:=fU ht;obtain⟨Y,hY⟩:=PV.1 h;have hY0:=hY;rw[hF,fv] at hY
 split at hY
 ·cases hY
 rename_i h0
 split at hY
 ·rename_i T hT;obtain⟨h1,A,m,j,B,h2,h3,h4⟩:=xl Q i.toNat hT
  split at hY
  ·rename_i Z hZ
   cases hY;have hl:(ae t).length=Q.len:=by rw[hkids,Fo.bq]
   refine⟨by omega,by omega,fun q hq=>?_⟩;have hAl:A.trees.length=i.toNat:=by rw[Fo.bq,h3]
   have hfb2:=hfb;rw[h2] at hfb2;have hfb3:=Fo.lu.1 hfb2;have hfb4:=Fo.aL.1 hfb3.2;have hq2:q=aR (.cons m j .nil):=by
    rw[hkids,h2,Fo.fe,OL (by omega),hAl,Pt] at hq;simp only[Fo.trees,OZ,PA] at hq;exact hq.symm
   have hfq:foT q=T:=by rw[hq2,h4];exact ib rfl (Fo.aL.2 ⟨hfb4.1,Fo.fN⟩).2
   have hrq:ao q=true:=by rw[hq2];exact jA rfl (Fo.aL.2 ⟨hfb4.1,Fo.fN⟩).1
   have hqm:q∈ae t:=OI hq;have hqw:q.wf:=dp htw q hqm;have hqn:q.nodes.length≤t.nodes.length:=by
    have:=bH hqm;have:=(bu t).1;omega
   have hsome:(fv ps (foT q) (foT x)).isSome=true:=by rw[hfq,hZ];rfl
   obtain⟨r1,r2,r3,r4⟩:=jH hrq hx hqw hxw hsome (by omega);rw[hfq,hZ] at r4;have hZe:Z=foT (gm q ps x):=by cases r4;rfl
   refine⟨hsome,?_⟩;have hset:(ae t).set i.toNat (gm q ps x)=A.trees++(gm q ps x) :: B.trees:=by
    rw[hkids,h2,Fo.fe,PF _ _ (by omega),hAl,Pt];rfl
   have hall:∀y∈A.trees++(gm q ps x) :: B.trees,ao y=true:=fun y hy=>by
    rcases Oy.1 hy with hy|hy
    ·exact(ct hfb3.1.1 hfb3.1.2).1 y hy
    ·rcases OD.1 hy with rfl|hy
     ·exact r1
     ·exact(ct hfb4.2.1 hfb4.2.2).1 y hy
   have hlen:(A.trees++(gm q ps x) :: B.trees).length=Q.len:=by
    rw[←hset,Qt,hl]
   rw[hset,oL (by rw[hlen];exact hfit) hall];have hfo:foL (A.trees++(gm q ps x) :: B.trees)=Fo.setAt i.toNat Z Q:=by
    rw[Jf,foL,(ct hfb3.1.1 hfb3.1.2).2,(ct hfb4.2.1 hfb4.2.2).2,←hZe,h2,←h3];exact(qa Z m j B A).symm
   have hn:({ av t with kids:=[] }:Nod)=av t:=by rw[Nod.eq_iff];exact⟨rfl,rfl,rfl,rfl,rfl,hrk.symm⟩
   rw[hfo,hn,gm,hY0]
  ·cases hY
 ·cases hY
theorem vC{t x:Tre}{p:List Int}(ht:ao t=true)(hx:ao x=true)(htw:t.wf)(hxw:x.wf)(hs:t.nodes.length+x.nodes.length≤1466015503701)(h:(gi t p).2=true):(fv p (foT t) (foT x)).isSome=true∧cx t p x=dU (gm t p x):=by
 have hR:=ak ht;have hfd:=v5 hR.kok.ah (foT x) p t.root hR.root.1 hR.root.2;rw[gi,if_pos ht] at h
 cases hd:cM t.nodes t.root p with
 | none=>rw[hd] at h;cases h
 | some a=>
  obtain⟨row,e⟩:=a;rw[hd] at hfd;have hsome:(fv p (foT t) (foT x)).isSome=true:=by rw[show fv p (foT t) (foT x)=_ from hfd];rfl
  obtain⟨r1,r2,r3,r4⟩:=jH ht hx htw hxw hsome hs;rw[show fv p (foT t) (foT x)=_ from hfd] at r4;refine⟨hsome,?_⟩;rw[dH r1,←Option.some.inj r4,cx,if_pos (by rw[ht,hx];rfl),hd]
end Go.ab
end
section
namespace Go.Km
open Go Go.Vc Go.Proofs Go.ab Go.Proofs.YthebhpcjcihjgaaGreatDoor
set_option maxRecDepth 100000
set_option maxHeartbeats 0
theorem NG(n:Nod)(l:List Tre):C 70 [.ag (aT n),dO l] (.tp [aw (ofP n l).1,boF (ofP n l).2]) false (n.wf∧l.length≤1466015503701∧(∀t∈l,Sm t)∧tot l+1≤1466015503701):=inferInstance
theorem JB{l:List Tre}{i:Nat}{x:Tre}:tot (l.set i x)≤tot l+x.nodes.length:=by
 induction l generalizing i with
 | nil=>simp[tot]
 | cons y l ih=>
  cases i with
  | zero=>rw[P7,fE,fE];omega
  | succ i=>rw[QE,fE,fE];have:=ih (i:=i);omega
theorem Ga:∀(p:List Int) (t x:Tre),ao t=true→ao x=true→t.wf→x.wf→(fv p (foT t) (foT x)).isSome=true→t.nodes.length+x.nodes.length≤100000→p.length≤1000000→Pure Tryz.prog X1.Γ 94 [aw t,isF p,aw x] (aw (gm t p x)) false:=by
 intro p
 induction p with
 | nil=>
  intro t x hri hrx hwt hwx hsome hsz hpl;refine kf rfl rfl ?_;repeat' first|exact k9|refine k2 ?_|apply kA|apply kI;intro hc|(apply Sn.go hX;conv=>whnf)|refine k8 ?_|apply kL;intro hl
  exact aa.i rfl
 | cons i ps ih0=>
  intro t x hri hrx hwt hwx hsome hsz hpl;have inst:∀t:Tre,C 94 [aw t,isF ps,aw x] (aw (gm t ps x)) false (ao t=true∧t.wf∧(fv ps (foT t) (foT x)).isSome=true∧t.nodes.length+x.nodes.length≤100000):=fun t=>⟨fun h=>ih0 t x h.1 hrx h.2.1 hwx h.2.2.1 h.2.2.2 (by rw[Og] at hpl;omega)⟩
  obtain⟨hi0,hi1,hst⟩:=Ej hri hrx hwt hwx hsome (by omega);have hsm:Sm t:=⟨hwt,by omega⟩
  have hR:=ak hri;have h0:=hR.root;obtain⟨r,hrt⟩:∃r:Nat,t.root=r:=⟨t.root.toNat,by omega⟩
  have hrl:r<t.nodes.length:=by omega
  have hkm:=wC hri hrt (Oe hrl);obtain⟨n,hn⟩:=exEq (t.nodes[r]);have hni:∀h,t.nodes[t.root.toNat]'h=n:=fun _=>by rw[hn];congr 1;omega
  rw[←hn] at hkm;have hkN:n.kids.length≤500000:=by
   have h1:=(bu t).2;rw[hkm,Ok] at h1;omega
  have hkl:n.kids.length≤17592186044416:=by omega
  have hkb:∀k∈n.kids,0≤k∧k<r:=fun k hk=>hR.kok r n (by rw[hn];exact Oe hrl) k hk
  have hX:=pG [53] [];refine fK hX rfl rfl ?_;repeat' first|exact k9|refine k2 ?_|apply kA|apply kI;intro hc|apply kL;intro hl|(apply Sn.go hX;conv=>whnf)|((simp only[hni])<;>conv=>whnf)|refine k8 ?_|fail
  apply Stp.fW 3 38 2 rfl rfl;apply kCt [1,3,4,5] [1,3,5,6,14];conv=>whnf
  refine Lp.ind (fun x:Nat=>n.kids.length - x) (fun x=>x≤n.kids.length) (fun x=>[(5,InD x)]) (fun x=>[(1,.ro 0 38 2 (((n.kids.take x).map fun k=>aC t k).map fg))]) (fun _=>_) 0 (by simp) rfl rfl rfl ?_
  rintro G j ih hj
  by_cases hx:j<n.kids.length
  ·have hkk:=hkb _ (Of hx);have hsub:iT t n.kids[j]=(aC t n.kids[j],true):=by rw[iT,if_pos ⟨hri,by omega,by omega⟩]
   apply Sn.go hX;repeat' first|exact k9|refine k2 ?_|apply kA|apply kI;intro hc|apply kL;intro hl|(apply Sn.go hX;conv=>whnf)|((rw[hsub])<;>conv=>whnf)|refine k8 ?_|fail
   apply kCt [1,3,4,5] [1,3,5,6,14];conv=>whnf
   refine ih (j+1) _ _ _ (by omega) (by omega) rfl rfl ?_;rw[List.take_succ_eq_append_getElem hx,List.map_append,List.map_append,OK,OK];rfl
  ·rw[Om (by omega),←hkm];obtain⟨q,hq⟩:=exEq ((ae t)[i.toNat]'(by omega));have hKi:∀h,(ae t)[i.toNat]'h=q:=fun _=>hq.symm
   have hqm:q∈ae t:=by rw[hq];exact Of _
   have hqs:=hst q (by rw[hq];exact Oe _);have hqn:q.nodes.length≤t.nodes.length:=by
    have:=bH hqm;have:=(bu t).1;omega
   have hqw:=dp hwt q hqm;have hpq:ao q=true∧q.wf∧(fv ps (foT q) (foT x)).isSome=true∧q.nodes.length+x.nodes.length≤100000:=⟨kW hri q hqm,hqw,hqs.1,by omega⟩
   obtain⟨f1,f2,f3,f4⟩:=jH hpq.1 hrx hqw hwx hqs.1 (by omega);have hof:=hqs.2;have hwK:∀y∈(ae t).set i.toNat (gm q ps x),Sm y:=fun y hy=>by
    rcases PI hy with hy|rfl
    ·refine⟨dp hwt y hy,?_⟩;have:=bH hy;have:=(bu t).1;omega
    ·exact⟨f2,by omega⟩
   have htK:tot ((ae t).set i.toNat (gm q ps x))+1≤1466015503701:=by
    have h1:=JB (l:=ae t) (i:=i.toNat) (x:=gm q ps x);have:=(bu t).1;omega
   have hlK:((ae t).set i.toNat (gm q ps x)).length≤1466015503701:=by
    rw[Qt];have:=(bu t).2;omega
   have hpo:(av t).wf∧((ae t).set i.toNat (gm q ps x)).length≤1466015503701∧(∀y∈(ae t).set i.toNat (gm q ps x),Sm y)∧tot ((ae t).set i.toNat (gm q ps x))+1≤1466015503701:=⟨iu hwt,hlK,hwK,htK⟩
   clear ih hkm hkb hst hqs hwK htK hlK hq;have hdr:List.drop 1 (List.take (List.map ikF (i :: ps)).length (List.map ikF (i :: ps)))=ps.map ikF:=by rw[OU];rfl
   generalize ae t=K at *;apply Sn.go hX;repeat' first|exact k9|refine k2 ?_|apply kA|apply kI;intro hc|apply kL;intro hl|(apply Sn.go hX;conv=>whnf)|((rw[hdr])<;>conv=>whnf)|((simp only[hKi])<;>conv=>whnf)|((refine jL.seq (NG (av t) (K.set i.toNat (gm q ps x))) ?_ hpo ?_)<;>conv=>whnf)|refine k8 ?_|fail
   ·simp only[dO,List.map_set];rfl
   exact aa.i (by rw[hof])
instance(p:List Int)(t x:Tre):C 94 [aw t,isF p,aw x] (aw (gm t p x)) false (ao t=true∧ao x=true∧t.wf∧x.wf∧(fv p (foT t) (foT x)).isSome=true∧t.nodes.length+x.nodes.length≤100000∧p.length≤1000000):=⟨fun ⟨h1,h2,h3,h4,h5,h6,h7⟩=>Ga p t x h1 h2 h3 h4 h5 h6 h7⟩
instance(t:Tre)(p:List Int)(x:Tre):C 58 [aw t,isF p,aw x] (t2F (cx t p x)) false (t.wf∧x.wf∧t.nodes.length+x.nodes.length≤100000∧p.length≤1000000):=⟨fun ⟨ht,hx,hs,hp⟩=>by
 have hst:Sm t∧p.length≤17592186044416:=⟨⟨ht,by omega⟩,by omega⟩
 have hsx:Sm x:=⟨hx,by omega⟩
 cases hr:ao t with
 | false=>
  have e1:gi t p=(.zero,false):=by rw[gi,if_neg (by rw[hr];decide)]
  have e2:(gi t p).2=false:=by rw[e1]
  rw[show cx t p x=(.zero,false) from by rw[cx,if_neg (by rw[hr];simp)]];refine kf rfl rfl ?_;repeat' first|exact k9|refine k2 ?_|apply kA|apply kI;intro hc|(apply Sn.go hX;conv=>whnf)|refine k8 ?_|apply kL;intro hl
  all_goals exact aa.i rfl
 | true=>
  cases hb:(gi t p).2 with
  | false=>
   have e:cx t p x=(.zero,false):=by
    rw[gi,if_pos hr] at hb
    cases hd:cM t.nodes t.root p with
    | none=>rw[cx];split;· rw[hd]
            ·rfl
    | some a=>rw[hd] at hb;cases hb
   rw[e];refine kf rfl rfl ?_;repeat' first|exact k9|refine k2 ?_|apply kA|apply kI;intro hc|(apply Sn.go hX;conv=>whnf)|refine k8 ?_|apply kL;intro hl
   all_goals exact aa.i rfl
  | true=>
   cases hrx:ao x with
   | false=>
    rw[show cx t p x=(.zero,false) from by rw[cx,if_neg (by rw[hr,hrx];simp)]];refine kf rfl rfl ?_;repeat' first|exact k9|refine k2 ?_|apply kA|apply kI;intro hc|(apply Sn.go hX;conv=>whnf)|refine k8 ?_|apply kL;intro hl
    all_goals exact aa.i rfl
   | true=>
    obtain⟨hsome,e⟩:=vC hr hrx ht hx (by omega) hb;obtain⟨f1,f2,f3,f4⟩:=jH hr hrx ht hx hsome (by omega);have hpre:ao t=true∧ao x=true∧t.wf∧x.wf∧(fv p (foT t) (foT x)).isSome=true∧t.nodes.length+x.nodes.length≤100000∧p.length≤1000000:=⟨hr,hrx,ht,hx,hsome,hs,hp⟩
    have hpm:(gm t p x).wf∧(gm t p x).nodes.length≤100000:=⟨f2,by omega⟩
    rw[e];refine kf rfl rfl ?_;repeat' first|exact k9|refine k2 ?_|apply kA|apply kI;intro hc|(apply Sn.go hX;conv=>whnf)|refine k8 ?_|apply kL;intro hl
    all_goals exact aa.i rfl⟩
end Go.Km
end
section
namespace Go.Km
open Go Go.RowKit Go.Vc
open Go.Sl hiding lk
theorem fj.pure{P:Program}{Γ:Nat→Option (List F)}{η:Env}{f:FuncId}{l:List D}{fl:List F}{is:List Nat}{r:F}{fr:Bool}(hm:cX (D.toF η 6) l=some (fl,is))(h:Pure P Γ f fl r fr):fj P Γ η f l r.toD is (aZ η is):=by
 refine⟨fun η' hη' W c O w vs g1 g2 g3 g4=>?_⟩;have hm':cX (D.toF η' 6) l=some (fl,is):=gS (fun d x is' h3 h4=>gJ 6 d x is' h3 (fun b' hb'=>hη' b' (h4 b' hb'))) hm;have hg:=dV (η:=η) (η':=η') is hη';exact(rS.rh (k:=Is3 r.toD is (aZ η is)) hm' h ⟨rfl,rfl,hg⟩).go W c O w vs g1 g2 g3 g4
theorem lD{P:Program}{Γ:Nat→Option (List F)}{t f:Nat}{η:Env}{l:List D}{k:Kr Prop}{fl fl':List F}{is:List Nat}{r:F}{b:Bool}{pre:Prop}(h:KC P Γ f fl' r b pre)(hm:cX (D.toF η 6) l=some (fl,is))(e:fl=fl')(hp:pre)(hk:k r.toD is (aZ η is)):fQ P Γ t η f l k:=by
 subst e;exact fQ.i (fj.pure hm (h.h hp)) hk
end Go.Km
end
section
namespace Go.ab
open Go Go.Km
theorem la{t:Tre}(hr:ao t=true)(h6:(av t).kind=6):∃x,ae t=[x]∧p9 t=x∧ao x=true:=by
 obtain⟨Q,hF,hfb,hrk,hfit,hkids⟩:=fU hr;have h1:=(jr hfit).1.2.1 (by omega);have hl:(ae t).length=1:=by rw[hkids,Fo.bq];omega
 obtain⟨x,hx⟩:=P2.1 hl;exact⟨x,hx,by rw[p9,hx];rfl,kW hr x (by rw[hx];simp)⟩
def cn(t:Tre):dw:=⟨0,[],t,(av t).kind,ae t⟩
def iq(t:Tre)(way at_:Int):Tre×Bool:=if 0≤at_∧at_<aJ way.toNat (cn t) then ba way.toNat (cn t) at_ else (.zero,false)
theorem eC{t:Tre}{way at_:Int}(h:¬(0≤at_∧at_<aJ way.toNat (cn t))):iq t way at_=(.zero,false):=by rw[iq,if_neg h]
theorem jG{t:Tre}(h:t.wf)(hl:t.nodes.length≤20000):(cn t).wf:=by
 obtain⟨h3,h4⟩:=bu t;exact⟨Oq _,h,hl,(iu h).kind,dp h,by show tot (ae t)≤_;omega,by show(ae t).length≤_;omega⟩
end Go.ab
namespace Go.Km
open Go Go.Vc Go.Proofs Go.ab Go.Proofs.YthebhpcjcihjgaaGreatDoor
set_option maxRecDepth 100000
set_option maxHeartbeats 0
theorem Np(l:List Tre):C 55 [dO l] (t2F (eG b5 l)) false ((∀t∈l,t.wf)∧tot l≤100000∧l.length≤100000):=inferInstance
theorem Nj(g:List Dfn)(t:Tre)(at_:Int)(hs:Sm t)(hR:ax t)(hl:t.nodes.length≤20000):Pure Tryz.prog X1.Γ 23 [aN g,aw t,byF 3,inF at_] (t2F (iq t 3 at_)) false:=by
 have hsw:=jG hs.wf hl;have hkl:=hsw.kl;have hkl2:(ae t).length≤20000:=hkl
 by_cases hk:(av t).kind=4
 ·have hst:aJ (3:Int).toNat (cn t)=((ae t).length:Int) - 1:=by
   rw[show(3:Int).toNat=3 from rfl,aJ,if_neg (fun h=>by cases h.1),if_pos ⟨rfl,hk⟩];rfl
  by_cases h0:0≤at_∧at_<(ae t).length - 1
  ·obtain⟨h0,h2⟩:=h0;obtain⟨q,rfl⟩:∃q:Nat,at_=q:=⟨at_.toNat,by omega⟩
   have hD:iq t 3 (q:Int)=ba 3 (cn t) q:=by rw[iq,if_pos (by omega)];rfl
   have hq1:q<(ae t).length:=by omega
   have hq2:q+1<(ae t).length:=by omega
   have hbi:∀h:(((q:Nat):Int)+1).toNat<(ae t).length,(ae t)[(((q:Nat):Int)+1).toNat]'h=(ae t)[q+1]:=fun h=>by
    simp only[show(((q:Nat):Int)+1).toNat=q+1 by omega]
   have hga:(cn t).kids.getD ((q:Nat):Int).toNat .zero=(ae t)[q]:=by rw[Oo,List.getD_eq_getElem?_getD];show((ae t)[q]?).getD _=_;rw[Oe hq1];rfl
   have hgb:(cn t).kids.getD (((q:Nat):Int)+1).toNat .zero=(ae t)[q+1]:=by rw[show(((q:Nat):Int)+1).toNat=q+1 by omega,List.getD_eq_getElem?_getD];show((ae t)[q+1]?).getD _=_;rw[Oe hq2];rfl
   have hma:(ae t)[q]∈ae t:=Of _;have hmb:(ae t)[q+1]∈ae t:=Of _;have hall:=bG.2 hR;have hrk:=kW hall;have hsa:Sm (ae t)[q]∧(ae t)[q].nodes.length≤20000:=⟨⟨hsw.kids _ hma,by have:=bH hma;have:=hsw.tot;have e:(cn t).kids=ae t:=rfl;rw[e] at this;omega⟩,by have:=bH hma;have:=hsw.tot;have e:(cn t).kids=ae t:=rfl;rw[e] at this;omega⟩
   have hsb:Sm (ae t)[q+1]∧(ae t)[q+1].nodes.length≤20000:=⟨⟨hsw.kids _ hmb,by have:=bH hmb;have:=hsw.tot;have e:(cn t).kids=ae t:=rfl;rw[e] at this;omega⟩,by have:=bH hmb;have:=hsw.tot;have e:(cn t).kids=ae t:=rfl;rw[e] at this;omega⟩
   have hp6:(Sm (ae t)[q]∧ax (ae t)[q])∧(Sm (ae t)[q+1]∧ax (ae t)[q+1]):=⟨⟨hsa.1,ak (hrk _ hma)⟩,hsb.1,ak (hrk _ hmb)⟩
   have hp3:(Sm (ae t)[q]∧ax (ae t)[q])∧(Sm (ae t)[q+1]∧ax (ae t)[q+1])∧(ae t)[q].nodes.length≤100000:=⟨hp6.1,hp6.2,by omega⟩
   rw[hD]
   cases hx:(bO (ae t)[q] (ae t)[q+1]).2 with
   | true=>
    have e:ba 3 (cn t) (q:Int)=eG b5 ((ae t).take q++[(bO (ae t)[q] (ae t)[q+1]).1]++(ae t).drop (q+2)):=by rw[ba,if_neg (by decide),hga,hgb,show kX 3 (ae t)[q] (ae t)[q+1]=bO (ae t)[q] (ae t)[q+1] from rfl,if_pos hx,Oo,show(((q:Nat):Int)+2).toNat=q+2 by omega];rfl
    have hv:=tO hsa.1.wf hsb.1.wf (by omega) (by omega);have hseq0:=sm (q:=q) hsw hv;have hxn:(bO (ae t)[q] (ae t)[q+1]).1.nodes.length≤20001:=by
     exact OA (qO _ _) (by omega)
    have htt:tot ((ae t).take q++[(bO (ae t)[q] (ae t)[q+1]).1]++(ae t).drop (q+2))≤100000:=by
     have h1:tot (ae t)=tot ((ae t).take q)+tot ((ae t).drop q):=by rw[←cy,List.take_append_drop]
     have h2:tot (ae t)=tot ((ae t).take (q+2))+tot ((ae t).drop (q+2)):=by rw[←cy,List.take_append_drop]
     have h3:=hsw.tot;have e:(cn t).kids=ae t:=rfl;rw[e] at h3;rw[cy,cy,show tot [(bO (ae t)[q] (ae t)[q+1]).1]=(bO (ae t)[q] (ae t)[q+1]).1.nodes.length by simp[tot]];omega
    have hseq:(∀t_1∈((ae t).take q++[(bO (ae t)[q] (ae t)[q+1]).1]++(ae t).drop (q+2)),t_1.wf)∧tot ((ae t).take q++[(bO (ae t)[q] (ae t)[q+1]).1]++(ae t).drop (q+2))≤100000∧((ae t).take q++[(bO (ae t)[q] (ae t)[q+1]).1]++(ae t).drop (q+2)).length≤100000:=⟨hseq0.2.1,htt,by simp only[Oh,Ou,Og,Ol,OX];omega⟩
    rw[e];have hX:=pG [] [55];refine fK hX rfl rfl ?_;repeat' first|exact k9|refine k2 ?_|apply kA|apply kI;intro hc|apply kL;intro hl|(apply Sn.go hX;conv=>whnf)|((simp only[hbi])<;>conv=>whnf)|((refine lD (Np ((ae t).take q++[(bO (ae t)[q] (ae t)[q+1]).1]++(ae t).drop (q+2))) rfl ?_ hseq ?_)<;>conv=>whnf)|refine k8 ?_|fail
    ·exact⟨fT⟩
    ·exact⟨fT⟩
    ·simp only[dO,OH,Pb,OU,List.map_append,List.map_take,List.map_drop];rfl
   | false=>
    have e:ba 3 (cn t) (q:Int)=(.zero,false):=by rw[ba,if_neg (by decide),hga,hgb,show kX 3 (ae t)[q] (ae t)[q+1]=bO (ae t)[q] (ae t)[q+1] from rfl,if_neg (by rw[hx];decide)]
    rw[e];refine kf rfl rfl ?_;repeat' first|exact k9|refine k2 ?_|apply kA|apply kI;intro hc|apply kL;intro hl|(apply Sn.go hX;conv=>whnf)|((simp only[hbi])<;>conv=>whnf)|refine k8 ?_|fail
    all_goals exact aa.i rfl
  ·rw[eC (by omega)];refine kf rfl rfl ?_;repeat' first|exact k9|refine k2 ?_|apply kA|apply kI;intro hc|(apply Sn.go hX;conv=>whnf)|refine k8 ?_|apply kL;intro hl
   all_goals exact aa.i rfl
 ·rw[eC (by rw[show(3:Int).toNat=3 from rfl,aJ,if_neg (fun h=>by cases h.1),if_neg (fun h=>hk h.2)];omega)];refine kf rfl rfl ?_;repeat' first|exact k9|refine k2 ?_|apply kA|apply kI;intro hc|(apply Sn.go hX;conv=>whnf)|refine k8 ?_|apply kL;intro hl
  all_goals exact aa.i rfl
theorem Mc(g:List Dfn)(t:Tre)(at_:Int)(hs:Sm t)(hR:ax t)(hl:t.nodes.length≤20000):Pure Tryz.prog X1.Γ 23 [aN g,aw t,byF 6,inF at_] (t2F (iq t 6 at_)) false:=by
 have hsw:=jG hs.wf hl;have hkl:=hsw.kl;have hkl2:(ae t).length≤20000:=hkl
 by_cases hk:(av t).kind=4
 ·have hst:aJ (6:Int).toNat (cn t)=((ae t).length:Int) - 1:=by
   rw[show(6:Int).toNat=6 from rfl,aJ,if_neg (fun h=>by cases h.1),if_pos ⟨rfl,hk⟩];rfl
  by_cases h0:0≤at_∧at_<(ae t).length - 1
  ·obtain⟨h0,h2⟩:=h0;obtain⟨q,rfl⟩:∃q:Nat,at_=q:=⟨at_.toNat,by omega⟩
   have hD:iq t 6 (q:Int)=ba 6 (cn t) q:=by rw[iq,if_pos (by omega)];rfl
   have hq1:q<(ae t).length:=by omega
   have hq2:q+1<(ae t).length:=by omega
   have hbi:∀h:(((q:Nat):Int)+1).toNat<(ae t).length,(ae t)[(((q:Nat):Int)+1).toNat]'h=(ae t)[q+1]:=fun h=>by
    simp only[show(((q:Nat):Int)+1).toNat=q+1 by omega]
   have hga:(cn t).kids.getD ((q:Nat):Int).toNat .zero=(ae t)[q]:=by rw[Oo,List.getD_eq_getElem?_getD];show((ae t)[q]?).getD _=_;rw[Oe hq1];rfl
   have hgb:(cn t).kids.getD (((q:Nat):Int)+1).toNat .zero=(ae t)[q+1]:=by rw[show(((q:Nat):Int)+1).toNat=q+1 by omega,List.getD_eq_getElem?_getD];show((ae t)[q+1]?).getD _=_;rw[Oe hq2];rfl
   have hma:(ae t)[q]∈ae t:=Of _;have hmb:(ae t)[q+1]∈ae t:=Of _;have hall:=bG.2 hR;have hrk:=kW hall;have hsa:Sm (ae t)[q]∧(ae t)[q].nodes.length≤20000:=⟨⟨hsw.kids _ hma,by have:=bH hma;have:=hsw.tot;have e:(cn t).kids=ae t:=rfl;rw[e] at this;omega⟩,by have:=bH hma;have:=hsw.tot;have e:(cn t).kids=ae t:=rfl;rw[e] at this;omega⟩
   have hsb:Sm (ae t)[q+1]∧(ae t)[q+1].nodes.length≤20000:=⟨⟨hsw.kids _ hmb,by have:=bH hmb;have:=hsw.tot;have e:(cn t).kids=ae t:=rfl;rw[e] at this;omega⟩,by have:=bH hmb;have:=hsw.tot;have e:(cn t).kids=ae t:=rfl;rw[e] at this;omega⟩
   have hp6:(Sm (ae t)[q]∧ax (ae t)[q])∧(Sm (ae t)[q+1]∧ax (ae t)[q+1]):=⟨⟨hsa.1,ak (hrk _ hma)⟩,hsb.1,ak (hrk _ hmb)⟩
   have hp3:(Sm (ae t)[q]∧ax (ae t)[q])∧(Sm (ae t)[q+1]∧ax (ae t)[q+1])∧(ae t)[q].nodes.length≤100000:=⟨hp6.1,hp6.2,by omega⟩
   rw[hD]
   cases hx:(fh (ae t)[q] (ae t)[q+1]).2 with
   | true=>
    have e:ba 6 (cn t) (q:Int)=eG b5 ((ae t).take q++[(fh (ae t)[q] (ae t)[q+1]).1]++(ae t).drop (q+2)):=by rw[ba,if_neg (by decide),hga,hgb,show kX 6 (ae t)[q] (ae t)[q+1]=fh (ae t)[q] (ae t)[q+1] from rfl,if_pos hx,Oo,show(((q:Nat):Int)+2).toNat=q+2 by omega];rfl
    have hv:=xL hsa.1.wf hsb.1.wf (by omega) (by omega);have hseq0:=sm (q:=q) hsw hv;have hxn:(fh (ae t)[q] (ae t)[q+1]).1.nodes.length≤20001:=by
     exact OA (ua _ _) (by omega)
    have htt:tot ((ae t).take q++[(fh (ae t)[q] (ae t)[q+1]).1]++(ae t).drop (q+2))≤100000:=by
     have h1:tot (ae t)=tot ((ae t).take q)+tot ((ae t).drop q):=by rw[←cy,List.take_append_drop]
     have h2:tot (ae t)=tot ((ae t).take (q+2))+tot ((ae t).drop (q+2)):=by rw[←cy,List.take_append_drop]
     have h3:=hsw.tot;have e:(cn t).kids=ae t:=rfl;rw[e] at h3;rw[cy,cy,show tot [(fh (ae t)[q] (ae t)[q+1]).1]=(fh (ae t)[q] (ae t)[q+1]).1.nodes.length by simp[tot]];omega
    have hseq:(∀t_1∈((ae t).take q++[(fh (ae t)[q] (ae t)[q+1]).1]++(ae t).drop (q+2)),t_1.wf)∧tot ((ae t).take q++[(fh (ae t)[q] (ae t)[q+1]).1]++(ae t).drop (q+2))≤100000∧((ae t).take q++[(fh (ae t)[q] (ae t)[q+1]).1]++(ae t).drop (q+2)).length≤100000:=⟨hseq0.2.1,htt,by simp only[Oh,Ou,Og,Ol,OX];omega⟩
    rw[e];have hX:=pG [] [55];refine fK hX rfl rfl ?_;repeat' first|exact k9|refine k2 ?_|apply kA|apply kI;intro hc|apply kL;intro hl|(apply Sn.go hX;conv=>whnf)|((simp only[hbi])<;>conv=>whnf)|((refine lD (Np ((ae t).take q++[(fh (ae t)[q] (ae t)[q+1]).1]++(ae t).drop (q+2))) rfl ?_ hseq ?_)<;>conv=>whnf)|refine k8 ?_|fail
    ·exact⟨fT⟩
    ·exact⟨fT⟩
    ·simp only[dO,OH,Pb,OU,List.map_append,List.map_take,List.map_drop];rfl
   | false=>
    have e:ba 6 (cn t) (q:Int)=(.zero,false):=by rw[ba,if_neg (by decide),hga,hgb,show kX 6 (ae t)[q] (ae t)[q+1]=fh (ae t)[q] (ae t)[q+1] from rfl,if_neg (by rw[hx];decide)]
    rw[e];refine kf rfl rfl ?_;repeat' first|exact k9|refine k2 ?_|apply kA|apply kI;intro hc|apply kL;intro hl|(apply Sn.go hX;conv=>whnf)|((simp only[hbi])<;>conv=>whnf)|refine k8 ?_|fail
    all_goals exact aa.i rfl
  ·rw[eC (by omega)];refine kf rfl rfl ?_;repeat' first|exact k9|refine k2 ?_|apply kA|apply kI;intro hc|(apply Sn.go hX;conv=>whnf)|refine k8 ?_|apply kL;intro hl
   all_goals exact aa.i rfl
 ·rw[eC (by rw[show(6:Int).toNat=6 from rfl,aJ,if_neg (fun h=>by cases h.1),if_neg (fun h=>hk h.2)];omega)];refine kf rfl rfl ?_;repeat' first|exact k9|refine k2 ?_|apply kA|apply kI;intro hc|(apply Sn.go hX;conv=>whnf)|refine k8 ?_|apply kL;intro hl
  all_goals exact aa.i rfl
theorem MT(g:List Dfn)(t:Tre)(at_:Int)(hs:Sm t)(hR:ax t)(hl:t.nodes.length≤20000):Pure Tryz.prog X1.Γ 23 [aN g,aw t,byF 1,inF at_] (t2F (iq t 1 at_)) false:=by
 have hsw:=jG hs.wf hl;have hri:=bG.2 hR
 by_cases hk:(av t).kind=6
 ·have hst:aJ (1:Int).toNat (cn t)=1:=by
   rw[show(1:Int).toNat=1 from rfl,aJ,if_pos ⟨rfl,hk⟩]
  obtain⟨x,hx1,hx2,hxr⟩:=la hri hk;have hx0:∀h,(ae t)[0]'h=x:=fun h=>by simp only[hx1,Pa]
  have hxl:(ae t).length=1:=by rw[hx1];rfl
  have hxm:x∈ae t:=by rw[hx1];simp
  have hxw:=dp hs.wf x hxm;have hxn:x.nodes.length≤20000:=by
   have:=bH hxm;have:=(bu t).1;omega
  have hxs:Sm x:=⟨hxw,by omega⟩
  by_cases h0:at_=0
  ·subst h0;have hct:aD t=⟨x,(av t).min,(av t).max⟩:=by rw[aD,if_pos hk,hx2]
   have hD:iq t 1 0=nA 1 ⟨x,(av t).min,(av t).max⟩:=by
    rw[iq,if_pos (by omega),ba,if_pos (by rfl)];exact congrArg (nA 1) hct
   rw[hD];clear hD hct hst hx1;show Pure _ _ _ _ (t2F (x,isC ⟨x,(av t).min,(av t).max⟩ 1 1)) false
   unfold isC;refine kf rfl rfl ?_;repeat' first|exact k9|refine k2 ?_|apply kA|apply kI;intro hc|apply kL;intro hl|(apply Sn.go hX;conv=>whnf)|((simp only[hx0])<;>conv=>whnf)|refine k8 ?_|fail
   ·exact aa.i (by rw[dG,decide_eq_true hc,PG])
   ·exact aa.i (by rw[decide_eq_false hc,P5])
  ·rw[eC (by omega)];refine kf rfl rfl ?_;repeat' first|exact k9|refine k2 ?_|apply kA|apply kI;intro hc|(apply Sn.go hX;conv=>whnf)|refine k8 ?_|apply kL;intro hl
   all_goals exact aa.i rfl
 ·rw[eC (by rw[show(1:Int).toNat=1 from rfl,aJ,if_neg (fun h=>hk h.2),if_neg (fun h=>by cases h.1)];omega)];refine kf rfl rfl ?_;repeat' first|exact k9|refine k2 ?_|apply kA|apply kI;intro hc|(apply Sn.go hX;conv=>whnf)|refine k8 ?_|apply kL;intro hl
  all_goals exact aa.i rfl
theorem MM(g:List Dfn)(t:Tre)(at_:Int)(hs:Sm t)(hR:ax t)(hl:t.nodes.length≤20000):Pure Tryz.prog X1.Γ 23 [aN g,aw t,byF 2,inF at_] (t2F (iq t 2 at_)) false:=by
 have hsw:=jG hs.wf hl;have hri:=bG.2 hR
 by_cases hk:(av t).kind=6
 ·have hst:aJ (2:Int).toNat (cn t)=1:=by
   rw[show(2:Int).toNat=2 from rfl,aJ,if_pos ⟨rfl,hk⟩]
  obtain⟨x,hx1,hx2,hxr⟩:=la hri hk;have hx0:∀h,(ae t)[0]'h=x:=fun h=>by simp only[hx1,Pa]
  have hxl:(ae t).length=1:=by rw[hx1];rfl
  have hxm:x∈ae t:=by rw[hx1];simp
  have hxw:=dp hs.wf x hxm;have hxn:x.nodes.length≤20000:=by
   have:=bH hxm;have:=(bu t).1;omega
  have hxs:Sm x:=⟨hxw,by omega⟩
  by_cases h0:at_=0
  ·subst h0;have hct:aD t=⟨x,(av t).min,(av t).max⟩:=by rw[aD,if_pos hk,hx2]
   have hD:iq t 2 0=nA 2 ⟨x,(av t).min,(av t).max⟩:=by
    rw[iq,if_pos (by omega),ba,if_pos (by rfl)];exact congrArg (nA 2) hct
   rw[hD];clear hD hct hst hx1;show Pure _ _ _ _ (t2F (my dB,isC ⟨x,(av t).min,(av t).max⟩ 0 0)) false
   unfold isC;refine kf rfl rfl ?_;repeat' first|exact k9|refine k2 ?_|apply kA|apply kI;intro hc|apply kL;intro hl|(apply Sn.go hX;conv=>whnf)|((simp only[hx0])<;>conv=>whnf)|refine k8 ?_|fail
   ·exact aa.i (by rw[dG,decide_eq_true hc,PG];rfl)
   ·exact aa.i (by rw[decide_eq_false hc,P5];rfl)
  ·rw[eC (by omega)];refine kf rfl rfl ?_;repeat' first|exact k9|refine k2 ?_|apply kA|apply kI;intro hc|(apply Sn.go hX;conv=>whnf)|refine k8 ?_|apply kL;intro hl
   all_goals exact aa.i rfl
 ·rw[eC (by rw[show(2:Int).toNat=2 from rfl,aJ,if_neg (fun h=>hk h.2),if_neg (fun h=>by cases h.1)];omega)];refine kf rfl rfl ?_;repeat' first|exact k9|refine k2 ?_|apply kA|apply kI;intro hc|(apply Sn.go hX;conv=>whnf)|refine k8 ?_|apply kL;intro hl
  all_goals exact aa.i rfl
theorem Mr(g:List Dfn)(t:Tre)(at_:Int)(hs:Sm t)(hR:ax t)(hl:t.nodes.length≤20000):Pure Tryz.prog X1.Γ 23 [aN g,aw t,byF 4,inF at_] (t2F (iq t 4 at_)) false:=by
 have hsw:=jG hs.wf hl;have hri:=bG.2 hR
 by_cases hk:(av t).kind=6
 ·have hst:aJ (4:Int).toNat (cn t)=1:=by
   rw[show(4:Int).toNat=4 from rfl,aJ,if_pos ⟨rfl,hk⟩]
  obtain⟨x,hx1,hx2,hxr⟩:=la hri hk;have hx0:∀h,(ae t)[0]'h=x:=fun h=>by simp only[hx1,Pa]
  have hxl:(ae t).length=1:=by rw[hx1];rfl
  have hxm:x∈ae t:=by rw[hx1];simp
  have hxw:=dp hs.wf x hxm;have hxn:x.nodes.length≤20000:=by
   have:=bH hxm;have:=(bu t).1;omega
  have hxs:Sm x:=⟨hxw,by omega⟩
  by_cases h0:at_=0
  ·subst h0;have hct:aD t=⟨x,(av t).min,(av t).max⟩:=by rw[aD,if_pos hk,hx2]
   have hD:iq t 4 0=nA 4 ⟨x,(av t).min,(av t).max⟩:=by
    rw[iq,if_pos (by omega),ba,if_pos (by rfl)];exact congrArg (nA 4) hct
   rw[hD];clear hD hct hst hx1;show Pure _ _ _ _ (t2F (fp ⟨x,(av t).min,(av t).max⟩)) false
   by_cases hz:1<(av t).min∨(av t).max=0∨(av x).kind≠6
   ·rw[show fp ⟨x,(av t).min,(av t).max⟩=(.zero,false) from by rw[fp,if_pos hz]];refine kf rfl rfl ?_;repeat' first|exact k9|refine k2 ?_|apply kA|apply kI;intro hc|apply kL;intro hl|(apply Sn.go hX;conv=>whnf)|((simp only[hx0])<;>conv=>whnf)|refine k8 ?_|fail
    all_goals exact aa.i rfl
   ·have hxk:(av x).kind=6:=by omega
    obtain⟨y,hy1,hy2,hyr⟩:=la hxr hxk;have hy0:∀h,(ae x)[0]'h=y:=fun h=>by simp only[hy1,Pa]
    have hyl:(ae x).length=1:=by rw[hy1];rfl
    have hym:y∈ae x:=by rw[hy1];simp
    have hcx:aD x=⟨y,(av x).min,(av x).max⟩:=by rw[aD,if_pos hxk,hy2]
    obtain⟨_,_,hb1,hb2⟩:=j7 hk;have hpre:y.wf∧y.nodes.length≤100000∧(⟨6,.zero,⟨#[]⟩,(av t).min,-1,[]⟩:Nod).wf:=⟨dp hxw y hym,by have:=bH hym;have:=(bu x).1;omega,ia (by omega) (by omega)⟩
    clear hy1
    by_cases hq:(av x).min=1∧(av x).max=-1
    ·rw[show fp ⟨x,(av t).min,(av t).max⟩=eG ⟨6,.zero,⟨#[]⟩,(av t).min,-1,[]⟩ [y] from by
      rw[fp,if_neg hz];dsimp only;rw[hcx,isC,decide_eq_true hq.1,decide_eq_true hq.2];rfl]
     obtain⟨hq1,hq2⟩:=hq;refine kf rfl rfl ?_;repeat' first|exact k9|refine k2 ?_|apply kA|apply kI;intro hc|apply kL;intro hl|(apply Sn.go hX;conv=>whnf)|((simp only[hx0,hy0])<;>conv=>whnf)|refine k8 ?_|fail
     all_goals exact aa.i rfl
    ·rw[show fp ⟨x,(av t).min,(av t).max⟩=(.zero,false) from by
      rw[fp,if_neg hz];dsimp only;rw[hcx,isC,if_neg (fun h=>hq (by simpa using h))]]
     refine kf rfl rfl ?_;repeat' first|exact k9|refine k2 ?_|apply kA|apply kI;intro hc|apply kL;intro hl|(apply Sn.go hX;conv=>whnf)|((simp only[hx0,hy0])<;>conv=>whnf)|refine k8 ?_|fail
     all_goals exact aa.i rfl
  ·rw[eC (by omega)];refine kf rfl rfl ?_;repeat' first|exact k9|refine k2 ?_|apply kA|apply kI;intro hc|(apply Sn.go hX;conv=>whnf)|refine k8 ?_|apply kL;intro hl
   all_goals exact aa.i rfl
 ·rw[eC (by rw[show(4:Int).toNat=4 from rfl,aJ,if_neg (fun h=>hk h.2),if_neg (fun h=>by cases h.1)];omega)];refine kf rfl rfl ?_;repeat' first|exact k9|refine k2 ?_|apply kA|apply kI;intro hc|(apply Sn.go hX;conv=>whnf)|refine k8 ?_|apply kL;intro hl
  all_goals exact aa.i rfl
theorem MO(g:List Dfn)(t:Tre)(at_:Int)(hs:Sm t)(hR:ax t)(hl:t.nodes.length≤20000):Pure Tryz.prog X1.Γ 23 [aN g,aw t,byF 5,inF at_] (t2F (iq t 5 at_)) false:=by
 have hsw:=jG hs.wf hl;have hri:=bG.2 hR
 by_cases hk:(av t).kind=6
 ·have hst:aJ (5:Int).toNat (cn t)=1:=by
   rw[show(5:Int).toNat=5 from rfl,aJ,if_pos ⟨rfl,hk⟩]
  obtain⟨x,hx1,hx2,hxr⟩:=la hri hk;have hx0:∀h,(ae t)[0]'h=x:=fun h=>by simp only[hx1,Pa]
  have hxl:(ae t).length=1:=by rw[hx1];rfl
  have hxm:x∈ae t:=by rw[hx1];simp
  have hxw:=dp hs.wf x hxm;have hxn:x.nodes.length≤20000:=by
   have:=bH hxm;have:=(bu t).1;omega
  have hxs:Sm x:=⟨hxw,by omega⟩
  by_cases h0:at_=0
  ·subst h0;have hct:aD t=⟨x,(av t).min,(av t).max⟩:=by rw[aD,if_pos hk,hx2]
   have hD:iq t 5 0=nA 5 ⟨x,(av t).min,(av t).max⟩:=by
    rw[iq,if_pos (by omega),ba,if_pos (by rfl)];exact congrArg (nA 5) hct
   rw[hD];clear hD hct hst hx1;show Pure _ _ _ _ (t2F (gH ⟨x,(av t).min,(av t).max⟩)) false
   have hisc:isC ⟨x,(av t).min,(av t).max⟩ 0 1=false↔¬((av t).min=0∧(av t).max=1):=by simp[isC]
   by_cases hz:¬((av t).min=0∧(av t).max=1)∨(av x).kind≠6
   ·rw[show gH ⟨x,(av t).min,(av t).max⟩=(.zero,false) from by rw[gH,if_pos (by rw[hisc];exact hz)]];refine kf rfl rfl ?_;repeat' first|exact k9|refine k2 ?_|apply kA|apply kI;intro hc|apply kL;intro hl|(apply Sn.go hX;conv=>whnf)|((simp only[hx0])<;>conv=>whnf)|refine k8 ?_|fail
    all_goals exact aa.i rfl
   ·have hxk:(av x).kind=6:=by omega
    obtain⟨y,hy1,hy2,hyr⟩:=la hxr hxk;have hy0:∀h,(ae x)[0]'h=y:=fun h=>by simp only[hy1,Pa]
    have hyl:(ae x).length=1:=by rw[hy1];rfl
    have hym:y∈ae x:=by rw[hy1];simp
    have hcx:aD x=⟨y,(av x).min,(av x).max⟩:=by rw[aD,if_pos hxk,hy2]
    obtain⟨_,_,hb1,hb2⟩:=j7 hxk;have hpre:y.wf∧y.nodes.length≤100000∧(⟨6,.zero,⟨#[]⟩,0,(av x).max,[]⟩:Nod).wf:=⟨dp hxw y hym,by have:=bH hym;have:=(bu x).1;omega,ia (by omega) (by omega)⟩
    clear hy1
    by_cases hq:1<(av x).min
    ·rw[show gH ⟨x,(av t).min,(av t).max⟩=(.zero,false) from by
      rw[gH,if_neg (by rw[hisc];exact hz)];dsimp only;rw[hcx,if_pos hq]]
     refine kf rfl rfl ?_;repeat' first|exact k9|refine k2 ?_|apply kA|apply kI;intro hc|apply kL;intro hl|(apply Sn.go hX;conv=>whnf)|((simp only[hx0,hy0])<;>conv=>whnf)|refine k8 ?_|fail
     all_goals exact aa.i rfl
    ·rw[show gH ⟨x,(av t).min,(av t).max⟩=eG ⟨6,.zero,⟨#[]⟩,0,(av x).max,[]⟩ [y] from by
      rw[gH,if_neg (by rw[hisc];exact hz)];dsimp only;rw[hcx,if_neg hq];rfl]
     refine kf rfl rfl ?_;repeat' first|exact k9|refine k2 ?_|apply kA|apply kI;intro hc|apply kL;intro hl|(apply Sn.go hX;conv=>whnf)|((simp only[hx0,hy0])<;>conv=>whnf)|refine k8 ?_|fail
     all_goals exact aa.i rfl
  ·rw[eC (by omega)];refine kf rfl rfl ?_;repeat' first|exact k9|refine k2 ?_|apply kA|apply kI;intro hc|(apply Sn.go hX;conv=>whnf)|refine k8 ?_|apply kL;intro hl
   all_goals exact aa.i rfl
 ·rw[eC (by rw[show(5:Int).toNat=5 from rfl,aJ,if_neg (fun h=>hk h.2),if_neg (fun h=>by cases h.1)];omega)];refine kf rfl rfl ?_;repeat' first|exact k9|refine k2 ?_|apply kA|apply kI;intro hc|(apply Sn.go hX;conv=>whnf)|refine k8 ?_|apply kL;intro hl
  all_goals exact aa.i rfl
theorem M9(g:List Dfn)(t:Tre)(way at_:Int)(hw:way≠1∧way≠2∧way≠3∧way≠4∧way≠5∧way≠6)(h0:0≤way)(hs:Sm t)(hR:ax t)(hl:t.nodes.length≤20000):Pure Tryz.prog X1.Γ 23 [aN g,aw t,byF way,inF at_] (t2F (iq t way at_)) false:=by
 have hsw:=jG hs.wf hl;have hri:=bG.2 hR;obtain⟨h1,h2,h3,h4,h5,h6⟩:=hw;obtain⟨k,rfl⟩:∃k:Nat,way=k:=⟨way.toNat,by omega⟩
 have hst:aJ ((k:Nat):Int).toNat (cn t)=0:=by
  rw[Oo,aJ];have e1:gR k=false:=by simp only[gR,PX,beq_eq_false_iff_ne];omega
  have e2:dW k=false:=by simp only[dW,PX,beq_eq_false_iff_ne];omega
  rw[e1,e2,if_neg (fun h=>by cases h.1),if_neg (fun h=>by cases h.1)]
 rw[eC (by omega)];clear hst;generalize hw:((k:Nat):Int)=w at *
 by_cases hk:(av t).kind=6
 ·obtain⟨x,hx1,hx2,hxr⟩:=la hri hk;have hx0:∀h,(ae t)[0]'h=x:=fun h=>by simp only[hx1,Pa]
  have hxl:(ae t).length=1:=by rw[hx1];rfl
  have hxm:x∈ae t:=by rw[hx1];simp
  have hxw:=dp hs.wf x hxm;have hxn:x.nodes.length≤20000:=by
   have:=bH hxm;have:=(bu t).1;omega
  have hxs:Sm x:=⟨hxw,by omega⟩
  refine kf rfl rfl ?_;repeat' first|exact k9|refine k2 ?_|apply kA|apply kI;intro hc|apply kL;intro hl|(apply Sn.go hX;conv=>whnf)|((simp only[hx0])<;>conv=>whnf)|refine k8 ?_|fail
  all_goals exact aa.i rfl
 ·refine kf rfl rfl ?_;repeat' first|exact k9|refine k2 ?_|apply kA|apply kI;intro hc|(apply Sn.go hX;conv=>whnf)|refine k8 ?_|apply kL;intro hl
  all_goals exact aa.i rfl
instance(g:List Dfn)(t:Tre)(way at_:Int):C 23 [aN g,aw t,byF way,inF at_] (t2F (iq t way at_)) false (0≤way∧Sm t∧ax t∧t.nodes.length≤20000):=⟨fun ⟨h0,hs,hR,hl⟩=>by
 by_cases h1:way=1
 ·subst h1;exact MT g t at_ hs hR hl
 by_cases h2:way=2
 ·subst h2;exact MM g t at_ hs hR hl
 by_cases h3:way=3
 ·subst h3;exact Nj g t at_ hs hR hl
 by_cases h4:way=4
 ·subst h4;exact Mr g t at_ hs hR hl
 by_cases h5:way=5
 ·subst h5;exact MO g t at_ hs hR hl
 by_cases h6:way=6
 ·subst h6;exact Mc g t at_ hs hR hl
 exact M9 g t way at_ ⟨h1,h2,h3,h4,h5,h6⟩ h0 hs hR hl⟩
end Go.Km
end
section
namespace Go.ab
open Go Go.Km
def ee(g:List Dfn)(i:Nat):List Nat:=match g[i]? with
 | some d=>(List.range g.length).filter fun k=>decide ((k:Int)∈fZ g (cz g) d.body)
 | none=>[]
theorem Hq(g:List Dfn)(i:Nat):tg g i=(ee g i).map Int.ofNat:=by
 unfold tg ee
 cases g[i]? with
 | none=>rfl
 | some d=>
  dsimp only;rw[List.filter_map];rfl
theorem ti{g:List Dfn}{i k:Nat}:k∈ee g i↔k∈iX g i:=by
 unfold ee iX
 cases g[i]? with
 | none=>exact Iff.rfl
 | some d=>
  dsimp only;rw[Qu,Pf,decide_eq_true_iff,fZ,Pq,QZ]
  constructor
  ·rintro⟨h1,s,hs,he⟩
   refine⟨s,hs,?_⟩;unfold cI at he
   split at he
   ·rename_i j hj;rw[hj,show j=k by omega]
   ·omega
  ·rintro⟨s,hs,he⟩
   refine⟨(fM he).1,s,hs,?_⟩;rw[cI,he]
theorem HS{r q:Nat→Nat→Prop}(h:∀a b,r a b↔q a b){a b:Nat}:l8 r a b↔l8 q a b:=by
 have e:r=q:=by funext a b;exact propext (h a b)
 rw[e]
theorem vI(g:List Dfn)(a:Nat):∀x∈ee g a,x<g.length:=fun x hx=>w8 g a x (ti.1 hx)
theorem uQ(g:List Dfn)(a:Nat):(ee g a).length≤g.length:=by
 unfold ee
 split
 ·have:=PU (fun k:Nat=>decide ((k:Int)∈fZ g (cz g) (‹Dfn›:Dfn).body)) (List.range g.length);rw[Pw] at this;exact this
 ·exact Oq _
theorem GB{g:List Dfn}{i n0:Nat}{l:List Nat}(hi:i<g.length)(h:oN (ee g) i n0 g.length l.length l):gr g i=decide (i∈l):=by
 have h1:=h.end_ i;have h2:=wj hi;rw[HS (q:=fun a b=>b∈ee g a) fun a b=>ti.symm,←h1] at h2;rw[OV,h2,decide_eq_true_iff]
theorem zQ(l m:List Nat)(a:Nat):bB l (m++[a])=if a∈bB l m then bB l m else bB l m++[a]:=by
 rw[bB,List.foldl_append];rfl
theorem nR:∀(m l:List Nat),(bB l m).length≤l.length+m.length
 | [],l=>Ov _
 | j :: m,l=>by
  rw[bB,PJ,←bB]
  split
  ·have:=nR m l;rw[Og];omega
  ·have:=nR m (l++[j]);rw[Oh,Og,Ol] at this;rw[Og];omega
theorem nb{a:Nat}{l:List Nat}:(a:Int)∈l.map Int.ofNat↔a∈l:=by
 rw[Pq];exact⟨fun ⟨b,h1,h2⟩=>by rw[show a=b from (Int.ofNat.inj h2).symm];exact h1,fun h=>⟨a,h,rfl⟩⟩
end Go.ab
end
section
namespace Go.Km
open Go Go.Vc Go.Proofs Go.ab Go.Proofs.YthebhpcjcihjgaaGreatDoor
set_option maxRecDepth 100000
set_option maxHeartbeats 0
abbrev inN(l:List Nat):List F:=[isF (l.map Int.ofNat)]
instance(g:List Dfn):C 86 [aN g] (isF (if b4 g=0 then ((List.range g.length).filter (gr g)).map Int.ofNat else [])) false (SmG g):=⟨fun hs=>by
 have hgl:=hs.1
 by_cases hm:b4 g=0
 ·rw[if_pos hm];refine kf rfl rfl ?_;repeat' first|exact k9|refine k2 ?_|apply kA|apply kI;intro hc|refine k8 ?_|apply kL;intro hl
  apply Stp.fW 3 25 1 rfl rfl;apply kCt [1,3,4] [];conv=>whnf
  refine Lp.ind (fun z:Nat=>g.length - z) (fun z=>z≤g.length) (fun z=>[(4,InD z)]) (fun z=>[(1,.ro 0 25 1 (((List.range z).map (ee g)).map inN))]) (fun _=>_) 0 (by omega) rfl rfl rfl ?_
  rintro G i ih hi
  have hR:(List.range i).length≤1000:=by rw[Pw];omega
  by_cases hx:i<g.length
  ·have hpre:SmG g∧b4 g=0∧i<g.length:=⟨hs,hm,hx⟩
   repeat' first|exact k9|refine k2 ?_|apply kA|apply kI;intro hc|apply kL;intro hl|((simp only[hm])<;>conv=>whnf)|refine k8 ?_|fail
   apply kCt [1,3,4] [];conv=>whnf
   refine ih (i+1) _ _ _ (by omega) (by omega) rfl rfl ?_;rw[Hq,Qv,List.map_append,List.map_append];rfl
  ·obtain rfl:i=g.length:=by omega
   obtain⟨A,hA⟩:=exEq ((List.range g.length).map (ee g));have hAl:A.length=g.length:=by rw[hA,Ok,Pw]
   have hAi:∀(j:Nat) (h:j<A.length),A[j]'h=ee g j:=fun j h=>by simp only[hA,PO,Q3]
   rw[←hA];clear hA hR
   repeat' first|exact k9|refine k2 ?_|apply kA|apply kI;intro hc|apply kL;intro hl|((simp only[hm])<;>conv=>whnf)|refine k8 ?_|fail
   apply Stp.fW 5 3 1 rfl rfl;apply kCt [3,5,6] [];conv=>whnf
   refine Lp.ind (fun z:Nat=>g.length - z) (fun z=>z≤g.length) (fun z=>[(6,InD z)]) (fun z=>[(1,.ro 0 3 1 ((((List.range z).filter (gr g)).map Int.ofNat).map ikF))]) (fun _=>_) 0 (by omega) rfl rfl rfl ?_
   rintro G' i ih' hi'
   have hll:((List.range i).filter (gr g)).length≤1000:=by
    have:=PU (gr g) (List.range i);rw[Pw] at this;omega
   by_cases hy:i<g.length
   ·have hAt:∀h,A[i]'h=ee g i:=fun h=>hAi i h
    have hle:=uQ g i
    repeat' first|exact k9|refine k2 ?_|apply kA|apply kI;intro hc|apply kL;intro hl|((simp only[hAt])<;>conv=>whnf)|refine k8 ?_|fail
    apply kCt [3,5,6,7,8] [];conv=>whnf
    refine Lp.ind (fun x:Nat×List Nat=>(ee g i).length+g.length - x.1) (fun x=>oN (ee g) i (ee g i).length g.length x.1 x.2) (fun x=>[(8,InD x.1)]) (fun x=>[(2,.ro 0 3 1 ((x.2.map Int.ofNat).map ikF))]) (fun _=>_) (0,ee g i) (oN.zero hy fun a _ x hx=>vI g a x hx) rfl rfl rfl ?_
    rintro H ⟨k,l⟩ ihk hI
    dsimp only at hI ihk ⊢;have hlb:=hI.bound
    by_cases hk:k<l.length
    ·obtain⟨y,hyy⟩:=exEq (l[k]);have hyi:∀h,l[k]'h=y:=fun _=>hyy.symm
     have hyl:y<g.length:=by rw[hyy];exact hI.rng _ (Of hk)
     have hAy:∀h:y<A.length,A[y]'h=ee g y:=fun h=>hAi y h
     have hby:=uQ g y;have hst:=hI.step hk fun a _ x hx=>vI g a x hx
     rw[←hyy] at hst;obtain⟨B,hB⟩:=exEq (ee g y);rw[←hB] at hst hby hAy;have hyA:((y:Nat):Int).toNat<A.length:=by rw[Oo];omega
     have hAz:∀h:((y:Nat):Int).toNat<A.length,A[((y:Nat):Int).toNat]'h=B:=fun h=>by simp only[Oo];exact hAy _
     have hAzl:(A[((y:Nat):Int).toNat]'hyA).length=B.length:=by rw[hAz]
     repeat' first|exact k9|refine k2 ?_|apply kA|apply kI;intro hc|apply kL;intro hl|((simp only[PO,hyi,hAz,Qs])<;>conv=>whnf)|refine k8 ?_|fail
     apply kCt [3,5,6,7,8,9] [];conv=>whnf
     refine Lp.ind (fun x:Nat=>B.length - x) (fun x=>x≤B.length) (fun x=>[(9,InD x)]) (fun x=>[(2,.ro 0 3 1 (((bB l (B.take x)).map Int.ofNat).map ikF))]) (fun _=>_) 0 (by omega) rfl rfl rfl ?_
     rintro H' j ihj hj
     obtain⟨c,hcc⟩:=lb (B.take j) l;have hsn:∀h:j<B.length,bB l (B.take (j+1))=if B[j]∈bB l (B.take j) then bB l (B.take j) else bB l (B.take j)++[B[j]]:=fun h=>by rw[List.take_succ_eq_append_getElem h,zQ]
     have hLl:=nR (B.take j) l;rw[Ou] at hLl;have hend:B.length≤j→bB l (B.take j)=bB l B:=fun h=>by rw[Om h]
     obtain⟨L,hL⟩:=exEq (bB l (B.take j));rw[←hL] at hcc hLl hsn hend ⊢;have hkL:k<L.length:=by rw[hcc,Oh];omega
     have hyL:∀h,L[k]'h=y:=fun h=>by simp only[hcc];rw[PT hk];exact hyi hk
     by_cases hjx:j<B.length
     ·obtain⟨z,hz⟩:=exEq (B[j]);have hzi:∀h,B[j]'h=z:=fun _=>hz.symm
      have hsn:=hsn hjx;rw[←hz] at hsn;have hjA:j<(List.map Int.ofNat (A[((y:Nat):Int).toNat]'hyA)).length:=by rw[Ok,hAzl];exact hjx
      repeat' first|exact k9|refine k2 ?_|apply kA|apply kI;intro hc|apply kL;intro hl|((simp only[PO,hyL,hAz,hzi,Qs])<;>conv=>whnf)|refine k8 ?_|fail
      ·simp only[PO,hAz,hzi,Qs,nb] at hc;rw[if_pos hc] at hsn;apply kCt [3,5,6,7,8,9] [];conv=>whnf
       refine ihj (j+1) _ _ _ (by omega) (by omega) rfl rfl ?_;rw[hsn];rfl
      ·simp only[PO,hAz,hzi,Qs,nb] at hc;rw[if_neg hc] at hsn;apply kCt [3,5,6,7,8,9] [];conv=>whnf
       refine ihj (j+1) _ _ _ (by omega) (by omega) rfl rfl ?_;rw[hsn];simp only[hAz,hzi,List.map_append];rfl
      ·simp only[hAz] at hc;omega
     ·repeat' first|exact k9|refine k2 ?_|apply kA|apply kI;intro hc|apply kL;intro hl|((simp only[PO,hyL,hAz,Qs])<;>conv=>whnf)|refine k8 ?_|fail
      apply kCt [3,5,6,7,8] [];conv=>whnf
      have hLe:=hend (by omega);rw[hLe];exact ihk (k+1,bB l B) _ _ _ (by dsimp only;omega) hst rfl rfl rfl
    ·obtain rfl:k=l.length:=by have:=hI.le;omega
     have hlr:=GB hy hI;have hnx:((List.range (i+1)).filter (gr g)).map Int.ofNat=((List.range i).filter (gr g)).map Int.ofNat++(if gr g i=true then [(i:Int)] else []):=by
      rw[Qv,PD,List.map_append]
      congr 1
      by_cases h:gr g i=true<;>simp[h]
     rw[hlr] at hnx
     repeat' first|exact k9|refine k2 ?_|apply kA|apply kI;intro hc|refine k8 ?_|apply kL;intro hl
     ·rw[nb] at hc;rw[decide_eq_true hc,if_pos rfl] at hnx;apply kCt [3,5,6] [];conv=>whnf
      refine ih' (i+1) _ _ _ (by omega) (by omega) rfl rfl ?_;rw[hnx,List.map_append];rfl
     ·rw[nb] at hc;rw[decide_eq_false hc,if_neg (by decide),Oj] at hnx;apply kCt [3,5,6] [];conv=>whnf
      refine ih' (i+1) _ _ _ (by omega) (by omega) rfl rfl ?_;rw[hnx];rfl
   ·obtain rfl:i=g.length:=by omega
    repeat' first|exact k9|refine k2 ?_|apply kA|apply kI;intro hc|refine k8 ?_|apply kL;intro hl
 ·rw[if_neg hm];refine kf rfl rfl ?_;repeat' first|exact k9|refine k2 ?_|apply kA|apply kI;intro hc|refine k8 ?_|apply kL;intro hl
  apply Stp.on
  repeat' first|exact k9|refine k2 ?_|apply kA|apply kI;intro hc|apply kL;intro hl|((simp only[hm])<;>conv=>whnf)|refine k8 ?_|fail
  all_goals
   apply Stp.on
   repeat' first|exact k9|refine k2 ?_|apply kA|apply kI;intro hc|refine k8 ?_|apply kL;intro hl
   all_goals exact aa.i rfl⟩
end Go.Km
end
section
namespace Go.ab
open Go Go.Km
theorem pF(p:Nat→Bool):∀(n i:Nat),((List.range' i n).filter p).head?=c9 p n i
 | 0,i=>rfl
 | n+1,i=>by
  rw[QA,QT,c9]
  split
  ·rfl
  ·exact pF p n (i+1)
theorem wg{p:Nat→Bool}{n:Nat}:(c9 p n 0=none∧(List.range n).filter p=[])∨∃i r,c9 p n 0=some i∧(List.range n).filter p=i :: r:=by
 have h:=pF p n 0;rw[←List.range_eq_range'] at h
 cases hl:(List.range n).filter p with
 | nil=>rw[hl] at h;exact .inl ⟨h.symm,rfl⟩
 | cons i r=>rw[hl] at h;exact .inr ⟨i,r,h.symm,rfl⟩
end Go.ab
namespace Go.Km
open Go Go.Vc Go.Proofs Go.ab Go.Proofs.YthebhpcjcihjgaaGreatDoor
set_option maxRecDepth 100000
set_option maxHeartbeats 0
instance(g:List Dfn):C 50 [aN g] (.tp [inF (gQ g).1,inF (gQ g).2]) true (SmG g):=⟨fun hs=>by
 have hll:∀p:Nat→Bool,((List.range g.length).filter p).length≤1000:=fun p=>by
  have:=PU p (List.range g.length);rw[Pw] at this;have:=hs.1;omega
 by_cases hm:b4 g=0
 ·have hL:(if b4 g=0 then ((List.range g.length).filter (gr g)).map Int.ofNat else [])=((List.range g.length).filter (gr g)).map Int.ofNat:=if_pos hm;have hO:(if b4 g=0 then ((List.range g.length).filter (cL g)).map Int.ofNat else [])=((List.range g.length).filter (cL g)).map Int.ofNat:=if_pos hm;rw[gQ,if_pos hm];have h1:=hll (gr g);have h2:=hll (cL g);obtain⟨L,hLL⟩:=exEq (((List.range g.length).filter (gr g)).map Int.ofNat);obtain⟨O,hOO⟩:=exEq (((List.range g.length).filter (cL g)).map Int.ofNat);have iL:C 86 [aN g] (isF L) false True:=⟨fun _=>by rw[hLL,←hL];exact KC.h hs⟩
  have iO:C 87 [aN g] (isF O) false True:=⟨fun _=>by rw[hOO,←hO];exact KC.h hs⟩
  have h3:L.length≤1000:=by rw[hLL,Ok];exact h1
  have h4:O.length≤1000:=by rw[hOO,Ok];exact h2
  rcases wg (p:=gr g) (n:=g.length) with ⟨e1,e2⟩|⟨i,r,e1,e2⟩
  ·rw[e1];have h5:L.length=0:=by rw[hLL,e2];rfl
   rcases wg (p:=cL g) (n:=g.length) with ⟨e3,e4⟩|⟨i,r,e3,e4⟩
   ·rw[e3];have h6:O.length=0:=by rw[hOO,e4];rfl
    clear hLL hOO hL hO;refine kf rfl rfl ?_;repeat' first|exact k9|refine k2 ?_|apply kA|apply kI;intro hc|refine k8 ?_|apply kL;intro hl
    all_goals exact aa.i rfl
   ·rw[e3];have h6:0<O.length:=by rw[hOO,e4];simp
    have h7:∀h,O[0]'h=(i:Int):=fun h=>by simp only[hOO,e4,OB,Pa];rfl
    clear hLL hOO hL hO;refine kf rfl rfl ?_;repeat' first|exact k9|refine k2 ?_|apply kA|apply kI;intro hc|apply kL;intro hl|((simp only[h7])<;>conv=>whnf)|refine k8 ?_|fail
    all_goals exact aa.i rfl
  ·rw[e1];have h6:0<L.length:=by rw[hLL,e2];simp
   have h7:∀h,L[0]'h=(i:Int):=fun h=>by simp only[hLL,e2,OB,Pa];rfl
   clear hLL hOO hL hO;refine kf rfl rfl ?_;repeat' first|exact k9|refine k2 ?_|apply kA|apply kI;intro hc|apply kL;intro hl|((simp only[h7])<;>conv=>whnf)|refine k8 ?_|fail
   all_goals exact aa.i rfl
 ·rw[gQ,if_neg hm];refine kf rfl rfl ?_;repeat' first|exact k9|refine k2 ?_|apply kA|apply kI;intro hc|refine k8 ?_|apply kL;intro hl
  all_goals exact aa.i rfl⟩
instance(g:List Dfn):C 21 [aN g] (inF (dL g)) true (SmG g):=⟨fun hs=>by
 refine kf rfl rfl ?_;repeat' first|exact k9|refine k2 ?_|apply kA|apply kI;intro hc|refine k8 ?_|apply kL;intro hl
 all_goals exact aa.n rfl rfl⟩
end Go.Km
end
