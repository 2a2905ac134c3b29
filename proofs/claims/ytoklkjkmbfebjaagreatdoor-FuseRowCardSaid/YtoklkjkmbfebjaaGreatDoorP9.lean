/- The texts that the card needs, part 10. -/
import Derived.Test.YtoklkjkmbfebjaaGreatDoorP8
set_option linter.all false
section
namespace Go.aa
open Go
structure Fl where
 zero:Bool
 some:Bool
 fail:Bool
deriving DecidableEq
def Fl.bot:Fl:=⟨false,false,false⟩
def Fl.succ(f:Fl):Bool:=f.zero||f.some
structure Fl.le(a b:Fl):Prop where
 zero:a.zero=true→b.zero=true
 some:a.some=true→b.some=true
 fail:a.fail=true→b.fail=true
def Fl.cnt(f:Fl):Nat:=f.zero.toNat+f.some.toNat+f.fail.toNat
theorem Fl.le.refl(a:Fl):a.le a:=⟨id,id,id⟩
theorem Fl.le.trans{a b c:Fl}(h:a.le b)(k:b.le c):a.le c:=⟨fun x=>k.zero (h.zero x),fun x=>k.some (h.some x),fun x=>k.fail (h.fail x)⟩
theorem Fl.bot_le(a:Fl):Fl.bot.le a:=⟨nofun,nofun,nofun⟩
theorem Fl.le.LO{a b:Fl}(h:a.le b)(k:b.le a):a=b:=by
 obtain⟨a1,a2,a3⟩:=a;obtain⟨b1,b2,b3⟩:=b;obtain⟨h1,h2,h3⟩:=h;obtain⟨k1,k2,k3⟩:=k
 revert h1 h2 h3 k1 k2 k3
 cases a1<;>cases a2<;>cases a3<;>cases b1<;>cases b2<;>cases b3<;>simp
theorem Fl.le.cnt{a b:Fl}(h:a.le b):a.cnt≤b.cnt∧(a≠b→a.cnt<b.cnt):=by
 obtain⟨a1,a2,a3⟩:=a;obtain⟨b1,b2,b3⟩:=b;obtain⟨h1,h2,h3⟩:=h
 revert h1 h2 h3
 cases a1<;>cases a2<;>cases a3<;>cases b1<;>cases b2<;>cases b3<;>simp[Fl.cnt]
theorem Fl.L6(a:Fl):a.cnt≤3:=by
 obtain⟨a1,a2,a3⟩:=a
 cases a1<;>cases a2<;>cases a3<;>simp[Fl.cnt]
def pH(p:Fl×Bool)(k:Fl):Fl×Bool:=(⟨p.1.zero&&k.zero,p.1.some||k.some,p.1.fail||(p.2&&k.fail)⟩,p.2&&k.succ)
def Gb(l:List Fl):Fl×Bool:=l.foldl pH (⟨true,false,false⟩,true)
def C7(l:List Fl):Fl:=⟨(Gb l).1.zero,(Gb l).1.some&&(Gb l).2,(Gb l).1.fail⟩
def wO(f k:Fl):Fl:=⟨f.zero||(f.fail&&k.zero),f.some||(f.fail&&k.some),f.fail&&k.fail⟩
def GK(l:List Fl):Fl:=l.foldl wO ⟨false,false,true⟩
def hd0(l:List Fl):Fl:=l.getD 0 .bot
def fB(n:Nod)(l:List Fl)(rule:Fl):Fl:=
 if n.kind=0 then ⟨true,false,false⟩
 else if n.kind=1 then ⟨false,!decide (n.set=.zero),true⟩
 else if n.kind=2 then ⟨false,true,true⟩
 else if n.kind=3 then rule
 else if n.kind=4 then C7 l
 else if n.kind=5 then GK l
 else if n.kind=6 then (if n.max=0 then ⟨true,false,false⟩ else ⟨(hd0 l).zero||(decide (n.min=0)&&(hd0 l).fail),(hd0 l).some,decide (0<n.min)&&(hd0 l).fail⟩)
 else if n.kind=7 then ⟨(hd0 l).succ,false,(hd0 l).fail⟩
 else if n.kind=8 then ⟨(hd0 l).fail,false,(hd0 l).succ⟩
 else hd0 l
def gg(g:List Dfn)(l:List Fl)(s:ByteArray):Fl:=match bU g s with
 | some i=>l.getD i .bot
 | none=>.bot
def ft(out:List Fl)(ks:List Int):List Fl:=ks.map fun k=>out.getD k.toNat .bot
def iX(g:List Dfn)(l:List Fl)(out:List Fl)(n:Nod):List Fl:=out++[fB n (ft out n.kids) (gg g l n.text)]
def aP(g:List Dfn)(l:List Fl)(ns:List Nod):List Fl:=ns.foldl (iX g l) []
def eB(g:List Dfn)(l:List Fl)(t:Tre):Fl:=(aP g l t.nodes).getD t.root.toNat .bot
def iw(g:List Dfn)(l:List Fl):List Fl:=g.map fun d=>eB g l d.body
def itJ(g:List Dfn):Nat→List Fl
 | 0=>List.replicate g.length .bot
 | k+1=>iw g (itJ g k)
def fU(g:List Dfn):List Fl:=itJ g (3 * g.length+1)
def leL(a b:List Fl):Prop:=∀i:Nat,(a.getD i .bot).le (b.getD i .bot)
theorem leL.refl(a:List Fl):leL a a:=fun _=>Fl.le.refl _
theorem leL.trans{a b c:List Fl}(h:leL a b)(k:leL b c):leL a c:=fun i=>(h i).trans (k i)
theorem leL.LO{a b:List Fl}(h:leL a b)(k:leL b a)(e:a.length=b.length):a=b:=by
 refine List.ext_getElem e fun i h1 h2=>?_;have:=(h i).LO (k i);simpa [List.getD_eq_getElem?_getD,List.getElem?_eq_getElem h1,List.getElem?_eq_getElem h2] using this
theorem nC(l:List Fl)(p:Fl)(k:Nat):(l++[p]).getD k .bot=if k<l.length then l.getD k .bot else if k=l.length then p else .bot:=by
 simp only[List.getD_eq_getElem?_getD]
 split
 ·rename_i h;rw[List.getElem?_append_left h]
 ·split
  ·rename_i h;subst h;simp
  ·rw[List.getElem?_append_right (by omega),List.getElem?_eq_none (by simp;omega)];rfl
theorem leL.snoc{a b:List Fl}{x y:Fl}(h:leL a b)(e:a.length=b.length)(k:x.le y):leL (a++[x]) (b++[y]):=fun i=>by
 rw[nC,nC,e]
 split
 ·exact h i
 ·split
  ·exact k
  ·exact Fl.le.refl _
theorem and_mono{a b c d:Bool}(h:a=true→c=true)(k:b=true→d=true):(a&&b)=true→(c&&d)=true:=by cases a<;>cases b<;>simp_all
theorem or_mono{a b c d:Bool}(h:a=true→c=true)(k:b=true→d=true):(a||b)=true→(c||d)=true:=by cases a<;>cases b<;>simp_all
theorem Fl.le.succ{a b:Fl}(h:a.le b):a.succ=true→b.succ=true:=or_mono h.zero h.some
theorem uN{p q:Fl×Bool}{a b:Fl}(h:p.1.le q.1)(h2:p.2=true→q.2=true)(k:a.le b):(pH p a).1.le (pH q b).1∧((pH p a).2=true→(pH q b).2=true):=
 ⟨⟨and_mono h.zero k.zero,or_mono h.some k.some,or_mono h.fail (and_mono h2 k.fail)⟩,and_mono h2 k.succ⟩
theorem D7{p q:Fl}{a b:Fl}(h:p.le q)(k:a.le b):(wO p a).le (wO q b):=
 ⟨or_mono h.zero (and_mono h.fail k.zero),or_mono h.some (and_mono h.fail k.some),and_mono h.fail k.fail⟩
inductive LeK:List Fl→List Fl→Prop
 | nil:LeK [] []
 | cons {a b:Fl} {l m:List Fl}:a.le b→LeK l m→LeK (a :: l) (b :: m)
theorem DU{l m:List Fl}(h:LeK l m):∀{p q:Fl×Bool},p.1.le q.1→(p.2=true→q.2=true)→(l.foldl pH p).1.le (m.foldl pH q).1∧((l.foldl pH p).2=true→(m.foldl pH q).2=true):=by
 induction h with
 | nil=>exact fun h1 h2=>⟨h1,h2⟩
 | cons k _ ih=>exact fun h1 h2=>ih (uN h1 h2 k).1 (uN h1 h2 k).2
theorem D9{l m:List Fl}(h:LeK l m):∀{p q:Fl},p.le q→(l.foldl wO p).le (m.foldl wO q):=by
 induction h with
 | nil=>exact fun h1=>h1
 | cons k _ ih=>exact fun h1=>ih (D7 h1 k)
theorem Ia{l m:List Fl}(h:LeK l m):(hd0 l).le (hd0 m):=by
 cases h with
 | nil=>exact Fl.le.refl _
 | cons k _=>exact k
theorem yz(n:Nod){l m:List Fl}{r s:Fl}(h:LeK l m)(k:r.le s):(fB n l r).le (fB n m s):=by
 have hh:=Ia h;unfold fB
 split;· exact Fl.le.refl _
 split;· exact Fl.le.refl _
 split;· exact Fl.le.refl _
 split;· exact k
 split
 ·obtain⟨h1,h2⟩:=DU h (p:=(⟨true,false,false⟩,true)) (q:=(⟨true,false,false⟩,true)) (Fl.le.refl _) id;exact⟨h1.zero,and_mono h1.some h2,h1.fail⟩
 split;· exact D9 h (Fl.le.refl _)
 split
 ·split
  ·exact Fl.le.refl _
  ·exact⟨or_mono hh.zero (and_mono id hh.fail),hh.some,and_mono id hh.fail⟩
 split;· exact⟨hh.succ,id,hh.fail⟩
 split;· exact⟨hh.fail,id,hh.succ⟩
 exact hh
theorem qS{a b:List Fl}(h:leL a b):∀ks:List Int,LeK (ft a ks) (ft b ks)
 | []=>.nil
 | k :: ks=>.cons (h k.toNat) (qS h ks)
theorem xU(g:List Dfn){l m:List Fl}(h:leL l m)(s:ByteArray):(gg g l s).le (gg g m s):=by
 unfold gg
 split
 ·exact h _
 ·exact Fl.le.refl _
theorem tB(g:List Dfn){l m:List Fl}(h:leL l m):∀(ns:List Nod) {a b:List Fl},leL a b→a.length=b.length→leL (ns.foldl (iX g l) a) (ns.foldl (iX g m) b)
 | [],_,_,h1,_=>h1
 | n :: ns,a,b,h1,h2=>tB g h ns (a:=iX g l a n) (b:=iX g m b n) (h1.snoc h2 (yz n (qS h1 _) (xU g h _))) (by simp[iX,h2])
theorem yO(g:List Dfn){l m:List Fl}(h:leL l m)(t:Tre):(eB g l t).le (eB g m t):=tB g h t.nodes (leL.refl []) rfl t.root.toNat
theorem D2(g:List Dfn)(l:List Fl):(iw g l).length=g.length:=by simp[iw]
theorem mf(g:List Dfn)(l:List Fl)(i:Nat):(iw g l).getD i .bot=match g[i]? with|some d=>eB g l d.body|none=>.bot:=by
 rw[List.getD_eq_getElem?_getD,iw,List.getElem?_map]
 cases g[i]?<;>rfl
theorem jD(g:List Dfn){l m:List Fl}(h:leL l m):leL (iw g l) (iw g m):=fun i=>by
 rw[mf,mf]
 split
 ·exact yO g h _
 ·exact Fl.le.refl _
theorem rH(g:List Dfn):∀k,(itJ g k).length=g.length
 | 0=>by simp[itJ]
 | k+1=>D2 g _
theorem rq(n i:Nat):(List.replicate n Fl.bot).getD i .bot=.bot:=by
 rw[List.getD_eq_getElem?_getD,List.getElem?_replicate]
 split<;>rfl
theorem Fw(g:List Dfn):∀k,leL (itJ g k) (itJ g (k+1))
 | 0=>fun i=>by rw[itJ,rq];exact Fl.bot_le _
 | k+1=>jD g (Fw g k)
def mB(l:List Fl):Nat:=(l.map Fl.cnt).sum
theorem Df(l:List Fl):mB l≤3 * l.length:=by
 induction l with
 | nil=>simp[mB]
 | cons a l ih=>
  have:=Fl.L6 a;simp only[mB,List.map_cons,List.sum_cons,List.length_cons] at ih ⊢;omega
theorem leL.tail{a b:Fl}{l m:List Fl}(h:leL (a :: l) (b :: m)):a.le b∧leL l m:=⟨h 0,fun i=>h (i+1)⟩
theorem xB:∀{l m:List Fl},leL l m→l.length=m.length→mB l≤mB m∧(l≠m→mB l<mB m)
 | [],[],_,_=>⟨Nat.le_refl _,fun h=>absurd rfl h⟩
 | a :: l,b :: m,h,e=>by
  obtain⟨h1,h2⟩:=h.tail;obtain⟨k1,k2⟩:=xB h2 (by simpa using e);obtain⟨q1,q2⟩:=h1.cnt;simp only[mB,List.map_cons,List.sum_cons] at k1 k2 ⊢;refine⟨by omega,fun hne=>?_⟩
  by_cases hab:a=b
  ·subst hab;have:=k2 (fun q=>hne (by rw[q]));omega
  ·have:=q2 hab;omega
 | [],_ :: _,_,e=>by simp at e
 | _ :: _,[],_,e=>by simp at e
theorem zL(g:List Dfn):∀k,k≤mB (itJ g k)∨iw g (itJ g k)=itJ g k
 | 0=>.inl (Nat.zero_le _)
 | k+1=>by
  rcases zL g k with h|h
  ·by_cases e:itJ g k=itJ g (k+1)
   ·exact .inr (by rw[←e];exact e.symm)
   ·have:=(xB (Fw g k) (by rw[rH,rH])).2 e;exact .inl (by omega)
  ·refine .inr ?_;show iw g (iw g (itJ g k))=iw g (itJ g k)
   rw[h,h]
theorem DK(g:List Dfn):iw g (fU g)=fU g:=by
 rcases zL g (3 * g.length+1) with h|h
 ·have:=Df (itJ g (3 * g.length+1));rw[rH] at this;omega
 ·exact h
theorem vm(g:List Dfn):(fU g).length=g.length:=rH g _
theorem vj(g:List Dfn){l:List Fl}(h:leL (iw g l) l):∀k,leL (itJ g k) l
 | 0=>fun i=>by rw[itJ,rq];exact Fl.bot_le _
 | k+1=>(jD g (vj g h k)).trans h
structure Up(g:List Dfn)(l:List Fl):Prop where
 len:l.length=g.length
 le:leL l (fU g)
 up:leL l (iw g l)
theorem Up.bot(g:List Dfn):Up g (List.replicate g.length .bot):=⟨by simp,fun i=>by rw[rq];exact Fl.bot_le _,fun i=>by rw[rq];exact Fl.bot_le _⟩
theorem me(l:List Fl)(i j:Nat)(b:Fl):(l.set i b).getD j .bot=if i=j∧i<l.length then b else l.getD j .bot:=by
 simp only[List.getD_eq_getElem?_getD,List.getElem?_set]
 by_cases e:i=j
 ·subst e
  by_cases h:i<l.length
  ·simp[h]
  ·simp[h]
 ·simp[e]
theorem Up.set{g:List Dfn}{l:List Fl}(h:Up g l){i:Nat}(hi:i<g.length):leL l (l.set i (eB g l g[i].body))∧Up g (l.set i (eB g l g[i].body)):=by
 have hs:(iw g l).getD i .bot=eB g l g[i].body:=by rw[mf,List.getElem?_eq_getElem hi]
 have h1:leL l (l.set i (eB g l g[i].body)):=fun j=>by
  rw[me]
  split
  ·rename_i e;rw[←hs,e.1];exact h.up j
  ·exact Fl.le.refl _
 refine⟨h1,by rw[List.length_set];exact h.len,fun j=>?_,fun j=>?_⟩
 ·rw[me]
  split
  ·rename_i e;have:=jD g h.le i;rw[DK,hs] at this;rw[←e.1];exact this
  ·exact h.le j
 ·have h2:=jD g h1;rw[me]
  split
  ·rename_i e;have:=h2 i;rw[hs] at this;rw[←e.1];exact this
  ·exact(h.up j).trans (h2 j)
theorem Up.done{g:List Dfn}{l:List Fl}(h:Up g l)(hf:∀(i:Nat) (hi:i<g.length),eB g l g[i].body=l.getD i .bot):l=fU g:=by
 refine h.le.LO (vj g (fun i=>?_) _) (by rw[h.len,vm]);rw[mf]
 split
 ·rename_i d hd;obtain⟨hi,rfl⟩:=List.getElem?_eq_some_iff.1 hd;rw[hf i hi];exact Fl.le.refl _
 ·exact Fl.bot_le _
theorem vo(g:List Dfn)(l:List Fl):∀(ns:List Nod) (a:List Fl),(ns.foldl (iX g l) a).length=a.length+ns.length
 | [],a=>rfl
 | n :: ns,a=>by rw[List.foldl_cons,vo g l ns];simp[iX];omega
theorem cM(g:List Dfn)(l:List Fl)(ns:List Nod):(aP g l ns).length=ns.length:=by rw[aP,vo];simp
theorem qP(g:List Dfn)(l:List Fl){ns:List Nod}{i:Nat}(h:i<ns.length):aP g l (ns.take (i+1))=aP g l (ns.take i)++[fB ns[i] (ft (aP g l (ns.take i)) ns[i].kids) (gg g l ns[i].text)]:=by
 rw[List.take_succ_eq_append_getElem h,aP,List.foldl_append];rfl
end Go.aa
end
section
namespace Go.Km
open Go Go.Vc Go.Proofs Go.Proofs.YtoklkjkmbfebjaaGreatDoor
noncomputable abbrev Xw(i h:List Nat):Tx where
 E:=X1.E
 Γ:=X1.Γ
 fi:=X1.fi
 pu:=fun f=>!inl.elem f && !i.elem f
 Q:=fun _=>false
 bd:=fun _=>0
 bt:=fun _=>0
 u8:=0
 hp:=fun f=>ars.elem f||h.elem f
theorem u4(i h:List Nat):j5 Tryz.prog (Xw i h) where
 E:=Bj
 fi:=Iu
 mixed:=dZ.mixed
 deep:=dZ.deep
 Q:=fun _ h=>by cases h
 bd:=fun _ _ h=>by cases h
end Go.Km
end
section
namespace Go.Km
open Go Go.Vc Go.Proofs Go.aa Go.Proofs.YtoklkjkmbfebjaaGreatDoor
set_option maxRecDepth 100000
set_option maxHeartbeats 0
abbrev flR(f:Fl):List F:=[boF f.zero,boF f.some,boF f.fail]
abbrev flF(f:Fl):F:=.ag (flR f)
abbrev mE(l:List Fl):F:=.sl (l.map flR)
instance(a b c:Bool):C 136 [.ag [boF a,boF b,boF c]] (boF (a||b)) true True:=⟨fun _=>by
 cases a<;>(refine kf rfl rfl ?_;repeat' (first|exact k9|refine k2 ?_|apply kA|apply kI;intro hc|refine k8 ?_|apply kL;intro hl))
 all_goals exact ao.b rfl rfl⟩
instance(k a b c d:Int)(tx:ByteArray)(lo hi:Int)(K:List (List F))(l:List Fl):C 118 [.ag (iN k a b c d tx lo hi K),mE l] (flF ⟨true,false,false⟩) true True:=⟨fun _=>by
 refine kf rfl rfl ?_;repeat' (first|exact k9|refine k2 ?_|apply kA|apply kI;intro hc|refine k8 ?_|apply kL;intro hl)⟩
theorem Ib(s:Bts):wC [s.a,s.b,s.c,s.d] [0,0,0,0]=decide (s=.zero):=by
 rw[oH];obtain⟨a,b,c,d⟩:=s;simp[Bts.zero]
instance(k a b c d:Int)(tx:ByteArray)(lo hi:Int)(K:List (List F))(l:List Fl):C 119 [.ag (iN k a b c d tx lo hi K),mE l] (flF ⟨false,!decide ((⟨a,b,c,d⟩:Bts)=.zero),true⟩) true True:=⟨fun _=>by
 refine kf rfl rfl ?_;repeat' first|exact k9|refine k2 ?_|apply kA|apply kI;intro hc|refine k8 ?_|apply kL;intro hl
 refine ao.j ?_ rfl;exact congrArg (fun z=>F.ag [boF false,boF (!z),boF true]) (Ib ⟨a,b,c,d⟩)⟩
instance(k a b c d:Int)(tx:ByteArray)(lo hi:Int)(K:List (List F))(l:List Fl):C 120 [.ag (iN k a b c d tx lo hi K),mE l] (flF ⟨false,true,true⟩) true True:=⟨fun _=>by
 refine kf rfl rfl ?_;repeat' (first|exact k9|refine k2 ?_|apply kA|apply kI;intro hc|refine k8 ?_|apply kL;intro hl)⟩
theorem v5{l:List Fl}(h:0<l.length):hd0 l=l[0]:=by
 cases l with
 | nil=>simp at h
 | cons a l=>rfl
instance(k a b c d:Int)(tx:ByteArray)(lo hi:Int)(K:List (List F))(l:List Fl):C 121 [.ag (iN k a b c d tx lo hi K),mE l] (flF (hd0 l)) true (0<l.length):=⟨fun h=>by
 rw[v5 h];refine kf rfl rfl ?_;repeat' (first|exact k9|refine k2 ?_|apply kA|apply kI;intro hc|refine k8 ?_|apply kL;intro hl)⟩
instance(k a b c d:Int)(tx:ByteArray)(lo hi:Int)(K:List (List F))(f:Fl):C 121 [.ag (iN k a b c d tx lo hi K),.sl (List.map flR []++[[(boF f.zero).nz,(boF f.some).nz,(boF f.fail).nz]])] (flF f) true True:=⟨fun _=>by
 rw[show(List.map flR []++[[(boF f.zero).nz,(boF f.some).nz,(boF f.fail).nz]])=List.map flR [f] from rfl];refine kf rfl rfl ?_;repeat' (first|exact k9|refine k2 ?_|apply kA|apply kI;intro hc|refine k8 ?_|apply kL;intro hl)⟩
instance(k a b c d:Int)(tx:ByteArray)(lo hi:Int)(K:List (List F))(l:List Fl):C 124 [.ag (iN k a b c d tx lo hi K),mE l] (flF (if hi=0 then ⟨true,false,false⟩ else ⟨(hd0 l).zero||(decide (lo=0)&&(hd0 l).fail),(hd0 l).some,decide (0<lo)&&(hd0 l).fail⟩)) true (hi=0∨0<l.length):=⟨fun h=>by
 by_cases hm:hi=0
 ·rw[if_pos hm];refine kf rfl rfl ?_;repeat' first|exact k9|refine k2 ?_|apply kA|apply kI;intro hc|refine k8 ?_|apply kL;intro hl
 rw[if_neg hm];have h:0<l.length:=by rcases h with h|h;exact absurd h hm;exact h
 rw[v5 h];refine kf rfl rfl ?_;repeat' first|exact k9|refine k2 ?_|apply kA|apply kI;intro hc|refine k8 ?_|apply kL;intro hl
 all_goals (refine ao.j ?_ rfl;simp_all)
 all_goals omega⟩
instance(k a b c d:Int)(tx:ByteArray)(lo hi:Int)(K:List (List F))(l:List Fl):C 125 [.ag (iN k a b c d tx lo hi K),mE l] (flF ⟨(hd0 l).succ,false,(hd0 l).fail⟩) true (0<l.length):=⟨fun h=>by
 rw[v5 h];refine kf rfl rfl ?_;repeat' first|exact k9|refine k2 ?_|apply kA|apply kI;intro hc|refine k8 ?_|apply kL;intro hl
 exact ao.j rfl rfl⟩
instance(k a b c d:Int)(tx:ByteArray)(lo hi:Int)(K:List (List F))(l:List Fl):C 126 [.ag (iN k a b c d tx lo hi K),mE l] (flF ⟨(hd0 l).fail,false,(hd0 l).succ⟩) true (0<l.length):=⟨fun h=>by
 rw[v5 h];refine kf rfl rfl ?_;repeat' first|exact k9|refine k2 ?_|apply kA|apply kI;intro hc|refine k8 ?_|apply kL;intro hl
 exact ao.j rfl rfl⟩
instance(k a b c d:Int)(tx:ByteArray)(lo hi:Int)(K:List (List F))(l:List Fl):C 122 [.ag (iN k a b c d tx lo hi K),mE l] (flF (C7 l)) true (l.length≤17592186044416):=⟨fun h=>by
 refine kf rfl rfl ?_;repeat' first|exact k9|refine k2 ?_|apply kA|apply kI;intro hc|refine k8 ?_|apply kL;intro hl
 apply kCt [4,5,6,10,11,12] [];conv=>whnf
 refine Lp.ind (fun x:Nat×Fl×Bool=>l.length - x.1) (fun x=>x.1≤l.length∧(l.take x.1).foldl pH (⟨true,false,false⟩,true)=x.2) (fun x=>[(12,InD x.1),(6,BoD x.2.2)]) (fun x=>[(1,.va 0 157 [.fr (boF x.2.1.zero),.fr (boF x.2.1.some),.fr (boF x.2.1.fail)])]) (fun _=>_) (0,⟨true,false,false⟩,true) ⟨Nat.zero_le _,rfl⟩ rfl rfl rfl ?_
 rintro G ⟨i,⟨z,s,f⟩,q⟩ ih ⟨hil,hT⟩
 dsimp only at hil hT ih ⊢
 by_cases hx:i<l.length
 ·obtain⟨⟨kz,ks,kf⟩,hk⟩:∃k,k=l[i]:=⟨_,rfl⟩
  have hki:∀h:i<l.length,l[i]'h=⟨kz,ks,kf⟩:=fun _=>hk.symm
  have hS:(l.take (i+1)).foldl pH (⟨true,false,false⟩,true)=pH (⟨z,s,f⟩,q) ⟨kz,ks,kf⟩:=by
   rw[List.take_succ_eq_append_getElem hx,List.foldl_append,hT,←hk];rfl
  repeat' first|exact k9|refine k2 ?_|apply kA|apply kI;intro hc|apply kL;intro hl|((simp only[hki])<;>conv=>whnf)|refine k8 ?_|fail
  all_goals
   subst_vars
   apply kCt [4,5,6,10,11,12] [];conv=>whnf
   exact ih (i+1,pH (⟨_,_,_⟩,_) ⟨kz,ks,kf⟩) _ _ _ (by dsimp only;omega) ⟨by dsimp only;omega,hS⟩ rfl rfl rfl
 ·obtain rfl:i=l.length:=by omega
  rw[List.take_length] at hT;have e:C7 l=⟨z,s&&q,f⟩:=by rw[C7,Gb,hT]
  rw[e]
  repeat' first|exact k9|refine k2 ?_|apply kA|apply kI;intro hc|refine k8 ?_|apply kL;intro hl
  all_goals
   subst_vars
   exact ao.j rfl rfl⟩
instance(k a b c d:Int)(tx:ByteArray)(lo hi:Int)(K:List (List F))(l:List Fl):C 123 [.ag (iN k a b c d tx lo hi K),mE l] (flF (GK l)) true (l.length≤17592186044416):=⟨fun h=>by
 refine kf rfl rfl ?_;repeat' first|exact k9|refine k2 ?_|apply kA|apply kI;intro hc|refine k8 ?_|apply kL;intro hl
 apply kCt [4,5,9,10,11] [];conv=>whnf
 refine Lp.ind (fun x:Nat×Fl=>l.length - x.1) (fun x=>x.1≤l.length∧(l.take x.1).foldl wO ⟨false,false,true⟩=x.2) (fun x=>[(11,InD x.1)]) (fun x=>[(1,.va 0 157 [.fr (boF x.2.zero),.fr (boF x.2.some),.fr (boF x.2.fail)])]) (fun _=>_) (0,⟨false,false,true⟩) ⟨Nat.zero_le _,rfl⟩ rfl rfl rfl ?_
 rintro G ⟨i,⟨z,s,f⟩⟩ ih ⟨hil,hT⟩
 dsimp only at hil hT ih ⊢
 by_cases hx:i<l.length
 ·obtain⟨⟨kz,ks,kf⟩,hk⟩:∃k,k=l[i]:=⟨_,rfl⟩
  have hki:∀h:i<l.length,l[i]'h=⟨kz,ks,kf⟩:=fun _=>hk.symm
  have hS:(l.take (i+1)).foldl wO ⟨false,false,true⟩=wO ⟨z,s,f⟩ ⟨kz,ks,kf⟩:=by
   rw[List.take_succ_eq_append_getElem hx,List.foldl_append,hT,←hk];rfl
  repeat' first|exact k9|refine k2 ?_|apply kA|apply kI;intro hc|apply kL;intro hl|((simp only[hki])<;>conv=>whnf)|refine k8 ?_|fail
  all_goals
   subst_vars
   apply kCt [4,5,9,10,11] [];conv=>whnf
   exact ih (i+1,wO ⟨_,_,_⟩ ⟨kz,ks,kf⟩) _ _ _ (by dsimp only;omega) ⟨by dsimp only;omega,hS⟩ rfl rfl rfl
 ·obtain rfl:i=l.length:=by omega
  rw[List.take_length] at hT;rw[GK,hT]
  repeat' (first|exact k9|refine k2 ?_|apply kA|apply kI;intro hc|refine k8 ?_|apply kL;intro hl)⟩
instance:C 106 [] (.ag [.cl 118 [],.cl 119 [],.cl 120 [],.cl 121 [],.cl 122 [],.cl 123 [],.cl 124 [],.cl 125 [],.cl 126 [],.cl 121 []]) true True:=⟨fun _=>by
 refine kf rfl rfl ?_;repeat' (first|exact k9|refine k2 ?_|apply kA|apply kI;intro hc|refine k8 ?_|apply kL;intro hl)⟩
end Go.Km
end
section
namespace Go.Proofs.YtoklkjkmbfebjaaGreatDoor
open Go
theorem GA:(match Tryz.prog.underlying 157 with|some (.struct fs)=>fs.toList.map (fun f=>(f.offset,f.type,f.name== "_"))|_=>[])=[(0,4,false),(1,4,false),(2,4,false)]:=by kernel_rfl
theorem yE:Tryz.prog.underlying 4=some .bool:=by kernel_rfl
theorem E0:Tryz.prog.stoodInHeld 157=false:=by kernel_rfl
theorem FK:Tryz.prog.eqGuardType Tryz.prog.depth 157=false:=by kernel_rfl
theorem D8:(Tryz.prog.info? 157).map (·.size)=some 3:=by kernel_rfl
theorem xj{fs:List Field}{b:Nat}(h:fs.map (fun f=>(f.offset,f.type,f.name== "_"))=[(0,b,false),(1,b,false),(2,b,false)]):∃f0 f1 f2:Field,fs=[f0,f1,f2]∧(f0.offset=0∧f0.type=b∧f0.name≠ "_")∧(f1.offset=1∧f1.type=b∧f1.name≠ "_")∧(f2.offset=2∧f2.type=b∧f2.name≠ "_"):=by
 rcases fs with _|⟨f0,_|⟨f1,_|⟨f2,_|⟨f3,fs⟩⟩⟩⟩
 ·simp at h
 ·simp at h
 ·simp at h
 ·simp only[List.map_cons,List.map_nil,List.cons.injEq,Prod.mk.injEq,beq_eq_false_iff_ne] at h;obtain⟨h1,h2,h3,_⟩:=h;exact⟨f0,f1,f2,rfl,h1,h2,h3⟩
 ·simp at h
theorem Ag(w:World)(a b c x y z:Bool):(Op.equal 157 (.agg #[.bool a,.bool b,.bool c]) (.agg #[.bool x,.bool y,.bool z])).run Tryz.prog w=.ok (a==x&&b==y&&c==z) w:=by
 have h:=GA;have hp:∀(l:Array Value) (i:Nat) (v:Value),l[i]?=some v→(part 4 l i).run Tryz.prog w=.ok v w:=by
  intro l i v hv;simp[part,isAgg,run_underlying yE,hv]
 have hq:∀x y:Bool,(Op.equalIn 9999 4 (.bool x) (.bool y)).run Tryz.prog w=.ok (x==y) w:=by
  intro x y;show(Op.equalIn (9998+1) _ _ _).run Tryz.prog w=_
  rw[Op.equalIn];simp[run_underlying yE]
 split at h
 ·rename_i fs hu;obtain⟨fs⟩:=fs;simp only at h;obtain⟨f0,f1,f2,rfl,⟨a1,a2,a3⟩,⟨b1,b2,b3⟩,⟨c1,c2,c3⟩⟩:=xj h;clear h;show(Op.equalIn (9999+1) _ _ _).run Tryz.prog w=_
  rw[Op.equalIn];have hP:∀W,(program).run Tryz.prog W=.ok Tryz.prog W:=fun W=>rfl
  have e1:=hp #[.bool a,.bool b,.bool c] 0 (.bool a) rfl;have e2:=hp #[.bool a,.bool b,.bool c] 1 (.bool b) rfl;have e3:=hp #[.bool a,.bool b,.bool c] 2 (.bool c) rfl;have e4:=hp #[.bool x,.bool y,.bool z] 0 (.bool x) rfl;have e5:=hp #[.bool x,.bool y,.bool z] 1 (.bool y) rfl;have e6:=hp #[.bool x,.bool y,.bool z] 2 (.bool z) rfl;simp[run_underlying hu,E0,a1,a2,a3,b1,b2,b3,c1,c2,c3,e1,e2,e3,e4,e5,e6,hq]
  cases a<;>cases b<;>cases c<;>cases x<;>cases y<;>cases z<;>rfl
 ·cases h
end Go.Proofs.YtoklkjkmbfebjaaGreatDoor
namespace Go.Km
open Go Go.Vc Go.Proofs Go.Proofs.YtoklkjkmbfebjaaGreatDoor
theorem kT{a b:D}{l m:List D}{q:Bool}(h:ix (a :: l) (b :: m)=some q):∃x y r,a=.fr (.vl (.bool x))∧b=.fr (.vl (.bool y))∧ix l m=some r∧q=((x==y)&&r):=by
 simp only[ix] at h
 split at h
 ·rename_i x y r hr
  cases h;refine⟨x,y,r,rfl,rfl,hr,?_⟩
  cases x<;>cases y<;>rfl
 ·cases h
theorem BY{m:List D}{q:Bool}(h:ix [] m=some q):m=[]∧q=true:=by
 cases m with
 | nil=>cases h;exact⟨rfl,rfl⟩
 | cons b m=>simp[ix] at h
theorem nF{c:Cf}:∀{l:List Bool} {vs:List Value},D.ah c (l.map fun b=>.fr (.vl (.bool b))) vs→vs=l.map .bool
 | [],vs,h=>by unfold D.ah at h;exact h
 | b :: l,vs,h=>by
  rw[List.map_cons] at h;unfold D.ah at h;obtain⟨u,us,rfl,h1,h2⟩:=h;unfold D.rep F.rep at h1;rw[h1,nF h2];rfl
theorem GY:FEq Tryz.prog 157:=by
 intro inf hinf w xs ys vs us c q hl he hv hu;have h3:inf.size=3:=by
  have:=D8;rw[hinf] at this;simpa using this
 rw[h3] at hl;rcases xs with _|⟨x0,_|⟨x1,_|⟨x2,_|⟨x3,xs⟩⟩⟩⟩
 ·simp at hl
 ·simp at hl
 ·simp at hl
 ·rcases ys with _|⟨y0,ys⟩
  ·simp[ix] at he
  obtain⟨a0,b0,r0,rfl,rfl,he0,rfl⟩:=kT he;clear he;rcases ys with _|⟨y1,ys⟩
  ·simp[ix] at he0
  obtain⟨a1,b1,r1,rfl,rfl,he1,rfl⟩:=kT he0;clear he0;rcases ys with _|⟨y2,ys⟩
  ·simp[ix] at he1
  obtain⟨a2,b2,r2,rfl,rfl,he2,rfl⟩:=kT he1;clear he1;obtain⟨rfl,rfl⟩:=BY he2;have hv:=nF (l:=[a0,a1,a2]) hv;have hu:=nF (l:=[b0,b1,b2]) hu;subst hv;subst hu;refine⟨?_,FK⟩;rw[Bool.and_true,←Bool.and_assoc];exact Ag w a0 a1 a2 b0 b1 b2
 ·simp at hl
noncomputable abbrev Xf(i h:List Nat):Tx where
 E:=X1.E
 Γ:=X1.Γ
 fi:=X1.fi
 pu:=fun f=>!inl.elem f && !i.elem f
 Q:=fun t=>Nat.beq t 157
 bd:=fun _=>0
 bt:=fun _=>0
 u8:=0
 hp:=fun f=>ars.elem f||h.elem f
theorem Ni(i h:List Nat):j5 Tryz.prog (Xf i h) where
 E:=Bj
 fi:=Iu
 mixed:=dZ.mixed
 deep:=dZ.deep
 Q:=fun t h=>by cases Nat.eq_of_beq_eq_true h;exact GY
 bd:=fun _ _ h=>by cases h
end Go.Km
end
section
namespace Go.aa
open Go
theorem Et{g:List Dfn}{i:Nat}(hi:i<g.length)(h:gr g=false):bU (g.take i) g[i].name=none:=by
 cases e:bU (g.take i) g[i].name with
 | none=>rfl
 | some j=>rw[Go.Km.uL hi e] at h;cases h
end Go.aa
namespace Go.Km
open Go Go.Vc Go.Proofs Go.aa Go.Proofs.YtoklkjkmbfebjaaGreatDoor
set_option maxRecDepth 100000
set_option maxHeartbeats 0
abbrev M7(g:List Dfn):F:=.mp (g.zipIdx.map plR)
instance(g:List Dfn):C 89 [bC g] (M7 g) false (g.length≤1000∧gr g=false):=⟨fun ⟨hn,ht⟩=>by
 refine kf rfl rfl ?_;repeat' first|exact k9|refine k2 ?_|apply kA|apply kI;intro hc|(apply Sn.go hX;conv=>whnf)|refine k8 ?_|apply kL;intro hl
 apply kCt [3,13,14,15] [];conv=>whnf
 refine Lp.ind (fun z:Nat=>g.length - z) (fun z=>z≤g.length) (fun z=>[(15,InD z)]) (fun z=>[(0,.mp 0 (((g.take z).zipIdx).map plR))]) (fun _=>_) 0 (Nat.zero_le _) rfl rfl rfl ?_
 rintro G i ih hi
 by_cases hx:i<g.length
 ·have hf:(gZ (.vl (.string g[i].name)) ((g.take i).zipIdx.map plR) 0).toList[0]?=some none:=by
   rw[dD,Et hx ht];rfl
  repeat' first|exact k9|refine k2 ?_|apply kA|apply kI;intro hc|(apply Sn.go hX;conv=>whnf)|refine k8 ?_|apply kL;intro hl
  apply kCt [3,13,14,15] [];conv=>whnf
  refine ih (i+1) _ _ _ (by omega) (by omega) rfl rfl ?_;rw[List.take_succ_eq_append_getElem hx,List.zipIdx_append,List.map_append];have el:(g.take i).length=i:=by rw[List.length_take];omega
  simp only[List.zipIdx_singleton,el,Nat.zero_add,List.map_singleton];rfl
 ·obtain rfl:i=g.length:=by omega
  rw[List.take_length]
  repeat' (first|exact k9|refine k2 ?_|apply kA|apply kI;intro hc|(apply Sn.go hX;conv=>whnf)|refine k8 ?_|apply kL;intro hl)⟩
theorem l7{n:Nod}{c:Int}(h:fits n c=true):(0≤n.kind∧n.kind≤9)∧(6≤n.kind→c=1)∧(n.kind=3→c=0):=by
 unfold fits at h
 split at h;· simp_all
 split at h;· simp_all
 split at h;· simp_all
 split at h;· simp_all
 split at h
 ·rename_i h4;rcases h4 with h4|h4<;>simp_all
 split at h;· simp_all
 split at h
 ·rename_i h4;rcases h4 with h4|h4<;>simp_all
 split at h;· simp_all
 cases h
def vn(g:List Dfn)(ns:List Nod):Prop:=∀n∈ns,n.kind=3→(bU g n.text).isSome=true
def iv(N:Nat)(X:List Fl):List Fl:=X++List.replicate (N - X.length) .bot
theorem Fb{N:Nat}{X:List Fl}{k:Nat}(h:k<(iv N X).length):(iv N X)[k]=X.getD k .bot:=by
 unfold iv at h ⊢;rw[List.getElem_append]
 split
 ·rename_i h1;simp[List.getD_eq_getElem?_getD,h1]
 ·rename_i h1;simp[List.getD_eq_getElem?_getD,List.getElem?_eq_none (Nat.le_of_not_lt h1)]
theorem EM{N:Nat}{X:List Fl}(h:X.length≤N):(iv N X).length=N:=by simp[iv];omega
theorem Ey{N:Nat}{X:List Fl}(h:X.length<N)(x:Fl):(iv N X).set X.length x=iv N (X++[x]):=by
 unfold iv;rw[show N - X.length=(N - (X++[x]).length)+1 by simp;omega,List.replicate_succ];simp
instance(g:List Dfn)(l:List Fl)(t:Tre):C 91 [M7 g,mE l,az t] (mE (aP g l t.nodes)) true (g.length≤1000∧l.length=g.length∧t.wf∧aC t∧vn g t.nodes):=⟨fun ⟨hg,hl,hw,hR,hN⟩=>by
 have hlen:=hw.len;simp only[ca] at hlen;have hlook:∀s,(gZ (.vl (.string s)) (g.zipIdx.map plR) 0).toList[0]?=some (match bU g s with
   | some j=>some (j,inF (j:Int))
   | none=>none):=fun s=>by
  rw[dD]
  cases bU g s<;>simp
 obtain⟨ns,hns⟩:=exEq (t.nodes);refine kf rfl rfl ?_;repeat' first|exact k9|refine k2 ?_|apply kA|apply kI;intro hc|(apply Sn.go hX;conv=>whnf)|refine k8 ?_|apply kL;intro hl
 apply Stp.ng 9 157 3 rfl rfl;apply kCt [0,1,7,8,9,20,21,22] [];conv=>whnf
 refine Lp.ind (fun x:Nat×List Fl=>t.nodes.length - x.1) (fun x=>x.1≤t.nodes.length∧x.2.length≤17592186044417) (fun x=>[(22,InD x.1)]) (fun x=>[(1,.ro 0 157 3 ((iv t.nodes.length (aP g l (t.nodes.take x.1))).map flR)),(2,.ro 0 157 3 (x.2.map flR))]) (fun _=>_) (0,[]) ⟨Nat.zero_le _,by simp⟩ rfl rfl ?_ ?_
 ·simp only[List.length_map];rw[show(List.take 0 t.nodes)=[] from rfl,show aP g l []=[] from rfl,iv];simp only[List.length_nil,Nat.sub_zero,List.nil_append,List.map_replicate];rfl
 rintro G ⟨i,K⟩ ih ⟨hi,hK⟩
 dsimp only at hi hK ih ⊢
 by_cases hx:i<t.nodes.length
 ·obtain⟨X,hX⟩:=exEq (aP g l (t.nodes.take i));have hXl:X.length=i:=by rw[hX,cM,List.length_take];omega
  have hsn:=qP g l hx;rw[←hX] at hsn ⊢;have hZl:=EM (N:=t.nodes.length) (X:=X) (by omega);obtain⟨n,hn⟩:=exEq (t.nodes[i]);have hni:∀h:i<t.nodes.length,t.nodes[i]'h=n:=fun _=>hn.symm
  have hnm:n∈t.nodes:=by rw[hn];exact List.getElem_mem hx
  have hkl:=(hw.nodes _ hnm).kids.1;simp only[dS] at hkl;have hko:∀k∈n.kids,0≤k∧k<i:=fun k hk=>hR.kok i n (by rw[hn];exact List.getElem?_eq_getElem hx) k hk
  have hfit:=hR.fits i n (by rw[hn];exact List.getElem?_eq_getElem hx);have hrl:=hN n hnm;rw[←hn] at hsn
  repeat' first|exact k9|refine k2 ?_|apply kA|apply kI;intro hc|apply kL;intro hl|(apply Sn.go hX;conv=>whnf)|((simp only[hni])<;>conv=>whnf)|refine k8 ?_|fail
  refine Stp.lC 9 157 3 (by rfl) (by rfl) (show _=([]:List Fl).map flR from rfl) ?_;apply kCt [0,1,7,8,9,10,11,20,21,22,30,31,32] [];conv=>whnf
  refine Lp.ind (fun z:Nat=>n.kids.length - z) (fun z=>z≤n.kids.length) (fun z=>[(32,InD z)]) (fun z=>[(2,.ro 0 157 3 ((ft X (n.kids.take z)).map flR))]) (fun _=>_) 0 (Nat.zero_le _) rfl rfl rfl ?_
  rintro G' j ih' hj
  have hKl:(ft X (n.kids.take j)).length=j:=by rw[ft,List.length_map,List.length_take];omega
  by_cases hy:j<n.kids.length
  ·obtain⟨q,hq⟩:∃q:Nat,n.kids[j]=q:=⟨n.kids[j].toNat,by have:=hko _ (List.getElem_mem hy);omega⟩
   have hqi:∀h:j<n.kids.length,n.kids[j]'h=(q:Int):=fun _=>hq
   have hql:=hko _ (List.getElem_mem hy);rw[hq] at hql;have hzq:∀h:((q:Nat):Int).toNat<(iv t.nodes.length X).length,(iv t.nodes.length X)[((q:Nat):Int).toNat]'h=X.getD q .bot:=fun h=>Fb h
   have hks:ft X (n.kids.take (j+1))=ft X (n.kids.take j)++[X.getD q .bot]:=by
    rw[List.take_succ_eq_append_getElem hy,ft,List.map_append,hq];rfl
   repeat' first|exact k9|refine k2 ?_|apply kA|apply kI;intro hc|apply kL;intro hl|(apply Sn.go hX;conv=>whnf)|((simp only[hqi])<;>conv=>whnf)|((simp only[hzq])<;>conv=>whnf)|refine k8 ?_|fail
   apply kCt [0,1,7,8,9,10,11,20,21,22,30,31,32] [];conv=>whnf
   refine ih' (j+1) _ _ _ (by omega) (by omega) rfl rfl ?_;rw[hks,List.map_append];rfl
  ·obtain rfl:j=n.kids.length:=by omega
   rw[List.take_length] at *;clear ih';obtain⟨kf1,kf2,kf3⟩:=l7 hfit;obtain⟨K',hK'⟩:∃K',K'=ft X n.kids:=⟨_,rfl⟩
   rw[←hK'] at hKl hsn ⊢;have hset:∀v,((iv t.nodes.length X).map flR).set i (flR v)=(iv t.nodes.length (X++[v])).map flR:=fun v=>by
    rw[←List.map_set,←hXl,Ey (by omega)]
   have hk:n.kind=0∨n.kind=1∨n.kind=2∨n.kind=3∨n.kind=4∨n.kind=5∨n.kind=6∨n.kind=7∨n.kind=8∨n.kind=9:=by omega
   have hKb:K'.length≤17592186044416:=by omega
   clear hkl hko hfit hni hnm;obtain⟨kind,st,tx,lo,hi',ks⟩:=n;dsimp only at *;rcases hk with rfl|rfl|rfl|rfl|rfl|rfl|rfl|rfl|rfl|rfl
   case inr.inr.inr.inl=>
    have hl3:=hlook tx;obtain⟨j,hj3⟩:=Option.isSome_iff_exists.1 (hrl rfl);rw[hj3] at hl3;dsimp only at hl3;obtain⟨hjl,_⟩:=jU hj3;have hjl':j<l.length:=by omega
    have hr:gg g l tx=l[j]:=by rw[gg,hj3];simp[List.getD_eq_getElem?_getD,hjl']
    have hK0:K'=[]:=List.eq_nil_of_length_eq_zero (by have:=kf3 rfl;omega);subst hK0;rw[show fB ⟨3,st,tx,lo,hi',ks⟩ [] (gg g l tx)=l[j] by simp[fB,hr]] at hsn
    repeat' first|exact k9|refine k2 ?_|apply kA|apply kI;intro hc|(apply Sn.go hX;conv=>whnf)|refine k8 ?_|apply kL;intro hl
    apply kCt [0,1,7,8,9,20,21,22] [];conv=>whnf
    refine ih (i+1,[l[j]]) _ _ _ (by dsimp only;omega) ⟨by dsimp only;omega,by simp⟩ rfl rfl ?_;dsimp only;rw[hsn,←hset];rfl
   all_goals
    repeat' first|exact k9|refine k2 ?_|apply kA|apply kI;intro hc|(apply Sn.go hX;conv=>whnf)|refine k8 ?_|apply kL;intro hl
    apply kCt [0,1,7,8,9,20,21,22] [];conv=>whnf
    refine ih (i+1,K') _ _ _ (by dsimp only;omega) ⟨by dsimp only;omega,by dsimp only;omega⟩ rfl rfl ?_;dsimp only;rw[hsn,←hset];rfl
 ·obtain rfl:i=t.nodes.length:=by omega
  rw[List.take_length]
  repeat' first|exact k9|refine k2 ?_|apply kA|apply kI;intro hc|(apply Sn.go hX;conv=>whnf)|refine k8 ?_|apply kL;intro hl
  refine ao.j ?_ ?_
  ·rw[iv,cM,Nat.sub_self];simp
  ·simp only[cD,oL,lk,Nat.beq,cond_true,cond_false];rw[List.all_map,List.all_eq_true];intro x _;rfl⟩
set_option maxRecDepth 100000
set_option maxHeartbeats 0
def gq(g:List Dfn):List Fl×Int:=if dI g=0 then (fU g,0) else ([],dI g)
structure zM(g:List Dfn):Prop where
 pos:0<g.length
 len:g.length≤64
 name:∀d∈g,gD d.name=true
 normal:∀d∈g,dM d.body=true
 may:∀d∈g,qY d.body=true
 J7:gr g=false
 named:∀d∈g,vn g d.body.nodes
theorem zM.right{g:List Dfn}(h:zM g){d:Dfn}(hd:d∈g):aC d.body:=by
 have:=h.normal d hd;unfold dM at this;rw[Bool.and_eq_true] at this;exact aq this.1
theorem zM.small{g:List Dfn}(h:zM g){d:Dfn}(hd:d∈g):d.body.nodes.length≤1024:=by
 have:=h.may d hd;simp only[qY,Bool.and_eq_true,decide_eq_true_eq] at this;exact this.1.1
theorem jF{g:List Dfn}(h:dI g=0):zM g:=by
 unfold dI at h
 split at h;· cases h
 rename_i h1
 split at h;· cases h
 rename_i h2
 split at h;· cases h
 rename_i h3
 split at h;· cases h
 rename_i h4;rw[Bool.not_eq_false,vE,Bool.and_eq_true,List.all_eq_true] at h1;rw[Bool.not_eq_true,iQ] at h2;simp only[Bool.or_eq_false_iff,decide_eq_false_iff_not,List.any_eq_false,Bool.not_eq_true',Bool.not_eq_false] at h2;rw[Bool.not_eq_true,zU,List.any_eq_false] at h4;refine⟨?_,by omega,fun d hd=>?_,fun d hd=>?_,fun d hd=>h2.1.1.2 d hd,by simpa using h3,fun d hd n hn hk=>?_⟩
 ·have:=h1.1
  cases g<;>simp at this ⊢
 ·have:=h1.2 d hd;rw[Bool.and_eq_true] at this;exact this.1
 ·have:=h1.2 d hd;rw[Bool.and_eq_true] at this;exact this.2
 ·have:=h4 d hd;rw[Bool.not_eq_true,List.any_eq_false] at this;have:=this n hn;simp only[hk,decide_true,Bool.true_and,Bool.not_eq_true,Option.isNone_eq_false_iff] at this;exact this
theorem MF(a b:Fl):(eqB a.zero b.zero&&(eqB a.some b.some&&(eqB a.fail b.fail&&true)))=decide (a=b):=by
 obtain⟨a1,a2,a3⟩:=a;obtain⟨b1,b2,b3⟩:=b
 cases a1<;>cases a2<;>cases a3<;>cases b1<;>cases b2<;>cases b3<;>rfl
instance(g:List Dfn):C 66 [bC g] (.tp [mE (gq g).1,inF (gq g).2]) false (g.length≤1000∧∀d∈g,d.wf):=⟨fun ⟨hn,hw⟩=>by
 have hpre:g.length≤1000∧∀d∈g,d.wf:=⟨hn,hw⟩
 have hX:=Ni [] []
 by_cases hm:dI g=0
 ·have ok:=jF hm;have e:gq g=(fU g,0):=by rw[gq,if_pos hm]
  have hpl:g.length≤1000∧gr g=false:=⟨hn,ok.J7⟩
  rw[e];refine iL hX rfl rfl ?_;repeat' first|exact k9|refine k2 ?_|apply kA|apply kI;intro hc|(apply Sn.go hX;conv=>whnf)|refine k8 ?_|apply kL;intro hl
  apply kCt [5,7] [];conv=>whnf
  refine Lp.ind (fun l:List Fl=>3 * g.length - mB l) (Up g) (fun _=>[]) (fun l=>[(1,.ro 0 157 3 (l.map flR))]) (fun _=>_) (List.replicate g.length .bot) (Up.bot g) rfl rfl ?_ ?_
  ·simp only[List.length_map,List.map_replicate];rfl
  rintro G l ih hU
  apply Sn.go hX;repeat' first|exact k9|refine k2 ?_|apply kA|apply kI;intro hc|(apply Sn.go hX;conv=>whnf)|refine k8 ?_|apply kL;intro hl
  apply kCt [1,2,4,9,10,11] [5,7];conv=>whnf
  refine Lp.ind (fun x:Nat×List Fl×Bool=>g.length - x.1) (fun x=>x.1≤g.length∧Up g x.2.1∧(x.2.2=false→x.2.1=l∧∀(j:Nat) (hj:j<g.length),j<x.1→eB g l g[j].body=l.getD j .bot)∧mB l≤mB x.2.1∧(x.2.2=true→mB l<mB x.2.1)) (fun x=>[(11,InD x.1),(4,BoD x.2.2)]) (fun x=>[(2,.ro 0 157 3 (x.2.1.map flR))]) (fun _=>_) (0,l,false) ⟨Nat.zero_le _,hU,fun _=>⟨rfl,fun j hj h=>by dsimp only at h;omega⟩,Nat.le_refl _,fun h=>by cases h⟩ rfl rfl rfl ?_
  rintro G' ⟨i,lz0,more⟩ ih' ⟨hi,hU',hF,hle,hlt⟩
  dsimp only at hi hU' hF hle hlt ih' ⊢
  by_cases hx:i<g.length
  ·have hwi:=(hw _ (List.getElem_mem hx)).body;have hmem:=List.getElem_mem hx;have hRt:=ok.right hmem;have hnp:g.length≤1000∧lz0.length=g.length∧g[i].body.wf∧aC g[i].body∧vn g g[i].body.nodes:=⟨hn,hU'.len,hwi,hRt,ok.named _ hmem⟩
   obtain⟨q,hq⟩:∃q:Nat,g[i].body.root=q:=⟨g[i].body.root.toNat,by have:=hRt.root;omega⟩
   have hql:=hRt.root.2;rw[hq] at hql;have hfl:=cM g lz0 g[i].body.nodes;have htr:∀h:((q:Nat):Int).toNat<(aP g lz0 g[i].body.nodes).length,(aP g lz0 g[i].body.nodes)[((q:Nat):Int).toNat]'h=eB g lz0 g[i].body:=fun h=>by
    rw[eB,hq,List.getD_eq_getElem?_getD,List.getElem?_eq_getElem h];rfl
   have hli:∀h:i<lz0.length,lz0[i]'h=lz0.getD i .bot:=fun h=>by simp[List.getD_eq_getElem?_getD,h]
   have hll:=hU'.len;have htq:∀h:g[i].body.root.toNat<(aP g lz0 g[i].body.nodes).length,(aP g lz0 g[i].body.nodes)[g[i].body.root.toNat]'h=eB g lz0 g[i].body:=fun h=>by
    simp only[hq];exact htr _
   obtain⟨hup,hU2⟩:=hU'.set hx;apply Sn.go hX;repeat' first|exact k9|refine k2 ?_|apply kA|apply kI;intro hc|apply kL;intro hl|(apply Sn.go hX;conv=>whnf)|((simp only[hq])<;>conv=>whnf)|((simp only[htr])<;>conv=>whnf)|((simp only[hli])<;>conv=>whnf)|refine k8 ?_|fail
   ·have he:=hc;rw[MF,decide_eq_true_iff,htq,hli] at he;apply kCt [1,2,4,9,10,11] [5,7];conv=>whnf
    refine ih' (i+1,lz0,more) _ _ _ (by dsimp only;omega) ⟨by dsimp only;omega,hU',fun hm2=>?_,hle,hlt⟩ rfl rfl rfl;obtain⟨rfl,h2⟩:=hF hm2;refine⟨rfl,fun j hj hji=>?_⟩
    by_cases e:j=i
    ·subst e;exact he
    ·exact h2 j hj (by dsimp only at hji;omega)
   ·have hne:=hc;rw[MF,decide_eq_false_iff_not,htq,hli] at hne;have hlt2:mB lz0<mB (lz0.set i (eB g lz0 g[i].body)):=by
     refine(xB hup (by simp)).2 fun q2=>hne ?_;conv=>rhs;rw[q2]
     rw[me,if_pos ⟨rfl,by omega⟩]
    apply kCt [1,2,4,9,10,11] [5,7];conv=>whnf
    refine ih' (i+1,lz0.set i (eB g lz0 g[i].body),true) _ _ _ (by dsimp only;omega) ⟨by dsimp only;omega,hU2,(fun h=>by cases h),(by dsimp only;omega),(fun _=>by dsimp only;omega)⟩ rfl rfl ?_;dsimp only;rw[List.map_set];rfl
  ·obtain rfl:i=g.length:=by omega
   apply Sn.go hX;repeat' first|exact k9|refine k2 ?_|apply kA|apply kI;intro hc|(apply Sn.go hX;conv=>whnf)|refine k8 ?_|apply kL;intro hl
   ·have h1:=hlt hc;have h2:=Df lz0;rw[hU'.len] at h2;apply kCt [5,7] [];conv=>whnf
    exact ih lz0 _ _ _ (by omega) hU' rfl rfl rfl
   ·obtain⟨rfl,h2⟩:=hF hc;rw[←hU'.done fun j hj=>h2 j hj hj];exact ao.i rfl
 ·have e:gq g=([],dI g):=by rw[gq,if_neg hm]
  rw[e];refine iL hX rfl rfl ?_;repeat' first|exact k9|refine k2 ?_|apply kA|apply kI;intro hc|(apply Sn.go hX;conv=>whnf)|refine k8 ?_|apply kL;intro hl
  exact ao.i rfl⟩
set_option maxRecDepth 100000
set_option maxHeartbeats 0
instance(g:List Dfn)(l:List Fl)(t:Tre):C 67 [bC g,mE l,az t] (.tp [mE (aP g l t.nodes),boF true]) false ((g.length≤1000∧gr g=false)∧l.length=g.length∧t.wf∧aC t∧vn g t.nodes):=⟨fun ⟨⟨hg,htw⟩,hl,hw,hR,hN⟩=>by
 have hlen:=hw.len;simp only[ca] at hlen;have hr:au t=true:=hR.right;have hpl:g.length≤1000∧gr g=false:=⟨hg,htw⟩
 have hnp:g.length≤1000∧l.length=g.length∧t.wf∧aC t∧vn g t.nodes:=⟨hg,hl,hw,hR,hN⟩
 have hlook:∀s,(gZ (.vl (.string s)) (g.zipIdx.map plR) 0).toList[0]?=some (match bU g s with
   | some j=>some (j,inF (j:Int))
   | none=>none):=fun s=>by
  rw[dD]
  cases bU g s<;>simp
 refine kf rfl rfl ?_;repeat' first|exact k9|refine k2 ?_|apply kA|apply kI;intro hc|refine k8 ?_|apply kL;intro hl
 apply kCt [1,5,8,27,28,29] [];conv=>whnf
 refine Lp.ind (fun z:Nat=>t.nodes.length - z) (fun z=>z≤t.nodes.length) (fun z=>[(29,InD z)]) (fun _=>[]) (fun _=>_) 0 (Nat.zero_le _) rfl rfl rfl ?_
 rintro G i ih hi
 by_cases hx:i<t.nodes.length
 ·have hni:=hN _ (List.getElem_mem hx);have hlk:=hlook t.nodes[i].text
  by_cases hk:t.nodes[i].kind=3
  ·obtain⟨j,hj⟩:=Option.isSome_iff_exists.1 (hni hk);rw[hj] at hlk;dsimp only at hlk
   repeat' first|exact k9|refine k2 ?_|apply kA|apply kI;intro hc|refine k8 ?_|apply kL;intro hl
   apply kCt [1,5,8,27,28,29] [];conv=>whnf
   exact ih (i+1) _ _ _ (by omega) (by omega) rfl rfl rfl
  ·repeat' first|exact k9|refine k2 ?_|apply kA|apply kI;intro hc|refine k8 ?_|apply kL;intro hl
   apply kCt [1,5,8,27,28,29] [];conv=>whnf
   exact ih (i+1) _ _ _ (by omega) (by omega) rfl rfl rfl
 ·repeat' (first|exact k9|refine k2 ?_|apply kA|apply kI;intro hc|refine k8 ?_|apply kL;intro hl)⟩
end Go.Km
end
section
namespace Go.Km
open Go Go.Vc Go.Proofs Go.aa
set_option maxRecDepth 100000
set_option maxHeartbeats 0
instance(b:Int):C 127 [byF b] (boF (iE b)) true True:=⟨fun _=>by
 refine kf rfl rfl ?_;repeat' first|exact k9|refine k2 ?_|apply kA|apply kI;intro hc|refine k8 ?_|apply kL;intro hl
 all_goals (refine ao.b ?_ rfl;rw[Bool.eq_iff_iff];simp[iE,dd];try omega)⟩
instance(b:Int):C 128 [byF b] (boF (tH b)) true True:=⟨fun _=>by
 refine kf rfl rfl ?_;repeat' first|exact k9|refine k2 ?_|apply kA|apply kI;intro hc|refine k8 ?_|apply kL;intro hl
 all_goals (refine ao.b ?_ rfl;rw[Bool.eq_iff_iff];simp[tH,dt];try omega)⟩
instance(s:ByteArray):C 107 [stF s] (stF (fQ s)) true (s.size≤281474976710656):=⟨fun hs=>by
 refine kf rfl rfl ?_;repeat' first|exact k9|refine k2 ?_|apply kA|apply kI;intro hc|refine k8 ?_|apply kL;intro hl
 ·refine ao.s ?_ rfl;rw[hc];rfl
 ·rename_i h0
  replace h0:=h0.2
  have hh:ly s.data.toList=true:=by rw[rK h0];exact hc
  apply kCt [0,3] [];conv=>whnf
  refine Lp.ind (fun j:Nat=>s.size - j) (fun j=>j≤s.size∧∀i b,i<j→s.data.toList[i]?=some b→fa b=true) (fun j=>[(3,InD j)]) (fun _=>[]) (fun _=>(stF (fQ s),true)) 0 ⟨by omega,fun i b hi hb=>by omega⟩ rfl rfl rfl ?_
  rintro G j ih ⟨hj,hg⟩
  repeat' first|exact k9|refine k2 ?_|apply kA|apply kI;intro hc|refine k8 ?_|apply kL;intro hl
  ·rename_i hl;apply kCt [0,3] [];conv=>whnf
   refine ih (j+1) _ _ _ (by omega) ⟨by omega,fun i b hi hb=>?_⟩ rfl rfl rfl;rcases Nat.lt_or_ge i j with h1|h1
   ·exact hg i b h1 hb
   ·have:i=j:=by omega
    subst this;rw[List.getElem?_eq_getElem hl] at hb
    cases hb;unfold fa;rw[hc];rfl
  ·rename_i hl hc0 hl0;apply kCt [0,3] [];conv=>whnf
   refine ih (j+1) _ _ _ (by omega) ⟨by omega,fun i b hi hb=>?_⟩ rfl rfl rfl;rcases Nat.lt_or_ge i j with h1|h1
   ·exact hg i b h1 hb
   ·have:i=j:=by omega
    subst this;rw[List.getElem?_eq_getElem hl] at hb
    cases hb;unfold fa;rw[hc,Bool.or_true]
  ·rename_i _ _ hc0;refine ao.s (pa hh hj hg fun b hb=>?_) rfl;rw[List.getElem?_eq_getElem hl] at hb
   cases hb;unfold fa;rw[hc,hc0];rfl
  ·refine ao.s (pa hh hj hg fun b hb=>?_) rfl;rw[List.getElem?_eq_none (by have:s.data.toList.length=s.size:=rfl;omega)] at hb
   cases hb
 ·rename_i h0
  replace h0:=h0.2
  refine ao.s ?_ rfl;rw[B5];rw[rK h0];exact hc⟩
instance(s:ByteArray):C 92 [stF s] (boF (gD s)) true (s.size≤281474976710656):=⟨fun hs=>by
 refine kf rfl rfl ?_;repeat' first|exact k9|refine k2 ?_|apply kA|apply kI;intro hc|refine k8 ?_|apply kL;intro hl
 ·refine ao.b ?_ rfl;rw[Eg,decide_eq_true (p:=s=⟨#[]⟩) hc];simp
 ·refine ao.b ?_ rfl;rw[tG,decide_eq_false (p:=s=⟨#[]⟩) (by rename_i h0;exact h0.1),decide_eq_true (p:=s.size≤32) (by omega)];simp[IJ]
 ·refine ao.b ?_ rfl;rw[tG,decide_eq_false (p:=s.size≤32) (by omega)];simp⟩
end Go.Km
end
section
namespace Go.aa
open Go
def hasB(s:Bts)(n:Nat):Bool:=(s.ws.getD (n / 64) 0).testBit (n % 64)
theorem yJ:List.range 256=List.range 64++(List.range 64).map (64 + ·)++(List.range 64).map (128 + ·)++(List.range 64).map (192 + ·):=by decide +kernel
theorem iK{s:Bts}(i:Nat){l:List Nat}(hl:∀b∈l,b<64):(l.map (i * 64 + ·)).filter (hasB s)=(l.filter fun b=>(s.ws.getD i 0).testBit b).map (i * 64 + ·):=by
 rw[List.filter_map]
 congr 1
 apply List.filter_congr;intro b hb;have:=hl b hb;show hasB s (i * 64+b)=_
 rw[hasB,show(i * 64+b) / 64=i by omega,show(i * 64+b) % 64=b by omega]
theorem Am(s:Bts):kO s=(List.range 256).filter (hasB s):=by
 have h:∀b∈List.range 64,b<64:=fun b hb=>List.mem_range.1 hb
 have h0:=iK (s:=s) 0 h;have h1:=iK (s:=s) 1 h;have h2:=iK (s:=s) 2 h;have h3:=iK (s:=s) 3 h;have e0:(List.range 64).map (0 * 64 + ·)=List.range 64:=by decide +kernel
 rw[e0] at h0;rw[yJ,List.filter_append,List.filter_append,List.filter_append,h0];rw[show(List.range 64).map (64 + ·)=(List.range 64).map (1 * 64 + ·) from rfl,h1,show(List.range 64).map (128 + ·)=(List.range 64).map (2 * 64 + ·) from rfl,h2,show(List.range 64).map (192 + ·)=(List.range 64).map (3 * 64 + ·) from rfl,h3];simp[kO,Bts.ws,bY,gR]
def runT(H:Nat→Bool)(n:Nat):List (Nat×Nat):=((List.range n).filter H).foldl cu []
theorem BO(s:Bts):kC s=runT (hasB s) 256:=by rw[kC,Am];rfl
theorem jo(H:Nat→Bool)(n:Nat):runT H (n+1)=if H n=true then cu (runT H n) n else runT H n:=by
 unfold runT;rw[List.range_succ,List.filter_append,List.foldl_append]
 by_cases h:H n=true<;>simp[h]
theorem BG{l:List (Nat×Nat)}{b:Nat}{r:Nat×Nat}(h:r∈cu l b):r∈l∨r.2=b:=by
 rcases bm l with rfl|⟨l,x,rfl⟩
 ·rw[nH] at h;rw[List.mem_singleton] at h;exact .inr (by rw[h])
 ·rw[dB] at h
  split at h
  ·rcases List.mem_append.1 h with h|h
   ·exact .inl (List.mem_append_left _ h)
   ·rw[List.mem_singleton] at h;exact .inr (by rw[h])
  ·rcases List.mem_append.1 h with h|h
   ·exact .inl h
   ·rw[List.mem_singleton] at h;exact .inr (by rw[h])
theorem kv{H:Nat→Bool}:∀{n:Nat} {r:Nat×Nat},r∈runT H n→r.2<n∧H r.2=true
 | 0,r,h=>by simp[runT] at h
 | n+1,r,h=>by
  rw[jo] at h
  split at h
  ·rename_i hn;rcases BG h with h|h
   ·exact⟨Nat.lt_succ_of_lt (kv h).1,(kv h).2⟩
   ·exact⟨by omega,by rw[h];exact hn⟩
  ·exact⟨Nat.lt_succ_of_lt (kv h).1,(kv h).2⟩
theorem xG(H:Nat→Bool):∀n,(runT H n).length≤n
 | 0=>by simp[runT]
 | n+1=>by
  have h1:=xG H n;have h2:=nh (runT H n) n;rw[jo]
  split<;>omega
theorem zX{H:Nat→Bool}{n:Nat}(hp:n=0∨H (n - 1)=false):∀k,(∀j,n≤j→j≤n+k→H j=true)→runT H (n+k+1)=runT H n++[(n,n+k)]
 | 0,h=>by
  rw[Nat.add_zero,jo,if_pos (h n (by omega) (by omega))];rcases bm (runT H n) with e|⟨l,x,e⟩
  ·rw[e];rfl
  ·rw[e,dB,if_neg (fun hx=>?_)]
   ·rfl
   have:=@kv H n x (by rw[e];simp);rcases hp with hp|hp
   ·omega
   ·rw[show n - 1=x.2 by omega,this.2] at hp
    cases hp
 | k+1,h=>by
  rw[show n+(k+1)+1=(n+k+1)+1 by omega,jo,if_pos (h _ (by omega) (by omega)),zX hp k fun j h1 h2=>h j h1 (by omega),dB,if_pos rfl];rfl
def kk(H:Nat→Bool)(n:Nat)(R:List (Nat×Nat)):Prop:=∃m,n≤m∧m≤256∧R=runT H m∧((n=0∨H (n - 1)=false)→m=n)∧((∀j,n≤j→j<m→H j=true))∧(0<n∧H (n - 1)=true→m=256∨H m=false)
theorem kk.zero(H:Nat→Bool):kk H 0 []:=⟨0,by omega,by omega,rfl,fun _=>rfl,fun j h h'=>by omega,fun h=>by omega⟩
theorem kk.skip{H:Nat→Bool}{n:Nat}{R:List (Nat×Nat)}(h:kk H n R)(hn:n<256)(hs:H n=false∨0<n∧H (n - 1)=true):kk H (n+1) R:=by
 obtain⟨m,h1,h2,h3,h4,h5,h6⟩:=h
 cases hh:H n
 ·have hm:m=n:=by
   rcases Nat.lt_or_ge n m with h'|h'
   ·rw[h5 n (by omega) h'] at hh;cases hh
   ·omega
  subst hm;exact⟨m+1,by omega,by omega,by rw[h3,jo,if_neg (by rw[hh];simp)],fun _=>rfl,fun j h h'=>by omega,fun h=>by rw[Nat.add_sub_cancel,hh] at h;exact absurd h.2 (by simp)⟩
 ·have hp:0<n∧H (n - 1)=true:=hs.resolve_left (by rw[hh];simp);have h6':=h6 hp;have hm:n<m:=by
   rcases Nat.lt_or_ge n m with h'|h'
   ·exact h'
   ·obtain rfl:m=n:=by omega
    rcases h6' with h6'|h6'
    ·omega
    ·rw[hh] at h6';cases h6'
  exact⟨m,by omega,h2,h3,fun h=>by rw[Nat.add_sub_cancel,hh] at h;exact h.elim (fun h=>by omega) (fun h=>by cases h),fun j h h'=>h5 j (by omega) h',fun _=>h6'⟩
theorem kk.run{H:Nat→Bool}{n k:Nat}{R:List (Nat×Nat)}(h:kk H n R)(hp:n=0∨H (n - 1)=false)(hk:n+k<256)(hj:∀j,n≤j→j≤n+k→H j=true)(he:n+k=255∨H (n+k+1)=false):kk H (n+1) (R++[(n,n+k)]):=by
 obtain⟨m,h1,h2,h3,h4,h5,h6⟩:=h;obtain rfl:=h4 hp;refine⟨m+k+1,by omega,by omega,by rw[h3,zX hp k hj],fun h=>?_,fun j h h'=>hj j (by omega) (by omega),fun _=>?_⟩
 ·rw[Nat.add_sub_cancel,hj m (by omega) (by omega)] at h;exact h.elim (fun h=>by omega) (fun h=>by cases h)
 ·rcases he with he|he
  ·exact .inl (by omega)
  ·exact .inr he
theorem kk.end_{s:Bts}{R:List (Nat×Nat)}(h:kk (hasB s) 256 R):R=kC s:=by
 obtain⟨m,h1,h2,h3,_⟩:=h;obtain rfl:m=256:=by omega
 rw[h3,BO]
theorem kk.len{H:Nat→Bool}{n:Nat}{R:List (Nat×Nat)}(h:kk H n R):R.length≤256:=by
 obtain⟨m,h1,h2,h3,_⟩:=h;have:=xG H m;rw[h3];omega
end Go.aa
namespace Go.Km
open Go Go.Vc Go.Proofs Go.aa Go.Proofs.YtoklkjkmbfebjaaGreatDoor
set_option maxRecDepth 100000
set_option maxHeartbeats 0
end Go.Km
end
section
namespace Go.aa
open Go
end Go.aa
namespace Go.Km
open Go Go.Vc Go.Proofs Go.aa Go.Proofs.YtoklkjkmbfebjaaGreatDoor
set_option maxRecDepth 100000
set_option maxHeartbeats 0
end Go.Km
end
section
namespace Go.Km
open Go Go.Vc Go.Proofs Go.aa
set_option maxRecDepth 100000
set_option maxHeartbeats 0
def ug(N:Nat)(l:List Int):List Int:=(List.range N).map fun j:Nat=>((l.count (j:Int):Nat):Int)
theorem jb(N:Nat)(l:List Int):(ug N l).length=N:=by simp[ug]
theorem ln{N j:Nat}(l:List Int)(h:j<N):(ug N l)[j]?=some ((l.count (j:Int):Nat):Int):=by simp[ug,h]
theorem Iv(N:Nat):ug N []=List.replicate N 0:=by
 apply List.ext_getElem?;intro j
 by_cases h:j<N
 ·rw[ln [] h,List.getElem?_replicate,if_pos h];rfl
 ·rw[List.getElem?_eq_none (by rw[jb];omega),List.getElem?_eq_none (by simp;omega)]
theorem Ff{N x:Nat}(l:List Int)(hx:x<N):(ug N l).set x (((l.count (x:Int):Nat):Int)+1)=ug N (l++[(x:Int)]):=by
 apply List.ext_getElem?;intro j
 by_cases h:j<N
 ·rw[ln _ h,List.getElem?_set,jb]
  by_cases hj:x=j
  ·subst hj;rw[if_pos rfl,if_pos h];simp
  ·rw[if_neg hj,ln _ h,List.count_append,List.count_singleton];have hb:((x:Int)==(j:Int))=false:=by simp;omega
   simp[hb]
 ·rw[List.getElem?_eq_none (by simp[jb];omega),List.getElem?_eq_none (by rw[jb];omega)]
theorem pY{t:Tre}(h:¬aC t):au t=false:=by
 cases hr:au t with
 | false=>rfl
 | true=>exact absurd (aq hr) h
theorem xo{ns:List Nod}{i:Nat}{n:Nod}(h:ns[i]?=some n):ax (ns.take (i+1))=ax (ns.take i)++n.kids:=by
 obtain⟨hi,he⟩:=List.getElem?_eq_some_iff.1 h;rw[List.take_succ_eq_append_getElem hi,he];simp[ax]
theorem qZ{ns:List Nod}(i:Nat):(ax (ns.take i)).length≤(ax ns).length:=by
 unfold ax;conv=>rhs;rw[←List.take_append_drop i ns]
 rw[List.flatMap_append,List.length_append];omega
theorem x6(kind sa sb sc sd:Int)(text:ByteArray)(lo hi:Int)(K:List (List F))(k:Int)(kids:List Int)(hk:0≤kind∧kind≤255)(ht:text.size≤281474976710656) :
  Pure Tryz.prog X1.Γ 72 [.ag [byF kind,.vl (.int .u64 sa),.vl (.int .u64 sb),.vl (.int .u64 sc),.vl (.int .u64 sd),stF text,inF lo,inF hi,.sl K],inF k] (boF (fits ⟨kind,⟨sa,sb,sc,sd⟩,text,lo,hi,kids⟩ k)) true:=by
 by_cases h10:10≤kind
 ·refine kf rfl rfl ?_;repeat' first|exact k9|refine k2 ?_|apply kA|apply kI;intro hc|refine k8 ?_|apply kL;intro hl
  all_goals refine ao.b ?_ rfl
  all_goals unfold fits
  all_goals simp only
  all_goals rw[if_neg (by omega),if_neg (by omega),if_neg (by omega),if_neg (by omega),if_neg (by omega),if_neg (by omega),if_neg (by omega),if_neg (by omega)]
 ·have:kind=0∨kind=1∨kind=2∨kind=3∨kind=4∨kind=5∨kind=6∨kind=7∨kind=8∨kind=9:=by omega
  rcases this with rfl|rfl|rfl|rfl|rfl|rfl|rfl|rfl|rfl|rfl
  all_goals refine kf rfl rfl ?_
  all_goals repeat' first|exact k9|refine k2 ?_|apply kA|apply kI;intro hc|refine k8 ?_|apply kL;intro hl
  all_goals refine ao.b ?_ rfl
  all_goals clear hk h10
  all_goals simp_all [fits,dd,dt,kM,Bts.zero]
  all_goals try omega
  ·exfalso
   revert hc
   decide
  ·rw[jG]
instance(kind sa sb sc sd:Int)(text:ByteArray)(lo hi:Int)(K:List (List F))(k:Int):C 72 [.ag [byF kind,.vl (.int .u64 sa),.vl (.int .u64 sb),.vl (.int .u64 sc),.vl (.int .u64 sd),stF text,inF lo,inF hi,.sl K],inF k] (boF (fits ⟨kind,⟨sa,sb,sc,sd⟩,text,lo,hi,[]⟩ k)) true ((⟨kind,⟨sa,sb,sc,sd⟩,text,lo,hi,[]⟩:Nod).wf):=⟨fun h=>x6 kind sa sb sc sd text lo hi _ k [] h.kind (Nat.le_trans h.text (by decide))⟩
instance(n:Nod)(k:Int):C 72 [.ag (aU n),inF k] (boF (fits n k)) true (n.wf):=⟨fun h=>x6 n.kind n.set.a n.set.b n.set.c n.set.d n.text n.min n.max _ k n.kids h.kind (Nat.le_trans h.text (by decide))⟩
structure Sm(t:Tre):Prop where
 wf:t.wf
 le:t.nodes.length≤500000
theorem IN{ns:List Nod}(h:∀n∈ns,n.wf):(ax ns).length≤17592186044416 * ns.length:=by
 induction ns with
 | nil=>simp[ax]
 | cons n ns ih=>
  have h1:=(h n (by simp)).kids.1;have h2:=ih fun m hm=>h m (List.mem_cons_of_mem _ hm)
  simp only[dS] at h1;simp only[ax,List.flatMap_cons,List.length_append,List.length_cons] at h2 ⊢;omega
abbrev cnF(N:Nat)(l:List Int):List (List F):=(ug N l).map ikF
set_option maxRecDepth 100000
set_option maxHeartbeats 0
instance(t:Tre):C 73 [az t] (boF (au t)) true (Sm t):=⟨fun ⟨ht,hle⟩=>by
 have hkl:=IN ht.nodes;refine kf rfl rfl ?_;repeat' first|exact k9|refine k2 ?_|apply kA|apply kI;intro hc|refine k8 ?_|apply kL;intro hl
 ·refine ao.b ?_ rfl;simp[au];omega
 ·refine ao.b ?_ rfl;simp[au];omega
 rename_i h0;apply kCt [1,3,4] [];conv=>whnf
 refine Lp.ind (fun x:Nat=>t.nodes.length - x) (fun x=>x≤t.nodes.length∧NOk 0 (t.nodes.take x)) (fun x=>[(4,InD x)]) (fun x=>[(1,.ro 0 3 1 (cnF t.nodes.length (ax (t.nodes.take x))))]) (fun _=>(boF (au t),true)) 0 ⟨Nat.zero_le _,by intro j n h;simp at h⟩ rfl rfl ?_ ?_
 ·rw[List.take_zero,show ax []=[] from rfl,cnF,Iv,List.map_replicate,List.length_map];rfl
 rintro G i ih ⟨hi,hok⟩
 by_cases hx:i<t.nodes.length
 ·have hns:t.nodes[i]?=some t.nodes[i]:=List.getElem?_eq_getElem hx;have hak:=xo hns;have hal:=qZ (ns:=t.nodes) (i+1);have htk:t.nodes.take (i+1)=t.nodes.take i++[t.nodes[i]]:=List.take_succ_eq_append_getElem hx;have hwf:=ht.nodes _ (List.getElem_mem hx);rw[hak,List.length_append] at hal;generalize hn:t.nodes[i]=n at *;have hkl1:=hwf.kids.1;simp only[dS] at hkl1
  repeat' first|exact k9|refine k2 ?_|apply kA|apply kI;intro hc|apply kL;intro hl|((simp only[hn])<;>conv=>whnf)|refine k8 ?_|fail
  ·apply kCt [1,3,4,5,6] [];conv=>whnf
   refine Lp.ind (fun x:Nat×List Int=>n.kids.length - x.1) (fun x=>x.1≤n.kids.length∧x.2=ax (t.nodes.take i)++n.kids.take x.1∧∀y∈n.kids.take x.1,0≤y∧y<(i:Int)) (fun x=>[(6,InD x.1)]) (fun x=>[(1,.ro 0 3 1 (cnF t.nodes.length x.2))]) (fun _=>(boF (au t),true)) (0,ax (t.nodes.take i)) ⟨by dsimp only;omega,by simp,by simp⟩ rfl rfl rfl ?_
   rintro G' ⟨j,L⟩ ih' ⟨hj,hL,hjk⟩
   dsimp only at hj hL hjk ih' ⊢
   by_cases hjt:j<n.kids.length
   ·have htj:n.kids.take (j+1)=n.kids.take j++[n.kids[j]]:=List.take_succ_eq_append_getElem hjt;have hmj:=List.getElem_mem hjt;have hno:¬(0≤n.kids[j]∧n.kids[j]<(i:Int))→au t=false:=fun hh=>pY fun h=>hh (by have:=h.kok i n hns _ hmj;omega)
    generalize hk:n.kids[j]=x at *;have hcl:L.count x≤(ax (t.nodes.take i)).length+n.kids.length:=by
     rw[hL];refine Nat.le_trans List.count_le_length ?_;rw[List.length_append,List.length_take];omega
    have hq:0≤x→x<t.nodes.length→∀h,(ug t.nodes.length L)[x.toNat]'h=((L.count x:Nat):Int):=fun h0 h1 h=>by
     have:=ln (N:=t.nodes.length) L (j:=x.toNat) (by omega);rw[List.getElem?_eq_getElem h,show((x.toNat:Nat):Int)=x by omega] at this;exact Option.some.inj this
    have hset:0≤x→x<t.nodes.length→(cnF t.nodes.length L).set x.toNat [inF (((L.count x:Nat):Int)+1)]=cnF t.nodes.length (L++[x]):=fun h0 h1=>by
     have:=Ff (N:=t.nodes.length) (x:=x.toNat) L (by omega);rw[show((x.toNat:Nat):Int)=x by omega] at this;rw[cnF,cnF,←this,List.map_set]
    have hcc:=jb t.nodes.length L
    by_cases hxx:0≤x∧x<(i:Int)
    ·have hq':=hq (by omega) (by omega);have hset':=hset (by omega) (by omega)
     repeat' first|exact k9|refine k2 ?_|apply kA|apply kI;intro hc|apply kL;intro hl|((simp only[hk])<;>conv=>whnf)|((simp only[hq'])<;>conv=>whnf)|refine k8 ?_|fail
     apply kCt [1,3,4,5,6] [];conv=>whnf
     refine ih' (j+1,L++[x]) _ _ _ (by dsimp only;omega) ⟨by dsimp only;omega,by dsimp only;rw[htj,hL,List.append_assoc],fun y hy=>?_⟩ rfl rfl (congrArg (fun z=>iW [(1,B.ro 0 3 1 z)] G'.h) hset');dsimp only at hy;rw[htj] at hy;rcases List.mem_append.1 hy with hy|hy
     ·exact hjk y hy
     ·simp at hy;omega
    ·have hno':=hno hxx;rw[hno']
     repeat' first|exact k9|refine k2 ?_|apply kA|apply kI;intro hc|apply kL;intro hl|((simp only[hk])<;>conv=>whnf)|refine k8 ?_|fail
   ·have hfit:=hc
    repeat' first|exact k9|refine k2 ?_|apply kA|apply kI;intro hc|refine k8 ?_|apply kL;intro hl
    apply kCt [1,3,4] [];conv=>whnf
    rw[List.take_of_length_le (l:=n.kids) (by omega)] at hL hjk;refine ih (i+1) _ _ _ (by omega) ⟨by omega,?_⟩ rfl rfl (by rw[hak,←hL];rfl);rw[htk];refine NOk.app hok ?_;intro a m hm
    cases a with
    | zero=>
     simp at hm;subst hm;refine⟨hfit,fun x hx=>?_⟩;have:=hjk x hx;rw[List.length_take];omega
    | succ a=>simp at hm
  ·refine ao.b ?_ rfl;rw[pY (fun h=>by have:=h.fits i n hns;rw[hc] at this;cases this)]
 ·rw[List.take_of_length_le (by omega)] at hok ⊢
  repeat' first|exact k9|refine k2 ?_|apply kA|apply kI;intro hc|refine k8 ?_|apply kL;intro hl
  apply kCt [1,3,7] [];conv=>whnf
  refine Lp.ind (fun x:Nat=>t.nodes.length - x) (fun x=>x≤t.nodes.length∧∀m:Nat,m<x→(ax t.nodes).count (m:Int)=if (m:Int)=t.root then 0 else 1) (fun x=>[(7,InD x)]) (fun x=>[]) (fun _=>(boF (au t),true)) 0 ⟨Nat.zero_le _,by omega⟩ rfl rfl rfl ?_
  rintro G' k ih' ⟨hk,hkm⟩
  have hcc:=jb t.nodes.length (ax t.nodes)
  by_cases hkt:k<t.nodes.length
  ·have hq:∀h,(ug t.nodes.length (ax t.nodes))[k]'h=(((ax t.nodes).count (k:Int):Nat):Int):=fun h=>by
    have:=ln (N:=t.nodes.length) (ax t.nodes) (j:=k) hkt;rw[List.getElem?_eq_getElem h] at this;exact Option.some.inj this
   have hno:¬(ax t.nodes).count (k:Int)=(if (k:Int)=t.root then 0 else 1)→au t=false:=fun h=>pY fun hR=>h (hR.count k hkt)
   have hyes:(ax t.nodes).count (k:Int)=(if (k:Int)=t.root then 0 else 1)→∀m:Nat,m<k+1→(ax t.nodes).count (m:Int)=if (m:Int)=t.root then 0 else 1:=by
    intro h m hm;rcases Nat.lt_or_ge m k with h'|h'
    ·exact hkm m h'
    ·obtain rfl:m=k:=by omega
     exact h
   generalize hqq:(ax t.nodes).count (k:Int)=q at *
   by_cases hkr:(k:Int)=t.root
   ·rw[if_pos hkr] at hno hyes
    repeat' first|exact k9|refine k2 ?_|apply kA|apply kI;intro hc|apply kL;intro hl|((simp only[hq])<;>conv=>whnf)|refine k8 ?_|fail
    ·have hq0:q=0:=by have:=hq (by omega);omega
     apply kCt [1,3,7] [];conv=>whnf
     exact ih' (k+1) _ _ _ (by omega) ⟨by omega,hyes hq0⟩ rfl rfl rfl
    ·have hq0:¬q=0:=by have:=hq (by omega);omega
     exact ao.b (hno hq0).symm rfl
   ·rw[if_neg hkr] at hno hyes
    repeat' first|exact k9|refine k2 ?_|apply kA|apply kI;intro hc|apply kL;intro hl|((simp only[hq])<;>conv=>whnf)|refine k8 ?_|fail
    ·have hq0:q=1:=by have:=hq (by omega);omega
     apply kCt [1,3,7] [];conv=>whnf
     exact ih' (k+1) _ _ _ (by omega) ⟨by omega,hyes hq0⟩ rfl rfl rfl
    ·have hq0:¬q=1:=by have:=hq (by omega);omega
     exact ao.b (hno hq0).symm rfl
  ·repeat' first|exact k9|refine k2 ?_|apply kA|apply kI;intro hc|refine k8 ?_|apply kL;intro hl
   refine ao.b ?_ rfl;rw[qp (t:=t) ⟨by omega,by omega⟩ hok (fun i hi=>hkm i (by omega))]⟩
set_option maxRecDepth 100000
set_option maxHeartbeats 0
instance(t:Tre)(node:Int):C 93 [az t,inF node] (.tp [az (dA t node).1,boF (dA t node).2]) false (Sm t):=⟨fun ⟨ht,hle⟩=>by
 have hsm:Sm t:=⟨ht,hle⟩
 refine kf rfl rfl ?_;repeat' first|exact k9|refine k2 ?_|apply kA|apply kI;intro hc|refine k8 ?_|apply kL;intro hl
 ·exact ao.i (by rw[dA,if_neg (by omega)];rfl)
 ·exact ao.i (by rw[dA,if_neg (by omega)];rfl)
 ·rename_i hrt _;rename_i h0;have hn:=hc;have hsub:dA t node=(aD t node,true):=by rw[dA,if_pos ⟨by assumption,by omega,by omega⟩]
  rw[hsub];have hR:aC t:=aq (by assumption);have hch:=hR.kok.ae;have hN:=fj hR (by omega) hn;have hmem:=sR hR (by omega) hn;apply Stp.ng 6 3 1 rfl rfl;apply kCt [2,4,6,7] [];conv=>whnf
  refine Lp.ind (fun x:List Int×List Int=>(dfs (ef (ae t.nodes)) t.nodes.length x.1.reverse).length) (fun x=>(∀k∈x.1,0≤k∧k<t.nodes.length)∧x.2++dfs (ef (ae t.nodes)) t.nodes.length x.1.reverse=dfs (ef (ae t.nodes)) t.nodes.length [node]) (fun _=>[])
   (fun x=>[(2,.ro 0 3 1 (x.2.map ikF)),(3,.ro 0 3 1 (x.1.map ikF))]) (fun _=>(.tp [az (aD t node),boF true],false)) ([node],[]) ⟨?_,?_⟩ rfl rfl rfl ?_
  ·dsimp only;intro k hk;simp at hk;omega
  ·simp
  rintro G ⟨op,out⟩ ih ⟨hop,he⟩
  dsimp only at hop he ih ⊢;have hrm:=room (node:=node) (by omega) (by rw[aQ,(cU _ _ _).length_eq] at hN;omega) he;rcases bm op with rfl|⟨init,x,rfl⟩
  ·repeat' first|exact k9|refine k2 ?_|apply kA|apply kI;intro hc|refine k8 ?_|apply kL;intro hl
   have hb:aQ t node=out.reverse:=by
    simp only[List.reverse_nil,bk,List.append_nil] at he;rw[he,aQ,show[node]=[node].reverse from rfl,oG];rfl
   apply Stp.ng 10 54 9 rfl rfl;apply kCt [2,4,6,9,10,11] [];conv=>whnf
   have htot:aD t node=⟨bb t.nodes 0 (List.replicate t.nodes.length 0) (aQ t node),(aQ t node).length - 1⟩:=rfl;have hol:out.length=(aQ t node).length:=by rw[hb,List.length_reverse]
   have hoj:∀j (hj:j<(aQ t node).length) (h:out.length - 1 - j<out.length),out[out.length - 1 - j]'h=(aQ t node)[j]:=fun j hj h=>by
    have:=List.getElem_reverse (l:=out) (i:=j) (by rw[List.length_reverse];omega);rw[←this]
    congr 1
    exact hb.symm
   clear he hop hrm ih;generalize hl:aQ t node=l at *;refine Lp.ind (fun x:Nat×List Int×List Nod=>l.length - x.1) (fun x=>x.1≤l.length∧x.2.1.length=t.nodes.length∧x.2.2.length=x.1∧x.2.2++bb t.nodes x.1 x.2.1 (l.drop x.1)=(aD t node).nodes) (fun x=>[(11,InD ((l.length:Int) - 1 - x.1))])
    (fun x=>[(3,.ro 0 3 1 (x.2.1.map ikF)),(4,.ro 0 54 9 (x.2.2.map aU))]) (fun _=>(.tp [az (aD t node),boF true],false)) (0,List.replicate t.nodes.length 0,[]) ⟨by simp,by simp,rfl,by rw[htot];rfl⟩ rfl ?_ ?_ ?_
   ·simp only[List.length_map,hol,Int.sub_zero,Int.natCast_zero];rfl
   ·rw[show(List.replicate t.nodes.length (0:Int)).map ikF=List.replicate (t.nodes.map aU).length (ikF 0) by simp];rfl
   rintro G' ⟨j,pl,acc⟩ ih ⟨hj,hpl,hac,hT⟩
   dsimp only at hj hpl hac hT ih ⊢
   by_cases hx:j<l.length
   ·obtain⟨k,hk⟩:∃k:Nat,l[j]=k:=⟨l[j].toNat,by have:=hmem _ (List.getElem_mem hx);omega⟩
    have hkn:k<t.nodes.length:=by have:=hmem _ (List.getElem_mem hx);omega
    have hij:((l.length:Int) - 1 - (j:Int)).toNat=out.length - 1 - j:=by omega
    have hli:∀h,out[out.length - 1 - j]'h=(k:Int):=fun h=>(hoj j hx h).trans hk
    have hil:out.length - 1 - j<out.length:=by omega
    obtain⟨n,hnk⟩:=exEq (t.nodes[k]);have hni:∀h,t.nodes[k]'h=n:=fun _=>hnk.symm
    have hkl:n.kids.length≤17592186044416:=by rw[hnk];exact(ht.nodes _ (List.getElem_mem hkn)).kids.1
    have hkw:∀x∈n.kids,0≤x∧x<t.nodes.length:=by
     intro x hxk;have:=hR.kok k n (by rw[hnk];exact List.getElem?_eq_getElem hkn) x hxk;omega
    rw[List.drop_eq_getElem_cons hx,bb,hk,Int.toNat_natCast,List.getD_eq_getElem?_getD,List.getElem?_eq_getElem hkn,←hnk] at hT;simp only[Option.getD_some] at hT;have hps:(pl.set k (j:Int)).length=t.nodes.length:=by simp[hpl]
    have hpe:List.map ikF (pl.set k (j:Int))=(List.map ikF pl).set k (ikF j):=by rw[List.map_set]
    repeat' first|exact k9|refine k2 ?_|apply kA|apply kI;intro hc|apply kL;intro hl|((simp only[hij])<;>conv=>whnf)|((simp only[hli,Int.toNat_natCast])<;>conv=>whnf)|((simp only[hni])<;>conv=>whnf)|refine k8 ?_|fail
    apply Stp.ng 13 3 1 rfl rfl;apply kCt [2,4,6,9,10,11,12,13,14] [];conv=>whnf
    refine Lp.ind (fun x:Nat=>n.kids.length - x) (fun x=>x≤n.kids.length) (fun x=>[(14,InD x)]) (fun x=>[(3,.ro 0 3 1 ((pl.set k (j:Int)).map ikF)),(6,.ro 0 3 1 (((n.kids.take x).map (fun x=>(pl.set k (j:Int)).getD x.toNat 0)).map ikF))]) (fun _=>(.tp [az (aD t node),boF true],false)) 0 (by simp) rfl rfl ?_ ?_
    ·rw[hpe,←hac,List.length_map];rfl
    rintro G'' q ih' hq
    by_cases hy:q<n.kids.length
    ·have hkj:=hkw _ (List.getElem_mem hy);have hg:(pl.set k (j:Int)).getD n.kids[q].toNat 0=(pl.set k (j:Int))[n.kids[q].toNat]'(by omega):=by
      rw[List.getD_eq_getElem?_getD,List.getElem?_eq_getElem (by omega)];rfl
     repeat' first|exact k9|refine k2 ?_|apply kA|apply kI;intro hc|refine k8 ?_|apply kL;intro hl
     apply kCt [2,4,6,9,10,11,12,13,14] [];conv=>whnf
     refine ih' (q+1) _ _ _ (by omega) (by omega) rfl rfl ?_;rw[List.take_succ_eq_append_getElem hy,List.map_append,List.map_append,List.map_singleton,List.map_singleton,hg];rfl
    ·rw[List.take_of_length_le (by omega)]
     repeat' first|exact k9|refine k2 ?_|apply kA|apply kI;intro hc|refine k8 ?_|apply kL;intro hl
     apply kCt [2,4,6,9,10,11] [];conv=>whnf
     refine ih (j+1,pl.set k (j:Int),acc++[{ n with kids:=n.kids.map fun x=>(pl.set k (j:Int)).getD x.toNat 0 }]) _ _ _ (by dsimp only;omega) ⟨by dsimp only;omega,hps,by simp[hac],by simpa using hT⟩ rfl ?_ ?_
     ·dsimp only;rw[show(l.length:Int) - 1 - ((j+1:Nat):Int)=(l.length:Int) - 1 - (j:Int) - 1 by omega];rfl
     ·rw[List.map_append];rfl
   ·rw[List.drop_of_length_le (by omega),bb,List.append_nil] at hT
    repeat' first|exact k9|refine k2 ?_|apply kA|apply kI;intro hc|refine k8 ?_|apply kL;intro hl
    refine ao.i ?_;rw[show az (aD t node)=F.ag [F.sl ((aD t node).nodes.map aU),inF ((aD t node).root)] from rfl,←hT,htot,List.length_map,show acc.length=l.length by omega]
  ·have hx:=hop x (by simp);obtain⟨i,rfl⟩:∃i:Nat,x=i:=⟨x.toNat,by omega⟩
   have hlast:∀h,(init++[(i:Int)])[((List.map ikF (init++[(i:Int)])).length - 1:Int).toNat]'h=(i:Int):=by
    intro h;simp[List.getElem_append]
   have hil:i<t.nodes.length:=by omega
   have hkn2:t.nodes[i].kids=ae t.nodes i:=aI (List.getElem?_eq_getElem hil);have hkl2:=(ht.nodes _ (List.getElem_mem hil)).kids.1;simp only[dS] at hkl2;rw[List.reverse_append,List.reverse_singleton,List.singleton_append,aM hch.rev (by omega) (by omega)] at he;have hE:(init++t.nodes[i].kids).reverse=ef (ae t.nodes) i++init.reverse:=by
    rw[List.reverse_append,hkn2];rfl
   have he2:(out++[(i:Int)])++dfs (ef (ae t.nodes)) t.nodes.length (init++t.nodes[i].kids).reverse=dfs (ef (ae t.nodes)) t.nodes.length [node]:=by
    rw[hE,bl,List.append_assoc];exact he
   have hrm2:=room (node:=node) (by omega) (by rw[aQ,(cU _ _ _).length_eq] at hN;omega) he2;simp only[List.length_append,List.length_cons,List.length_nil] at hrm hrm2
   repeat' first|exact k9|refine k2 ?_|apply kA|apply kI;intro hc|apply kL;intro hl|((rw[hlast])<;>conv=>whnf)|refine k8 ?_|fail
   apply kCt [2,4,6,7] [];conv=>whnf
   refine ih (init++t.nodes[i].kids,out++[(i:Int)]) _ _ _ ?_ ⟨?_,?_⟩ rfl rfl ?_
   ·dsimp only;rw[hE,List.reverse_append,List.reverse_singleton,List.singleton_append,aM hch.rev (by omega) (by omega),bl];simp
   ·intro k hk;rcases List.mem_append.1 hk with hk|hk
    ·exact hop k (by simp[hk])
    ·rw[hkn2] at hk;have:=hch i k hk;omega
   ·exact he2
   ·dsimp only;rw[show List.map ikF (init++t.nodes[i].kids)=List.take ((List.map ikF (init++[(i:Int)])).length - 1:Int).toNat (List.map ikF (init++[(i:Int)]))++List.map ikF t.nodes[i].kids from by simp[List.take_append],show List.map ikF (out++[(i:Int)])=List.map ikF out++[ikF i] from by simp];rfl
 ·exact ao.i (by rw[dA,if_neg (by rw[hc];simp)];rfl)⟩
theorem Ec(t:Tre):(dA t t.root).1=aT t:=by
 cases hri:au t with
 | false=>rw[dA,if_neg (by rw[hri];simp),aT,if_neg (by rw[hri];simp)]
 | true=>
  have hR:=(aq hri).root;rw[dA,if_pos ⟨hri,hR.1,hR.2⟩,aT,if_pos hri]
instance(t:Tre):C 74 [az t] (az (aT t)) false (Sm t):=⟨fun ht=>by
 rw[←Ec];refine kf rfl rfl ?_;repeat' (first|exact k9|refine k2 ?_|apply kA|apply kI;intro hc|refine k8 ?_|apply kL;intro hl)⟩
end Go.Km
end
section
namespace Go.Km
open Go Go.RowKit Go.Vc
open Go.Sl hiding lk
theorem uV{c:Cf}{nx:Nat}(hc:c.ι nx 0=some (none,0,0)):∀(i:Nat) (l:List D) (vs:List Value),l[i]?=some uo→D.ah c l vs→D.ah c (l.set i (.own nx 0)) vs
 | i,[],vs,h,_=>by simp at h
 | 0,d :: l,vs,h,hr=>by
  rw[List.getElem?_cons_zero] at h
  injection h with h
  subst h;rw[List.set_cons_zero];unfold D.ah at hr ⊢;obtain⟨u,us,k5,k6,k7⟩:=hr;refine⟨u,us,k5,?_,k7⟩;unfold D.rep F.rep at k6;unfold D.rep;exact⟨none,0,0,hc,k6⟩
 | i+1,d :: l,vs,h,hr=>by
  rw[List.getElem?_cons_succ] at h;rw[List.set_cons_succ];unfold D.ah at hr ⊢;obtain⟨u,us,k5,k6,k7⟩:=hr;exact⟨u,us,k5,k6,uV hc i l us h k7⟩
section
variable {ρ:Type} [jl ρ] {P:Program} {X:Tx} {f0:Nat} {r:ρ} {f N:Nat} {s:List (Nat×D)} {ki:List KI} {ds:List (Nat×Nat)} {ro:Option (Nat×Nat)} {cs:List Fm} {h:List (Nat×B)} {nx:Nat}
theorem Sn.Lg(b i e sz:Nat){v t:Nat}{l l':List D}(hs:lk h b=some (.va v t l))(hi:l[i]?=some uo)(hl:l.set i (.own nx 0)=l')(hf:lk h nx=none)(H:Sn P X f0 r ⟨⟨f,N,s,ki,ds,ro⟩,cs,(b,.va v t l') :: (nx,.ro 0 e sz []) :: h,nx+1⟩):Sn P X f0 r ⟨⟨f,N,s,ki,ds,ro⟩,cs,h,nx⟩:=by
 subst hl;unfold Sn Snd at *;intro W cs0 hΓ c O fr frs w hr;obtain⟨hle,hp⟩:=Hp.none_ (e:=e) (sz:=sz) hr.hp hf;obtain⟨a,todo,rr,h1,h2,h3,h4,h5⟩:=hr.top.ex;have hb:b≠nx:=fun e=>by rw[e,hf] at hs;cases hs
 have hbx:up (lk h) nx (.ro 0 e sz []) b=some (.va v t l):=by rw[aF (Ne.symm hb)];exact hs
 refine H W cs0 hΓ (c.add nx 0 (none,0,0)) (upO (upO O nx fun _=>False) b (upO O nx (fun _=>False) b)) fr frs w ⟨⟨⟨a,todo,rr,h1,h2.le hle,KIs.le hle h3,bx.le hle h4,jE.le hle h5⟩⟩,Fms.le hle hr.cs,?_,?_,hr.bot⟩
 ·show Hp _ _ (lk ((b,_) :: (nx,_) :: h)) w
  rw[bW,bW];refine hp.upd Chg.refl (fun g hg=>.inl hg) (Cf.le.refl _) rfl rfl (hp.cq hbx rfl) ?_;obtain⟨g,vs,k1,k2,k3,k4⟩:=hp.pc b _ hbx;exact⟨g,vs,k1,uV Cf.cY i l vs hi k2,k3,k4⟩
 ·exact(Old.none_ hr.old).upd Chg.refl (fun g hg=>.inl hg) rfl rfl
theorem Stp.Lg(b i e sz:Nat){v t:Nat}{l l':List D}(hs:lk h b=some (.va v t l))(hi:l[i]?=some uo)(hl:l.set i (.own nx 0)=l')(hf:lk h nx=none)(H:Stp (Sn P X f0 r ⟨⟨f,N,s,ki,ds,ro⟩,cs,(b,.va v t l') :: (nx,.ro 0 e sz []) :: h,nx+1⟩)):Stp (Sn P X f0 r ⟨⟨f,N,s,ki,ds,ro⟩,cs,h,nx⟩):=⟨Sn.Lg b i e sz hs hi hl hf H.h⟩
end
end Go.Km
end
section
namespace Go.Km
open Go Go.Vc Go.Proofs Go.aa
set_option maxRecDepth 100000
set_option maxHeartbeats 0
theorem xT{ns:List Nod}{d:Int}{i:Nat}{n:Nod}(h:ns[i]?=some n):bK (ns.take (i+1)) d=bK (ns.take i) d++[{ n with kids:=n.kids.map (· + d) }]:=by
 obtain⟨hi,he⟩:=List.getElem?_eq_some_iff.1 h;rw[List.take_succ_eq_append_getElem hi,he];simp[bK]
theorem Lk(kind sa sb sc sd:Int)(text:ByteArray)(lo hi:Int)(K:List (List F))(l:List Tre)(hn:(⟨kind,⟨sa,sb,sc,sd⟩,text,lo,hi,[]⟩:Nod).wf)(hl:l.length≤1466015503701)(hw:∀t∈l,Sm t)(ht:tot l+1≤1466015503701) :
  Pure Tryz.prog X1.Γ 50 [.ag [byF kind,.vl (.int .u64 sa),.vl (.int .u64 sb),.vl (.int .u64 sc),.vl (.int .u64 sd),stF text,inF lo,inF hi,.sl K],mA l]
   (.tp [az (ofP ⟨kind,⟨sa,sb,sc,sd⟩,text,lo,hi,[]⟩ l).1,boF (ofP ⟨kind,⟨sa,sb,sc,sd⟩,text,lo,hi,[]⟩ l).2]) false:=by
 obtain⟨n,hnn⟩:∃n:Nod,n=⟨kind,⟨sa,sb,sc,sd⟩,text,lo,hi,[]⟩:=⟨_,rfl⟩
 have hF:∀x,fits ⟨kind,⟨sa,sb,sc,sd⟩,text,lo,hi,[]⟩ x=fits n x:=fun x=>by rw[hnn]
 rw[←hnn];refine kf rfl rfl ?_;repeat' first|exact k9|refine k2 ?_|apply kA|apply kI;intro hc|refine k8 ?_|apply kL;intro hl
 ·have hfit:fits n l.length=true:=by rw[←hF];exact hc
  have hno:iM l [] []=none→ofP n l=(.zero,false):=fun h=>by rw[ofP,if_pos hfit,h]
  have hyes:∀a ks,iM l [] []=some (a,ks)→ofP n l=(⟨a++[{ n with kids:=ks }],a.length⟩,true):=fun a ks h=>by rw[ofP,if_pos hfit,h]
  apply Stp.ng 6 54 9 rfl rfl;refine Stp.Lg 0 8 3 1 rfl rfl rfl rfl ?_;apply kCt [1,2,4,6,7] [];conv=>whnf
  refine Lp.ind (fun x:Nat×List Nod×List Int=>l.length - x.1) (fun x=>x.1≤l.length∧x.2.2.length=x.1∧x.2.1.length+tot (l.drop x.1)≤tot l∧iM l [] []=iM (l.drop x.1) x.2.1 x.2.2) (fun x=>[(7,InD x.1)]) (fun x=>[(1,.ro 0 3 1 (x.2.2.map ikF)),(3,.ro 0 54 9 (x.2.1.map aU))]) (fun _=>(.tp [az (ofP n l).1,boF (ofP n l).2],false))
   (0,[],[]) ⟨by simp,rfl,by simp,rfl⟩ rfl rfl rfl ?_
  rintro G ⟨i,ar,ks⟩ ih ⟨hil,hks,hto,hT⟩
  dsimp only at hil hks hto hT ih ⊢
  by_cases hx:i<l.length
  ·obtain⟨q,hq⟩:=exEq (l[i]);have hqi:∀h:i<l.length,l[i]'h=q:=fun _=>hq.symm
   have hql:q∈l:=by rw[hq];exact List.getElem_mem hx
   have hwq:=hw q hql;rw[List.drop_eq_getElem_cons hx,←hq] at hT hto;rw[kH] at hto;rw[iM] at hT
   cases hrq:au q with
   | false=>
    rw[if_neg (by rw[hrq];decide)] at hT
    repeat' first|exact k9|refine k2 ?_|apply kA|apply kI;intro hc|apply kL;intro hl|((simp only[hqi])<;>conv=>whnf)|refine k8 ?_|fail
    refine ao.i ?_;rw[hno hT];rfl
   | true=>
    rw[if_pos hrq] at hT;have hRq:=aq hrq;obtain⟨w1,w2⟩:=gL hwq.wf hRq hRq.root.1 hRq.root.2;have hm4:(aD q q.root).nodes.length≤q.nodes.length:=nQ hRq hRq.root.1 hRq.root.2;have hlen:=w1.len;simp only[ca] at hlen w2;have hcl:aT q=aD q q.root:=jO hrq;rw[←hcl] at hT hm4 w1 w2 hlen;have hml:(bK (aT q).nodes ar.length).length=(aT q).nodes.length:=by simp[bK]
    repeat' first|exact k9|refine k2 ?_|apply kA|apply kI;intro hc|apply kL;intro hl|((simp only[hqi])<;>conv=>whnf)|refine k8 ?_|fail
    apply kCt [1,2,4,6,7,8,9,10] [];conv=>whnf
    generalize hC:(aT q).nodes=C at *;generalize (aT q).root=cr at *;refine Lp.ind (fun x:Nat×List Nod=>C.length - x.1) (fun x=>x.1≤C.length∧x.2=ar++bK (C.take x.1) ar.length) (fun x=>[(9,InD ar.length),(10,InD x.1)]) (fun x=>[(3,.ro 0 54 9 (x.2.map aU))]) (fun _=>(.tp [az (ofP n l).1,boF (ofP n l).2],false)) (0,ar) ⟨by simp,by simp[bK]⟩ rfl ?_ rfl ?_
    ·rw[show(List.map aU ar).length=ar.length from List.length_map ..];rfl
    rintro G' ⟨k,br⟩ ih' ⟨hk,hbr⟩
    dsimp only at hk hbr ih' ⊢;have hbl:br.length=ar.length+k:=by rw[hbr];simp[bK];omega
    by_cases hkc:k<C.length
    ·have hCk:C[k]?=some C[k]:=List.getElem?_eq_getElem hkc;have hmv:=xT (d:=(ar.length:Int)) hCk;have hwx:=w1.nodes _ (by rw[hC];exact List.getElem_mem hkc);have hwk:=w2 _ (List.getElem_mem hkc);obtain⟨y,hy⟩:=exEq (C[k]);have hyi:∀h:k<C.length,C[k]'h=y:=fun _=>hy.symm
     rw[←hy] at hmv hwx hwk;have hyl:=hwx.kids.1;simp only[dS] at hyl
     repeat' first|exact k9|refine k2 ?_|apply kA|apply kI;intro hc|apply kL;intro hl|((simp only[hyi])<;>conv=>whnf)|refine k8 ?_|fail
     apply Stp.ng 12 3 1 rfl rfl;apply kCt [1,2,4,6,7,8,9,10,11,12,13] [];conv=>whnf
     refine Lp.ind (fun x:Nat=>y.kids.length - x) (fun x=>x≤y.kids.length) (fun x=>[(13,InD x)]) (fun x=>[(6,.ro 0 3 1 (((y.kids.take x).map (fun z=>(ar.length:Int)+z)).map ikF))]) (fun _=>(.tp [az (ofP n l).1,boF (ofP n l).2],false)) 0 (by simp) rfl rfl rfl ?_
     rintro G'' j ih'' hj
     by_cases hjl:j<y.kids.length
     ·have hwz:=hwk _ (List.getElem_mem hjl)
      repeat' first|exact k9|refine k2 ?_|apply kA|apply kI;intro hc|refine k8 ?_|apply kL;intro hl
      apply kCt [1,2,4,6,7,8,9,10,11,12,13] [];conv=>whnf
      refine ih'' (j+1) _ _ _ (by omega) (by omega) rfl rfl ?_;rw[List.take_succ_eq_append_getElem hjl,List.map_append,List.map_append,List.map_singleton,List.map_singleton];rfl
     ·rw[List.take_of_length_le (by omega)];have hcomm:(fun z:Int=>(ar.length:Int)+z)=(fun z:Int=>z+(ar.length:Int)):=by funext z;omega
      rw[hcomm]
      repeat' first|exact k9|refine k2 ?_|apply kA|apply kI;intro hc|refine k8 ?_|apply kL;intro hl
      apply kCt [1,2,4,6,7,8,9,10] [];conv=>whnf
      refine ih' (k+1,br++[{ y with kids:=y.kids.map (· + (ar.length:Int)) }]) _ _ _ (by dsimp only;omega) ⟨by dsimp only;omega,by dsimp only;rw[hmv,hbr,List.append_assoc]⟩ rfl rfl ?_;rw[List.map_append];rfl
    ·repeat' first|exact k9|refine k2 ?_|apply kA|apply kI;intro hc|refine k8 ?_|apply kL;intro hl
     apply kCt [1,2,4,6,7] [];conv=>whnf
     rw[List.take_of_length_le (by omega)] at hbr;refine ih (i+1,br,ks++[((br.length:Nat):Int) - 1]) _ _ _ (by dsimp only;omega) ⟨by dsimp only;omega,by simp[hks],by dsimp only;omega,?_⟩ rfl rfl ?_
     ·rw[hT];dsimp only;rw[hbl,hbr,show k=C.length by omega]
     ·dsimp only;rw[List.length_map,show List.map ikF (ks++[((br.length:Nat):Int) - 1])=List.map ikF ks++[ikF (((br.length:Nat):Int) - 1)] from by simp];rfl
  ·rw[List.drop_of_length_le (by omega),iM] at hT;rw[hyes _ _ hT,hnn]
   repeat' first|exact k9|refine k2 ?_|apply kA|apply kI;intro hc|refine k8 ?_|apply kL;intro hl
   refine ao.i ?_;simp only[az,fO,List.map_append];refine congrArg (fun z=>F.tp [F.ag [F.sl (List.map aU ar++[[byF kind,F.vl (.int .u64 sa),F.vl (.int .u64 sb),F.vl (.int .u64 sc),F.vl (.int .u64 sd),stF text,inF lo,inF hi,F.sl (List.map ikF ks)]]),inF z],boF true]) ?_;simp
 ·refine ao.i ?_;rw[ofP,if_neg (by rw[←hF,hc];decide)];rfl
instance(kind sa sb sc sd:Int)(text:ByteArray)(lo hi:Int)(K:List (List F))(l:List Tre):C 50 [.ag [byF kind,.vl (.int .u64 sa),.vl (.int .u64 sb),.vl (.int .u64 sc),.vl (.int .u64 sd),stF text,inF lo,inF hi,.sl K],mA l]
  (.tp [az (ofP ⟨kind,⟨sa,sb,sc,sd⟩,text,lo,hi,[]⟩ l).1,boF (ofP ⟨kind,⟨sa,sb,sc,sd⟩,text,lo,hi,[]⟩ l).2]) false ((⟨kind,⟨sa,sb,sc,sd⟩,text,lo,hi,[]⟩:Nod).wf∧l.length≤1466015503701∧(∀t∈l,Sm t)∧tot l+1≤1466015503701):=⟨fun h=>Lk kind sa sb sc sd text lo hi K l h.1 h.2.1 h.2.2.1 h.2.2.2⟩
set_option maxRecDepth 100000
set_option maxHeartbeats 0
end Go.Km
end
section
namespace Go.aa
open Go Go.Sl
end Go.aa
namespace Go.Km
open Go Go.Vc Go.Proofs Go.aa
set_option maxRecDepth 100000
set_option maxHeartbeats 0
end Go.Km
end
section
namespace Go.aa
open Go Go.Sl
end Go.aa
namespace Go.Km
open Go Go.Vc Go.Proofs Go.aa
set_option maxRecDepth 100000
set_option maxHeartbeats 0
end Go.Km
end
section
namespace Go.aa
open Go Go.Sl
end Go.aa
namespace Go.Km
open Go Go.Vc Go.Proofs Go.aa
set_option maxRecDepth 100000
set_option maxHeartbeats 0
end Go.Km
end
section
namespace Go.Km
open Go Go.Vc Go.Proofs Go.aa Go.Proofs.YtoklkjkmbfebjaaGreatDoor
set_option maxRecDepth 100000
set_option maxHeartbeats 0
end Go.Km
end
section
namespace Go.aa
open Go
end Go.aa
namespace Go.Km
open Go Go.Vc Go.Proofs Go.aa Go.Proofs.YtoklkjkmbfebjaaGreatDoor
set_option maxRecDepth 100000
set_option maxHeartbeats 0
abbrev txR(b:List UInt8):List F:=[stF ⟨b.toArray⟩]
set_option maxRecDepth 100000
set_option maxHeartbeats 0
structure N2(g:List Dfn):Prop where
 wf:∀d∈g,d.wf
 len:∀d∈g,d.body.nodes.length≤1024
 n:g.length≤200
set_option maxRecDepth 100000
set_option maxHeartbeats 0
set_option maxRecDepth 100000
set_option maxHeartbeats 0
end Go.Km
end
section
namespace Go.aa
open Go Go.Km
def Fo.iF(g:List Dfn)(l:List Fl):Fo→List Fl
 | .nil=>[]
 | .cons n k r=>fB n (k.iF g l) (gg g l n.text) :: r.iF g l
theorem Fo.ve(g:List Dfn)(l:List Fl):∀F G:Fo,(F.app G).iF g l=F.iF g l++G.iF g l
 | .nil,G=>rfl
 | .cons n k r,G=>by simp only[Fo.app,Fo.iF,Fo.ve g l r G,List.cons_append]
theorem Ej(g:List Dfn)(l:List Fl)(ns:List Nod):∀m,aP g l ns=aP g l (ns.take m)++(aP g l ns).drop m:=by
 intro m;have h:∀(b:List Nod) (a:List Fl),∃c,b.foldl (iX g l) a=a++c:=by
  intro b
  induction b with
  | nil=>intro a;exact⟨[],by simp⟩
  | cons n b ih=>
   intro a;obtain⟨c,hc⟩:=ih (iX g l a n);exact⟨_,by rw[List.foldl_cons,hc,iX,List.append_assoc]⟩
 obtain⟨c,hc⟩:=h (ns.drop m) (aP g l (ns.take m));have e:aP g l ns=aP g l (ns.take m)++c:=by
  rw[←hc];conv=>lhs;rw[←List.take_append_drop m ns]
  rw[aP,List.foldl_append];rfl
 by_cases hm:m≤ns.length
 ·have hl:(aP g l (ns.take m)).length=m:=by rw[cM,List.length_take];omega
  have:(aP g l ns).drop m=c:=by rw[e,List.drop_left' hl]
  rw[this];exact e
 ·rw[List.take_of_length_le (by omega),List.drop_of_length_le (by rw[cM];omega),List.append_nil]
theorem rX(g:List Dfn)(l:List Fl)(ns:List Nod){m k:Nat}(hk:k<m)(hm:m≤ns.length):(aP g l ns).getD k .bot=(aP g l (ns.take m)).getD k .bot:=by
 have hl:(aP g l (ns.take m)).length=m:=by rw[cM,List.length_take];omega
 rw[Ej g l ns m,List.getD_eq_getElem?_getD,List.getElem?_append_left (by omega),←List.getD_eq_getElem?_getD]
theorem H4(g:List Dfn)(l:List Fl){ns:List Nod}{i:Nat}(hi:i<ns.length)(hk:∀k∈ns[i].kids,0≤k∧k<(i:Int)):(aP g l ns).getD i .bot=fB ns[i] (ft (aP g l ns) ns[i].kids) (gg g l ns[i].text):=by
 have hl:(aP g l (ns.take i)).length=i:=by rw[cM,List.length_take];omega
 rw[rX g l ns (m:=i+1) (by omega) (by omega),qP g l hi,nC,if_neg (by omega),if_pos (by omega)]
 congr 1
 refine List.map_congr_left fun k hkk=>?_;have:=hk k hkk;rw[rX g l ns (m:=i) (by omega) (by omega)]
theorem yw(n:Nod)(ks:List Int)(l:List Fl)(r:Fl):fB { n with kids:=ks } l r=fB n l r:=rfl
theorem Fo.mP(g:List Dfn)(l:List Fl){ns:List Nod}(hf:0<ns.length):∀ks:List Int,(aE ns ns.length ks).iF g l=ks.map fun k=>hd0 ((aE ns ns.length [k]).iF g l)
 | []=>by rw[ay];rfl
 | k :: ks=>by
  rw[bc k ks hf,Fo.ve,Fo.mP g l hf ks];obtain⟨j,hj⟩:=fM (ns:=ns) (f:=ns.length) k hf;rw[hj];simp only[List.map_cons,hj];rfl
theorem zu(g:List Dfn)(l:List Fl){ns:List Nod}(hk:KOk ns):∀i:Nat,i<ns.length→(aP g l ns).getD i .bot=hd0 ((aE ns ns.length [(i:Int)]).iF g l):=by
 intro i
 induction i using Nat.strongRecOn with
 | ind i ih=>
  intro hi;have hki:=hk i _ (List.getElem?_eq_getElem hi);rw[H4 g l hi hki,fJ hk.ae (by omega) (by omega),Fo.iF,Fo.mP g l (by omega),←aI (List.getElem?_eq_getElem hi)];have hd:dat ns (i:Int)={ ns[i] with kids:=[] }:=by simp[dat,List.getD_eq_getElem?_getD,hi]
  rw[hd,yw];show _=fB ns[i] _ (gg g l ns[i].text)
  congr 1
  refine List.map_congr_left fun k hkk=>?_;have:=hki k hkk;obtain⟨q,rfl⟩:∃q:Nat,k=q:=⟨k.toNat,by omega⟩
  exact ih q (by omega) (by omega)
def Fo.iC(g:List Dfn)(l:List Fl)(s:Bool):Fo→List ByteArray
 | .nil=>[]
 | .cons n k r=>(if n.kind=3 then [n.text] else if n.kind=6∧n.max=0 then [] else k.iC g l (decide (n.kind=4)))++(if (s && !(fB n (k.iF g l) (gg g l n.text)).zero)=true then [] else r.iC g l s)
def Fo.loops(g:List Dfn)(l:List Fl):Fo→Bool
 | .nil=>false
 | .cons n k r=>(decide (n.kind=6)&&decide (n.max=-1)&&(hd0 (k.iF g l)).zero)||k.loops g l||r.loops g l
def iy(g:List Dfn)(i:Nat):List Nat:=match g[i]? with
 | some d=>((foT d.body).iC g (fU g) false).filterMap (bU g)
 | none=>[]
def fN(g:List Dfn)(i:Nat):Bool:=match g[i]? with
 | some d=>(foT d.body).loops g (fU g)
 | none=>false
def eA(l m:List Nat):List Nat:=m.foldl (fun l j=>if j∈l then l else l++[j]) l
def rN(adj:Nat→List Nat):Nat→Nat→List Nat→List Nat
 | 0,_,l=>l
 | f+1,k,l=>match l[k]? with
  | some x=>rN adj f (k+1) (eA l (adj x))
  | none=>l
def zQ(g:List Dfn)(i:Nat):Bool:=decide (i∈rN (iy g) (2 * g.length+(iy g i).length) 0 (iy g i))
def dn(p:Nat→Bool):Nat→Nat→Option Nat
 | 0,_=>none
 | n+1,i=>if p i=true then some i else dn p n (i+1)
def jK(g:List Dfn):Int×Int:=
 if dI g=0 then (match dn (zQ g) g.length 0 with
  | some i=>((i:Int),42)
  | none=>(match dn (fN g) g.length 0 with
   | some i=>((i:Int),43)
   | none=>(0,0)))
 else (0,dI g)
def bO(g:List Dfn):Int:=(jK g).2
inductive mR(r:Nat→Nat→Prop):Nat→Nat→Prop
 | one {a b:Nat}:r a b→mR r a b
 | more {a b c:Nat}:mR r a b→r b c→mR r a c
theorem mR.trans{r:Nat→Nat→Prop}{a b c:Nat}(h:mR r a b)(k:mR r b c):mR r a c:=by
 induction k with
 | one k=>exact .more h k
 | more _ k ih=>exact .more ih k
theorem fC:∀(m l:List Nat) (x:Nat),x∈eA l m↔x∈l∨x∈m
 | [],l,x=>by simp[eA]
 | j :: m,l,x=>by
  rw[eA,List.foldl_cons,←eA,fC m]
  split
  ·rename_i h
   constructor
   ·rintro(h1|h1)
    ·exact .inl h1
    ·exact .inr (List.mem_cons_of_mem _ h1)
   ·rintro(h1|h1)
    ·exact .inl h1
    ·rcases List.mem_cons.1 h1 with rfl|h1
     ·exact .inl h
     ·exact .inr h1
  ·simp only[List.mem_append,List.mem_cons,List.not_mem_nil,or_assoc,false_or]
theorem ni:∀(m l:List Nat),∃c,eA l m=l++c
 | [],l=>⟨[],by simp[eA]⟩
 | j :: m,l=>by
  rw[eA,List.foldl_cons,←eA]
  split
  ·exact ni m l
  ·obtain⟨c,hc⟩:=ni m (l++[j]);exact⟨[j]++c,by rw[hc,List.append_assoc]⟩
structure rj(adj:Nat→List Nat)(i n0 n:Nat)(k:Nat)(l:List Nat):Prop where
 le:k≤l.length
 sound:∀x∈l,mR (fun a b=>b∈adj a) i x
 first:∀x∈adj i,x∈l
 done:∀(j:Nat) (h:j<k) (hj:j<l.length),∀x∈adj l[j],x∈l
 nd:(l.drop n0).Nodup
 len:n0≤l.length
 rng:∀x∈l,x<n
theorem pR{n0:Nat}:∀(m l:List Nat),(l.drop n0).Nodup→n0≤l.length→((eA l m).drop n0).Nodup∧n0≤(eA l m).length
 | [],l,h,e=>⟨h,e⟩
 | j :: m,l,h,e=>by
  rw[eA,List.foldl_cons,←eA]
  split
  ·exact pR m l h e
  ·rename_i hj;refine pR m (l++[j]) ?_ (by simp;omega);rw[List.drop_append_of_le_length e,List.nodup_append];exact⟨h,by simp,fun a ha b hb=>by simp at hb;subst hb;exact fun q=>hj (q▸List.mem_of_mem_drop ha)⟩
theorem rj.step{adj:Nat→List Nat}{i n0 n k:Nat}{l:List Nat}(h:rj adj i n0 n k l)(hk:k<l.length)(ha:∀a<n,∀x∈adj a,x<n):rj adj i n0 n (k+1) (eA l (adj l[k])):=by
 obtain⟨c,hc⟩:=ni (adj l[k]) l;obtain⟨q1,q2⟩:=pR (adj l[k]) l h.nd h.len;refine⟨by rw[hc];simp;omega,fun x hx=>?_,fun x hx=>(fC _ _ _).2 (.inl (h.first x hx)),fun j hj hjl x hx=>?_,q1,q2,fun x hx=>?_⟩
 ·rcases(fC _ _ _).1 hx with hx|hx
  ·exact h.sound x hx
  ·exact .more (h.sound _ (List.getElem_mem hk)) hx
 ·have hjl2:j<l.length:=by omega
  have e:(eA l (adj l[k]))[j]=l[j]:=by simp only[hc];rw[List.getElem_append_left hjl2]
  rw[e] at hx
  by_cases ej:j=k
  ·subst ej;exact(fC _ _ _).2 (.inr hx)
  ·exact(fC _ _ _).2 (.inl (h.done j (by omega) hjl2 x hx))
 ·rcases(fC _ _ _).1 hx with hx|hx
  ·exact h.rng x hx
  ·exact ha _ (h.rng _ (List.getElem_mem hk)) x hx
theorem rj.bound{adj:Nat→List Nat}{i n0 n k:Nat}{l:List Nat}(h:rj adj i n0 n k l):l.length≤n0+n:=by
 have h1:(l.drop n0).length≤(List.range n).length:=List.Nodup.length_le_of_subset h.nd (fun x hx=>List.mem_range.2 (h.rng x (List.mem_of_mem_drop hx)));simp at h1;have:=h.len;omega
theorem rj.end_{adj:Nat→List Nat}{i n0 n:Nat}{l:List Nat}(h:rj adj i n0 n l.length l)(x:Nat):x∈l↔mR (fun a b=>b∈adj a) i x:=by
 refine⟨h.sound x,fun hp=>?_⟩
 induction hp with
 | one h1=>exact h.first _ h1
 | more _ h2 ih=>
  obtain⟨j,hj,rfl⟩:=List.getElem_of_mem ih;exact h.done j hj hj _ h2
theorem rj.zero{adj:Nat→List Nat}{i n:Nat}(hi:i<n)(ha:∀a<n,∀x∈adj a,x<n):rj adj i (adj i).length n 0 (adj i):=⟨Nat.zero_le _,fun x hx=>.one hx,fun x hx=>hx,fun j h=>by omega,by simp,Nat.le_refl _,fun x hx=>ha i hi x hx⟩
theorem qM{adj:Nat→List Nat}{i n0 n:Nat}(ha:∀a<n,∀x∈adj a,x<n):∀(f k:Nat) (l:List Nat),rj adj i n0 n k l→n0+n≤f+k→∃l',rN adj f k l=l'∧rj adj i n0 n l'.length l'
 | 0,k,l,h,hf=>by
  have h1:=h.bound;have h2:=h.le;obtain rfl:k=l.length:=by omega
  exact⟨l,rfl,h⟩
 | f+1,k,l,h,hf=>by
  rw[rN]
  by_cases hk:k<l.length
  ·rw[List.getElem?_eq_getElem hk];exact qM ha f (k+1) _ (h.step hk ha) (by omega)
  ·have h2:=h.le;obtain rfl:k=l.length:=by omega
   rw[List.getElem?_eq_none (Nat.le_refl _)];exact⟨l,rfl,h⟩
theorem C4(g:List Dfn)(a:Nat):∀x∈iy g a,x<g.length:=by
 intro x hx;unfold iy at hx
 split at hx
 ·obtain⟨s,_,hs⟩:=List.mem_filterMap.1 hx;exact(jU hs).1
 ·cases hx
theorem Fg{g:List Dfn}{i:Nat}(hi:i<g.length):zQ g i=true↔mR (fun a b=>b∈iy g a) i i:=by
 have ha:∀a<g.length,∀x∈iy g a,x<g.length:=fun a _ x hx=>C4 g a x hx
 obtain⟨l',h1,h2⟩:=qM ha (2 * g.length+(iy g i).length) 0 _ (rj.zero hi ha) (by omega);rw[zQ,decide_eq_true_iff,h1];exact h2.end_ i
theorem iG{p:Nat→Bool}:∀{n i:Nat},dn p n i=none↔∀j,i≤j→j<i+n→p j=false
 | 0,i=>by simp[dn];omega
 | n+1,i=>by
  rw[dn]
  split
  ·rename_i h;refine⟨fun q=>(by cases q),fun q=>?_⟩;rw[q i (Nat.le_refl _) (by omega)] at h
   cases h
  ·rename_i h;rw[iG];refine⟨fun q j h1 h2=>?_,fun q j h1 h2=>q j (by omega) (by omega)⟩
   by_cases e:j=i
   ·subst e;simpa using h
   ·exact q j (by omega) (by omega)
theorem la{p:Nat→Bool}:∀{n i k:Nat},dn p n i=some k→i≤k∧k<i+n∧p k=true∧∀j,i≤j→j<k→p j=false
 | 0,i,k,h=>by simp[dn] at h
 | n+1,i,k,h=>by
  rw[dn] at h
  split at h
  ·rename_i hp
   cases h;exact⟨Nat.le_refl _,by omega,hp,fun j h1 h2=>by omega⟩
  ·rename_i hp;obtain⟨h1,h2,h3,h4⟩:=la h;refine⟨by omega,by omega,h3,fun j h5 h6=>?_⟩
   by_cases e:j=i
   ·subst e;simpa using hp
   ·exact h4 j (by omega) h6
end Go.aa
end
section
namespace Go.aa
open Go
def wdN(p:Nat→Bool):Nat→Nat
 | 0=>0
 | n+1=>wdN p n ||| (if p n=true then 2 ^ n else 0)
def wdI(p:Nat→Bool):Int:=(wdN p 64:Int)
theorem dP(p:Nat→Bool):∀n j:Nat,(wdN p n).testBit j=(decide (j<n)&&p j)
 | 0,j=>by simp[wdN]
 | n+1,j=>by
  rw[wdN,Nat.testBit_or,dP p n j]
  by_cases hp:p n=true
  ·rw[if_pos hp,Nat.testBit_two_pow]
   by_cases e:n=j
   ·subst e;simp[hp]
   ·simp only[e,decide_false,Bool.or_false]
    congr 1
    exact decide_eq_decide.2 (by omega)
  ·rw[if_neg hp,Nat.zero_testBit,Bool.or_false]
   by_cases e:n=j
   ·subst e;simp[hp]
   ·congr 1
    exact decide_eq_decide.2 (by omega)
theorem m3(p:Nat→Bool)(n:Nat):wdN p n<2 ^ n:=by
 refine Nat.lt_pow_two_of_testBit _ fun i hi=>?_;rw[dP];simp;omega
theorem tn{m:Nat}(h:m<18446744073709551616):IntKind.u64.wrap (m:Int)=(m:Int):=by
 exact Go.Vc.wrap_u64 (by omega)
theorem oA(p:Nat→Bool):BitVec.ofInt 64 (wdI p)=BitVec.ofNat 64 (wdN p 64):=by
 rw[wdI,BitVec.ofInt_natCast]
theorem lx{p q:Nat→Bool}(h:∀j<64,p j=q j):wdI p=wdI q:=by
 unfold wdI
 congr 1
 refine Nat.eq_of_testBit_eq fun j=>?_;rw[dP,dP]
 by_cases e:j<64
 ·rw[h j e]
 ·simp[e]
theorem Le{p q:Nat→Bool}(h:wdI p=wdI q):∀j<64,p j=q j:=fun j hj=>by
 have e:wdN p 64=wdN q 64:=by unfold wdI at h;omega
 have:=congrArg (fun n=>Nat.testBit n j) e;simpa [dP,hj] using this
theorem CM(p q:Nat→Bool):IntKind.u64.wrap ((BitVec.ofInt IntKind.u64.bits (wdI p) ||| BitVec.ofInt IntKind.u64.bits (wdI q)).toNat:Int)=wdI fun j=>p j||q j:=by
 show IntKind.u64.wrap ((BitVec.ofInt 64 (wdI p) ||| BitVec.ofInt 64 (wdI q)).toNat:Int)=_
 rw[oA,oA,BitVec.toNat_or,BitVec.toNat_ofNat,BitVec.toNat_ofNat,Nat.mod_eq_of_lt (m3 p 64),Nat.mod_eq_of_lt (m3 q 64)];have e:wdN p 64 ||| wdN q 64=wdN (fun j=>p j||q j) 64:=by
  refine Nat.eq_of_testBit_eq fun j=>?_;rw[Nat.testBit_or,dP,dP,dP]
  cases decide (j<64)<;>simp
 rw[e,tn (m3 _ 64)];rfl
theorem LP(p q:Nat→Bool):IntKind.u64.wrap ((BitVec.ofInt IntKind.u64.bits (wdI p) &&& BitVec.ofInt IntKind.u64.bits (wdI q)).toNat:Int)=wdI fun j=>p j&&q j:=by
 show IntKind.u64.wrap ((BitVec.ofInt 64 (wdI p) &&& BitVec.ofInt 64 (wdI q)).toNat:Int)=_
 rw[oA,oA,BitVec.toNat_and,BitVec.toNat_ofNat,BitVec.toNat_ofNat,Nat.mod_eq_of_lt (m3 p 64),Nat.mod_eq_of_lt (m3 q 64)];have e:wdN p 64 &&& wdN q 64=wdN (fun j=>p j&&q j) 64:=by
  refine Nat.eq_of_testBit_eq fun j=>?_;rw[Nat.testBit_and,dP,dP,dP]
  cases decide (j<64)<;>simp
 rw[e,tn (m3 _ 64)];rfl
theorem BX{k:Nat}(h:k<64):IntKind.u64.wrap (1 * 2 ^ (min ((k:Nat):Int).toNat IntKind.u64.bits))=wdI fun j=>decide (j=k):=by
 have e:wdN (fun j=>decide (j=k)) 64=2 ^ k:=by
  refine Nat.eq_of_testBit_eq fun j=>?_;rw[dP,Nat.testBit_two_pow]
  by_cases q:j=k
  ·subst q;simp[h]
  ·have:¬k=j:=fun e=>q e.symm
   simp[q,this]
 rw[show min ((k:Nat):Int).toNat IntKind.u64.bits=k by rw[Int.toNat_natCast];exact Nat.min_eq_left (Nat.le_of_lt h),Int.one_mul,show((2:Int) ^ k)=((2 ^ k:Nat):Int) by simp,wdI,e,tn];have:=Nat.pow_lt_pow_right (a:=2) (by decide) h;omega
theorem mn:wdI (fun _=>false)=0:=by decide +kernel
theorem Hl(p:Nat→Bool){k:Nat}(h:k<64):IntKind.u64.wrap ((BitVec.ofInt IntKind.u64.bits ((wdI p).fdiv (2 ^ (min ((k:Nat):Int).toNat IntKind.u64.bits))) &&& BitVec.ofInt IntKind.u64.bits 1).toNat:Int)=if p k=true then 1 else 0:=by
 rw[show min ((k:Nat):Int).toNat IntKind.u64.bits=k by rw[Int.toNat_natCast];exact Nat.min_eq_left (Nat.le_of_lt h)];have hd:(wdI p).fdiv (2 ^ k)=((wdN p 64 / 2 ^ k:Nat):Int):=by
  rw[wdI,show((2:Int) ^ k)=((2 ^ k:Nat):Int) by simp];exact(Int.ofNat_fdiv _ _).symm
 rw[hd];show IntKind.u64.wrap ((BitVec.ofInt 64 ((wdN p 64 / 2 ^ k:Nat):Int) &&& BitVec.ofInt 64 1).toNat:Int)=_
 have hl:wdN p 64 / 2 ^ k<2 ^ 64:=Nat.lt_of_le_of_lt (Nat.div_le_self _ _) (m3 p 64);rw[BitVec.ofInt_natCast,BitVec.toNat_and,BitVec.toNat_ofNat,Nat.mod_eq_of_lt hl,show(BitVec.ofInt 64 1).toNat=1 from rfl,Nat.and_one_is_mod];have hb:=dP p 64 k;rw[Nat.testBit_eq_decide_div_mod_eq,decide_eq_true h,Bool.true_and] at hb
 by_cases hp:p k=true
 ·rw[hp,decide_eq_true_iff] at hb;rw[if_pos hp,hb];rfl
 ·rw[if_neg hp];have:¬wdN p 64 / 2 ^ k % 2=1:=fun e=>hp (by rw[←hb,decide_eq_true e])
  have:wdN p 64 / 2 ^ k % 2=0:=by omega
  rw[this];rfl
end Go.aa
end
section
namespace Go.aa
open Go Go.Km
def ke(X:List Fl)(n:Nod):Bool:=decide (n.kind=6)&&decide (n.max=-1)&&(hd0 (ft X n.kids)).zero
def tK(X:List Fl)(ns:List Nod):Bool:=ns.any (ke X)
theorem Fo.nR(g:List Dfn)(l:List Fl){ns:List Nod}(hk:KOk ns):∀(f:Nat) (ks:List Int),(∀k∈ks,0≤k∧k<(f:Int))→f≤ns.length→((aE ns f ks).loops g l=true↔∃x∈dfs (ae ns) f ks,ke (aP g l ns) (ns.getD x.toNat .zero)=true)
 | 0,ks,h,_=>by
  cases ks with
  | nil=>simp[aE,Fo.loops,dfs]
  | cons k ks=>have:=h k (by simp);omega
 | f+1,[],_,_=>by simp[ay,Fo.loops,dfs]
 | f+1,k :: ks,h,hf=>by
  have hkk:=h k (by simp);have hc:=hk.ae;obtain⟨q,rfl⟩:∃q:Nat,k=q:=⟨k.toNat,by omega⟩
  have hql:q<ns.length:=by omega
  have hch:∀x∈ae ns (q:Int),0≤x∧x<(f:Int):=fun x hx=>by have:=hc _ x hx;omega
  have ih1:=Fo.nR g l hk f (ae ns (q:Int)) hch (by omega);have ih2:=Fo.nR g l hk (f+1) ks (fun x hx=>h x (by simp[hx])) hf;have hdc:=aM (ch:=ae ns) hc (f:=f+1) (k:=(q:Int)) (l:=ks) hkk.1 hkk.2;have hfu:dfs (ae ns) (f+1) (ae ns (q:Int))=dfs (ae ns) f (ae ns (q:Int)):=lE hc _ _ _ (fun x hx=>by have:=hch x hx;omega) (fun x hx=>(hch x hx).2);have hnode:ke (aP g l ns) (ns.getD ((q:Nat):Int).toNat .zero)=(decide ((dat ns (q:Int)).kind=6)&&decide ((dat ns (q:Int)).max=-1)&&(hd0 ((aE ns f (ae ns (q:Int))).iF g l)).zero):=by
   have e1:aE ns f (ae ns (q:Int))=aE ns ns.length (ae ns (q:Int)):=dQ hc _ _ _ hch (fun x hx=>by have:=hch x hx;omega);have e2:ns.getD ((q:Nat):Int).toNat .zero=ns[q]:=by simp[List.getD_eq_getElem?_getD,hql]
   rw[e1,Fo.mP g l (by omega)];simp only[ke,dat,e2];rw[←aI (List.getElem?_eq_getElem hql)]
   congr 3
   refine List.map_congr_left fun x hx=>?_;have:=hk q _ (List.getElem?_eq_getElem hql) x hx;obtain⟨p,rfl⟩:∃p:Nat,x=p:=⟨x.toNat,by omega⟩
   exact zu g l hk p (by omega)
  rw[aL,Fo.loops,hdc,hfu,Bool.or_eq_true,Bool.or_eq_true,ih1,ih2,←hnode];simp only[List.mem_cons,List.mem_append]
  constructor
  ·rintro((h1|⟨x,h1,h2⟩)|⟨x,h1,h2⟩)
   ·exact⟨_,.inl rfl,h1⟩
   ·exact⟨x,.inr (.inl h1),h2⟩
   ·exact⟨x,.inr (.inr h1),h2⟩
  ·rintro⟨x,(rfl|h1|h1),h2⟩
   ·exact .inl (.inl h2)
   ·exact .inl (.inr ⟨x,h1,h2⟩)
   ·exact .inr ⟨x,h1,h2⟩
theorem Hz(g:List Dfn)(l:List Fl){t:Tre}(hR:aC t):tK (aP g l t.nodes) t.nodes=(foT t).loops g l:=by
 have h:=Fo.nR g l hR.kok t.nodes.length [t.root] (by intro k hk;simp at hk;subst hk;exact hR.root) (Nat.le_refl _);rw[Bool.eq_iff_iff,foT,h,tK,List.any_eq_true]
 constructor
 ·rintro⟨n,hn,h1⟩
  obtain⟨i,hi,rfl⟩:=List.getElem_of_mem hn;refine⟨(i:Int),?_,?_⟩
  ·have:=mo hR (t.nodes.length) (i:Int) (by omega) (by omega) (by omega);rw[Bl] at this;exact List.count_pos_iff.1 (by omega)
  ·simpa [List.getD_eq_getElem?_getD,hi] using h1
 ·rintro⟨x,hx,h1⟩
  have hb:=gE (ch:=ae t.nodes) hR.kok.ae t.nodes.length [t.root] (by intro k hk;simp at hk;subst hk;exact hR.root) x hx;have hl:x.toNat<t.nodes.length:=by omega
  refine⟨t.nodes[x.toNat],List.getElem_mem hl,?_⟩;simpa [List.getD_eq_getElem?_getD,hl] using h1
end Go.aa
namespace Go.Km
open Go Go.Vc Go.Proofs Go.aa Go.Proofs.YtoklkjkmbfebjaaGreatDoor
set_option maxRecDepth 100000
set_option maxHeartbeats 0
instance(X:List Fl)(t:Tre):C 71 [az t,mE X] (boF (tK X t.nodes)) true (t.wf∧aC t∧X.length=t.nodes.length):=⟨fun ⟨hw,hR,hX0⟩=>by
 have hlen:=hw.len;simp only[ca] at hlen;refine kf rfl rfl ?_;repeat' first|exact k9|refine k2 ?_|apply kA|apply kI;intro hc|(apply Sn.go hX;conv=>whnf)|refine k8 ?_|apply kL;intro hl
 apply kCt [1,8,9,10] [];conv=>whnf
 refine Lp.ind (fun z:Nat=>t.nodes.length - z) (fun z=>z≤t.nodes.length∧∀(j:Nat) (hj:j<t.nodes.length),j<z→ke X t.nodes[j]=false) (fun z=>[(10,InD z)]) (fun _=>[]) (fun _=>_) 0 ⟨Nat.zero_le _,fun j hj h=>by omega⟩ rfl rfl rfl ?_
 rintro G i ih ⟨hi,hno⟩
 by_cases hx:i<t.nodes.length
 ·have hgo:ke X t.nodes[i]=false→∀(j:Nat) (hj:j<t.nodes.length),j<i+1→ke X t.nodes[j]=false:=fun h j hj hji=>by
   by_cases e:j=i
   ·subst e;exact h
   ·exact hno j hj (by omega)
  have hyes:ke X t.nodes[i]=true→tK X t.nodes=true:=fun h=>List.any_eq_true.2 ⟨t.nodes[i],List.getElem_mem hx,h⟩
  have hfit:=hR.fits i t.nodes[i] (List.getElem?_eq_getElem hx);have hko:=hR.kok i t.nodes[i] (List.getElem?_eq_getElem hx);obtain⟨kf1,kf2,kf3⟩:=l7 hfit
  by_cases h6:t.nodes[i].kind=6
  ·have hk1:t.nodes[i].kids.length=1:=by have:=kf2 (by omega);omega
   obtain⟨q,hq⟩:∃q:Nat,t.nodes[i].kids=[(q:Int)]:=by
    obtain⟨x,hx1⟩:=List.length_eq_one_iff.1 hk1;refine⟨x.toNat,?_⟩;have:=hko x (by rw[hx1];simp);rw[hx1]
    congr 1
    omega
   have hql:=hko (q:Int) (by rw[hq];simp);have hq0:∀h:0<t.nodes[i].kids.length,t.nodes[i].kids[0]'h=(q:Int):=fun h=>by simp only[hq];rfl
   have hloop:ke X t.nodes[i]=(decide (t.nodes[i].max=-1)&&(X.getD q .bot).zero):=by
    rw[ke,hq,decide_eq_true h6,Bool.true_and];rfl
   have hxq:∀h:((q:Nat):Int).toNat<X.length,X[((q:Nat):Int).toNat]'h=X.getD q .bot:=fun h=>by
    rw[Int.toNat_natCast] at h;simp[List.getD_eq_getElem?_getD,h]
   repeat' first|exact k9|refine k2 ?_|apply kA|apply kI;intro hc|apply kL;intro hl|(apply Sn.go hX;conv=>whnf)|((simp only[hq0])<;>conv=>whnf)|refine k8 ?_|fail
   ·have hm:t.nodes[i].max=-1:=by assumption
    have hz:=hc;rw[hxq] at hz;exact ao.b (hyes (by rw[hloop,decide_eq_true hm,hz];rfl)).symm rfl
   ·have hm:t.nodes[i].max=-1:=by assumption
    have hz:=hc;rw[hxq] at hz;apply kCt [1,8,9,10] [];conv=>whnf
    exact ih (i+1) _ _ _ (by omega) ⟨by omega,hgo (by rw[hloop,hz,Bool.and_false])⟩ rfl rfl rfl
   ·have hm:=hc;apply kCt [1,8,9,10] [];conv=>whnf
    exact ih (i+1) _ _ _ (by omega) ⟨by omega,hgo (by rw[hloop,decide_eq_false hm];rfl)⟩ rfl rfl rfl
  ·have hloop:ke X t.nodes[i]=false:=by rw[ke,decide_eq_false h6];rfl
   repeat' first|exact k9|refine k2 ?_|apply kA|apply kI;intro hc|(apply Sn.go hX;conv=>whnf)|refine k8 ?_|apply kL;intro hl
   apply kCt [1,8,9,10] [];conv=>whnf
   exact ih (i+1) _ _ _ (by omega) ⟨by omega,hgo hloop⟩ rfl rfl rfl
 ·obtain rfl:i=t.nodes.length:=by omega
  have e:tK X t.nodes=false:=by
   rw[tK,List.any_eq_false];intro n hn;obtain⟨j,hj,rfl⟩:=List.getElem_of_mem hn;simp[hno j hj hj]
  rw[e]
  repeat' (first|exact k9|refine k2 ?_|apply kA|apply kI;intro hc|(apply Sn.go hX;conv=>whnf)|refine k8 ?_|apply kL;intro hl)⟩
abbrev wdF(p:Nat→Bool):F:=.vl (.int .u64 (wdI p))
def xD(p:Nat→Bool):List Int:=((List.range 64).filter p).map Int.ofNat
instance(p:Nat→Bool):C 48 [wdF p] (isF (xD p)) true True:=⟨fun _=>by
 obtain⟨w,hw⟩:=exEq (wdI p);have hb:∀{k:Nat} (h:k<64),_:=fun {k} h=>Hl p h
 simp only[wdF];rw[←hw] at hb ⊢;refine kf rfl rfl ?_;repeat' first|exact k9|refine k2 ?_|apply kA|apply kI;intro hc|(apply Sn.go hX;conv=>whnf)|refine k8 ?_|apply kL;intro hl
 apply Stp.ng 3 3 1 rfl rfl;apply kCt [0,3,5] [];conv=>whnf
 refine Lp.ind (fun z:Nat=>64 - z) (fun z=>z≤64) (fun z=>[(5,InD z)]) (fun z=>[(0,.ro 0 3 1 ((((List.range z).filter p).map Int.ofNat).map ikF))]) (fun _=>_) 0 (Nat.zero_le _) rfl rfl rfl ?_
 rintro G i ih hi
 have hfl:(((List.range i).filter p).map Int.ofNat).length≤64:=by
  rw[List.length_map];exact Nat.le_trans (List.length_filter_le _ _) (by rw[List.length_range];exact hi)
 by_cases hx:i<64
 ·have hbi:=hb hx;have hsn:∀c:Bool,p i=c→((List.range (i+1)).filter p).map Int.ofNat=((List.range i).filter p).map Int.ofNat++(if c=true then [(i:Int)] else []):=fun c h=>by
   rw[List.range_succ,List.filter_append,List.map_append]
   cases c<;>simp[h]
  obtain⟨L,hL⟩:=exEq (((List.range i).filter p).map Int.ofNat);rw[←hL] at hfl hsn ⊢
  repeat' first|exact k9|refine k2 ?_|apply kA|apply kI;intro hc|(apply Sn.go hX;conv=>whnf)|refine k8 ?_|apply kL;intro hl
  ·have h0:=hc;rw[hbi] at h0;have hp:p i=false:=by
    cases e:p i with
    | false=>rfl
    | true=>rw[e] at h0;cases h0
   apply kCt [0,3,5] [];conv=>whnf
   refine ih (i+1) _ _ _ (by omega) (by omega) rfl rfl ?_;rw[hsn false hp,if_neg (by decide),List.append_nil];rfl
  ·have h0:=hc;rw[hbi] at h0;have hp:p i=true:=by
    cases e:p i with
    | true=>rfl
    | false=>rw[e] at h0;exact absurd rfl h0
   apply kCt [0,3,5] [];conv=>whnf
   refine ih (i+1) _ _ _ (by omega) (by omega) rfl rfl ?_;rw[hsn true hp,if_pos rfl,List.map_append];rfl
 ·obtain rfl:i=64:=by omega
  repeat' first|exact k9|refine k2 ?_|apply kA|apply kI;intro hc|(apply Sn.go hX;conv=>whnf)|refine k8 ?_|apply kL;intro hl
  refine ao.j rfl ?_;simp only[cD,oL,lk,Nat.beq,cond_true];rw[List.all_map,List.all_eq_true];intro x _;rfl⟩
set_option maxRecDepth 100000
set_option maxHeartbeats 0
abbrev gp(W:Nat→Int):List D:=[.fr (.vl (.int .u64 (W 0))),.fr (.vl (.int .u64 (W 1))),.fr (.vl (.int .u64 (W 2))),.fr (.vl (.int .u64 (W 3))),.fr (.vl (.int .u64 (W 4))),.fr (.vl (.int .u64 (W 5))),.fr (.vl (.int .u64 (W 6))),.fr (.vl (.int .u64 (W 7))),.fr (.vl (.int .u64 (W 8))),.fr (.vl (.int .u64 (W 9))),.fr (.vl (.int .u64 (W 10))),.fr (.vl (.int .u64 (W 11))),.fr (.vl (.int .u64 (W 12))),.fr (.vl (.int .u64 (W 13))),.fr (.vl (.int .u64 (W 14))),.fr (.vl (.int .u64 (W 15))),.fr (.vl (.int .u64 (W 16))),.fr (.vl (.int .u64 (W 17))),.fr (.vl (.int .u64 (W 18))),.fr (.vl (.int .u64 (W 19))),.fr (.vl (.int .u64 (W 20))),.fr (.vl (.int .u64 (W 21))),.fr (.vl (.int .u64 (W 22))),.fr (.vl (.int .u64 (W 23))),.fr (.vl (.int .u64 (W 24))),.fr (.vl (.int .u64 (W 25))),.fr (.vl (.int .u64 (W 26))),.fr (.vl (.int .u64 (W 27))),.fr (.vl (.int .u64 (W 28))),.fr (.vl (.int .u64 (W 29))),.fr (.vl (.int .u64 (W 30))),.fr (.vl (.int .u64 (W 31))),.fr (.vl (.int .u64 (W 32))),.fr (.vl (.int .u64 (W 33))),.fr (.vl (.int .u64 (W 34))),.fr (.vl (.int .u64 (W 35))),.fr (.vl (.int .u64 (W 36))),.fr (.vl (.int .u64 (W 37))),.fr (.vl (.int .u64 (W 38))),.fr (.vl (.int .u64 (W 39))),.fr (.vl (.int .u64 (W 40))),.fr (.vl (.int .u64 (W 41))),.fr (.vl (.int .u64 (W 42))),.fr (.vl (.int .u64 (W 43))),.fr (.vl (.int .u64 (W 44))),.fr (.vl (.int .u64 (W 45))),.fr (.vl (.int .u64 (W 46))),.fr (.vl (.int .u64 (W 47))),.fr (.vl (.int .u64 (W 48))),.fr (.vl (.int .u64 (W 49))),.fr (.vl (.int .u64 (W 50))),.fr (.vl (.int .u64 (W 51))),.fr (.vl (.int .u64 (W 52))),.fr (.vl (.int .u64 (W 53))),.fr (.vl (.int .u64 (W 54))),.fr (.vl (.int .u64 (W 55))),.fr (.vl (.int .u64 (W 56))),.fr (.vl (.int .u64 (W 57))),.fr (.vl (.int .u64 (W 58))),.fr (.vl (.int .u64 (W 59))),.fr (.vl (.int .u64 (W 60))),.fr (.vl (.int .u64 (W 61))),.fr (.vl (.int .u64 (W 62))),.fr (.vl (.int .u64 (W 63)))]
abbrev L9(W:Nat→Int):List F:=[.vl (.int .u64 (W 0)),.vl (.int .u64 (W 1)),.vl (.int .u64 (W 2)),.vl (.int .u64 (W 3)),.vl (.int .u64 (W 4)),.vl (.int .u64 (W 5)),.vl (.int .u64 (W 6)),.vl (.int .u64 (W 7)),.vl (.int .u64 (W 8)),.vl (.int .u64 (W 9)),.vl (.int .u64 (W 10)),.vl (.int .u64 (W 11)),.vl (.int .u64 (W 12)),.vl (.int .u64 (W 13)),.vl (.int .u64 (W 14)),.vl (.int .u64 (W 15)),.vl (.int .u64 (W 16)),.vl (.int .u64 (W 17)),.vl (.int .u64 (W 18)),.vl (.int .u64 (W 19)),.vl (.int .u64 (W 20)),.vl (.int .u64 (W 21)),.vl (.int .u64 (W 22)),.vl (.int .u64 (W 23)),.vl (.int .u64 (W 24)),.vl (.int .u64 (W 25)),.vl (.int .u64 (W 26)),.vl (.int .u64 (W 27)),.vl (.int .u64 (W 28)),.vl (.int .u64 (W 29)),.vl (.int .u64 (W 30)),.vl (.int .u64 (W 31)),.vl (.int .u64 (W 32)),.vl (.int .u64 (W 33)),.vl (.int .u64 (W 34)),.vl (.int .u64 (W 35)),.vl (.int .u64 (W 36)),.vl (.int .u64 (W 37)),.vl (.int .u64 (W 38)),.vl (.int .u64 (W 39)),.vl (.int .u64 (W 40)),.vl (.int .u64 (W 41)),.vl (.int .u64 (W 42)),.vl (.int .u64 (W 43)),.vl (.int .u64 (W 44)),.vl (.int .u64 (W 45)),.vl (.int .u64 (W 46)),.vl (.int .u64 (W 47)),.vl (.int .u64 (W 48)),.vl (.int .u64 (W 49)),.vl (.int .u64 (W 50)),.vl (.int .u64 (W 51)),.vl (.int .u64 (W 52)),.vl (.int .u64 (W 53)),.vl (.int .u64 (W 54)),.vl (.int .u64 (W 55)),.vl (.int .u64 (W 56)),.vl (.int .u64 (W 57)),.vl (.int .u64 (W 58)),.vl (.int .u64 (W 59)),.vl (.int .u64 (W 60)),.vl (.int .u64 (W 61)),.vl (.int .u64 (W 62)),.vl (.int .u64 (W 63))]
theorem m6(W:Nat→Int):gp W=(List.range 64).map fun i=>D.fr (.vl (.int .u64 (W i))):=rfl
theorem lW{α:Type}:∀(l:List α) (o:Nat) (v:α),o<l.length→setAt l o [v]=l.set o v
 | [],o,v,h=>by simp at h
 | c :: cs,0,v,h=>by cases cs<;>rfl
 | c :: cs,o+1,v,h=>by
  show c :: setAt cs o [v]=c :: cs.set o v
  rw[lW cs o v (by simpa using h)]
theorem mj(W:Nat→Int){i:Nat}(h:i<64):(gp W)[0+((i:Nat):Int).toNat * 1]?=some (.fr (.vl (.int .u64 (W i)))):=by
 rw[m6,Int.toNat_natCast,Nat.zero_add,Nat.mul_one,List.getElem?_map,List.getElem?_range h];rfl
theorem BC(W:Nat→Int){i:Nat}(h:i<64):(D.ag (gp W)).cells[i * 1]?=some (.fr (.vl (.int .u64 (W i)))):=by
 have:=mj W h;rw[Int.toNat_natCast,Nat.zero_add] at this;exact this
def eb(W:Nat→Int)(i:Nat)(v:Int)(j:Nat):Int:=if j=i then v else W j
theorem vh(W:Nat→Int){i:Nat}(h:i<64)(v:Int):setAt (gp W) (0+((i:Nat):Int).toNat * 1) [.fr (.vl (.int .u64 v))]=gp (eb W i v):=by
 rw[Int.toNat_natCast,Nat.zero_add,Nat.mul_one,lW _ _ _ (by simpa using h),m6,m6];refine List.ext_getElem (by simp) fun j h1 h2=>?_
 simp only[List.getElem_set,List.getElem_map,List.getElem_range,eb]
 by_cases e:i=j
 ·subst e;simp
 ·have e':¬j=i:=fun q=>e q.symm
  simp[e,e']
abbrev tM(n:Int)(W:Nat→Int)(l:Int):List F:=inF n :: (L9 W++[.vl (.int .u64 l)])
def yU(M:Nat→Nat→Bool)(a b:Nat):Prop:=a<64∧b<64∧M a b=true
structure LI(M Q:Nat→Nat→Bool):Prop where
 base:∀a b,yU M a b→Q a b=true
 sound:∀a b,a<64→b<64→Q a b=true→mR (yU M) a b
structure LJ(M Q Q':Nat→Nat→Bool)(i k:Nat):Prop where
 up:∀a b,a<64→b<64→Q a b=true→Q' a b=true
 sound:∀a b,a<64→b<64→Q' a b=true→mR (yU M) a b
 done:∀a c b,a<64→c<64→b<64→(a<i∨a=i∧c<k)→Q a c=true→Q c b=true→Q' a b=true
def GJ(Q:Nat→Nat→Bool):Nat:=(List.range 4096).countP fun x=>Q (x / 64) (x % 64)
theorem vK{α:Type}{p q:α→Bool}:∀{l:List α},(∀x∈l,p x=true→q x=true)→(∃x∈l,p x=false∧q x=true)→l.countP p<l.countP q
 | [],_,h=>by obtain⟨x,hx,_⟩:=h;cases hx
 | a :: l,h,⟨x,hx,h1,h2⟩=>by
  have hle:l.countP p≤l.countP q:=List.countP_mono_left fun y hy=>h y (by simp[hy])
  rw[List.countP_cons,List.countP_cons];rcases List.mem_cons.1 hx with rfl|hx
  ·rw[h1,h2];simp;omega
  ·have:=vK (l:=l) (fun y hy=>h y (by simp[hy])) ⟨x,hx,h1,h2⟩;have ha:=h a (by simp)
   cases hp:p a with
   | true=>rw[ha hp];simp;omega
   | false=>cases q a<;>simp<;>omega
theorem JL{Q Q':Nat→Nat→Bool}(h:∀a b,a<64→b<64→Q a b=true→Q' a b=true){a b:Nat}(ha:a<64)(hb:b<64)(h1:Q a b=false)(h2:Q' a b=true):GJ Q<GJ Q':=by
 refine vK (fun x hx hq=>?_) ⟨a * 64+b,by simp;omega,?_,?_⟩
 ·have:=List.mem_range.1 hx;exact h _ _ (by omega) (by omega) hq
 ·rw[show(a * 64+b) / 64=a by omega,show(a * 64+b) % 64=b by omega];exact h1
 ·rw[show(a * 64+b) / 64=a by omega,show(a * 64+b) % 64=b by omega];exact h2
theorem Jh(Q:Nat→Nat→Bool):GJ Q≤4096:=by
 have:=List.countP_le_length (p:=fun x=>Q (x / 64) (x % 64)) (l:=List.range 4096);simpa [GJ] using this
theorem LJ.zero{M Q:Nat→Nat→Bool}(h:LI M Q):LJ M Q Q 0 0:=⟨fun _ _ _ _ h=>h,h.sound,fun a c b _ _ _ h=>by omega⟩
theorem LJ.next{M Q Q':Nat→Nat→Bool}{i k:Nat}(h:LJ M Q Q' i k)(hk:¬k<64):LJ M Q Q' (i+1) 0:=⟨h.up,h.sound,fun a c b ha hc hb hx=>h.done a c b ha hc hb (by omega)⟩
theorem LJ.skip{M Q Q':Nat→Nat→Bool}{i k:Nat}(h:LJ M Q Q' i k)(hi:i<64)(hk:k<64)(hq:Q' i k=false):LJ M Q Q' i (k+1):=⟨h.up,h.sound,fun a c b ha hc hb hx h1 h2=>by
 by_cases e:a=i∧c=k
 ·obtain⟨rfl,rfl⟩:=e;rw[h.up a c ha hc h1] at hq
  cases hq
 ·exact h.done a c b ha hc hb (by omega) h1 h2⟩
theorem LJ.take{M Q Q':Nat→Nat→Bool}{i k:Nat}(h:LJ M Q Q' i k)(hQ:LI M Q)(hi:i<64)(hk:k<64)(hq:Q' i k=true):LJ M Q (fun a b=>if a=i then Q' i b||Q k b else Q' a b) i (k+1):=⟨fun a b ha hb h1=>by
  split
  ·rename_i e;subst e;rw[h.up a b ha hb h1];rfl
  ·exact h.up a b ha hb h1,fun a b ha hb h1=>by
  split at h1
  ·rename_i e;subst e;rw[Bool.or_eq_true] at h1;rcases h1 with h1|h1
   ·exact h.sound a b ha hb h1
   ·exact(h.sound a k ha hk hq).trans (hQ.sound k b hk hb h1)
  ·exact h.sound a b ha hb h1,fun a c b ha hc hb hx h1 h2=>by
  split
  ·rename_i e;subst e
   by_cases ec:c=k
   ·subst ec;rw[h2,Bool.or_true]
   ·rw[h.done a c b ha hc hb (by omega) h1 h2];rfl
  ·exact h.done a c b ha hc hb (by omega) h1 h2⟩
theorem LJ.again{M Q Q':Nat→Nat→Bool}(hQ:LI M Q)(h:LJ M Q Q' 64 0):LI M Q':=⟨fun a b hr=>h.up a b hr.1 hr.2.1 (hQ.base a b hr),h.sound⟩
theorem LJ.same{M Q Q':Nat→Nat→Bool}(hQ:LI M Q)(h:LJ M Q Q' 64 0)(e:∀a b,a<64→b<64→Q' a b=Q a b){a b:Nat}(ha:a<64)(hb:b<64):Q a b=true↔mR (yU M) a b:=by
 refine⟨hQ.sound a b ha hb,fun hp=>?_⟩
 induction hp with
 | one h1=>exact hQ.base _ _ h1
 | more _ h2 ih=>rw[←e _ _ ha h2.2.1];exact h.done _ _ _ ha h2.1 h2.2.1 (.inl ha) (ih h2.1) (hQ.base _ _ h2)
noncomputable def lj(M:Nat→Nat→Bool)(i:Nat):Bool:=@decide (mR (yU M) i i) (Classical.propDecidable _)
instance K7(n:Int)(M:Nat→Nat→Bool)(l:Int):C 49 [.ag (tM n (fun i=>wdI (M i)) l)] (wdF (lj M)) true True:=⟨fun _=>by
 refine kf rfl rfl ?_;repeat' first|exact k9|refine k1 ?_|apply kA|apply kI;intro hc|apply kL;intro hl|refine k5 ?_|refine k8 ?_|fail
 apply kCt [3] [];conv=>whnf
 refine Lp.ind (fun Q:Nat→Nat→Bool=>4096 - GJ Q) (LI M) (fun _=>[]) (fun Q=>[(0,.va 0 100 (gp fun i=>wdI (Q i)))]) (fun _=>_) M ⟨fun a b h=>h.2.2,fun a b ha hb h=>.one ⟨ha,hb,h⟩⟩ rfl rfl rfl ?_
 rintro G Q ih hQ
 obtain⟨W,hW⟩:∃W:Nat→Int,W=fun i=>wdI (Q i):=⟨_,rfl⟩
 rw[←hW]
 repeat' first|exact k9|refine k1 ?_|apply kA|apply kI;intro hc|apply kL;intro hl|refine k5 ?_|refine k8 ?_|fail
 apply kCt [3,4,13] [];conv=>whnf
 refine Lp.ind (fun x:Nat×(Nat→Nat→Bool)=>64 - x.1) (fun x=>x.1≤64∧LJ M Q x.2 x.1 0) (fun x=>[(13,InD x.1)]) (fun x=>[(1,.va 0 100 (gp fun i=>wdI (x.2 i)))]) (fun _=>_) (0,Q) ⟨Nat.zero_le _,LJ.zero hQ⟩ rfl rfl (by subst hW;rfl) ?_
 rintro G1 ⟨i,Q1⟩ ih1 ⟨hi,hJ⟩
 dsimp only at hi hJ ih1 ⊢
 by_cases hx:i<64
 ·obtain⟨W1,hW1⟩:∃W1:Nat→Int,W1=fun i=>wdI (Q1 i):=⟨_,rfl⟩
  rw[←hW1]
  repeat' first|exact k9|refine k1 ?_|apply kA|apply kI;intro hc|apply kL;intro hl|refine k5 ?_|refine k8 ?_|fail
  apply kCt [3,4,5,13,16] [];conv=>whnf
  refine Lp.ind (fun x:Nat×(Nat→Nat→Bool)=>64 - x.1) (fun x=>x.1≤64∧LJ M Q x.2 i x.1) (fun x=>[(16,InD x.1)]) (fun x=>[(1,.va 0 100 (gp fun i=>wdI (x.2 i)))]) (fun _=>_) (0,Q1) ⟨Nat.zero_le _,hJ⟩ rfl rfl (by subst hW1;rfl) ?_
  rintro G2 ⟨k,Q2⟩ ih2 ⟨hk,hJ2⟩
  dsimp only at hk hJ2 ih2 ⊢
  by_cases hy:k<64
  ·obtain⟨W2,hW2⟩:∃W2:Nat→Int,W2=fun i=>wdI (Q2 i):=⟨_,rfl⟩
   rw[←hW2];have hbit:=Hl (Q2 i) hy;rw[show wdI (Q2 i)=W2 i by rw[hW2]] at hbit
   repeat' first|exact k9|refine k1 ?_|apply kA|apply kI;intro hc|apply kL;intro hl|((apply ExK.m;exact⟨mj W2 hx⟩)<;>conv=>whnf)|((apply ExK.m;exact⟨mj W hy⟩)<;>conv=>whnf)|((apply FoA.m;exact⟨vh W2 hx _⟩)<;>conv=>whnf)|refine k5 ?_|refine k8 ?_|fail
   ·have h0:=hc;rw[hbit] at h0;have hq:Q2 i k=false:=by
     cases e:Q2 i k with
     | false=>rfl
     | true=>rw[e] at h0;cases h0
    apply kCt [3,4,5,13,16] [];conv=>whnf
    exact ih2 (k+1,Q2) _ _ _ (by dsimp only;omega) ⟨by dsimp only;omega,hJ2.skip hx hy hq⟩ rfl rfl (by subst hW2;rfl)
   ·have h0:=hc;rw[hbit] at h0;have hq:Q2 i k=true:=by
     cases e:Q2 i k with
     | true=>rfl
     | false=>rw[e] at h0;exact absurd rfl h0
    have hwd:eb W2 i (IntKind.u64.wrap ((BitVec.ofInt IntKind.u64.bits (W2 i) ||| BitVec.ofInt IntKind.u64.bits (W k)).toNat:Int))=fun j=>wdI ((fun a b=>if a=i then Q2 i b||Q k b else Q2 a b) j):=by
     funext j
     unfold eb
     by_cases e:j=i
     ·subst e;rw[if_pos rfl,hW2,hW];simp only[if_true];exact CM (Q2 j) (Q k)
     ·rw[if_neg e,hW2];simp only[e,if_false]
    apply kCt [3,4,5,13,16] [];conv=>whnf
    exact ih2 (k+1,_) _ _ _ (by dsimp only;omega) ⟨by dsimp only;omega,hJ2.take hQ hx hy hq⟩ rfl rfl (congrArg (fun z=>iW [(1,B.va 0 100 (gp z))] G2.h) hwd)
  ·obtain rfl:k=64:=by omega
   repeat' first|exact k9|refine k1 ?_|apply kA|apply kI;intro hc|apply kL;intro hl|refine k5 ?_|refine k8 ?_|fail
   apply kCt [3,4,13] [];conv=>whnf
   exact ih1 (i+1,Q2) _ _ _ (by dsimp only;omega) ⟨by dsimp only;omega,hJ2.next (by omega)⟩ rfl rfl rfl
 ·obtain rfl:i=64:=by omega
  obtain⟨W1,hW1⟩:∃W1:Nat→Int,W1=fun i=>wdI (Q1 i):=⟨_,rfl⟩
  rw[←hW1]
  repeat' first|exact k9|refine k1 ?_|apply kA|apply kI;intro hc|apply kL;intro hl|refine k5 ?_|refine k8 ?_|fail
  ·have hl:(List.range 64).map W1=(List.range 64).map W:=hc;have hWe:∀j<64,W1 j=W j:=fun j hj=>List.map_inj_left.1 hl j (List.mem_range.2 hj)
   have hQe:∀a b,a<64→b<64→Q1 a b=Q a b:=fun a b ha hb=>by
    have:=hWe a ha;rw[hW1,hW] at this;exact Le this b hb
   have hP:∀j<64,Q j j=lj M j:=fun j hj=>by
    rw[Bool.eq_iff_iff,hJ.same hQ hQe hj hj,lj,@decide_eq_true_iff _ (Classical.propDecidable _)]
   clear ih ih1 hc hl hWe hW1 hJ;apply kCt [7,40,41] [];conv=>whnf
   refine Lp.ind (fun z:Nat=>64 - z) (fun z=>z≤64) (fun z=>[(41,InD z),(7,.fr (wdF fun j=>decide (j<z)&&lj M j))]) (fun _=>[]) (fun _=>_) 0 (Nat.zero_le _) rfl ?_ rfl ?_
   ·have e0:wdI (fun j=>decide (j<0)&&lj M j)=0:=(lx fun j _=>by simp).trans mn;simp only[wdF];rw[e0];rfl
   rintro G3 i ih hi
   obtain⟨w,hw⟩:=exEq (wdI (fun j=>decide (j<i)&&lj M j));simp only[wdF];rw[←hw]
   by_cases hx:i<64
   ·have hnw:IntKind.u64.wrap ((BitVec.ofInt IntKind.u64.bits w ||| BitVec.ofInt IntKind.u64.bits (IntKind.u64.wrap ((BitVec.ofInt IntKind.u64.bits (W i) &&& BitVec.ofInt IntKind.u64.bits (IntKind.u64.wrap (1 * 2 ^ (min ((i:Nat):Int).toNat IntKind.u64.bits)))).toNat:Int))).toNat:Int)=wdI (fun j=>decide (j<i+1)&&lj M j):=by
     rw[hw,hW,BX hx,LP,CM];refine lx fun j hj=>?_
     by_cases e:j=i
     ·subst e;simp[hP j hj]
     ·have h1:decide (j<i+1)=decide (j<i):=decide_eq_decide.2 (by omega);simp[e,h1]
    repeat' first|exact k9|refine k1 ?_|apply kA|apply kI;intro hc|apply kL;intro hl|((apply ExK.m;exact⟨BC W hx⟩)<;>conv=>whnf)|refine k5 ?_|refine k8 ?_|fail
    rw[hnw];apply kCt [7,40,41] [];conv=>whnf
    exact ih (i+1) _ _ _ (by omega) (by omega) rfl rfl rfl
   ·obtain rfl:i=64:=by omega
    have hfin:w=wdI (lj M):=by
     rw[hw];exact lx fun j hj=>by simp[hj]
    repeat' first|exact k9|refine k1 ?_|apply kA|apply kI;intro hc|apply kL;intro hl|refine k5 ?_|refine k8 ?_|fail
    exact ao.j (by rw[hfin]) rfl
  ·have hne:∃a b,a<64∧b<64∧Q a b=false∧Q1 a b=true:=by
    refine Classical.byContradiction fun hno=>hc ?_;have hWe:∀j<64,W1 j=W j:=fun j hj=>by
     rw[hW1,hW];refine lx fun b hb=>?_
     cases e:Q j b with
     | true=>exact hJ.up j b hj hb e
     | false=>
      cases e2:Q1 j b with
      | false=>rfl
      | true=>exact(hno ⟨j,b,hj,hb,e,e2⟩).elim
    exact(List.map_inj_left.2 fun j hj=>hWe j (List.mem_range.1 hj):(List.range 64).map W1=(List.range 64).map W)
   obtain⟨a,b,ha,hb,h1,h2⟩:=hne;have hlt:=JL hJ.up ha hb h1 h2;have hle:=Jh Q1;apply kCt [3] [];conv=>whnf
   exact ih Q1 _ _ _ (by omega) (LJ.again hQ hJ) rfl rfl (by subst hW1;rfl)⟩
end Go.Km
end
